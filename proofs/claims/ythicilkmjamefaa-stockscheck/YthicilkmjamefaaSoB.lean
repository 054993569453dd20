/- The stocks' copies, and what is free of each article. -/
import Derived.Test.YthicilkmjamefaaSoA
import Derived.Test.YthicilkmjamefaaShS35
namespace Go.Proofs.Ythicilkmjamefaa
open Go.Gh
set_option linter.unusedVariables false
set_option linter.unusedSimpArgs false

theorem build85 {H : GH} : gBuildSlice Try.prog 85 0 [] H = some (.slice (some ⟨H.n, 0, none⟩) 0 0, H.push (.row [] 93 false)) := by kernel_rfl
theorem build86 {H : GH} : gBuildSlice Try.prog 86 0 [] H = some (.slice (some ⟨H.n, 0, none⟩) 0 0, H.push (.row [] 91 false)) := by kernel_rfl
theorem cloneCo_ok {k : Nat} {v : Value} {xs : List ConeD} {H : GH} (hs : SlR tyCo H v xs) (hn : xs.length ≤ 1000000) : Ev (C (k + 1) (.func (.func 98) #[] #[]) [v] H) fun r => Ext H r.2 ∧ Cl tyCo 93 H r.2 r.1 xs := by
  rw [C_func T98, f98_eq]
  unfold f98_sh
  rcases hs with ⟨rfl, rfl⟩ | ⟨b, o, c, row, e, ro, cs, rfl, h2⟩
  · simp only [nilEq u85, onV_s, asB_b, onBool_i, Option.isNone_none, if_true]
    exact Ev.mk ⟨.refl _, .inl ⟨rfl, rfl⟩⟩
  · have hs : SlR tyCo H (.slice (some ⟨b, o, none⟩) xs.length c) xs := .inr ⟨b, o, c, row, e, ro, cs, rfl, h2⟩
    simp only [nilEq u85, onV_s, asB_b, onBool_i, Option.isNone_some, Bool.false_eq_true, if_false, build85, onVH_s]
    obtain ⟨v', H', g1, g2, g3⟩ := app_clone (P := Try.prog) hs u85 u85 el93 (by omega)
    simp only [g1, onVH_s]
    exact Ev.mk ⟨g2, g3⟩
theorem cloneHo_ok {k : Nat} {v : Value} {xs : List HoldD} {H : GH} (hs : SlR tyHo H v xs) (hn : xs.length ≤ 1000000) : Ev (C (k + 1) (.func (.func 158) #[] #[]) [v] H) fun r => Ext H r.2 ∧ Cl tyHo 91 H r.2 r.1 xs := by
  rw [C_func T158, f158_eq]
  unfold f158_sh
  rcases hs with ⟨rfl, rfl⟩ | ⟨b, o, c, row, e, ro, cs, rfl, h2⟩
  · simp only [nilEq u86, onV_s, asB_b, onBool_i, Option.isNone_none, if_true]
    exact Ev.mk ⟨.refl _, .inl ⟨rfl, rfl⟩⟩
  · have hs : SlR tyHo H (.slice (some ⟨b, o, none⟩) xs.length c) xs := .inr ⟨b, o, c, row, e, ro, cs, rfl, h2⟩
    simp only [nilEq u86, onV_s, asB_b, onBool_i, Option.isNone_some, Bool.false_eq_true, if_false, build86, onVH_s]
    obtain ⟨v', H', g1, g2, g3⟩ := app_clone (P := Try.prog) hs u86 u86 el91 (by omega)
    simp only [g1, onVH_s]
    exact Ev.mk ⟨g2, g3⟩
theorem clipCo_ok {k : Nat} {v : Value} {xs : List ConeD} {H H0 : GH} (hs : Cl tyCo 93 H0 H v xs) (hn : xs.length ≤ 1000000) : Ev (C (k + 1) (.func (.func 113) #[] #[]) [v] H) fun r => r.2 = H ∧ Ow tyCo 93 H0 H r.1 xs := by
  rw [C_func T113, f113_eq]
  unfold f113_sh
  rcases hs with ⟨rfl, rfl⟩ | ⟨b, c, cs, rfl, h2, h3, h4, h5⟩
  · have h := clip_val (P := Try.prog) (A := tyCo) (t := 85) (a := none) (n := 0) (c := 0) u85 (elemOk_size el93) (fun _ => ⟨rfl, rfl⟩) (fun h => absurd rfl h) (k := .i64) (k' := .i64)
    have ho : oLen Try.prog 85 (.slice none 0 0) = some (.int .i64 (0 : Nat)) := by unfold oLen; rw [u85]
    simp only [ho, onV_s, h]
    exact Ev.mk ⟨rfl, .inl ⟨rfl, rfl⟩⟩
  · have h := clip_val (P := Try.prog) (A := tyCo) (t := 85) (a := some ⟨b, 0, none⟩) (n := xs.length) (c := c) u85 (elemOk_size el93) (fun h => by cases h) (fun _ => h5.imp id fun h => ⟨h.1, Nat.le_of_eq h.2⟩) (k := .i64) (k' := .i64)
    have ho : oLen Try.prog 85 (.slice (some ⟨b, 0, none⟩) xs.length c) = some (.int .i64 xs.length) := by unfold oLen; rw [u85]
    simp only [ho, onV_s, h]
    exact Ev.mk ⟨rfl, .inr ⟨b, [], by simp, h2, ⟨cs, h3, by rw [List.append_nil]; exact h4⟩, by rw [List.append_nil]; unfold loose; omega⟩⟩
/-- A copy without spare room: its capacity is its length. -/
def Tight (A : Ty HoldD) (H0 H : GH) (v : Value) (xs : List HoldD) : Prop := (v = .slice none 0 0 ∧ xs = []) ∨ ∃ b cs, v = .slice (some ⟨b, 0, none⟩) xs.length xs.length ∧ H0.n ≤ b ∧ H.get b = some (.row cs 91 false) ∧ CellsR A H cs xs
theorem Tight.cl {H0 H : GH} {v : Value} {xs : List HoldD} (h : Tight tyHo H0 H v xs) (hn : xs.length ≤ 1000000) : Cl tyHo 91 H0 H v xs := by
  rcases h with h | ⟨b, cs, h1, h2, h3, h4⟩
  · exact .inl h
  · exact .inr ⟨b, _, cs, h1, h2, h3, h4, .inr ⟨by unfold loose; omega, rfl⟩⟩
theorem clipHo_ok {k : Nat} {v : Value} {xs : List HoldD} {H H0 : GH} (hs : Cl tyHo 91 H0 H v xs) (hn : xs.length ≤ 1000000) : Ev (C (k + 1) (.func (.func 157) #[] #[]) [v] H) fun r => r.2 = H ∧ Tight tyHo H0 H r.1 xs := by
  rw [C_func T157, f157_eq]
  unfold f157_sh
  rcases hs with ⟨rfl, rfl⟩ | ⟨b, c, cs, rfl, h2, h3, h4, h5⟩
  · have h := clip_val (P := Try.prog) (A := tyHo) (t := 86) (a := none) (n := 0) (c := 0) u86 (elemOk_size el91) (fun _ => ⟨rfl, rfl⟩) (fun h => absurd rfl h) (k := .i64) (k' := .i64)
    have ho : oLen Try.prog 86 (.slice none 0 0) = some (.int .i64 (0 : Nat)) := by unfold oLen; rw [u86]
    simp only [ho, onV_s, h]
    exact Ev.mk ⟨rfl, .inl ⟨rfl, rfl⟩⟩
  · have h := clip_val (P := Try.prog) (A := tyHo) (t := 86) (a := some ⟨b, 0, none⟩) (n := xs.length) (c := c) u86 (elemOk_size el91) (fun h => by cases h) (fun _ => h5.imp id fun h => ⟨h.1, Nat.le_of_eq h.2⟩) (k := .i64) (k' := .i64)
    have ho : oLen Try.prog 86 (.slice (some ⟨b, 0, none⟩) xs.length c) = some (.int .i64 xs.length) := by unfold oLen; rw [u86]
    simp only [ho, onV_s, h]
    exact Ev.mk ⟨rfl, .inr ⟨b, cs, rfl, h2, h3, h4⟩⟩
theorem build88 {a1 a2 : Option Addr} {n1 n2 c1 c2 : Nat} : oBuild Try.prog 88 [(0, .slice a1 n1 c1), (1, .slice a2 n2 c2)] = some (stV (.slice a1 n1 c1) (.slice a2 n2 c2)) := by kernel_rfl
theorem Tight.lo {H0 H : GH} {v : Value} {xs : List HoldD} {lo : Nat} (h : Tight tyHo H0 H v xs) : Tight tyHo H0 { H with lo := lo } v xs := by
  rcases h with h | ⟨b, cs, h1, h2, h3, h4⟩
  · exact .inl h
  · exact .inr ⟨b, cs, h1, h2, h3, h4.flat flat_ho⟩
theorem Tight.ext {H0 H H' : GH} {v : Value} {xs : List HoldD} (h : Tight tyHo H0 H v xs) (hE : Ext H H') : Tight tyHo H0 H' v xs := by
  rcases h with h | ⟨b, cs, h1, h2, h3, h4⟩
  · exact .inl h
  · exact .inr ⟨b, cs, h1, h2, hE.get_of h3, h4.mono hE⟩
theorem Cl.old {α : Type} {A : Ty α} {e : Nat} {H0 H1 H : GH} {v : Value} {xs : List α} (h : Cl A e H1 H v xs) (hn : H0.n ≤ H1.n) : Cl A e H0 H v xs := by
  rcases h with h | ⟨b, c, cs, q1, q2, q3⟩
  · exact .inl h
  · exact .inr ⟨b, c, cs, q1, Nat.le_trans hn q2, q3⟩
theorem Tight.old {H0 H1 H : GH} {v : Value} {xs : List HoldD} (h : Tight tyHo H1 H v xs) (hn : H0.n ≤ H1.n) : Tight tyHo H0 H v xs := by
  rcases h with h | ⟨b, cs, q1, q2, q3⟩
  · exact .inl h
  · exact .inr ⟨b, cs, q1, Nat.le_trans hn q2, q3⟩
theorem Tight.ow {H0 H : GH} {v : Value} {xs : List HoldD} (h : Tight tyHo H0 H v xs) (hn : xs.length ≤ 1000000) : Ow tyHo 91 H0 H v xs := by
  rcases h with h | ⟨b, cs, h1, h2, h3, h4⟩
  · exact .inl h
  · exact .inr ⟨b, [], by rw [List.append_nil]; exact h1, h2, ⟨cs, h3, by rw [List.append_nil]; exact h4⟩, by rw [List.append_nil]; unfold loose; omega⟩
/-- A copy of a stock. -/
theorem clone_ok {k : Nat} {vC vH : Value} {cs : List ConeD} {hs : List HoldD} {H : GH} (h : StI H vC vH cs hs) (hc : cs.length ≤ 1000000) (hh : hs.length ≤ 1000000) : Ev (C (k + 2) (.func (.func 99) #[] #[]) [stV vC vH] H) fun r => Ext H r.2 ∧ ∃ w w', r.1 = stV w w' ∧ Ow tyCo 93 H r.2 w cs ∧ Tight tyHo H r.2 w' hs := by
  rw [C_func T99, f99_eq]
  unfold f99_sh
  have hcl : (Value.cells (stV vC vH)).toList = [vC, vH] := rfl
  rw [hcl]
  have hn : (H.push (.row [vC, vH] 88 false)).n = H.n + 1 := rfl
  rw [hn]
  have hE : Ext H ((H.push (.row [vC, vH] 88 false)).push (.row [(.slice none 0 0), (.slice none 0 0)] 88 false)) := (Ext.push _ _).push' _
  have g0 : ((H.push (.row [vC, vH] 88 false)).push (.row [(.slice none 0 0), (.slice none 0 0)] 88 false)).get H.n = some (.row [vC, vH] 88 false) := (GH.get_push_old (Nat.lt_succ_self _)).trans GH.get_push_new
  have g1 : ((H.push (.row [vC, vH] 88 false)).push (.row [(.slice none 0 0), (.slice none 0 0)] 88 false)).get (H.n + 1) = some (.row [(.slice none 0 0), (.slice none 0 0)] 88 false) := GH.get_push_new
  have h := h.mono hE
  revert hE g0 g1 h
  generalize (H.push (.row [vC, vH] 88 false)).push (.row [(.slice none 0 0), (.slice none 0 0)] 88 false) = H1
  intro hE g0 g1 h
  have l0 : ∀ H', Ext H1 H' → gLoad Try.prog 85 (.pointer (some ⟨H.n, 0, none⟩)) H' = some vC := fun H' hE' => PtC.load1 (P := Try.prog) (t := 85) ⟨H.n, 0, _, _, _, rfl, hE'.get_of g0, by simp, rfl⟩ ld85
  have l1 : ∀ H', Ext H1 H' → gLoad Try.prog 86 (.pointer (some ⟨H.n, 1, none⟩)) H' = some vH := fun H' hE' => PtC.load1 (P := Try.prog) (t := 86) ⟨H.n, 1, _, _, _, rfl, hE'.get_of g0, by simp, rfl⟩ ld86
  simp only [l0 _ (.refl _), onV_s]
  refine Ev.call 2 (R := fun v H' => Cl tyCo 93 H1 H' v cs) (Sp.of (fun lo => cloneCo_ok (h.c.lo gets_co) (by omega)) fun v H' lo' h => h.lo gets_co) fun u H2 hE2 hu => ?_
  refine Ev.call 2 (R := fun v H' => Ow tyCo 93 H1 H' v cs) (Sp.of (fun lo => (clipCo_ok (k := k) (H := { H2 with lo := lo }) (hu.lo gets_co) (by omega)).mono fun z ⟨h1, h2⟩ => ⟨by rw [h1]; exact .refl _, by rw [h1]; exact h2⟩) fun v H' lo' h => h.lo flat_co) fun w H3 hE3 hw => ?_
  have hE13 := hE2.trans hE3
  simp only [l1 _ hE13, onV_s]
  refine Ev.call 2 (R := fun v H' => Cl tyHo 91 H1 H' v hs) (Sp.of (fun lo => (cloneHo_ok ((h.h.mono hE13).lo gets_ho) (by omega)).mono fun z h => ⟨h.1, Cl.old (H1 := { H3 with lo := lo }) h.2 hE13.n⟩) fun v H' lo' h => h.lo gets_ho) fun u' H4 hE4 hu' => ?_
  refine Ev.call 2 (R := fun v H' => Tight tyHo H1 H' v hs) (Sp.of (fun lo => (clipHo_ok (k := k) (H := { H4 with lo := lo }) (hu'.lo gets_ho) (by omega)).mono fun z ⟨h1, h2⟩ => ⟨by rw [h1]; exact .refl _, by rw [h1]; exact h2⟩) fun v H' lo' h => h.lo) fun w' H5 hE5 hw' => ?_
  have hE15 := (hE13.trans hE4).trans hE5
  have sw := (hw.ext hE4).ext hE5
  obtain ⟨aw, cw, rfl⟩ := sw.slr.val
  obtain ⟨aw', cw', rfl⟩ := (hw'.cl hh).slr.val
  have k1 := hE15.get_of g1
  simp only [build88, onV_s]
  rw [storeAll (t := 88) (sz := 2) (cs := [.slice aw cs.length cw, .slice aw' hs.length cw']) k1 (gSize_ld ld88) rfl rfl rfl rfl]
  simp only [onH_s, gResL1]
  rw [st_ld (PtC.of (GH.get_set_same k1))]
  have hb := GH.get_lt k1
  refine Ev.mk ⟨(hE.trans hE15).set (Nat.le_succ _) hb _, _, _, rfl, ?_, ?_⟩
  · refine (sw.old hE.n).keep flat_co fun q row ro hq => ?_
    refine (GH.get_set_other (fun e => ?_) hb).trans hq
    subst e
    rw [k1] at hq
    have := Option.some.inj hq
    injection this with _ h6 _
    exact absurd h6 (by decide)
  · rcases hw' with sw | ⟨b, cs', q1, q2, q3, q4⟩
    · exact .inl sw
    · refine .inr ⟨b, cs', q1, Nat.le_trans hE.n q2, ?_, q4.flat flat_ho⟩
      rw [GH.get_set_other (fun e => by subst e; rw [k1] at q3; injection q3 with q3; injection q3 with _ q3 _; cases q3) hb]; exact q3
end Go.Proofs.Ythicilkmjamefaa
/- What is free of each article: the map. -/
namespace Go.Proofs.Ythicilkmjamefaa
open Go.Gh
set_option linter.unusedVariables false
set_option linter.unusedSimpArgs false

theorem eqInt3 (x y : Int) : quick Try.prog (Op.equal 3 (.int .i64 x) (.int .i64 y)) = some (decide (x = y)) := by
  have h : quick Try.prog (Op.equal 3 (.int .i64 x) (.int .i64 y)) = some (x == y) := quick_eqInt 9999 3 .i64 .i64 x y Try.underlying3
  rw [h]
  congr 1
theorem keyOk3 (x : Int) : gKeyOk Try.prog 3 (.int .i64 x) = true := by
  have h : gKeyOk Try.prog 3 (.int .i64 x) = Instr.sameBits 10000 (.int .i64 x) (.int .i64 x) := by kernel_rfl
  rw [h]
  simp [Instr.sameBits]
/-- The maps of numbers by numbers. -/
noncomputable def TI : KeyT Try.prog 186 Int where
  kt := 3
  et := 3
  kv x := .int .i64 x
  z := .int .i64 0
  und := Try.underlying186
  eq := eqInt3
  ok := keyOk3
  same x := by simp [Instr.sameBits]
  zero := by kernel_rfl
/-- The map tells these numbers. -/
structure IM (es : List (Ent Int)) (clock : Nat) (f : Int → Int) : Prop where
  wf : WfM es clock
  out : ∀ x, getM es x = none → f x = 0
  val : ∀ e ∈ es, e.v = .int .i64 (f e.k)
theorem IM.look {es : List (Ent Int)} {clock : Nat} {f : Int → Int} (h : IM es clock f) (x : Int) : (getM es x).getD (.int .i64 0) = .int .i64 (f x) := by
  cases hx : getM es x with
  | none => rw [h.out x hx]; rfl
  | some v =>
    obtain ⟨s, hs⟩ := get_some es hx
    exact h.val _ hs
theorem IM.nil : IM [] 0 fun _ => 0 := ⟨WfM.nil, fun _ _ => rfl, fun e he => by cases he⟩
theorem IM.put {es : List (Ent Int)} {clock : Nat} {f : Int → Int} (h : IM es clock f) (x n : Int) : IM (putM es x (.int .i64 n) clock) (clockM es x clock) fun y => if y = x then n else f y := by
  have hw := h.wf.put x (.int .i64 n)
  refine ⟨hw, fun y hy => ?_, fun e he => ?_⟩
  · rw [get_put] at hy
    by_cases hyx : y = x
    · rw [if_pos hyx] at hy; cases hy
    · rw [if_neg hyx] at hy
      simp only [if_neg hyx]
      exact h.out y hy
  · have h1 := get_mem _ hw.nd he
    rw [get_put] at h1
    by_cases hyx : e.k = x
    · rw [if_pos hyx] at h1
      simp only [if_pos hyx]
      exact (Option.some.inj h1).symm
    · rw [if_neg hyx] at h1
      simp only [if_neg hyx]
      obtain ⟨s, hs⟩ := get_some es h1
      exact h.val ⟨e.k, e.v, s⟩ hs
theorem IM.del {es : List (Ent Int)} {clock : Nat} {f : Int → Int} (h : IM es clock f) {x : Int} (h0 : f x = 0) : IM (delM es x) clock f := by
  refine ⟨h.wf.del x, fun y hy => ?_, fun e he => h.val e ((del_sub es).subset he)⟩
  rw [get_del es h.wf.nd] at hy
  by_cases hyx : y = x
  · rw [hyx]; exact h0
  · rw [if_neg hyx] at hy; exact h.out y hy
theorem set_len {x : Int} {v : Value} : ∀ es : List (Ent Int), (setV es x v).length = es.length
  | [] => rfl
  | e :: r => by unfold setV; split <;> simp [set_len r]
theorem put_len {es : List (Ent Int)} {x : Int} {v : Value} {clock : Nat} : (putM es x v clock).length ≤ es.length + 1 := by
  unfold putM
  split
  · rw [set_len]; omega
  · rw [List.length_append, List.length_singleton]; omega
theorem del_len {es : List (Ent Int)} {x : Int} : (delM es x).length ≤ es.length := (del_sub es).length_le
def frC (cs : List ConeD) (x : Int) : Int := (cs.map fun c => if c.art = x then c.len else 0).sum
def frH (hs : List HoldD) (x : Int) : Int := (hs.map fun h => if h.art = x then h.len else 0).sum
theorem frC_snoc (cs : List ConeD) {n : Nat} (h : n < cs.length) (x : Int) : frC (cs.take (n + 1)) x = frC (cs.take n) x + if cs[n].art = x then cs[n].len else 0 := by
  unfold frC; rw [List.take_succ_eq_append_getElem h, List.map_append, List.sum_append, List.map_cons, List.map_nil, List.sum_cons, List.sum_nil, Int.add_zero]
theorem frH_snoc (hs : List HoldD) {n : Nat} (h : n < hs.length) (x : Int) : frH (hs.take (n + 1)) x = frH (hs.take n) x + if hs[n].art = x then hs[n].len else 0 := by
  unfold frH; rw [List.take_succ_eq_append_getElem h, List.map_append, List.sum_append, List.map_cons, List.map_nil, List.sum_cons, List.sum_nil, Int.add_zero]
theorem frC_le : ∀ (cs : List ConeD) (x : Int), (∀ c ∈ cs, 0 ≤ c.len ∧ c.len ≤ 1000000000) → 0 ≤ frC cs x ∧ frC cs x ≤ 1000000000 * cs.length
  | [], x, _ => by simp [frC]
  | c :: r, x, h => by
    have h1 := frC_le r x fun c hc => h c (by simp [hc])
    have h2 := h c (by simp)
    unfold frC at *
    rw [List.map_cons, List.sum_cons, List.length_cons]
    split <;> omega
theorem frH_le : ∀ (hs : List HoldD) (x : Int), (∀ h ∈ hs, 0 ≤ h.len ∧ h.len ≤ 1000000000) → 0 ≤ frH hs x ∧ frH hs x ≤ 1000000000 * hs.length
  | [], x, _ => by simp [frH]
  | c :: r, x, h => by
    have h1 := frH_le r x fun c hc => h c (by simp [hc])
    have h2 := h c (by simp)
    unfold frH at *
    rw [List.map_cons, List.sum_cons, List.length_cons]
    split <;> omega
def fr (cs : List ConeD) (hs : List HoldD) (x : Int) : Int := frC cs x - frH hs x

section
variable {k k' : Nat} {vC vH : Value} {cs : List ConeD} {hs : List HoldD} {H0 H : GH} {R : Nat}
theorem fr_l8 (hh : SlR tyHo H0 vH hs) (hl : hs.length ≤ 1000) (hv : ∀ h ∈ hs, 0 ≤ h.len ∧ h.len ≤ 1000000000) (hcl : cs.length ≤ 1000) (hcv : ∀ c ∈ cs, 0 ≤ c.len ∧ c.len ≤ 1000000000) (hR : H0.n ≤ R) :
    ∀ (r i : Nat) (es : List (Ent Int)) (clock : Nat) (f : Int → Int) (H : GH), i ≤ hs.length → hs.length - i < r → Ext H0 H → H.get R = some (.map (mE TI es) clock) → IM es clock f → (∀ x, f x = frC cs x - frH (hs.take i) x) → es.length ≤ cs.length + i →
      Ev (f97_l8 (C k) k' r (.map (some R)) vH (.int .i64 hs.length) (.int .i64 i) H) fun z => Ext H0 z.2 ∧ z.1 = .map (some R) ∧ ∃ es clock, z.2.get R = some (.map (mE TI es) clock) ∧ IM es clock (fr cs hs) ∧ es.length ≤ cs.length + hs.length := by
  intro r
  induction r with
  | zero => intro i es clock f H _ h; omega
  | succ r ih =>
    intro i es clock f H hi hr hE hg hI hf hz
    show Ev (f97_l8b (C k) k' (f97_l8 (C k) k' r) (.map (some R)) vH (.int .i64 hs.length) (.int .i64 i) H) _
    unfold f97_l8b
    simp only [bin_lss, onV_s, asB_b, onBool_d]
    by_cases hlt : i < hs.length
    · rw [if_pos (by omega)]
      obtain ⟨q, e1, e2⟩ := ho_at (hh.mono hE) (k := .i64) hlt
      obtain ⟨H1, f1, f2, f3, f4⟩ := box (P := Try.prog) (t := 91) (H := H) (v := hoV hs[i]) (cs := hoC hs[i]) (row := [(.int .i64 0), (.int .i64 0), (.int .i64 0)]) (e := 91) (gSize_ld ld91) rfl rfl rfl
      simp only [e1, onV_s, ho_ld e2, f1, onH_s]
      have hE1 := hE.trans f2
      have hg1 := f2.get_of hg
      have hRn := GH.get_lt hg1
      have hp := PtC.of f3
      have hne : R ≠ H.n := by have := GH.get_lt hg; omega
      unfold f97_r10
      obtain ⟨q0, q1, q2, a0, b0, a1, b1, a2, b2⟩ := ho_f hp
      have hlk : gLookup Try.prog 186 (.map (some R)) (.int .i64 hs[i].art) false H1 = some (.int .i64 (f hs[i].art)) := by
        have := map_look (T := TI) hg1 hs[i].art
        rw [show TI.z = .int .i64 0 from rfl, hI.look] at this
        exact this
      have hb1 := frC_le cs hs[i].art hcv
      have hb2 := frH_le (hs.take i) hs[i].art fun h hh => hv h (List.mem_of_mem_take hh)
      rw [List.length_take] at hb2
      have hb3 := hv _ (List.getElem_mem hlt)
      have hfx := hf hs[i].art
      simp only [a1, b1, a2, b2, onV_s, hlk, bin_sub]
      rw [Go.IntWalk.i64_in _ (by omega)]
      have hput := map_put (T := TI) hg1 hs[i].art (.int .i64 (f hs[i].art - hs[i].len))
      have hput : gMapUpdate Try.prog 186 (.map (some R)) (.int .i64 hs[i].art) (.int .i64 (f hs[i].art - hs[i].len)) H1 = some (H1.set R (.map (mE TI (putM es hs[i].art (.int .i64 (f hs[i].art - hs[i].len)) clock)) (clockM es hs[i].art clock))) := hput
      have hg2 := GH.get_set_same (o := .map (mE TI (putM es hs[i].art (.int .i64 (f hs[i].art - hs[i].len)) clock)) (clockM es hs[i].art clock)) hg1
      have hI2 := hI.put hs[i].art (f hs[i].art - hs[i].len)
      have hE2 := hE1.set hR hRn (.map (mE TI (putM es hs[i].art (.int .i64 (f hs[i].art - hs[i].len)) clock)) (clockM es hs[i].art clock))
      have hp2 : PtC (H1.set R (.map (mE TI (putM es hs[i].art (.int .i64 (f hs[i].art - hs[i].len)) clock)) (clockM es hs[i].art clock))) (.pointer (some ⟨H.n, 0, none⟩)) (hoC hs[i]) := PtC.of ((GH.get_set_other hne hRn).trans f3)
      simp only [hput, onH_s]
      revert hg2 hE2 hp2
      generalize H1.set R (.map (mE TI (putM es hs[i].art (.int .i64 (f hs[i].art - hs[i].len)) clock)) (clockM es hs[i].art clock)) = H2
      intro hg2 hE2 hp2
      obtain ⟨q0', q1', q2', a0', b0', a1', b1', a2', b2'⟩ := ho_f hp2
      have e9 := Option.some.inj (a1.symm.trans a1')
      subst e9
      have hlk2 : gLookup Try.prog 186 (.map (some R)) (.int .i64 hs[i].art) false H2 = some (.int .i64 (f hs[i].art - hs[i].len)) := by
        have := map_look (T := TI) hg2 hs[i].art
        rw [show TI.z = .int .i64 0 from rfl, hI2.look] at this
        rw [if_pos rfl] at this
        exact this
      have hf' : ∀ x, (if x = hs[i].art then f hs[i].art - hs[i].len else f x) = frC cs x - frH (hs.take (i + 1)) x := fun x => by
        rw [frH_snoc hs hlt]
        have := hf x
        by_cases hx : x = hs[i].art
        · rw [if_pos hx, if_pos hx.symm, ← hx]; omega
        · rw [if_neg hx, if_neg (Ne.symm hx)]; omega
      simp only [b1', onV_s, hlk2, bin_eql, asB_b, onBool_d]
      by_cases h0 : f hs[i].art - hs[i].len = 0
      · rw [if_pos h0]
        unfold f97_r12
        have hdel : gDelete Try.prog 186 (.map (some R)) (.int .i64 hs[i].art) H2 = some (H2.set R (.map (mE TI (delM (putM es hs[i].art (.int .i64 (f hs[i].art - hs[i].len)) clock) hs[i].art)) (clockM es hs[i].art clock))) := map_del (T := TI) hg2 hs[i].art
        simp only [a1, b1', onV_s, hdel, onH_s, bin_add]
        rw [wrS (by omega)]
        exact ih (i + 1) _ _ _ _ (by omega) (by omega) (hE2.set hR (GH.get_lt hg2) _) (GH.get_set_same hg2) (hI2.del (by simp only [if_true]; exact h0)) hf' (Nat.le_trans del_len (Nat.le_trans put_len (by omega)))
      · rw [if_neg h0]
        unfold f97_r13
        simp only [bin_add, onV_s]
        rw [wrS (by omega)]
        exact ih (i + 1) _ _ _ _ (by omega) (by omega) hE2 hg2 hI2 hf' (Nat.le_trans put_len (by omega))
    · rw [if_neg (by omega)]
      refine Ev.mk ⟨hE, rfl, es, clock, hg, ?_, by omega⟩
      have e : f = fr cs hs := by funext x; rw [hf x, List.take_of_length_le (by omega)]; rfl
      rw [← e]
      exact hI
theorem fr_l3 (hc : SlR tyCo H0 vC cs) (hh : SlR tyHo H0 vH hs) (hl : hs.length ≤ 1000) (hv : ∀ h ∈ hs, 0 ≤ h.len ∧ h.len ≤ 1000000000) (hcl : cs.length ≤ 1000) (hcv : ∀ c ∈ cs, 0 ≤ c.len ∧ c.len ≤ 1000000000) (hR : H0.n ≤ R) {p1 : Value} (hp1 : PtC H0 p1 [vC, vH]) (hk' : 2000 ≤ k') :
    ∀ (r i : Nat) (es : List (Ent Int)) (clock : Nat) (f : Int → Int) (H : GH), i ≤ cs.length → cs.length - i < r → Ext H0 H → H.get R = some (.map (mE TI es) clock) → IM es clock f → (∀ x, f x = frC (cs.take i) x) → es.length ≤ i →
      Ev (f97_l3 (C k) k' r p1 (.map (some R)) vC (.int .i64 cs.length) (.int .i64 i) H) fun z => Ext H0 z.2 ∧ z.1 = .map (some R) ∧ ∃ es clock, z.2.get R = some (.map (mE TI es) clock) ∧ IM es clock (fr cs hs) ∧ es.length ≤ cs.length + hs.length := by
  intro r
  induction r with
  | zero => intro i es clock f H _ h; omega
  | succ r ih =>
    intro i es clock f H hi hr hE hg hI hf hz
    show Ev (f97_l3b (C k) k' (f97_l3 (C k) k' r) p1 (.map (some R)) vC (.int .i64 cs.length) (.int .i64 i) H) _
    unfold f97_l3b
    simp only [bin_lss, onV_s, asB_b, onBool_d]
    by_cases hlt : i < cs.length
    · rw [if_pos (by omega)]
      obtain ⟨q, e1, e2⟩ := co_at (hc.mono hE) (k := .i64) hlt
      obtain ⟨H1, f1, f2, f3, f4⟩ := box (P := Try.prog) (t := 93) (H := H) (v := coV cs[i]) (cs := coC cs[i]) (row := [(.int .i64 0), (.int .i64 0)]) (e := 93) (gSize_ld ld93) rfl rfl rfl
      simp only [e1, onV_s, co_ld e2, f1, onH_s]
      have hE1 := hE.trans f2
      have hg1 := f2.get_of hg
      have hRn := GH.get_lt hg1
      have hp := PtC.of f3
      unfold f97_r5
      obtain ⟨q0, q1, a0, b0, a1, b1⟩ := co_f hp
      have hlk : gLookup Try.prog 186 (.map (some R)) (.int .i64 cs[i].art) false H1 = some (.int .i64 (f cs[i].art)) := by
        have := map_look (T := TI) hg1 cs[i].art
        rw [show TI.z = .int .i64 0 from rfl, hI.look] at this
        exact this
      have hb2 := frC_le (cs.take i) cs[i].art fun h hh => hcv h (List.mem_of_mem_take hh)
      rw [List.length_take] at hb2
      have hb3 := hcv _ (List.getElem_mem hlt)
      have hfx := hf cs[i].art
      simp only [a0, b0, a1, b1, onV_s, hlk, bin_add]
      rw [Go.IntWalk.i64_in (f cs[i].art + cs[i].len) (by omega)]
      have hput : gMapUpdate Try.prog 186 (.map (some R)) (.int .i64 cs[i].art) (.int .i64 (f cs[i].art + cs[i].len)) H1 = some (H1.set R (.map (mE TI (putM es cs[i].art (.int .i64 (f cs[i].art + cs[i].len)) clock)) (clockM es cs[i].art clock))) := map_put (T := TI) hg1 cs[i].art (.int .i64 (f cs[i].art + cs[i].len))
      simp only [hput, onH_s]
      rw [wrS (by omega)]
      refine ih (i + 1) _ _ _ _ (by omega) (by omega) (hE1.set hR hRn _) (GH.get_set_same hg1) (hI.put cs[i].art (f cs[i].art + cs[i].len)) (fun x => ?_) (Nat.le_trans put_len (by omega))
      rw [frC_snoc cs hlt]
      have := hf x
      by_cases hx : x = cs[i].art
      · simp only [if_pos hx, if_pos hx.symm]; rw [← hx]; omega
      · simp only [if_neg hx, if_neg (Ne.symm hx)]; omega
    · rw [if_neg (by omega)]
      unfold f97_r7
      obtain ⟨q0, q1, a0, b0, a1, b1⟩ := st_f (hp1.mono hE)
      simp only [a1, b1, onV_s, (hh.mono hE).oLen u86]
      exact fr_l8 hh hl hv hcl hcv hR k' 0 es clock f H (by omega) (by omega) hE hg hI (fun x => by rw [hf x, List.take_of_length_le (by omega)]; simp [frH]) (by omega)
/-- What is free: a map that tells it. -/
theorem free_ok (hk : 3000 ≤ k) (h : StI H vC vH cs hs) (hl : hs.length ≤ 1000) (hv : ∀ h ∈ hs, 0 ≤ h.len ∧ h.len ≤ 1000000000) (hcl : cs.length ≤ 1000) (hcv : ∀ c ∈ cs, 0 ≤ c.len ∧ c.len ≤ 1000000000) :
    Ev (C (k + 1) (.func (.func 97) #[] #[]) [stV vC vH] H) fun z => Ext H z.2 ∧ ∃ R es clock, H.n ≤ R ∧ z.1 = .map (some R) ∧ z.2.get R = some (.map (mE TI es) clock) ∧ IM es clock (fr cs hs) ∧ es.length ≤ cs.length + hs.length := by
  rw [C_func T97, f97_eq]
  unfold f97_sh
  have hcl' : (Value.cells (stV vC vH)).toList = [vC, vH] := rfl
  rw [hcl']
  have hE : Ext H (H.push (.row [vC, vH] 88 false)) := Ext.push _ _
  have hE1 : Ext (H.push (.row [vC, vH] 88 false)) ((H.push (.row [vC, vH] 88 false)).push (.map [] 0)) := Ext.push _ _
  have hp : PtC (H.push (.row [vC, vH] 88 false)) (.pointer (some ⟨H.n, 0, none⟩)) [vC, vH] := PtC.new H _ _ _
  have h1 := h.mono hE
  have l0 : gLoad Try.prog 85 (.pointer (some ⟨H.n, 0, none⟩)) ((H.push (.row [vC, vH] 88 false)).push (.map [] 0)) = some vC := PtC.load1 (P := Try.prog) (t := 85) ⟨H.n, 0, _, _, _, rfl, hE1.get_of GH.get_push_new, by simp, rfl⟩ ld85
  simp only [l0, onV_s, (h1.c.mono hE1).oLen u85]
  refine (fr_l3 (R := (H.push (.row [vC, vH] 88 false)).n) h1.c h1.h hl hv hcl hcv (Nat.le_refl _) hp (by omega) k 0 [] 0 (fun _ => 0) _ (by omega) (by omega) hE1 GH.get_push_new IM.nil (fun x => by simp [frC]) (by simp)).mono fun z hz => ?_
  obtain ⟨z1, z2, es, clock, z3, z4⟩ := hz
  exact ⟨hE.trans z1, _, es, clock, Nat.le_succ _, z2, z3, z4⟩
end
end Go.Proofs.Ythicilkmjamefaa
