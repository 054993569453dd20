/- The program's Check. -/
import Derived.Test.YthicilkmjamefaaSoB
namespace Go.Proofs.Ythicilkmjamefaa
open Go.Gh
set_option linter.unusedVariables false
set_option linter.unusedSimpArgs false

def CBad (cs : List ConeD) : Prop := ∃ c ∈ cs, coneOk c = false
def badAt (hs : List HoldD) (i : Nat) (h : HoldD) : Prop := holdOk h = false ∨ ∃ g, i ≠ 0 ∧ hs[i - 1]? = some g ∧ 0 ≤ cmpH g h
def HBad (hs : List HoldD) : Prop := ∃ (i : Nat) (h : HoldD), hs[i]? = some h ∧ badAt hs i h
def Short (cs : List ConeD) (hs : List HoldD) : Prop := ∃ x, fr cs hs x < 0
open Classical in
/-- The error of a stock. -/
noncomputable def chk (cs : List ConeD) (hs : List HoldD) : Int := if 512 < cs.length ∨ 512 < hs.length then 3 else if CBad cs ∨ HBad hs then 1 else if Short cs hs then 18 else 0
theorem coneOk_len {c : ConeD} (h : coneOk c = true) : 0 ≤ c.len ∧ c.len ≤ 1000000000 := by
  unfold coneOk at h
  simp only [Bool.and_eq_true, decide_eq_true_eq] at h
  omega
theorem holdOk_len {h : HoldD} (hk : holdOk h = true) : 0 ≤ h.len ∧ h.len ≤ 1000000000 := by
  unfold holdOk at hk
  simp only [Bool.and_eq_true, decide_eq_true_eq] at hk
  exact coneOk_len (c := ⟨h.art, h.len⟩) hk.2.2
theorem cones_ok {cs : List ConeD} (h : ¬ CBad cs) : ∀ c ∈ cs, coneOk c = true := fun c hc => by
  cases hh : coneOk c with
  | true => rfl
  | false => exact absurd ⟨c, hc, hh⟩ h
theorem holds_ok {hs : List HoldD} (h : ¬ HBad hs) : ∀ x ∈ hs, holdOk x = true := fun x hx => by
  cases hh : holdOk x with
  | true => rfl
  | false =>
    obtain ⟨i, hi, he⟩ := List.getElem_of_mem hx
    exact absurd ⟨i, x, by rw [List.getElem?_eq_getElem hi, he], .inl hh⟩ h
section
variable {k k' : Nat} {vC vH p1 : Value} {cs : List ConeD} {hs : List HoldD} {H0 H : GH} {Q : Value × GH → Prop}
theorem ck_l4 (hc : SlR tyCo H0 vC cs) (hl : cs.length ≤ 1000000) (hbad : CBad cs → ∀ H', Ext H0 H' → Q (.int .i64 1, H')) (hgo : ¬ CBad cs → ∀ H', Ext H0 H' → All (f34_r9 (C (k + 1)) k' p1 H') Q) :
    ∀ (r i : Nat) (H : GH), i ≤ cs.length → cs.length - i < r → Ext H0 H → (∀ c ∈ cs.take i, coneOk c = true) → All (f34_l4 (C (k + 1)) k' r p1 vC (.int .i64 cs.length) (.int .i64 i) H) Q := by
  intro r
  induction r with
  | zero => intro i H _ h; omega
  | succ r ih =>
    intro i H hi hr hE hall
    show All (f34_l4b (C (k + 1)) k' (f34_l4 (C (k + 1)) k' r) p1 vC (.int .i64 cs.length) (.int .i64 i) H) Q
    unfold f34_l4b
    simp only [bin_lss, onV_s, asB_b, onBool_d]
    by_cases hlt : i < cs.length
    · rw [if_pos (by omega)]
      obtain ⟨q, e1, e2⟩ := co_at (hc.mono hE) (k := .i64) hlt
      obtain ⟨H1, f1, f2, f3, f4⟩ := box (P := Try.prog) (t := 93) (H := H) (v := coV cs[i]) (cs := coC cs[i]) (row := [(.int .i64 0), (.int .i64 0)]) (e := 93) (gSize_ld ld93) rfl rfl rfl
      have hld : gLoad Try.prog 93 (.pointer (some ⟨H.n, 0, none⟩)) H1 = some (coV cs[i]) := co_ld (PtC.of f3)
      simp only [e1, onV_s, co_ld e2, f1, onH_s, hld]
      refine All.callE (coneOk_ok (k := k)) fun w H2 h => ?_
      obtain ⟨hE2, hw⟩ := h
      have hE2 : Ext H1 H2 := hE2
      have hw : w = .bool (coneOk cs[i]) := hw
      subst hw
      have hE3 := (hE.trans f2).trans hE2
      simp only [not_b, onV_s, asB_b, onBool_i]
      cases hh : coneOk cs[i] with
      | false =>
        simp only [Bool.not_false, if_true]
        exact All.mk (hbad ⟨_, List.getElem_mem hlt, hh⟩ _ hE3)
      | true =>
        simp only [Bool.not_true, Bool.false_eq_true, if_false, bin_add, onV_s]
        rw [wrS (by omega)]
        refine ih (i + 1) H2 (by omega) (by omega) hE3 fun c hc => ?_
        rw [List.take_succ_eq_append_getElem hlt] at hc
        rcases List.mem_append.1 hc with hc | hc
        · exact hall c hc
        · rw [List.mem_singleton] at hc; rw [hc]; exact hh
    · rw [if_neg (by omega)]
      refine hgo (fun ⟨c, hc, hb⟩ => ?_) H hE
      have := hall c (by rw [List.take_of_length_le (by omega)]; exact hc)
      rw [this] at hb; cases hb
theorem ck_l10 (hk : 30 ≤ k) (hp : PtC H0 p1 [vC, vH]) (hh : SlR tyHo H0 vH hs) (hl : hs.length ≤ 1000000) (hbad : HBad hs → ∀ H', Ext H0 H' → Q (.int .i64 1, H')) (hgo : ¬ HBad hs → ∀ H', Ext H0 H' → All (f34_r15 (C (k + 3)) k' p1 H') Q) :
    ∀ (r i : Nat) (H : GH), i ≤ hs.length → hs.length - i < r → Ext H0 H → (∀ n h, n < i → hs[n]? = some h → ¬ badAt hs n h) → All (f34_l10 (C (k + 3)) k' r p1 vH (.int .i64 hs.length) (.int .i64 i) H) Q := by
  intro r
  induction r with
  | zero => intro i H _ h; omega
  | succ r ih =>
    intro i H hi hr hE hall
    show All (f34_l10b (C (k + 3)) k' (f34_l10 (C (k + 3)) k' r) p1 vH (.int .i64 hs.length) (.int .i64 i) H) Q
    unfold f34_l10b
    simp only [bin_lss, onV_s, asB_b, onBool_d]
    by_cases hlt : i < hs.length
    · rw [if_pos (by omega)]
      obtain ⟨q, e1, e2⟩ := ho_at (hh.mono hE) (k := .i64) hlt
      obtain ⟨H1, f1, f2, f3, f4⟩ := box (P := Try.prog) (t := 91) (H := H) (v := hoV hs[i]) (cs := hoC hs[i]) (row := [(.int .i64 0), (.int .i64 0), (.int .i64 0)]) (e := 91) (gSize_ld ld91) rfl rfl rfl
      simp only [e1, onV_s, ho_ld e2, f1, onH_s]
      have hE1 := hE.trans f2
      have hp6 := PtC.of f3
      have hxi : hs[i]? = some hs[i] := List.getElem?_eq_getElem hlt
      revert hp6
      clear f1 f3 f4
      generalize (.pointer (some ⟨H.n, 0, none⟩) : Value) = p6
      intro hp6
      have hnext : ¬ badAt hs i hs[i] → ∀ H2, Ext H0 H2 → All (f34_l10 (C (k + 3)) k' r p1 vH (.int .i64 hs.length) (.int .i64 (i + 1 : Nat)) H2) Q := fun hnb H2 hE2 => ih (i + 1) H2 (by omega) (by omega) hE2 fun n h hn hx => by
        rcases Nat.lt_or_ge n i with h' | h'
        · exact hall n h h' hx
        · have hni : n = i := by omega
          subst hni
          rw [hxi] at hx
          have hx := Option.some.inj hx
          rw [← hx]; exact hnb
      have hisbad : badAt hs i hs[i] → ∀ H2, Ext H0 H2 → All (some [((.int .i64 1 : Value), H2)]) Q := fun hb H2 hE2 => All.mk (hbad ⟨i, _, hxi, hb⟩ _ hE2)
      unfold f34_r12
      simp only [ho_ld hp6, onV_s]
      refine All.callS 1 (R := fun v _ => v = .bool (holdOk hs[i])) (Sp.of (fun lo => holdOk_ok (k := k + 1)) fun _ _ _ h => h) fun w H2 hE2 hw => ?_
      subst hw
      have hE3 := hE1.trans hE2
      simp only [not_b, onV_s]
      unfold f34_g12_4
      simp only [asB_b, onBool_i]
      cases hok : holdOk hs[i] with
      | false =>
        simp only [Bool.not_false, if_true]
        exact hisbad (.inl hok) _ hE3
      | true =>
        simp only [Bool.not_true, Bool.false_eq_true, if_false, bin_gtr, onV_s]
        unfold f34_g12_7
        simp only [asB_b, onBool_d]
        by_cases h0 : i = 0
        · rw [if_neg (by omega)]
          simp only [bin_add, onV_s]
          rw [wrS (by omega)]
          refine hnext (fun hb => ?_) H2 hE3
          rcases hb with hb | ⟨g, hg, _⟩
          · rw [hok] at hb; cases hb
          · exact hg h0
        · rw [if_pos (by omega)]
          have hlt1 : i - 1 < hs.length := by omega
          obtain ⟨q0, q1, a0, b0, a1, b1⟩ := st_f (hp.mono hE3)
          obtain ⟨q', g1, g2⟩ := ho_at (hh.mono hE3) (k := .i64) hlt1
          simp only [a1, b1, onV_s, bin_sub]
          rw [Go.IntWalk.i64_in _ (by omega), show ((i : Int) - 1) = ((i - 1 : Nat) : Int) by omega]
          simp only [g1, ho_ld g2, ho_ld (hp6.mono hE2), onV_s]
          refine All.callS 1 (R := fun v _ => v = .int .i64 (cmpH hs[i - 1] hs[i])) (Sp.of (fun lo => cmpH_ok (k := k) (by omega)) fun _ _ _ h => h) fun w H4 hE4 hw => ?_
          subst hw
          have hE5 := hE3.trans hE4
          simp only [bin_geq, onV_s, asB_b, onBool_d]
          by_cases hc : 0 ≤ cmpH hs[i - 1] hs[i]
          · rw [if_pos hc]
            exact hisbad (.inr ⟨_, h0, List.getElem?_eq_getElem hlt1, hc⟩) _ hE5
          · rw [if_neg hc]
            simp only [bin_add, onV_s]
            rw [wrS (by omega)]
            refine hnext (fun hb => ?_) H4 hE5
            rcases hb with hb | ⟨g, _, hg, hc'⟩
            · rw [hok] at hb; cases hb
            · rw [List.getElem?_eq_getElem hlt1] at hg
              have hg := Option.some.inj hg
              rw [hg] at hc; exact hc hc'
    · rw [if_neg (by omega)]
      refine hgo (fun ⟨n, h, hn, hb⟩ => ?_) H hE
      exact hall n h (by have := (List.getElem?_eq_some_iff.1 hn).1; omega) hn hb
theorem ck_r15 (hk : 4000 ≤ k) (hk' : 3000 ≤ k') (hp : PtC H0 p1 [vC, vH]) (h : StI H0 vC vH cs hs) (hl : hs.length ≤ 1000) (hv : ∀ h ∈ hs, 0 ≤ h.len ∧ h.len ≤ 1000000000) (hcl : cs.length ≤ 1000) (hcv : ∀ c ∈ cs, 0 ≤ c.len ∧ c.len ≤ 1000000000)
    (h18 : Short cs hs → ∀ H', Ext H0 H' → Q (.int .i64 18, H')) (h0 : ¬ Short cs hs → ∀ H', Ext H0 H' → Q (.int .i64 0, H')) (hE : Ext H0 H) : All (f34_r15 (C (k + 1)) k' p1 H) Q := by
  unfold f34_r15
  simp only [st_ld (hp.mono hE), onV_s]
  refine All.callE (free_ok (k := k) (by omega) (h.mono hE) hl hv hcl hcv) fun w H2 hw => ?_
  obtain ⟨hE2, R, es, clock, hR, hw, hg, hI, hz⟩ := hw
  have hE2 : Ext H H2 := hE2
  have hw : w = .map (some R) := hw
  have hg : H2.get R = some (.map (mE TI es) clock) := hg
  subst hw
  have hr : gRange Try.prog 186 (.map (some R)) H2 = some (.pointer (some ⟨H2.n, 0, none⟩), H2.push (.mapIter (some R) clock [] clock)) := map_range (T := TI) hg
  simp only [hr, onVH_s]
  have hE3 := hE.trans hE2
  have hRn : R < H2.n := GH.get_lt hg
  have hes : es.length ≤ 2000 := by omega
  refine map_walk (T := TI) (H0 := H0) (es := es) (clock := clock) (R := R) (I := H2.n) hI.wf hE3.n (by omega) (fun e => 0 ≤ fr cs hs e.k) (sg := fun r H => f34_l16 (C (k + 1)) k' r (.pointer (some ⟨H2.n, 0, none⟩)) H)
    (stop := fun H2 => some [(.int .i64 0, H2)]) (go := fun v1 v4 H2 nx => onV (oExtract v4 1) fun v5 => onV ((oBin Try.prog .lss 3 v5 (.int .i64 0)).filter closed) fun v6 => onBool (asB v6) (some [((.int .i64 18), H2)]) nx)
    (fun r H => rfl) (fun e he H3 nx v1 hE4 hnx => ?_) (fun hall H3 hE4 => ?_) k' [] _ ?_ (hE3.push' _) GH.get_push_new ((Ext.push _ _).get_of hg) (fun e he h => by simp at h)
  · rw [hI.val e he]
    have e1 : oExtract (.tuple #[TI.kv e.k, .int .i64 (fr cs hs e.k)]) 1 = some (.int .i64 (fr cs hs e.k)) := rfl
    simp only [e1, onV_s, bin_lss, asB_b, onBool_d]
    by_cases hn : fr cs hs e.k < 0
    · rw [if_pos hn]
      exact All.mk (h18 ⟨_, hn⟩ _ hE4)
    · rw [if_neg hn]
      exact hnx (by omega)
  · refine All.mk (h0 (fun ⟨x, hx⟩ => ?_) _ hE4)
    cases hg' : getM es x with
    | none => have := hI.out x hg'; omega
    | some v =>
      obtain ⟨s, hs'⟩ := get_some es hg'
      have := hall _ hs'
      simp only at this
      omega
  · have : (leftE es []).length ≤ es.length := List.length_filter_le _ _
    omega
theorem check_ok (hk : 5000 ≤ k) (h : StI H vC vH cs hs) (hl : hs.length ≤ 1000) (hcl : cs.length ≤ 1000) : All (C (k + 5) (.func (.func 34) #[] #[]) [stV vC vH] H) fun r => Ext H r.2 ∧ r.1 = .int .i64 (chk cs hs) := by
  rw [C_func T34, f34_eq]
  unfold f34_sh
  have hcl' : (Value.cells (stV vC vH)).toList = [vC, vH] := rfl
  rw [hcl']
  have hE : Ext H (H.push (.row [vC, vH] 88 false)) := Ext.push _ _
  have hp : PtC (H.push (.row [vC, vH] 88 false)) (.pointer (some ⟨H.n, 0, none⟩)) [vC, vH] := PtC.new H _ _ _
  have h1 := h.mono hE
  have l0 : gLoad Try.prog 85 (.pointer (some ⟨H.n, 0, none⟩)) (H.push (.row [vC, vH] 88 false)) = some vC := PtC.load1 (P := Try.prog) (t := 85) ⟨H.n, 0, _, _, _, rfl, GH.get_push_new, by simp, rfl⟩ ld85
  simp only [l0, onV_s, h1.c.oLen u85, bin_gtr]
  revert hE hp h1
  generalize (.pointer (some ⟨H.n, 0, none⟩) : Value) = p1
  generalize H.push (.row [vC, vH] 88 false) = H1
  intro hE hp h1
  unfold f34_g1_5
  simp only [asB_b, onBool_d]
  obtain ⟨q0, q1, a0, b0, a1, b1⟩ := st_f hp
  by_cases c1 : 512 < cs.length
  · rw [if_pos (by omega)]
    refine All.mk ⟨hE, ?_⟩
    unfold chk; rw [if_pos (.inl c1)]
  rw [if_neg (by omega)]
  simp only [a1, b1, onV_s, h1.h.oLen u86, bin_gtr, asB_b, onBool_d]
  by_cases c2 : 512 < hs.length
  · rw [if_pos (by omega)]
    refine All.mk ⟨hE, ?_⟩
    unfold chk; rw [if_pos (.inr c2)]
  rw [if_neg (by omega)]
  have hc12 : ¬ (512 < cs.length ∨ 512 < hs.length) := fun h => h.elim c1 c2
  simp only [a0, b0, onV_s, h1.c.oLen u85]
  refine ck_l4 (k := k + 3) (Q := fun r => Ext H r.2 ∧ r.1 = .int .i64 (chk cs hs)) h1.c (by omega) (fun hb H' hE' => ⟨hE.trans hE', ?_⟩) (fun hnb H' hE' => ?_) (k + 4) 0 H1 (by omega) (by omega) (.refl _) (by simp)
  · unfold chk; rw [if_neg hc12, if_pos (.inl hb)]
  · unfold f34_r9
    obtain ⟨q0', q1', a0', b0', a1', b1'⟩ := st_f (hp.mono hE')
    simp only [a1', b1', onV_s, (h1.h.mono hE').oLen u86]
    refine ck_l10 (k := k + 1) (H0 := H1) (Q := fun r => Ext H r.2 ∧ r.1 = .int .i64 (chk cs hs)) (by omega) hp h1.h (by omega) (fun hb H2 hE2 => ⟨hE.trans hE2, ?_⟩) (fun hnh H2 hE2 => ?_) (k + 4) 0 H' (by omega) (by omega) hE' (fun n h hn => by omega)
    · unfold chk; rw [if_neg hc12, if_pos (.inr hb)]
    · have hnn : ¬ (CBad cs ∨ HBad hs) := fun h => h.elim hnb hnh
      refine ck_r15 (k := k + 3) (H0 := H1) (Q := fun r => Ext H r.2 ∧ r.1 = .int .i64 (chk cs hs)) (by omega) (by omega) hp h1 hl (fun h hh => holdOk_len (holds_ok hnh h hh)) hcl (fun c hc => coneOk_len (cones_ok hnb c hc)) (fun hsh H3 hE3 => ⟨hE.trans hE3, ?_⟩) (fun hsh H3 hE3 => ⟨hE.trans hE3, ?_⟩) hE2
      · unfold chk; rw [if_neg hc12, if_neg hnn, if_pos hsh]
      · unfold chk; rw [if_neg hc12, if_neg hnn, if_neg hsh]
end
end Go.Proofs.Ythicilkmjamefaa
/- The program's Add, Free and Need. -/
namespace Go.Proofs.Ythicilkmjamefaa
open Go.Gh
set_option linter.unusedVariables false
set_option linter.unusedSimpArgs false

section
variable {P : Program} {t : TypeId} {p v w : Value} {H : GH}
theorem gResL2 : gResL P H [(p, some t), (v, none)] = (gLoad P t p H).map fun u => .tuple #[u, v] := by
  unfold gResL
  simp only [List.mapM_cons, List.mapM_nil, gRes1]
  cases gLoad P t p H <;> rfl
theorem gResL3 : gResL P H [(p, some t), (v, none), (w, none)] = (gLoad P t p H).map fun u => .tuple #[u, v, w] := by
  unfold gResL
  simp only [List.mapM_cons, List.mapM_nil, gRes1]
  cases gLoad P t p H <;> rfl
end
def nilS : Value := stV (.slice none 0 0) (.slice none 0 0)
/-- A stock is stored as a result, and handed back. -/
theorem ret2 {H0 H : GH} {b : Nat} {row : List Value} (hb : H0.n ≤ b) (hE : Ext H0 H) (hg : H.get b = some (.row row 88 false)) (hr : row.length = 2) {a1 a2 : Option Addr} {n1 n2 c1 c2 : Nat} {e : Value} :
    ∃ H', Ext H0 H' ∧ (onH (gStore Try.prog 88 (.pointer (some ⟨b, 0, none⟩)) (stV (.slice a1 n1 c1) (.slice a2 n2 c2)) H) fun H5 => onV (gResL Try.prog H5 [(.pointer (some ⟨b, 0, none⟩), some 88), (e, none)]) fun v => some [(v, H5)]) = some [(.tuple #[stV (.slice a1 n1 c1) (.slice a2 n2 c2), e], H')] := by
  refine ⟨_, hE.set hb (GH.get_lt hg) (.row [.slice a1 n1 c1, .slice a2 n2 c2] 88 false), ?_⟩
  rw [storeAll (t := 88) (sz := 2) (cs := [.slice a1 n1 c1, .slice a2 n2 c2]) hg (gSize_ld ld88) hr rfl rfl rfl]
  simp only [onH_s, gResL2]
  rw [st_ld (PtC.of (GH.get_set_same hg))]
  rfl
theorem ret3 {H0 H : GH} {b : Nat} {row : List Value} (hb : H0.n ≤ b) (hE : Ext H0 H) (hg : H.get b = some (.row row 88 false)) (hr : row.length = 2) {a1 a2 : Option Addr} {n1 n2 c1 c2 : Nat} {e f : Value} :
    ∃ H', Ext H0 H' ∧ (onH (gStore Try.prog 88 (.pointer (some ⟨b, 0, none⟩)) (stV (.slice a1 n1 c1) (.slice a2 n2 c2)) H) fun H5 => onV (gResL Try.prog H5 [(.pointer (some ⟨b, 0, none⟩), some 88), (e, none), (f, none)]) fun v => some [(v, H5)]) = some [(.tuple #[stV (.slice a1 n1 c1) (.slice a2 n2 c2), e, f], H')] := by
  refine ⟨_, hE.set hb (GH.get_lt hg) (.row [.slice a1 n1 c1, .slice a2 n2 c2] 88 false), ?_⟩
  rw [storeAll (t := 88) (sz := 2) (cs := [.slice a1 n1 c1, .slice a2 n2 c2]) hg (gSize_ld ld88) hr rfl rfl rfl]
  simp only [onH_s, gResL3]
  rw [st_ld (PtC.of (GH.get_set_same hg))]
  rfl
section
variable {k : Nat} {vC vH : Value} {cs : List ConeD} {hs : List HoldD} {H : GH}
def nilRow : List Value := [.slice none 0 0, .slice none 0 0]
theorem free_err (hk : 5000 ≤ k) (h : StI H vC vH cs hs) (hl : hs.length ≤ 1000) (hcl : cs.length ≤ 1000) (he : chk cs hs ≠ 0) {a : Int} : All (C (k + 6) (.func (.func 39) #[] #[]) [stV vC vH, .int .i64 a] H) fun r => Ext H r.2 ∧ r.1 = .int .i64 0 := by
  rw [C_func T39, f39_eq]
  unfold f39_sh
  have hcl' : (Value.cells (stV vC vH)).toList = [vC, vH] := rfl
  rw [hcl']
  have hE : Ext H (H.push (.row [vC, vH] 88 false)) := Ext.push _ _
  simp only [st_ld (PtC.new H _ _ _), onV_s]
  refine All.call0 (check_ok hk (h.mono hE) hl hcl) fun v H2 hv => ?_
  obtain ⟨hE2, hv⟩ := hv
  have hE2 : Ext (H.push (.row [vC, vH] 88 false)) H2 := hE2
  have hv : v = .int .i64 (chk cs hs) := hv
  subst hv
  simp only [bin_neq, onV_s, asB_b, onBool_d]
  rw [if_pos he]
  exact All.mk ⟨hE.trans hE2, rfl⟩
theorem need_err (hk : 5000 ≤ k) (h : StI H vC vH cs hs) (hl : hs.length ≤ 1000) (hcl : cs.length ≤ 1000) (he : chk cs hs ≠ 0) {a : Value} : All (C (k + 6) (.func (.func 40) #[] #[]) [stV vC vH, a] H) fun r => Ext H r.2 ∧ r.1 = .slice none 0 0 := by
  rw [C_func T40, f40_eq]
  unfold f40_sh
  have hcl' : (Value.cells (stV vC vH)).toList = [vC, vH] := rfl
  rw [hcl']
  have hE : Ext H (H.push (.row [vC, vH] 88 false)) := Ext.push _ _
  simp only [st_ld (PtC.new H _ _ _), onV_s]
  refine All.call0 (check_ok hk (h.mono hE) hl hcl) fun v H2 hv => ?_
  obtain ⟨hE2, hv⟩ := hv
  have hE2 : Ext (H.push (.row [vC, vH] 88 false)) H2 := hE2
  have hv : v = .int .i64 (chk cs hs) := hv
  subst hv
  simp only [bin_neq, onV_s, asB_b, onBool_d]
  rw [if_pos he]
  exact All.mk ⟨hE.trans hE2, rfl⟩
theorem build85_1 {H : GH} {c : ConeD} : gBuildSlice Try.prog 85 1 [(0, coV c)] H = some (.slice (some ⟨H.n, 0, none⟩) 1 1, H.push (.row (coC c) 93 false)) := by kernel_rfl
theorem fa88 {b : Nat} : oFieldAddr Try.prog 88 (.pointer (some ⟨b, 0, none⟩)) 0 = some (.pointer (some ⟨b, 0, none⟩)) := by kernel_rfl
theorem _root_.Go.Gh.Cl.set {α : Type} {A : Ty α} {e : Nat} {H0 H : GH} {v : Value} {xs : List α} {b : Nat} (hA : A.Flat) (h : Cl A e H0 H v xs) (hb : b < H0.n) (o : GObj) (hl : b < H.n) : Cl A e H0 (H.set b o) v xs := by
  rcases h with h | ⟨b', c, cs, h1, h2, h3, h4, h5⟩
  · exact .inl h
  · exact .inr ⟨b', c, cs, h1, h2, (GH.get_set_other (by omega) hl).trans h3, h4.flat hA, h5⟩
theorem SlR.pt {H : GH} {b : Nat} {c : ConeD} (h : H.get b = some (.row (coC c) 93 false)) : SlR tyCo H (.slice (some ⟨b, 0, none⟩) 1 1) [c] :=
  .inr ⟨b, 0, 1, _, 93, false, coC c, rfl, h, Nat.le_refl _, rfl, .cons (c := coC c) (cs := []) rfl .nil⟩
theorem add_ok (hk : 5000 ≤ k) (h : StI H vC vH cs hs) (hl : hs.length ≤ 1000) (hcl : cs.length ≤ 1000) (c : ConeD) :
    All (C (k + 6) (.func (.func 35) #[] #[]) [stV vC vH, coV c] H) fun r => Ext H r.2 ∧ ∃ a1 n1 c1 a2 n2 c2, r.1 = .tuple #[stV (.slice a1 n1 c1) (.slice a2 n2 c2), .int .i64 (if chk cs hs ≠ 0 then chk cs hs else if coneOk c = false then 1 else if cs.length = 512 then 9 else 0)] ∧ (chk cs hs ≠ 0 → n1 = 0) := by
  rw [C_func T35, f35_eq]
  unfold f35_sh
  have hcl' : (Value.cells (stV vC vH)).toList = [vC, vH] := rfl
  have hcc : (Value.cells (coV c)).toList = coC c := rfl
  rw [hcl', hcc]
  have hn1 : (H.push (.row [vC, vH] 88 false)).n = H.n + 1 := rfl
  have hn2 : ((H.push (.row [vC, vH] 88 false)).push (.row (coC c) 93 false)).n = H.n + 2 := rfl
  rw [hn1, hn2]
  have hE : Ext H (((H.push (.row [vC, vH] 88 false)).push (.row (coC c) 93 false)).push (.row [(.slice none 0 0), (.slice none 0 0)] 88 false)) := ((Ext.push _ _).push' _).push' _
  have g0 : (((H.push (.row [vC, vH] 88 false)).push (.row (coC c) 93 false)).push (.row [(.slice none 0 0), (.slice none 0 0)] 88 false)).get H.n = some (.row [vC, vH] 88 false) :=
    (GH.get_push_old (by show H.n < H.n + 2; omega)).trans ((GH.get_push_old (by show H.n < H.n + 1; omega)).trans GH.get_push_new)
  have g1 : (((H.push (.row [vC, vH] 88 false)).push (.row (coC c) 93 false)).push (.row [(.slice none 0 0), (.slice none 0 0)] 88 false)).get (H.n + 1) = some (.row (coC c) 93 false) :=
    (GH.get_push_old (by show H.n + 1 < H.n + 2; omega)).trans GH.get_push_new
  have g2 : (((H.push (.row [vC, vH] 88 false)).push (.row (coC c) 93 false)).push (.row [(.slice none 0 0), (.slice none 0 0)] 88 false)).get (H.n + 2) = some (.row [(.slice none 0 0), (.slice none 0 0)] 88 false) := GH.get_push_new
  have h1 := h.mono hE
  revert hE g0 g1 g2 h1
  generalize (((H.push (.row [vC, vH] 88 false)).push (.row (coC c) 93 false)).push (.row [(.slice none 0 0), (.slice none 0 0)] 88 false)) = H1
  intro hE g0 g1 g2 h1
  simp only [st_ld (PtC.of g0), onV_s]
  refine All.call0 (check_ok hk h1 hl hcl) fun v H2 hv => ?_
  obtain ⟨hE2, hv⟩ := hv
  have hE2 : Ext H1 H2 := hE2
  have hv : v = .int .i64 (chk cs hs) := hv
  subst hv
  have hnil : ((.agg #[(.slice none 0 0), (.slice none 0 0)]) : Value) = stV (.slice none 0 0) (.slice none 0 0) := rfl
  simp only [bin_neq, onV_s, asB_b, onBool_d, hnil]
  by_cases he : chk cs hs = 0
  · rw [if_neg (fun h => h he)]
    simp only [co_ld (PtC.of (hE2.get_of g1)), onV_s]
    refine All.callE (coneOk_ok (k := k + 4)) fun w H3 hw => ?_
    obtain ⟨hE3, hw⟩ := hw
    have hE3 : Ext H2 H3 := hE3
    have hw : w = .bool (coneOk c) := hw
    subst hw
    have hE13 := hE2.trans hE3
    simp only [not_b, onV_s, asB_b, onBool_i]
    cases hok : coneOk c with
    | false =>
      simp only [Bool.not_false, if_true]
      obtain ⟨H', r1, r2⟩ := ret2 (H0 := H) (e := .int .i64 1) (a1 := none) (a2 := none) (n1 := 0) (n2 := 0) (c1 := 0) (c2 := 0) (show H.n ≤ H.n + 2 by omega) (hE.trans hE13) (hE13.get_of g2) rfl
      rw [r2]
      refine All.mk ⟨r1, none, 0, 0, none, 0, 0, ?_, fun h => absurd he h⟩
      rw [if_neg (fun h => h he)]
    | true =>
      simp only [Bool.not_true, Bool.false_eq_true, if_false]
      unfold f35_r6
      obtain ⟨q0, q1, a0, b0, a1, b1⟩ := st_f (PtC.of (hE13.get_of g0))
      obtain rfl : q0 = .pointer (some ⟨H.n, 0, none⟩) := Option.some.inj (a0.symm.trans fa88)
      simp only [a0, b0, onV_s, (h1.c.mono hE13).oLen u85, bin_eql, asB_b, onBool_d, hnil]
      by_cases hfull : cs.length = 512
      · rw [if_pos (by omega)]
        obtain ⟨H', r1, r2⟩ := ret2 (H0 := H) (e := .int .i64 9) (a1 := none) (a2 := none) (n1 := 0) (n2 := 0) (c1 := 0) (c2 := 0) (show H.n ≤ H.n + 2 by omega) (hE.trans hE13) (hE13.get_of g2) rfl
        rw [r2]
        refine All.mk ⟨r1, none, 0, 0, none, 0, 0, ?_, fun h => absurd he h⟩
        rw [if_neg (fun h => h he), if_neg (by simp), if_pos hfull]
      · rw [if_neg (by omega)]
        refine All.callS 2 (R := fun v H' => Cl tyCo 93 H3 H' v cs) (Sp.of (fun lo => cloneCo_ok (k := k + 4) ((h1.c.mono hE13).lo gets_co) (by omega)) fun v H' lo' h => h.lo gets_co) fun u H4 hE4 hu => ?_
        have hE14 := hE13.trans hE4
        simp only [co_ld (PtC.of (hE14.get_of g1)), onV_s, build85_1, onVH_s]
        have hE5 := Ext.push H4 (.row (coC c) 93 false)
        have hpt : SlR tyCo (H4.push (.row (coC c) 93 false)) (.slice (some ⟨H4.n, 0, none⟩) 1 1) [c] := SlR.pt GH.get_push_new
        obtain ⟨new, hf, hnc⟩ := hpt.first
        obtain ⟨v', H6, ha, hE6, hcl6, hkeep⟩ := Cl.app (t := 85) (xt := 85) (v := u) (y := .slice (some ⟨H4.n, 0, none⟩) 1 1) (ys := [c]) flat_co (hu.ext hE5) u85 u85 el93 ⟨_, _, rfl⟩ hf hnc (by simp) (by simp; omega) (hE4.trans hE5)
        have k0 := hkeep _ _ _ _ (hE5.get_of (hE14.get_of g0)) (by decide)
        have k2 := hkeep _ _ _ _ (hE5.get_of (hE14.get_of g2)) (by decide)
        obtain ⟨av, cv, rfl⟩ := hcl6.slr.val
        have hs1 := store1 (t := 85) (o := 0) (v := .slice av (cs ++ [c]).length cv) k0 (gSize_ld ld85) rfl rfl (by simp)
        simp only [ha, onVH_s, fa88, onV_s, hs1, onH_s]
        have hH6 : Ext H H6 := (hE.trans hE13).trans hE6
        have hH7 : Ext H (H6.set H.n (.row ([vC, vH].set 0 (.slice av (cs ++ [c]).length cv)) 88 false)) := hH6.set (Nat.le_refl _) (GH.get_lt k0) _
        have k0' := GH.get_set_same (o := .row ([vC, vH].set 0 (.slice av (cs ++ [c]).length cv)) 88 false) k0
        have k2' : (H6.set H.n (.row ([vC, vH].set 0 (.slice av (cs ++ [c]).length cv)) 88 false)).get (H.n + 2) = some (.row [.slice none 0 0, .slice none 0 0] 88 false) := (GH.get_set_other (by omega) (GH.get_lt k0)).trans k2
        have hlt : H.n < H3.n := Nat.lt_of_lt_of_le (GH.get_lt g0) hE13.n
        have hcl7 := hcl6.set flat_co hlt (.row ([vC, vH].set 0 (.slice av (cs ++ [c]).length cv)) 88 false) (GH.get_lt k0)
        revert hH7 k0' k2' hcl7
        generalize H6.set H.n (.row ([vC, vH].set 0 (.slice av (cs ++ [c]).length cv)) 88 false) = H7
        intro hH7 k0' k2' hcl7
        unfold f35_r9
        simp only [st_ld (PtC.of k0'), onV_s]
        refine All.callE (clone_ok (k := k + 3) ⟨hcl7.slr, h.h.mono hH7⟩ (by simp; omega) (by omega)) fun w H8 hw => ?_
        obtain ⟨hE8, w1, w2, hw, hw1, hw2⟩ := hw
        have hE8 : Ext H7 H8 := hE8
        have hw : w = stV w1 w2 := hw
        subst hw
        obtain ⟨aw, cw, rfl⟩ := hw1.slr.val
        obtain ⟨aw', cw', rfl⟩ := (hw2.cl (by omega)).slr.val
        obtain ⟨H', r1, r2⟩ := ret2 (H0 := H) (e := .int .i64 0) (a1 := aw) (a2 := aw') (n1 := (cs ++ [c]).length) (n2 := hs.length) (c1 := cw) (c2 := cw') (show H.n ≤ H.n + 2 by omega) (hH7.trans hE8) (hE8.get_of k2') rfl
        rw [r2]
        refine All.mk ⟨r1, aw, (cs ++ [c]).length, cw, aw', hs.length, cw', ?_, fun h => absurd he h⟩
        rw [if_neg (fun h => h he), if_neg (by simp), if_neg hfull]
  · rw [if_pos he]
    obtain ⟨H', r1, r2⟩ := ret2 (H0 := H) (e := .int .i64 (chk cs hs)) (a1 := none) (a2 := none) (n1 := 0) (n2 := 0) (c1 := 0) (c2 := 0) (show H.n ≤ H.n + 2 by omega) (hE.trans hE2) (hE2.get_of g2) rfl
    rw [r2]
    refine All.mk ⟨r1, none, 0, 0, none, 0, 0, ?_, fun _ => rfl⟩
    rw [if_pos he]
end
end Go.Proofs.Ythicilkmjamefaa
/- The program's Release. -/
namespace Go.Proofs.Ythicilkmjamefaa
open Go.Gh
set_option linter.unusedVariables false
set_option linter.unusedSimpArgs false

/-- Rows of other types stand as they were. -/
def Kp (e : TypeId) (H H' : GH) : Prop := ∀ q row e1 ro, H.get q = some (.row row e1 ro) → e1 ≠ e → H'.get q = some (.row row e1 ro)
theorem Kp.of {e : TypeId} {H H' : GH} (h : Ext H H') : Kp e H H' := fun q row e1 ro hq _ => h.get_of hq
theorem Kp.trans {e : TypeId} {H H' H2 : GH} (h : Kp e H H') (h2 : Kp e H' H2) : Kp e H H2 := fun q row e1 ro hq hn => h2 q row e1 ro (h q row e1 ro hq hn) hn
theorem zero91 : gZero Try.prog 91 = some (.agg #[.int .i64 0, .int .i64 0, .int .i64 0]) := by kernel_rfl
theorem zero93 : gZero Try.prog 93 = some (.agg #[.int .i64 0, .int .i64 0]) := by kernel_rfl
theorem zHo : ∀ (H : GH) (z : Value), gZero Try.prog 91 = some z → tyHo.rep H z.cells.toList ⟨0, 0, 0⟩ := fun H z h => by
  rw [zero91] at h
  rw [← Option.some.inj h]
  rfl
theorem zCo : ∀ (H : GH) (z : Value), gZero Try.prog 93 = some z → tyCo.rep H z.cells.toList ⟨0, 0⟩ := fun H z h => by
  rw [zero93] at h
  rw [← Option.some.inj h]
  rfl
section
variable {k k' : Nat} {g v : Value} {xs : List HoldD} {H0 H : GH} {pr : HoldD → Bool} {Inv : GH → Prop} {Q : Value × GH → Prop}
theorem ix_l2 (hg : ∀ x H', Inv H' → Ev (C k g [hoV x] H') fun r => Ext H' r.2 ∧ r.1 = .bool (pr x)) (hI : ∀ H' H'', Inv H' → Ext H' H'' → Inv H'') (h : SlR tyHo H0 v xs) (hl : xs.length ≤ 1000) (hi0 : Inv H0) :
    ∀ (r i : Nat) (H : GH), i ≤ xs.length → xs.length - i < r → Ext H0 H → (∀ n (hn : n < xs.length), n < i → pr xs[n] = false) →
      Ev (f159_l2 (C k) k' r v g (.int .i64 xs.length) (.int .i64 i) H) fun r => Ext H0 r.2 ∧ ((r.1 = .int .i64 (-1) ∧ ∀ x ∈ xs, pr x = false) ∨ ∃ n : Nat, r.1 = .int .i64 n ∧ ∃ hn : n < xs.length, pr xs[n] = true) := by
  intro r
  induction r with
  | zero => intro i H _ h; omega
  | succ r ih =>
    intro i H hi hr hE hall
    show Ev (f159_l2b (C k) k' (f159_l2 (C k) k' r) v g (.int .i64 xs.length) (.int .i64 i) H) _
    unfold f159_l2b
    simp only [bin_lss, onV_s, asB_b, onBool_d]
    by_cases hlt : i < xs.length
    · rw [if_pos (by omega)]
      obtain ⟨q, e1, e2⟩ := ho_at (h.mono hE) (k := .i64) hlt
      simp only [e1, ho_ld e2, onV_s]
      refine Ev.call0 (hg _ _ (hI _ _ hi0 hE)) fun w H2 hw => ?_
      obtain ⟨hE2, hw⟩ := hw
      have hE2 : Ext H H2 := hE2
      have hw : w = .bool (pr xs[i]) := hw
      subst hw
      simp only [asB_b, onBool_i]
      cases hp : pr xs[i] with
      | true =>
        simp only [if_true]
        exact Ev.mk ⟨hE.trans hE2, .inr ⟨i, rfl, hlt, hp⟩⟩
      | false =>
        simp only [Bool.false_eq_true, if_false, bin_add, onV_s]
        rw [wrS (by omega)]
        refine ih (i + 1) H2 (by omega) (by omega) (hE.trans hE2) fun n hn hni => ?_
        rcases Nat.lt_or_ge n i with h' | h'
        · exact hall n hn h'
        · have : n = i := by omega
          subst this
          exact hp
    · rw [if_neg (by omega)]
      refine Ev.mk ⟨hE, .inl ⟨rfl, fun x hx => ?_⟩⟩
      obtain ⟨n, hn, rfl⟩ := List.getElem_of_mem hx
      exact hall n hn (by omega)
theorem index_ok (hk : 2000 ≤ k) (hg : ∀ x H', Inv H' → Ev (C k g [hoV x] H') fun r => Ext H' r.2 ∧ r.1 = .bool (pr x)) (hI : ∀ H' H'', Inv H' → Ext H' H'' → Inv H'') (h : SlR tyHo H v xs) (hl : xs.length ≤ 1000) (hi0 : Inv H) :
    Ev (C (k + 1) (.func (.func 159) #[] #[]) [v, g] H) fun r => Ext H r.2 ∧ ((r.1 = .int .i64 (-1) ∧ ∀ x ∈ xs, pr x = false) ∨ ∃ n : Nat, r.1 = .int .i64 n ∧ ∃ hn : n < xs.length, pr xs[n] = true) := by
  rw [C_func T159, f159_eq]
  unfold f159_sh
  simp only [h.oLen u86, onV_s]
  exact ix_l2 hg hI h hl hi0 k 0 H (Nat.zero_le _) (by omega) (.refl _) fun n _ hn => by omega
theorem contains_ok (hk : 2000 ≤ k) (hg : ∀ x H', Inv H' → Ev (C k g [hoV x] H') fun r => Ext H' r.2 ∧ r.1 = .bool (pr x)) (hI : ∀ H' H'', Inv H' → Ext H' H'' → Inv H'') (h : SlR tyHo H v xs) (hl : xs.length ≤ 1000) (hi0 : Inv H) :
    Ev (C (k + 2) (.func (.func 100) #[] #[]) [v, g] H) fun r => Ext H r.2 ∧ r.1 = .bool (xs.any pr) := by
  rw [C_func T100, f100_eq]
  unfold f100_sh
  refine Ev.call0 (index_ok hk hg hI h hl hi0) fun w H2 hw => ?_
  obtain ⟨hE2, hw⟩ := hw
  have hE2 : Ext H H2 := hE2
  rcases hw with ⟨hw, hall⟩ | ⟨n, hw, hn, hp⟩
  · have hw : w = .int .i64 (-1) := hw
    subst hw
    simp only [bin_geq, onV_s]
    refine Ev.mk ⟨hE2, ?_⟩
    have : xs.any pr = false := by rw [List.any_eq_false]; exact fun x hx => by rw [hall x hx]; decide
    rw [this]
    rfl
  · have hw : w = .int .i64 n := hw
    subst hw
    simp only [bin_geq, onV_s]
    refine Ev.mk ⟨hE2, ?_⟩
    have : xs.any pr = true := by rw [List.any_eq_true]; exact ⟨_, List.getElem_mem hn, hp⟩
    rw [this, decide_eq_true (by omega)]
theorem df_l5 {n : Nat} (hg : ∀ x H', Inv H' → Ev (C k g [hoV x] H') fun r => Ext H' r.2 ∧ r.1 = .bool (pr x)) (hI : ∀ H' H'', Inv H' → Kp 91 H' H'' → Inv H'') {H1 : GH} (hl : n ≤ 1000)
    (hQ : ∀ v' H' ys, Ow tyHo 91 H0 H' v' ys → ys.length ≤ n → Ext H0 H' → Kp 91 H1 H' → Q (v', H')) :
    ∀ (r i j : Nat) (H : GH) (xs : List HoldD), i < j → j ≤ n → n - j < r → xs.length = n → Ext H0 H → Kp 91 H1 H → Inv H → Ow tyHo 91 H0 H v xs → All (f106_l5 (C k) k' r v g (.int .i64 i) (.int .i64 j) H) Q := by
  intro r
  induction r with
  | zero => intro i j H xs _ _ h; omega
  | succ r ih =>
    intro i j H xs hij hj hr hxl hE hK hi ho
    subst hxl
    show All (f106_l5b (C k) k' (f106_l5 (C k) k' r) v g (.int .i64 i) (.int .i64 j) H) Q
    unfold f106_l5b
    simp only [ho.slr.oLen u86, onV_s, bin_lss, asB_b, onBool_d]
    by_cases hlt : j < xs.length
    · rw [if_pos (by omega)]
      obtain ⟨q, e1, e2⟩ := ho_at ho.slr (k := .i64) hlt
      obtain ⟨H2, f1, f2, f3, f4⟩ := box (P := Try.prog) (t := 91) (H := H) (v := hoV xs[j]) (cs := hoC xs[j]) (row := [(.int .i64 0), (.int .i64 0), (.int .i64 0)]) (e := 91) (gSize_ld ld91) rfl rfl rfl
      simp only [e1, onV_s, ho_ld e2, f1, onH_s, ho_ld (PtC.of f3)]
      refine All.callE (hg _ _ (hI _ _ hi (Kp.of f2))) fun w H3 hw => ?_
      obtain ⟨hE3, hw⟩ := hw
      have hE3 : Ext H2 H3 := hE3
      have hw : w = .bool (pr xs[j]) := hw
      subst hw
      have hE13 := f2.trans hE3
      simp only [not_b, onV_s, asB_b, onBool_i]
      cases hp : pr xs[j] with
      | true =>
        simp only [Bool.not_true, Bool.false_eq_true, if_false, bin_add, onV_s]
        rw [wrS (by omega)]
        exact ih i (j + 1) H3 xs (by omega) (by omega) (by omega) rfl (hE.trans hE13) (hK.trans (Kp.of hE13)) (hI _ _ hi (Kp.of hE13)) (ho.ext hE13)
      | false =>
        simp only [Bool.not_false, if_true]
        unfold f106_r9
        obtain ⟨q', H4, g1, g2, g3, g4, g5⟩ := (ho.ext hE13).put (P := Try.prog) (t := 86) (i := i) (y := hoV xs[j]) (x := xs[j]) flat_ho u86 (gSize_ld ld91) (by omega) rfl (hE.trans hE13) (k := .i64)
        simp only [ho_ld (PtC.of (hE3.get_of f3)), g1, g2, onV_s, onH_s, bin_add]
        rw [wrS (by omega), wrS (by omega)]
        exact ih (i + 1) (j + 1) H4 _ (by omega) (by omega) (by omega) (by rw [List.length_set]) g3 ((hK.trans (Kp.of hE13)).trans g5) (hI _ _ hi ((Kp.of hE13).trans g5)) g4
    · rw [if_neg (by omega)]
      unfold f106_r11
      obtain ⟨v1, H', v3, g1, g2, g3, g4, g5, g6⟩ := ho.cut (P := Try.prog) (t := 86) (i := i) flat_ho u86 el91 (by omega) hE zHo (k := .i64)
      simp only [g1, g2, g3, onV_s, onH_s]
      exact All.mk (hQ _ _ _ g5 (by rw [List.length_take]; omega) g4 (hK.trans g6))
theorem delFunc_ok (hk : 2000 ≤ k) (hg : ∀ x H', Inv H' → Ev (C k g [hoV x] H') fun r => Ext H' r.2 ∧ r.1 = .bool (pr x)) (hg' : ∀ x H', Inv H' → Ev (C (k + 1) g [hoV x] H') fun r => Ext H' r.2 ∧ r.1 = .bool (pr x)) (hI : ∀ H' H'', Inv H' → Kp 91 H' H'' → Inv H'') (hE : Ext H0 H) (h : Ow tyHo 91 H0 H v xs) (hl : xs.length ≤ 1000) (hi0 : Inv H) :
    All (C (k + 2) (.func (.func 106) #[] #[]) [v, g] H) fun r => Ext H0 r.2 ∧ Kp 91 H r.2 ∧ ∃ ys, Ow tyHo 91 H0 r.2 r.1 ys ∧ ys.length ≤ xs.length := by
  rw [C_func T106, f106_eq]
  unfold f106_sh
  refine All.callE (index_ok hk hg (fun H' H'' a b => hI _ _ a (Kp.of b)) h.slr hl hi0) fun w H2 hw => ?_
  obtain ⟨hE2, hw⟩ := hw
  have hE2 : Ext H H2 := hE2
  rcases hw with ⟨hw, hall⟩ | ⟨n, hw, hn, hp⟩
  · have hw : w = .int .i64 (-1) := hw
    subst hw
    simp only [bin_eql, onV_s, asB_b, onBool_d, if_true]
    exact All.mk ⟨hE.trans hE2, Kp.of hE2, xs, h.ext hE2, Nat.le_refl _⟩
  · have hw : w = .int .i64 n := hw
    subst hw
    simp only [bin_eql, onV_s, asB_b, onBool_d]
    rw [if_neg (by omega)]
    simp only [bin_add, onV_s]
    rw [wrS (by omega)]
    exact df_l5 (n := xs.length) (H1 := H) hg' hI hl (fun v' H' ys a b c d => ⟨c, d, ys, a, b⟩) (k + 1) n (n + 1) H2 xs (by omega) (by omega) (by omega) rfl (hE.trans hE2) (Kp.of hE2) (hI _ _ hi0 (Kp.of hE2)) (h.ext hE2)
theorem byOrd_ok {k b : Nat} {o : Int} {x : HoldD} {H : GH} (hg : H.get b = some (.row [.int .i64 o] 3 false)) : Ev (C (k + 1) (.func (.func 107) #[] #[.pointer (some ⟨b, 0, none⟩)]) [hoV x] H) fun r => Ext H r.2 ∧ r.1 = .bool (decide (x.ord = o)) := by
  rw [C_clos T107, show ([hoV x] ++ (#[.pointer (some ⟨b, 0, none⟩)] : Array Value).toList : List Value) = [hoV x, .pointer (some ⟨b, 0, none⟩)] from rfl, f107_eq]
  unfold f107_sh
  have hc : (Value.cells (hoV x)).toList = hoC x := rfl
  rw [hc]
  have hE := Ext.push H (.row (hoC x) 91 false)
  have l0 : gLoad Try.prog 3 (.pointer (some ⟨H.n, 0, none⟩)) (H.push (.row (hoC x) 91 false)) = some (.int .i64 x.ord) := PtC.load1 (P := Try.prog) (t := 3) ⟨H.n, 0, _, _, _, rfl, GH.get_push_new, by simp [hoC], rfl⟩ ld3
  have l1 : gLoad Try.prog 3 (.pointer (some ⟨b, 0, none⟩)) (H.push (.row (hoC x) 91 false)) = some (.int .i64 o) := PtC.load1 (P := Try.prog) (t := 3) (PtC.of (hE.get_of hg)) ld3
  simp only [l0, l1, onV_s, bin_eql]
  exact Ev.mk ⟨hE, rfl⟩
theorem fa88_1 {b : Nat} : oFieldAddr Try.prog 88 (.pointer (some ⟨b, 0, none⟩)) 1 = some (.pointer (some ⟨b, 1, none⟩)) := by kernel_rfl
/-- The call's answer: a stock and an error. -/
def Ans (H : GH) (code : Int → Nat → Prop) (r : Value × GH) : Prop := Ext H r.2 ∧ ∃ a1 n1 c1 a2 n2 c2 e, r.1 = .tuple #[stV (.slice a1 n1 c1) (.slice a2 n2 c2), .int .i64 e] ∧ code e n1
/-- The same, of a call that also tells the knots. -/
def Ans3 (H : GH) (code : Int → Int → Prop) (r : Value × GH) : Prop := Ext H r.2 ∧ ∃ a1 n1 c1 a2 n2 c2 n e, r.1 = .tuple #[stV (.slice a1 n1 c1) (.slice a2 n2 c2), .int .i64 n, .int .i64 e] ∧ code n e
theorem err2 {H0 H : GH} {b : Nat} {row : List Value} {code : Int → Nat → Prop} {e : Int} (hb : H0.n ≤ b) (hE : Ext H0 H) (hg : H.get b = some (.row row 88 false)) (hr : row.length = 2) (he : code e 0) :
    All (onH (gStore Try.prog 88 (.pointer (some ⟨b, 0, none⟩)) (stV (.slice none 0 0) (.slice none 0 0)) H) fun H5 => onV (gResL Try.prog H5 [(.pointer (some ⟨b, 0, none⟩), some 88), (.int .i64 e, none)]) fun v => some [(v, H5)]) (Ans H0 code) := by
  obtain ⟨H', r1, r2⟩ := ret2 (H0 := H0) (e := .int .i64 e) (a1 := none) (a2 := none) (n1 := 0) (n2 := 0) (c1 := 0) (c2 := 0) hb hE hg hr
  rw [r2]
  exact All.mk ⟨r1, none, 0, 0, none, 0, 0, e, rfl, he⟩
/-- A clone of a stock is handed back. -/
theorem clone2 {k b : Nat} {H0 H : GH} {row : List Value} {code : Int → Nat → Prop} {e : Int} {vC vH : Value} {cs : List ConeD} {hs : List HoldD} (h : StI H vC vH cs hs) (hc : cs.length ≤ 1000000) (hh : hs.length ≤ 1000000) (hb : H0.n ≤ b) (hE : Ext H0 H) (hg : H.get b = some (.row row 88 false)) (hr : row.length = 2) (he : ∀ n, code e n) :
    All (onCall 0 (C (k + 2)) (.func (.func 99) #[] #[]) [stV vC vH] H fun v H3 => onH (gStore Try.prog 88 (.pointer (some ⟨b, 0, none⟩)) v H3) fun H5 => onV (gResL Try.prog H5 [(.pointer (some ⟨b, 0, none⟩), some 88), (.int .i64 e, none)]) fun v => some [(v, H5)]) (Ans H0 code) := by
  refine All.callE (clone_ok (k := k) h hc hh) fun w H8 hw => ?_
  obtain ⟨hE8, w1, w2, hw, hw1, hw2⟩ := hw
  have hE8 : Ext H H8 := hE8
  have hw : w = stV w1 w2 := hw
  subst hw
  obtain ⟨aw, cw, rfl⟩ := hw1.slr.val
  obtain ⟨aw', cw', rfl⟩ := (hw2.cl hh).slr.val
  obtain ⟨H', r1, r2⟩ := ret2 (H0 := H0) (e := .int .i64 e) (a1 := aw) (a2 := aw') (n1 := cs.length) (n2 := hs.length) (c1 := cw) (c2 := cw') hb (hE.trans hE8) (hE8.get_of hg) hr
  rw [r2]
  exact All.mk ⟨r1, aw, _, cw, aw', _, cw', e, rfl, he _⟩
theorem SlR.keepCo {H H' : GH} {v : Value} {cs : List ConeD} {H0 : GH} (h : Ow tyCo 93 H0 H v cs) (hk : Kp 91 H H') : Ow tyCo 93 H0 H' v cs := h.keep flat_co fun q row ro hq => hk _ _ _ _ hq (by decide)
theorem release_ok {k : Nat} {vC vH : Value} {cs : List ConeD} {hs : List HoldD} {H : GH} (hk : 5000 ≤ k) (h : StI H vC vH cs hs) (hl : hs.length ≤ 1000) (hcl : cs.length ≤ 1000) (o : Int) :
    All (C (k + 6) (.func (.func 37) #[] #[]) [stV vC vH, .int .i64 o] H) (Ans H fun e _ => (chk cs hs ≠ 0 → e = chk cs hs) ∧ (chk cs hs = 0 → e = 0 ∨ e = 7)) := by
  rw [C_func T37, f37_eq]
  unfold f37_sh
  have hcl' : (Value.cells (stV vC vH)).toList = [vC, vH] := rfl
  have hcc : (Value.cells (.int .i64 o)).toList = [.int .i64 o] := rfl
  rw [hcl', hcc]
  have hn1 : (H.push (.row [vC, vH] 88 false)).n = H.n + 1 := rfl
  have hn2 : ((H.push (.row [vC, vH] 88 false)).push (.row [.int .i64 o] 3 false)).n = H.n + 2 := rfl
  rw [hn1, hn2]
  have hE : Ext H (((H.push (.row [vC, vH] 88 false)).push (.row [.int .i64 o] 3 false)).push (.row [(.slice none 0 0), (.slice none 0 0)] 88 false)) := ((Ext.push _ _).push' _).push' _
  have g0 : (((H.push (.row [vC, vH] 88 false)).push (.row [.int .i64 o] 3 false)).push (.row [(.slice none 0 0), (.slice none 0 0)] 88 false)).get H.n = some (.row [vC, vH] 88 false) :=
    (GH.get_push_old (by show H.n < H.n + 2; omega)).trans ((GH.get_push_old (by show H.n < H.n + 1; omega)).trans GH.get_push_new)
  have g1 : (((H.push (.row [vC, vH] 88 false)).push (.row [.int .i64 o] 3 false)).push (.row [(.slice none 0 0), (.slice none 0 0)] 88 false)).get (H.n + 1) = some (.row [.int .i64 o] 3 false) :=
    (GH.get_push_old (by show H.n + 1 < H.n + 2; omega)).trans GH.get_push_new
  have g2 : (((H.push (.row [vC, vH] 88 false)).push (.row [.int .i64 o] 3 false)).push (.row [(.slice none 0 0), (.slice none 0 0)] 88 false)).get (H.n + 2) = some (.row [(.slice none 0 0), (.slice none 0 0)] 88 false) := GH.get_push_new
  have h1 := h.mono hE
  revert hE g0 g1 g2 h1
  generalize (((H.push (.row [vC, vH] 88 false)).push (.row [.int .i64 o] 3 false)).push (.row [(.slice none 0 0), (.slice none 0 0)] 88 false)) = H1
  intro hE g0 g1 g2 h1
  simp only [st_ld (PtC.of g0), onV_s]
  refine All.call0 (check_ok hk h1 hl hcl) fun v H2 hv => ?_
  obtain ⟨hE2, hv⟩ := hv
  have hE2 : Ext H1 H2 := hE2
  have hv : v = .int .i64 (chk cs hs) := hv
  subst hv
  have hnil : ((.agg #[(.slice none 0 0), (.slice none 0 0)]) : Value) = stV (.slice none 0 0) (.slice none 0 0) := rfl
  simp only [bin_neq, onV_s, asB_b, onBool_d, hnil]
  by_cases he : chk cs hs = 0
  · rw [if_neg (fun h => h he)]
    simp only [st_ld (PtC.of (hE2.get_of g0)), onV_s]
    refine All.callE (clone_ok (k := k + 3) (h1.mono hE2) (by omega) (by omega)) fun w H3 hw => ?_
    obtain ⟨hE3, w1, w2, hw, hw1, hw2⟩ := hw
    have hE3 : Ext H2 H3 := hE3
    have hw : w = stV w1 w2 := hw
    subst hw
    have hE13 := hE2.trans hE3
    have hE03 := hE.trans hE13
    have hx1 : Ow tyCo 93 H H3 w1 cs := hw1.old (hE.trans hE2).n
    have hx2 : Ow tyHo 91 H H3 w2 hs := (hw2.ow (by omega)).old (hE.trans hE2).n
    clear hw1 hw2
    obtain ⟨aw, cw, rfl⟩ := hx1.slr.val
    obtain ⟨aw', cw', rfl⟩ := hx2.slr.val
    obtain ⟨H4, f1, f2, f3, f4⟩ := box (P := Try.prog) (t := 88) (H := H3) (v := stV (.slice aw cs.length cw) (.slice aw' hs.length cw')) (cs := [.slice aw cs.length cw, .slice aw' hs.length cw']) (row := [.slice none 0 0, .slice none 0 0]) (e := 88) (gSize_ld ld88) rfl rfl rfl
    simp only [f1, onH_s]
    unfold f37_r5
    have hE13n : H1.n ≤ H3.n := hE13.n
    have b3 : H3.n ≠ H.n := by have := GH.get_lt g0; omega
    have b4 : H3.n ≠ H.n + 2 := by have := GH.get_lt g2; omega
    have l7 : gLoad Try.prog 86 (.pointer (some ⟨H3.n, 1, none⟩)) H4 = some (.slice aw' hs.length cw') := PtC.load1 (P := Try.prog) (t := 86) ⟨H3.n, 1, _, _, _, rfl, f3, by simp, rfl⟩ ld86
    simp only [fa88_1, l7, onV_s]
    have gx : H4.get (H.n + 1) = some (.row [.int .i64 o] 3 false) := f2.get_of (hE13.get_of g1)
    refine All.call0 (delFunc_ok (k := k + 3) (H0 := H) (by omega) (pr := fun x => decide (x.ord = o)) (Inv := fun H' => H'.get (H.n + 1) = some (.row [.int .i64 o] 3 false)) (fun x H' hi => byOrd_ok (k := k + 2) hi) (fun x H' hi => byOrd_ok (k := k + 3) hi) (fun H' H'' a b => b _ _ _ _ a (by decide)) (hE03.trans f2) (hx2.ext f2) hl gx) fun u H5 hu => ?_
    obtain ⟨hE5, hK5, ys, hu, hyl⟩ := hu
    have hE5 : Ext H H5 := hE5
    have hK5 : Kp 91 H4 H5 := hK5
    have hu : Ow tyHo 91 H H5 u ys := hu
    obtain ⟨au, cu, rfl⟩ := hu.slr.val
    have f3' := hK5 _ _ _ _ f3 (by decide)
    have hs1 := store1 (P := Try.prog) (t := 86) (o := 1) (v := .slice au ys.length cu) f3' (gSize_ld ld86) rfl rfl (by simp)
    have hlt := GH.get_lt f3'
    have hH6 := hE5.set (b := H3.n) hE03.n hlt (.row ([.slice aw cs.length cw, .slice aw' hs.length cw'].set 1 (.slice au ys.length cu)) 88 false)
    have k7 := GH.get_set_same (o := .row ([.slice aw cs.length cw, .slice aw' hs.length cw'].set 1 (.slice au ys.length cu)) 88 false) f3'
    have kk : ∀ q, H3.n ≠ q → (H5.set H3.n (.row ([.slice aw cs.length cw, .slice aw' hs.length cw'].set 1 (.slice au ys.length cu)) 88 false)).get q = H5.get q := fun q hq => GH.get_set_other hq hlt
    simp only [hs1, onH_s]
    have kk2 : ∀ q row e1 ro, H5.get q = some (.row row e1 ro) → e1 ≠ 88 → (H5.set H3.n (.row ([.slice aw cs.length cw, .slice aw' hs.length cw'].set 1 (.slice au ys.length cu)) 88 false)).get q = some (.row row e1 ro) := fun q row e1 ro hq hne => (kk q (fun hh => by
      subst hh
      rw [f3'] at hq
      have := Option.some.inj hq
      injection this with _ h6 _
      exact hne h6.symm)).trans hq
    revert hH6 k7 kk kk2
    generalize H5.set H3.n (.row ([.slice aw cs.length cw, .slice aw' hs.length cw'].set 1 (.slice au ys.length cu)) 88 false) = H6
    intro hH6 k7 kk kk2
    have h0' : H6.get H.n = some (.row [vC, vH] 88 false) := (kk _ b3).trans (hK5 _ _ _ _ (f2.get_of (hE13.get_of g0)) (by decide))
    have h2' : H6.get (H.n + 2) = some (.row [.slice none 0 0, .slice none 0 0] 88 false) := (kk _ b4).trans (hK5 _ _ _ _ (f2.get_of (hE13.get_of g2)) (by decide))
    unfold f37_r6
    have l7' : gLoad Try.prog 86 (.pointer (some ⟨H3.n, 1, none⟩)) H6 = some (.slice au ys.length cu) := PtC.load1 (P := Try.prog) (t := 86) ⟨H3.n, 1, _, _, _, rfl, k7, by simp, rfl⟩ ld86
    have l0' : gLoad Try.prog 86 (.pointer (some ⟨H.n, 1, none⟩)) H6 = some vH := PtC.load1 (P := Try.prog) (t := 86) ⟨H.n, 1, _, _, _, rfl, h0', by simp, rfl⟩ ld86
    simp only [fa88_1, l7', l0', onV_s, hu.slr.oLen u86, h.h.oLen u86, bin_eql, asB_b, onBool_d, hnil]
    split
    · exact err2 (show H.n ≤ H.n + 2 by omega) hH6 h2' rfl ⟨fun h => absurd he h, fun _ => .inr rfl⟩
    · simp only [st_ld (PtC.of k7), onV_s]
      have o1 : Ow tyCo 93 H H6 (.slice aw cs.length cw) cs := (SlR.keepCo (hx1.ext f2) hK5).keep flat_co fun q row ro hq => kk2 _ _ _ _ hq (by decide)
      have o2 : Ow tyHo 91 H H6 (.slice au ys.length cu) ys := hu.keep flat_ho fun q row ro hq => kk2 _ _ _ _ hq (by decide)
      exact clone2 (k := k + 3) ⟨o1.slr, o2.slr⟩ (by omega) (by omega) (show H.n ≤ H.n + 2 by omega) hH6 h2' rfl fun _ => ⟨fun h => absurd he h, fun _ => .inl rfl⟩
  · rw [if_pos he]
    exact err2 (show H.n ≤ H.n + 2 by omega) (hE.trans hE2) (hE2.get_of g2) rfl ⟨fun _ => rfl, fun h => absurd h he⟩
end
end Go.Proofs.Ythicilkmjamefaa
