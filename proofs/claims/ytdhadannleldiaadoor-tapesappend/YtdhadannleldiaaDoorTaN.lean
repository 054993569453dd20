/- Tapes: the law, its loops. -/
import Derived.Test.YtdhadannleldiaaDoorTaJ
import Derived.Test.YtdhadannleldiaaDoorTaS6
namespace Go.Proofs.YtdhadannleldiaaDoor
open Go.Gh
set_option linter.unusedVariables false
set_option linter.unusedSimpArgs false

def Yes (r : Value × GH) : Prop := r.1 = .bool true
theorem GlIn.lo {H : GH} {lo : Nat} (h : GlIn H) : GlIn { H with lo := lo } := h
theorem lives_end {k : Nat} {H : GH} (hg : GlIn H) : Ev (onCall 0 (C (k + 1)) (.func (.func 4) #[] #[]) [] H fun v1 H2 => some [(v1, H2)]) Yes := by
  have h : Ev (C (k + 1) (.func (.func 4) #[] #[]) [] H) fun r => r = (.bool true, H) := by
    rw [C_none N4 rfl hg]
    exact Ev.mk rfl
  refine Ev.call0 h fun v H2 hv => ?_
  injection hv with h1 h2
  subst h1
  exact Ev.mk rfl
theorem lives_3 {k : Nat} {H : GH} (hg : GlIn H) : Ev (onCall 3 (C (k + 1)) (.func (.func 4) #[] #[]) [] H fun v1 H2 => some [(v1, H2)]) Yes := by
  refine Ev.call 3 (R := fun v _ => v = .bool true) (Sp.of (fun lo => ?_) (fun _ _ _ h => h)) fun v H2 _ hv => ?_
  · rw [C_none N4 rfl (GlIn.lo hg)]
    exact Ev.mk ⟨.refl _, rfl⟩
  · subst hv
    exact Ev.mk rfl

/-! ### Strings -/
def bstr : List Nat → ByteArray → ByteArray
  | [], s => s
  | x :: r, s => bstr r (s.push (UInt8.ofNat ((x : Int)).toNat))
theorem gBytes_b : ∀ (xs : List Nat) (s : ByteArray), gBytes (xs.map bv8) s = some (bstr xs s)
  | [], s => rfl
  | x :: r, s => gBytes_b r _
theorem isB : isBytes Tryd.prog 24 9 = true := by kernel_rfl
theorem str_ok {H : GH} {v : Value} {xs : List Nat} (h : SlR tyB H v xs) : gConvert Tryd.prog 24 9 v H = some (.string (bstr xs .empty)) := by
  obtain ⟨cs, h1, h2⟩ := h.first
  have h2 := cellsB_eq h2
  subst h2
  obtain ⟨a, c, rfl⟩ := h.val
  have h1 : gFirst 1 xs.length (.slice a xs.length c) H = some (xs.map bv8) := h1
  unfold gConvert
  rw [isB]
  simp only [if_true, h1, Option.bind_some, gBytes_b, Option.map_some]
theorem neqStr {s : ByteArray} : (oBin Tryd.prog .neq 9 (.string s) (.string s)).filter closed = some (.bool false) := by
  have h : oBin Tryd.prog .neq 9 (.string s) (.string s) = some (.bool !(s.toList == s.toList)) := rfl
  rw [h, beq_self_eq_true]
  rfl
theorem eqlStr {s : ByteArray} : (oBin Tryd.prog .eql 9 (.string s) (.string s)).filter closed = some (.bool true) := by
  have h : oBin Tryd.prog .eql 9 (.string s) (.string s) = some (.bool (s.toList == s.toList)) := rfl
  rw [h, beq_self_eq_true]
  rfl
theorem onSame_str {β : Type} {m : M β} {s : ByteArray} : onSame (some (.string s)) (some (.string s)) m = m := by simp [onSame, sameV, same1]
theorem onClosed_str {β : Type} {m : M β} {s : ByteArray} : onClosed true (.string s) m = m := rfl

/-! ### What was laid between two times stands -/
def Kp (N1 : Nat) (A B : GH) : Prop := ∀ q o, N1 ≤ q → A.get q = some o → B.get q = some o
theorem clKp {N1 : Nat} {H0 A B : GH} {v : Value} {xs : List Nat} (hn : N1 ≤ H0.n) (hk : Kp N1 A B) (h : Cl tyB 5 H0 A v xs) : Cl tyB 5 H0 B v xs :=
  h.keepB flat_b fun b o _ hb hg => hk b o (Nat.le_trans hn hb) hg
theorem bssKp {N1 : Nat} {H0 A B : GH} {v : Value} {bss : List (List Nat)} (hn : N1 ≤ H0.n) (hk : Kp N1 A B) (h : Bss H0 A v bss) : Bss H0 B v bss := by
  obtain ⟨vs, h1, h2, h3⟩ := h
  refine ⟨vs, ?_, h2, fun i w b a c => clKp hn hk (h3 i w b a c)⟩
  rcases h1 with h1 | ⟨b, cs, q1, q2, q3, q4⟩
  · exact .inl h1
  · exact .inr ⟨b, cs, q1, q2, hk _ _ (Nat.le_trans hn q2) q3, q4⟩
theorem ownSlrF {α : Type} {A : Ty α} {e : TypeId} {H0 H : GH} {v : Value} {xs : List α} (hA : A.Flat) (h : Own A e H0 H v xs) : SlR A H v xs := by
  rcases h with h | ⟨b, cs, h1, h2, h3, h4⟩
  · exact .inl h
  · exact .inr ⟨b, 0, _, cs, e, false, cs, h1, h3, by omega, by simp, h4.flat hA⟩
section
variable {k k' : Nat} {Hb : GH} {vp vl : Value} {ps : List Nat} {l : List OpD}
/-- The blocks are put behind what is wanted. -/
theorem lw_l16 {sg : Sg6} {H1 H2 G4 : GH} {at' i n next kv : Value} {e : Value} {bss : List (List Nat)} {xs : List Nat} (h12 : H1.n ≤ H2.n) (hx : xs.length + bss.flatten.length ≤ 100000) (hne : ∀ b ∈ bss, 0 < b.length) (hm : bss.length ≤ 100000) (hb : Bss H2 G4 kv bss)
    (hgo : ∀ G w, Ext Hb G → Kp H1.n G4 G → Cl tyB 5 Hb G w (xs ++ bss.flatten) → Ev (f3_r19 (C (k + 7)) k' sg vp vl w at' i n next e G) Yes) :
    ∀ (r j : Nat) (G : GH) (w : Value), bss.length - j < r → j ≤ bss.length → Ext Hb G → G4.n ≤ G.n → Kp H1.n G4 G → Cl tyB 5 Hb G w (xs ++ (bss.take j).flatten) → (∀ b, blkOf w = some b → b < H1.n ∨ G4.n ≤ b) →
      Ev (f3_l16 (C (k + 7)) k' sg r vp vl w at' i n next e kv (.int .i64 (j : Int)) G) Yes := by
  intro r
  induction r with
  | zero => intro j G w h; omega
  | succ r ih =>
    intro j G w hr hj hE hn hk hw hbw
    show Ev (f3_l16b (C (k + 7)) k' sg (f3_l16 (C (k + 7)) k' sg r) vp vl w at' i n next e kv (.int .i64 (j : Int)) G) Yes
    unfold f3_l16b
    obtain ⟨vs, b1, b2, b3⟩ := bssKp h12 hk hb
    have hs := ownSlrF flat_v b1
    simp only [hs.oLen u31, bin_lss, onV_n, asB_b, onBool_d]
    by_cases hlt : j < bss.length
    · rw [if_pos (by omega)]
      obtain ⟨p, cs, i1, i2, i3⟩ := hs.at u31 (elemOk_size el24) (k := .i64) (i := j) (by omega)
      obtain ⟨i3, i4⟩ := i3
      subst i3
      have hlv : vs[j]? = some (vs[j]'(by omega)) := List.getElem?_eq_getElem _
      have hlb : bss[j]? = some (bss[j]'hlt) := List.getElem?_eq_getElem _
      have hc := b3 j _ _ hlv hlb
      have l1 : gLoad Tryd.prog 24 p G = some (vs[j]'(by omega)) := i2.load1 ld24
      obtain ⟨new, hf, hnc⟩ := hc.slr.first
      have htk : (bss.take (j + 1)).flatten = (bss.take j).flatten ++ bss[j] := by
        rw [List.take_succ_eq_append_getElem hlt, List.flatten_append]
        simp
      have hlen : (bss.take (j + 1)).flatten.length ≤ bss.flatten.length := by
        conv => rhs; rw [← List.take_append_drop (j + 1) bss]
        rw [List.flatten_append, List.length_append]
        omega
      rw [htk, List.length_append] at hlen
      obtain ⟨w', H6, a1, a2, a3, a4, a5⟩ := hw.appB (P := Tryd.prog) (t := 24) (xt := 24) flat_b u24 u24 el5 (ys := bss[j]) hc.slr.val hf hnc (hne _ (List.getElem_mem hlt)) (by rw [List.length_append]; omega) hE
      simp only [i1, onV_n, l1, a1, onVH_s, bin_add]
      rw [wrS (by omega)]
      have hn6 : G.n ≤ H6.n := by
        rcases a3 with ⟨rfl, _⟩ | ⟨b, c, cs, rfl, _, g, _⟩
        · cases a5
        · injection a5 with hb
          have hb : b = G.n := hb
          have := GH.get_lt g
          omega
      refine ih (j + 1) H6 w' (by omega) (by omega) a2 (by omega) (fun q o hq ho => a4 q o (hk q o hq ho) fun hh => ?_) (by rw [htk, ← List.append_assoc]; exact a3) (fun b hb' => ?_)
      · have := GH.get_lt ho
        rcases hbw q hh with h | h <;> omega
      · rw [a5] at hb'
        injection hb' with hb'
        omega
    · rw [if_neg (by omega)]
      rw [List.take_of_length_le (by omega)] at hw
      exact hgo G w hE hk hw
/-- What stands before a part is put behind the tape. -/
structure Lw (Hb : GH) (l : List OpD) (ps : List Nat) (b w : Value) (at' i : Nat) (bs : List (List OpD)) (H : GH) : Prop where
  e : Ext Hb H
  tp : Tp H b bs false
  w : Cl tyB 5 Hb H w (tapeB bs false)
  ok : BsOk bs
  fl : bs.flatten = l.take at'
  le : at' ≤ l.length
  end' : i = ps.length + 1 → at' = l.length
/-- What the law knows of its arguments. -/
structure Lx (Hb : GH) (vp vl : Value) (ps : List Nat) (l : List OpD) : Prop where
  g : GlIn Hb
  p : SlR tyB Hb vp ps
  sc : Sc tyOp 48 Hb vl l
  ok : ∀ o ∈ l, OpOk o
  len : l.length ≤ 80
theorem tape_app (bs ds : List (List OpD)) : tapeB (bs ++ ds) false = tapeB bs false ++ (ds.map blk).flatten := by
  unfold tapeB tail
  simp [List.flatMap]
theorem bsOk_len {bs : List (List OpD)} (h : BsOk bs) : bs.length ≤ bs.flatten.length := many_le bs fun p hp => (h.1 p hp).1
theorem tape_size {bs : List (List OpD)} {fin : Bool} (h : BsOk bs) (hl : bs.flatten.length ≤ 200) : (tapeB bs fin).length ≤ 2000 := by
  have h1 := bsOk_len h
  have h2 := blks_len bs
  unfold tapeB tail
  cases fin <;> simp only [List.length_append, List.length_cons, List.length_nil, h2, if_true, Bool.false_eq_true, if_false, blk_len] <;> omega
section
variable {sg : Sg6} {b w : Value} {at' i n : Nat} {bs : List (List OpD)} {H1 : GH}
/-- What was put is read, as it should be. -/
theorem lw_19 {G : GH} {nx wv : Value} {bs' : List (List OpD)} (hk : 1000 ≤ k) (hx : Lx Hb vp vl ps l) (hE : Ext Hb G) (hok : BsOk bs') (hfl : bs'.flatten = l.take (at' + n)) (hle : at' + n ≤ l.length) (hip : i ≤ ps.length) (hpl : ps.length ≤ 20) (hnx : Sc tyB 5 G nx (tapeB bs' false)) (hw : Cl tyB 5 Hb G wv (tapeB bs' false))
    (hsg : ∀ H, Ext G H → Ev (sg vp vl nx wv (.int .i64 (at' + n : Nat)) (.int .i64 (i + 1 : Nat)) H) Yes) :
    Ev (f3_r19 (C (k + 7)) k' sg vp vl wv (.int .i64 (at' : Int)) (.int .i64 (i : Int)) (.int .i64 (n : Int)) nx (.int .i64 0) G) Yes := by
  unfold f3_r19
  have hlen := hx.len
  have hbl := bsOk_len hok
  have hfn : bs'.flatten.length = at' + n := by rw [hfl, List.length_take]; omega
  have e1 : IntKind.wrap .i64 ((at' : Int) + (n : Int)) = ((at' + n : Nat) : Int) := by rw [Go.IntWalk.i64_in _ (by omega)]; omega
  simp only [bin_add, e1, onV_n]
  refine Ev.call0 (salvage_ok (k := k + 1) (by omega) (GlIn.ext hx.g hE) (by omega) hnx hok) fun u H2 hu => ?_
  obtain ⟨q1, m, q2, q3, q4⟩ := hu
  have hE2 : Ext G H2 := q1
  have hu : u = .tuple #[m, .bool false] := q2
  have hm : Sc tyOp 48 H2 m bs'.flatten := q3
  clear q1 q2 q3
  subst hu
  simp only [x0_, x1_, onV_n]
  refine Ev.call0 (decodeT_ok (k := k + 1) (by omega) (GlIn.ext hx.g (hE.trans hE2)) (by omega) (hnx.mono hE2) hok) fun u H3 hu => ?_
  obtain ⟨q1, m2, q2, _⟩ := hu
  have hE3 : Ext H2 H3 := q1
  have hu : u = .tuple #[m2, .int .i64 4] := q2
  clear q1 q2
  subst hu
  have hE23 := hE2.trans hE3
  simp only [x0_, x1_, onV_n]
  unfold f3_r22 f3_g22_3 f3_g22_10
  obtain ⟨v1, s1, s2⟩ := (hx.sc.mono (hE.trans hE23)).to (P := Tryd.prog) (t := 26) (m := at' + n) u26 (elemOk_size el48) hle (k := .i64)
  rw [← hfl] at s2
  have w1 := str_ok (hnx.slr.mono hE23)
  have w2 := str_ok (hw.slr.mono hE23)
  simp only [bin_neq, onV_n, asB_b, onBool_d]
  rw [if_neg (fun h => h rfl)]
  simp only [w1, w2, onV_n, neqStr, asB_b, onBool_i, Bool.false_eq_true, if_false, s1]
  refine Ev.call0 (same_ok (k := k + 6) (hm.slr.mono hE3) q4 s2.slr (by omega) (by omega)) fun u H4 hu => ?_
  injection hu with h1 h2
  have h2 := h2.symm
  subst h1; subst h2
  unfold f3_g22_18 f3_g22_21
  simp only [bin_eql, bin_neq, onV_n, asB_b, onBool_d]
  rw [if_neg (by decide)]
  simp only [asB_b, onBool_i, Bool.false_eq_true, if_false]
  rw [if_neg (fun h => h rfl)]
  simp only [bin_add, onV_n]
  rw [wrS (by omega)]
  exact hsg H3 hE23
theorem lw_13 (hk : 1000 ≤ k) (hk' : 1000 ≤ k') (hx : Lx Hb vp vl ps l) (hpl : ps.length ≤ 20) (hI : Lw Hb l ps b w at' i bs H1) (hip : i ≤ ps.length) (hn : n ≤ l.length - at') (hn' : i = ps.length → n = l.length - at')
    (hsg : ∀ H b' w' bs', Lw Hb l ps b' w' (at' + n) (i + 1) bs' H → Ev (sg vp vl b' w' (.int .i64 (at' + n : Nat)) (.int .i64 (i + 1 : Nat)) H) Yes) :
    Ev (f3_r13 (C (k + 7)) k' sg vp vl b w (.int .i64 (at' : Int)) (.int .i64 (i : Int)) (.int .i64 (n : Int)) H1) Yes := by
  unfold f3_r13
  have hlen := hx.len
  have hle := hI.le
  have hbl := bsOk_len hI.ok
  have hfn : bs.flatten.length = at' := by rw [hI.fl, List.length_take]; omega
  have e1 : IntKind.wrap .i64 ((at' : Int) + (n : Int)) = ((at' + n : Nat) : Int) := by rw [Go.IntWalk.i64_in _ (by omega)]; omega
  obtain ⟨v2, s1, s2⟩ := hx.sc.mid (P := Tryd.prog) (t := 26) (i := at') (m := at' + n) u26 (elemOk_size el48) (by omega) (by omega) (k := .i64) (k' := .i64)
  rw [Nat.add_sub_cancel_left] at s2
  have hpo : ∀ o ∈ (l.drop at').take n, OpOk o := fun o h => hx.ok o (List.mem_of_mem_drop (List.mem_of_mem_take h))
  have hpn : ((l.drop at').take n).length = n := by rw [List.length_take, List.length_drop]; omega
  simp only [bin_add, e1, onV_n, s1]
  refine Ev.call0 (append_ok (k := k) hk (GlIn.ext hx.g hI.e) (by omega) hI.tp hI.ok (s2.mono hI.e) hpo (by omega) (by omega)) fun u H2 hu => ?_
  obtain ⟨q1, nx, q2, q3⟩ := hu
  have hE2 : Ext H1 H2 := q1
  have hu : u = .tuple #[nx, .int .i64 0] := q2
  have hnx : Cl tyB 5 H1 H2 nx (tapeB (bs ++ pieces 32 ((l.drop at').take n)) false) := q3
  clear q1 q2 q3
  subst hu
  simp only [x0_, x1_, onV_n]
  unfold f3_r14
  simp only [bin_add, e1, onV_n, s1]
  have hE02 := hI.e.trans hE2
  refine Ev.call0 (lawblocks_ok (k := k + 4) (by omega) (s2.mono hE02) hpo (by omega)) fun kv H4 hu => ?_
  obtain ⟨q1, q2⟩ := hu
  have hE4 : Ext H2 H4 := q1
  have hb : Bss H2 H4 kv ((pieces 32 ((l.drop at').take n)).map blk) := q2
  clear q1 q2
  have hpf := pieces_flat (c := 32) (by decide) ((l.drop at').take n).length ((l.drop at').take n) (Nat.le_refl _)
  have hpm := pieces_mem (c := 32) (by decide) ((l.drop at').take n).length ((l.drop at').take n) (Nat.le_refl _)
  have hfl' : (bs ++ pieces 32 ((l.drop at').take n)).flatten = l.take (at' + n) := by
    rw [List.flatten_append, hpf, hI.fl]
    rw [List.take_add]
  have hok' : BsOk (bs ++ pieces 32 ((l.drop at').take n)) := by
    refine ⟨fun p hp => ?_, by rw [hfl', List.length_take]; omega⟩
    rcases List.mem_append.1 hp with hp | hp
    · exact hI.ok.1 p hp
    · obtain ⟨a1, a2, a3⟩ := hpm p hp
      exact ⟨a3, a1, fun o ho => hpo o (a2 o ho)⟩
  have htb := tape_app bs (pieces 32 ((l.drop at').take n))
  have hsz := tape_size (fin := false) hok' (by rw [hfl', List.length_take]; omega)
  rw [htb, List.length_append] at hsz
  have hE12 := hE2.trans hE4
  have hpc : (pieces 32 ((l.drop at').take n)).length ≤ 80 := by
    have := many_le _ fun p hp => (hpm p hp).2.2
    rw [hpf, hpn] at this
    omega
  refine lw_l16 (k := k) (H1 := H1) (H2 := H2) (G4 := H4) hE2.n (xs := tapeB bs false) (bss := (pieces 32 ((l.drop at').take n)).map blk) (by omega) (fun c hc => ?_) (by rw [List.length_map]; omega) hb (fun G w' hE hk2 hw' => ?_) k' 0 H4 w (by rw [List.length_map]; omega) (Nat.zero_le _) (hE02.trans hE4) (Nat.le_refl _) (fun q o _ h => h) (by rw [List.take_zero, List.flatten_nil, List.append_nil]; exact hI.w.ext hE12) (fun q hq => .inl ?_)
  · obtain ⟨p, _, rfl⟩ := List.mem_map.1 hc
    rw [blk_len]; omega
  · rw [← htb] at hw'
    have hnx' : Sc tyB 5 G nx (tapeB (bs ++ pieces 32 ((l.drop at').take n)) false) := (clKp (Nat.le_refl _) hk2 (hnx.ext hE4)).sc
    refine lw_19 hk hx hE hok' hfl' (by omega) hip hpl hnx' hw' fun H hH => ?_
    exact hsg H nx w' (bs ++ pieces 32 ((l.drop at').take n)) ⟨hE.trans hH, .inr (hnx'.mono hH), hw'.ext hH, hok', hfl', by omega, fun h => by have := hn' (by omega); omega⟩
  · rcases hI.w with ⟨rfl, _⟩ | ⟨b0, c, cs, rfl, _, g, _⟩
    · cases hq
    · injection hq with hq
      have hq : b0 = q := hq
      subst hq
      exact GH.get_lt g
end
end
end Go.Proofs.YtdhadannleldiaaDoor
/- Tapes: the law. -/
namespace Go.Proofs.YtdhadannleldiaaDoor
open Go.Gh
set_option linter.unusedVariables false
set_option linter.unusedSimpArgs false

section
variable {k k' : Nat} {Hb : GH} {vp vl b w : Value} {ps : List Nat} {l : List OpD} {bs : List (List OpD)} {at' i : Nat} {H1 : GH}
/-- The tape is ended; nothing is put behind it. -/
theorem lw_25 (hk : 1000 ≤ k) (hx : Lx Hb vp vl ps l) (hI : Lw Hb l ps b w at' i bs H1) (hat : at' = l.length) : Ev (f3_r25 (C (k + 7)) k' vl b w H1) Yes := by
  subst hat
  unfold f3_r25
  have hlen := hx.len
  have hbl := bsOk_len hI.ok
  have hfl : bs.flatten = l := by rw [hI.fl, List.take_of_length_le (Nat.le_refl _)]
  have hfn : bs.flatten.length = l.length := by rw [hfl]
  refine Ev.call0 (finish_ok (k := k) hk (GlIn.ext hx.g hI.e) (by omega) hI.tp hI.ok) fun u H2 hu => ?_
  obtain ⟨q1, c, q2, q3⟩ := hu
  have hE2 : Ext H1 H2 := q1
  have hu : u = .tuple #[c, .int .i64 0] := q2
  have hc : Cl tyB 5 H1 H2 c (tapeB bs true) := q3
  clear q1 q2 q3
  subst hu
  have hE02 := hI.e.trans hE2
  simp only [x0_, x1_, onV_n]
  refine Ev.call0 (decodeT_ok (k := k + 1) (by omega) (GlIn.ext hx.g hE02) (by omega) hc.sc hI.ok) fun u H3 hu => ?_
  obtain ⟨q1, m, q2, q3⟩ := hu
  have hE3 : Ext H2 H3 := q1
  have hu : u = .tuple #[m, .int .i64 0] := q2
  obtain ⟨q4, q5⟩ := q3 rfl
  have hm : Sc tyOp 48 H3 m bs.flatten := q4
  have hmc : oCap Tryd.prog 26 m = some (.int .i64 bs.flatten.length) := q5
  clear q1 q2 q3 q4 q5
  subst hu
  have hE03 := hE02.trans hE3
  simp only [x0_, x1_, onV_n]
  unfold f3_r27
  refine Ev.call0 (append_ok (k := k) (bs := bs) (fin := true) hk (GlIn.ext hx.g hE03) (by omega) (.inr ((hc.ext hE3).sc)) hI.ok (hx.sc.mono hE03) hx.ok (by omega) (by omega)) fun u H4 hu => ?_
  obtain ⟨q1, q2⟩ := hu
  have hE4 : Ext H3 H4 := q2
  have hu : u = .tuple #[.slice none 0 0, .int .i64 6] := q1
  clear q1 q2
  subst hu
  have hE04 := hE03.trans hE4
  simp only [x0_, x1_, onV_n]
  refine Ev.call0 (finish_ok (k := k) (bs := bs) (fin := true) hk (GlIn.ext hx.g hE04) (by omega) (.inr (((hc.ext hE3).ext hE4).sc)) hI.ok) fun u H5 hu => ?_
  obtain ⟨q1, q2⟩ := hu
  have hE5 : Ext H4 H5 := q2
  have hu : u = .tuple #[.slice none 0 0, .int .i64 6] := q1
  clear q1 q2
  subst hu
  have hE35 := hE4.trans hE5
  have hE25 := hE3.trans hE35
  have hE05 := hE02.trans hE25
  simp only [x0_, x1_, onV_n]
  unfold f3_r29 f3_g29_3
  simp only [bin_eql, onV_n, asB_b, onBool_d, if_true]
  have hc5 : Cl tyB 5 H1 H5 c (tapeB bs true) := hc.ext hE25
  have hw5 : Cl tyB 5 Hb H5 w (tapeB bs false) := hI.w.ext (hE2.trans hE25)
  have w1 := str_ok hc5.slr
  have bld : gBuildSlice Tryd.prog 24 3 [(0, (.int .u8 0)), (1, (.int .u8 225)), (2, (.int .u8 240))] H5 = some (.slice (some ⟨H5.n, 0, none⟩) 3 3, H5.push (.row ([0, 225, 240].map bv8) 5 false)) := by kernel_rfl
  have hE6 := Ext.push H5 (.row ([0, 225, 240].map bv8) 5 false)
  have hsz := tape_size (fin := false) hI.ok (by omega)
  have hf : gFirst tyB.sz [0, 225, 240].length (.slice (some ⟨H5.n, 0, none⟩) 3 3) (H5.push (.row ([0, 225, 240].map bv8) 5 false)) = some ([0, 225, 240].map bv8) := newFirst [0, 225, 240] 3
  obtain ⟨w', H7, a1, a2, a3, a4, a5⟩ := (hw5.ext hE6).appB (P := Tryd.prog) (t := 24) (xt := 24) flat_b u24 u24 el5 (ys := [0, 225, 240]) ⟨_, _, rfl⟩ hf (cellsB _) (by simp) (by simp only [List.length_cons, List.length_nil]; omega) (hE05.trans hE6)
  have a1' : gAppend Tryd.prog 24 24 w (.slice (some ⟨H5.n, 0, none⟩) 3 3) (H5.push (.row ([0, 225, 240].map bv8) 5 false)) = some (w', H7) := a1
  have hlow : ∀ q, blkOf w = some q → q < H1.n := fun q hq => by
    rcases hI.w with ⟨rfl, _⟩ | ⟨b0, c, cs, rfl, _, g, _⟩
    · cases hq
    · injection hq with hq
      have hq : b0 = q := hq
      subst hq
      exact GH.get_lt g
  have hc7 : Cl tyB 5 H1 H7 c (tapeB bs true) := (hc5.ext hE6).keepB flat_b fun q o _ hq hg => a4 q o hg fun hh => by have := hlow q hh; omega
  have w2 := str_ok (hc5.ext hE6).slr
  have w3 := str_ok hc7.slr
  have e1 : tapeB bs false ++ [0, 225, 240] = tapeB bs true := by
    unfold tapeB tail
    have : blk [] = [0, 225, 240] := by decide
    rw [if_pos rfl, if_neg (by decide), this, List.append_nil, List.append_assoc]
  rw [e1] at a3
  have w4 := str_ok a3.slr
  simp only [w1, onV_n, onClosed_str, bld, onVH_s, a1', w2, w3, onSame_str, w4, eqlStr]
  unfold f3_g29_12 f3_g29_16
  simp only [bin_eql, onV_n, asB_b, onBool_d, onBool_i, decide_true, if_true]
  have hm7 : Sc tyOp 48 H7 m l := by
    rw [← hfl]
    refine ((hm.mono hE35).mono hE6).keep flat_op fun q row ro hq => a4 q _ hq fun hh => ?_
    rcases hw5.ext hE6 with ⟨rfl, _⟩ | ⟨b0, c, cs, rfl, _, g, _⟩
    · cases hh
    · injection hh with hh
      have hh : b0 = q := hh
      subst hh
      rw [hq] at g
      have := Option.some.inj g
      injection this with _ h6 _
      exact absurd h6 (by decide)
  have hl7 : Sc tyOp 48 H7 vl l := hx.sc.mono a2
  rw [hfl] at hmc
  refine Ev.call 3 (R := fun v _ => v = .int .i64 1) (Sp.of (fun lo => (same_ok (k := k + 6) (H := { H7 with lo := lo }) (hm7.slr.lo gets_op) hmc (hl7.slr.lo gets_op) (by omega) (by omega)).mono fun z hz => by subst hz; exact ⟨.refl _, rfl⟩) (fun _ _ _ h => h)) fun u H8 hE8 hu => ?_
  have hu : u = .int .i64 1 := hu
  subst hu
  unfold f3_g29_22 f3_g29_26 f3_g29_30
  simp only [bin_eql, onV_n, asB_b, onBool_d, onBool_i, decide_true, if_true]
  exact lives_3 (k := k + 6) (GlIn.ext hx.g (a2.trans hE8))
theorem lw_l8 (hk : 1000 ≤ k) (hk' : 1000 ≤ k') (hx : Lx Hb vp vl ps l) (hpl : ps.length ≤ 20) (hpb : ∀ p ∈ ps, p < 256) :
    ∀ (r i at' : Nat) (bs : List (List OpD)) (b w : Value) (H : GH), ps.length + 1 - i < r → i ≤ ps.length + 1 → Lw Hb l ps b w at' i bs H → Ev (f3_l8 (C (k + 7)) k' r vp vl b w (.int .i64 (at' : Int)) (.int .i64 (i : Int)) H) Yes := by
  intro r
  induction r with
  | zero => intro i at' bs b w H h; omega
  | succ r ih =>
    intro i at' bs b w H hr hi hI
    show Ev (f3_l8b (C (k + 7)) k' (f3_l8 (C (k + 7)) k' r) vp vl b w (.int .i64 (at' : Int)) (.int .i64 (i : Int)) H) Yes
    unfold f3_l8b
    have hlen := hx.len
    have hle := hI.le
    have hp := hx.p.mono hI.e
    simp only [hp.oLen u24, bin_leq, onV_n, asB_b, onBool_d]
    by_cases hlt : i ≤ ps.length
    · rw [if_pos (by omega)]
      have e1 : IntKind.wrap .i64 ((l.length : Int) - (at' : Int)) = ((l.length - at' : Nat) : Int) := by rw [Go.IntWalk.i64_in _ (by omega)]; omega
      simp only [(hx.sc.slr.mono hI.e).oLen u26, onV_n, bin_sub, e1]
      unfold f3_r11 f3_g11_5
      simp only [hp.oLen u24, bin_lss, onV_n, asB_b, onBool_d]
      have go : ∀ n, n ≤ l.length - at' → (i = ps.length → n = l.length - at') → Ev (f3_r13 (C (k + 7)) k' (f3_l8 (C (k + 7)) k' r) vp vl b w (.int .i64 (at' : Int)) (.int .i64 (i : Int)) (.int .i64 (n : Int)) H) Yes := fun n hn hn' =>
        lw_13 hk hk' hx hpl hI hlt hn hn' fun G b' w' bs' hG => ih (i + 1) (at' + n) bs' b' w' G (by omega) (by omega) hG
      by_cases hl2 : i < ps.length
      · rw [if_pos (by omega)]
        obtain ⟨p, i1, i2⟩ := bt_at hp (k := .i64) hl2
        have hp2 := hpb _ (List.getElem_mem hl2)
        have e2 : ((ps[i] : Nat) : Int).tmod 40 = ((ps[i] % 40 : Nat) : Int) := by rw [Int.tmod_eq_emod_of_nonneg (by omega)]; omega
        have e3 : IntKind.wrap .i64 ((ps[i] % 40 : Nat) : Int) = ((ps[i] % 40 : Nat) : Int) := Go.IntWalk.i64_in _ (by omega)
        simp only [i1, onV_n, i2.load1 ld5, bv8, rem40, e2, conv5_3, e3, bin_lss, asB_b, onBool_d]
        by_cases hl3 : ps[i] % 40 < l.length - at'
        · rw [if_pos (by omega)]
          unfold f3_r12
          simp only [i1, onV_n, i2.load1 ld5, bv8, rem40, e2, conv5_3, e3]
          exact go _ (by omega) (by omega)
        · rw [if_neg (by omega)]
          exact go _ (Nat.le_refl _) (fun _ => rfl)
      · rw [if_neg (by omega)]
        exact go _ (Nat.le_refl _) (fun _ => rfl)
    · rw [if_neg (by omega)]
      exact lw_25 hk hx hI (hI.end' (by omega))
end
/-- The law holds of plain data. -/
theorem law_ok {k : Nat} {H : GH} {vx vp : Value} {xs : List OD} {ps : List Nat} (hk : 1000 ≤ k) (hg : GlIn H) (hx : SlR tyO H vx xs) (hxo : ∀ x ∈ xs, x.ok) (hp : SlR tyB H vp ps) (hpb : ∀ p ∈ ps, p < 256) :
    Ev (gFunc Tryd.prog (C (k + 7)) (k + 7) Tryd.f3 [vx, vp] H) Yes := by
  rw [f3_eq]
  unfold f3_sh f3_g1_4
  simp only [hx.oLen u23, bin_gtr, onV_n, asB_b, onBool_d]
  by_cases h1 : 80 < xs.length
  · rw [if_pos (by omega)]
    exact lives_end (k := k + 6) hg
  · rw [if_neg (by omega)]
    simp only [hp.oLen u24, bin_gtr, onV_n, asB_b, onBool_d]
    by_cases h2 : 20 < ps.length
    · rw [if_pos (by omega)]
      exact lives_end (k := k + 6) hg
    · rw [if_neg (by omega)]
      refine Ev.call0 (ofP_ok (k := k + 5) hx hxo (by omega) (by omega)) fun vl H2 hu => ?_
      obtain ⟨q1, l, q2, q3, q4⟩ := hu
      have hE2 : Ext H H2 := q1
      have hl : Own tyOp 48 H H2 vl l := q4
      clear q1 q4
      have bld : gBuildSlice Tryd.prog 24 4 [(0, (.int .u8 71)), (1, (.int .u8 84)), (2, (.int .u8 1)), (3, (.int .u8 0))] H2 = some (.slice (some ⟨H2.n, 0, none⟩) 4 4, H2.push (.row ([71, 84, 1, 0].map bv8) 5 false)) := by kernel_rfl
      simp only [bld, onVH_s]
      have hE3 := Ext.push H2 (.row ([71, 84, 1, 0].map bv8) 5 false)
      refine lw_l8 (k := k) (Hb := H2) (ps := ps) (l := l) hk (by omega) ⟨GlIn.ext hg hE2, hp.mono hE2, hl.sc hE2 (by unfold loose; omega), q3, by omega⟩ (by omega) hpb (k + 7) 0 0 [] (.slice none 0 0) _ _ (by omega) (by omega) ⟨hE3, .inl ⟨rfl, rfl, rfl⟩, .inr ⟨H2.n, 4, [71, 84, 1, 0].map bv8, rfl, Nat.le_refl _, GH.get_push_new, cellsB _, .inr ⟨by unfold loose; omega, rfl⟩⟩, ⟨(fun p h => by cases h), by simp⟩, by simp, Nat.zero_le _, fun h => by omega⟩
end Go.Proofs.YtdhadannleldiaaDoor
