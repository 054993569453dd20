/- The stacks' functions, on: Set and Join hand back the error of beds that are not valid. -/
import Derived.Test.YthicilkmjamefaaStF
namespace Go.Proofs.Ythicilkmjamefaa
open Go.Gh
set_option linter.unusedVariables false
set_option linter.unusedSimpArgs false

theorem gs24 : gSize Try.prog 24 = some 2 := by kernel_rfl
theorem resPair {H : GH} {b : Nat} {u v w : Value} {ro : Bool} {e : TypeId} (h : H.get b = some (.row [u, v] e ro)) : gResL Try.prog H [(.pointer (some ⟨b, 0, none⟩), some 24), (w, none)] = some (.tuple #[.agg #[u, v], w]) := by
  have h1 := (PtC.of h).loadA (P := Try.prog) (t := 24) ld24
  unfold gResL
  simp only [List.mapM_cons, List.mapM_nil, gRes1, h1]
  rfl
/-- What Set and Join come to where the beds are not valid. -/
theorem bad_tail {H H3 : GH} {b : Nat} {e : Int} {R : Value × GH → Prop} (hE : Ext H H3) (hb0 : H.n ≤ b) (hb : H3.get b = some (.row [.slice none 0 0, .slice none 0 0] 24 false))
    (hR : ∀ H5, Ext H H5 → R (.tuple #[.agg #[.slice none 0 0, .slice none 0 0], .int .i64 e], H5)) :
    Ev (onH (gStore Try.prog 24 (.pointer (some ⟨b, 0, none⟩)) (.agg #[.slice none 0 0, .slice none 0 0]) H3) fun H5 => onV (gResL Try.prog H5 [(.pointer (some ⟨b, 0, none⟩), some 24), (.int .i64 e, none)]) fun v => some [(v, H5)]) R := by
  rw [store_row hb gs24 rfl rfl rfl]
  have hcc : (Value.agg #[Value.slice none 0 0, Value.slice none 0 0]).cells.toList = [.slice none 0 0, .slice none 0 0] := rfl
  rw [hcc]
  simp only [onH_s]
  rw [resPair (GH.get_set_same hb)]
  exact Ev.mk (hR _ (hE.set hb0 (GH.get_lt hb) _))

section
variable {k : Nat} {vF vB : Value} {front back : List (List Idn)} {H : GH}
theorem set_bad {p1 p2 : Value} (hk : 1000 ≤ k) (hF : SlR (tySl tyId) H vF front) (hB : SlR (tySl tyId) H vB back) (hlF : front.length ≤ 1000000) (hlB : back.length ≤ 1000000) (hc : chk front back ≠ 0) :
    Ev (C (k + 5) (.func (.func 10) #[] #[]) [.agg #[vF, vB], p1, p2] H) fun r => Ext H r.2 ∧ r.1 = .tuple #[.agg #[.slice none 0 0, .slice none 0 0], .int .i64 (chk front back)] := by
  rw [C_func T10, f10_eq]
  unfold f10_sh
  have hcell : (Value.cells (.agg #[vF, vB])).toList = [vF, vB] := rfl
  rw [hcell]
  have hE : Ext H (((H.push (.row [vF, vB] 24 false)).push (.row (Value.cells p1).toList 35 false)).push (.row [.slice none 0 0, .slice none 0 0] 24 false)) := ((Ext.push _ _).push' _).push' _
  have hp := (PtC.new H [vF, vB] 24 false).mono ((Ext.push _ (.row (Value.cells p1).toList 35 false)).push' (.row [.slice none 0 0, .slice none 0 0] 24 false))
  have hb : (((H.push (.row [vF, vB] 24 false)).push (.row (Value.cells p1).toList 35 false)).push (.row [.slice none 0 0, .slice none 0 0] 24 false)).get ((H.push (.row [vF, vB] 24 false)).push (.row (Value.cells p1).toList 35 false)).n = some (.row [.slice none 0 0, .slice none 0 0] 24 false) := GH.get_push_new
  have hn : H.n ≤ ((H.push (.row [vF, vB] 24 false)).push (.row (Value.cells p1).toList 35 false)).n := by show H.n ≤ H.n + 1 + 1; omega
  simp only [hp.loadA ld24, onV_s]
  refine Ev.call0 (check_ok hk (hF.mono hE) (hB.mono hE) hlF hlB) fun v H3 ⟨hE3, hv⟩ => ?_
  simp only at hE3 hv
  subst hv
  simp only [bin_neq, onV_s, asB_b, onBool_d]
  rw [if_pos hc]
  exact bad_tail (hE.trans hE3) hn (hE3.get_of hb) fun H5 h => ⟨h, rfl⟩
theorem join_bad {p1 p2 : Value} (hk : 1000 ≤ k) (hF : SlR (tySl tyId) H vF front) (hB : SlR (tySl tyId) H vB back) (hlF : front.length ≤ 1000000) (hlB : back.length ≤ 1000000) (hc : chk front back ≠ 0) :
    Ev (C (k + 5) (.func (.func 11) #[] #[]) [.agg #[vF, vB], p1, p2] H) fun r => Ext H r.2 ∧ r.1 = .tuple #[.agg #[.slice none 0 0, .slice none 0 0], .int .i64 (chk front back)] := by
  rw [C_func T11, f11_eq]
  unfold f11_sh
  have hcell : (Value.cells (.agg #[vF, vB])).toList = [vF, vB] := rfl
  rw [hcell]
  have hE : Ext H ((((H.push (.row [vF, vB] 24 false)).push (.row (Value.cells p1).toList 35 false)).push (.row (Value.cells p2).toList 35 false)).push (.row [.slice none 0 0, .slice none 0 0] 24 false)) := (((Ext.push _ _).push' _).push' _).push' _
  have hp := (PtC.new H [vF, vB] 24 false).mono (((Ext.push _ (.row (Value.cells p1).toList 35 false)).push' (.row (Value.cells p2).toList 35 false)).push' (.row [.slice none 0 0, .slice none 0 0] 24 false))
  have hb : ((((H.push (.row [vF, vB] 24 false)).push (.row (Value.cells p1).toList 35 false)).push (.row (Value.cells p2).toList 35 false)).push (.row [.slice none 0 0, .slice none 0 0] 24 false)).get (((H.push (.row [vF, vB] 24 false)).push (.row (Value.cells p1).toList 35 false)).push (.row (Value.cells p2).toList 35 false)).n = some (.row [.slice none 0 0, .slice none 0 0] 24 false) := GH.get_push_new
  have hn : H.n ≤ (((H.push (.row [vF, vB] 24 false)).push (.row (Value.cells p1).toList 35 false)).push (.row (Value.cells p2).toList 35 false)).n := by show H.n ≤ H.n + 1 + 1 + 1; omega
  simp only [hp.loadA ld24, onV_s]
  refine Ev.call0 (check_ok hk (hF.mono hE) (hB.mono hE) hlF hlB) fun v H3 ⟨hE3, hv⟩ => ?_
  simp only at hE3 hv
  subst hv
  simp only [bin_neq, onV_s, asB_b, onBool_d]
  rw [if_pos hc]
  exact bad_tail (hE.trans hE3) hn (hE3.get_of hb) fun H5 h => ⟨h, rfl⟩
end
end Go.Proofs.Ythicilkmjamefaa
