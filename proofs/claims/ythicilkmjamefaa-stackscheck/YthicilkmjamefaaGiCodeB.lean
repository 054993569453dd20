/- The ghost machine: each piece of code; a function's call. -/
import Derived.Test.YthicilkmjamefaaGiRange
namespace Go.Gh
open Go.RowKit
set_option linter.unusedVariables false
set_option linter.unusedSimpArgs false

section
variable {P : Program} {base : Nat} {F : Fence} {n : Nat}

theorem asB_VR {m : PM} {v v' : Value} {b : Bool} (h : asB v = some b) (hv : VR m v v') : v' = .bool b := by
  cases hv <;> simp [asB] at h
  rw [h]

theorem code_sound (hF : FenceOk F) {call : Handle} (hc : HOk P call) (hmix : P.follows .mixedOrders = true) (k : Nat) :
    ∀ c : Code, codeOk c = true → CodeOk F n P base c (fun {β} a H K => gCode P call k c a H K) := by
  intro c
  induction c with
  | skip =>
    intro _ β K outs a H m w act Q h hA hR hb hro hK
    exact wpIn_skip (hK .normal a H m w act outs h (fun _ hx => hx) (.refl hA hR))
  | label l =>
    intro _ β K outs a H m w act Q h hA hR hb hro hK
    exact wpIn_label (hK .normal a H m w act outs h (fun _ hx => hx) (.refl hA hR))
  | goto l => intro _ β K outs a H m w act Q h hA hR hb hro hK; cases h
  | refuse l => intro _ β K outs a H m w act Q h hA hR hb hro hK; cases h
  | exit id =>
    intro _ β K outs a H m w act Q h hA hR hb hro hK
    exact wpIn_exit (hK (.exit id) a H m w act outs h (fun _ hx => hx) (.refl hA hR))
  | ret =>
    intro _ β K outs a H m w act Q h hA hR hb hro hK
    exact wpIn_ret (hK .ret a H m w act outs h (fun _ hx => hx) (.refl hA hR))
  | seq x y ihx ihy =>
    intro hok β K outs a H m w act Q h hA hR hb hro hK
    simp only [codeOk, Bool.and_eq_true] at hok
    have h : gCode P call k x a H (hSeq (gCode P call k y) K) = some outs := h
    refine wpIn_seq (ihx hok.1 h hA hR hb hro fun e a1 H1 m1 w1 act1 o hk hs hat => ?_)
    cases e with
    | normal => exact ihy hok.2 (K := K) hk hat.tmps hat.rel (Nat.le_trans hb hat.go.keep.size) (hro.keep hat.go.keep) fun e a2 H2 m2 w2 act2 o2 hk2 hs2 hat2 => hK e a2 H2 m2 w2 act2 o2 hk2 (fun z hz => hs (hs2 hz)) (hat.trans hat2)
    | exit id => exact hK (.exit id) a1 H1 m1 w1 act1 o hk hs hat
    | ret => exact hK .ret a1 H1 m1 w1 act1 o hk hs hat
  | cond c x y ihx ihy =>
    intro hok β K outs a H m w act Q h hA hR hb hro hK
    simp only [codeOk, Bool.and_eq_true] at hok
    have h : onBool (asB (a.eval c)) (gCode P call k x a H K) (gCode P call k y a H K) = some outs := h
    have hcv := eval_VR hA hok.1.1
    cases hb1 : asB (a.eval c) with
    | none => rw [hb1] at h; cases h
    | some b =>
      rw [hb1] at h
      have hev := asB_VR hb1 hcv
      cases b with
      | true => exact wpIn_cond_true hev (ihx hok.1.2 h hA hR hb hro hK)
      | false => exact wpIn_cond_false hev (ihy hok.2 h hA hR hb hro hK)
  | block id c ih =>
    intro hok β K outs a H m w act Q h hA hR hb hro hK
    have hok : codeOk c = true := hok
    have h : gCode P call k c a H (hBlock id K) = some outs := h
    refine wpIn_block (ih hok h hA hR hb hro fun e a1 H1 m1 w1 act1 o hk hs hat => ?_)
    cases e with
    | normal => exact hK .normal a1 H1 m1 w1 act1 o hk hs hat
    | exit id' =>
      show (if id' = id then Q .normal act1 w1 else Q (.exit id') act1 w1)
      have hk : (if id' = id then K .normal a1 H1 else K (.exit id') a1 H1) = some o := hk
      by_cases e : id' = id
      · rw [if_pos e] at hk ⊢
        exact hK .normal a1 H1 m1 w1 act1 o hk hs hat
      · rw [if_neg e] at hk ⊢
        exact hK (.exit id') a1 H1 m1 w1 act1 o hk hs hat
    | ret => exact hK .ret a1 H1 m1 w1 act1 o hk hs hat
  | scope c ih =>
    intro hok β K outs a H m w act Q h hA hR hb hro hK
    have hok : codeOk c = true := hok
    have h : gCode P call k c a H K = some outs := h
    refine wpIn_scope (ih hok h hA hR hb hro fun e a1 H1 m1 w1 act1 o hk hs hat => ?_)
    cases e with
    | normal => exact hK .normal a1 H1 m1 w1 act1 o hk hs hat
    | exit id => exact hK (.exit id) a1 H1 m1 w1 act1 o hk hs hat
    | ret => exact hK .ret a1 H1 m1 w1 act1 o hk hs hat
  | loop c ih =>
    intro hok β K outs a H m w act Q h hA hR hb hro hK
    have hok : codeOk c = true := hok
    exact loop_sound (f := fun {β} a H K => gCode P call k c a H K) (ih hok) k (K := K) (outs := outs) h hA hR hb hro hK
  | rangeFunc g ps as bd iha ihb =>
    intro hok β K outs a H m w act Q h hA hR hb hro hK
    simp only [codeOk, Bool.and_eq_true] at hok
    exact range_sound hF hc hok.1.1 hok.1.2 hok.2 k (K := K) (outs := outs) h hA hR hb hro hK
  | region id ops draw =>
    intro hok β K outs a H m w act Q h hA hR hb hro hK
    simp only [codeOk, Bool.and_eq_true] at hok
    have h : (match gMode P ops draw with
      | some d => gOps P d call ops.toList ops.toList a H (K .normal)
      | none => none) = some outs := h
    have hops : ∀ o ∈ ops.toList, opOk o = true := fun o ho => List.all_eq_true.1 hok.1 o ho
    cases draw with
    | false =>
      have h : gOps P 0 call ops.toList ops.toList a H (K .normal) = some outs := h
      exact wpIn_region_list (gOps_sound hF hc ops.toList hops h hA hR hb fun a' H' m' act' w' o hk hs h1 h2 h3 h4 => hK .normal a' H' m' w' act' o hk hs ⟨h1, h2, h3, .same h4⟩)
    | true =>
      have hst := hok.2
      simp only [Bool.not_true, Bool.false_or, Bool.and_eq_true] at hst
      unfold gMode at h
      simp only [if_true] at h
      split at h
      · next d hd =>
        split at hd
        · next hm =>
          injection hd with hd
          subst hd
          exact region_any hF hc hmix (c := 2) (d := 1) (.inr (.inl ⟨rfl, rfl⟩)) hst.1 hm hst.2 hops h hA hR hb fun a' H' m' act' w' o hk hs h1 h2 h3 h4 => hK .normal a' H' m' w' act' o hk hs ⟨h1, h2, h3, .same h4⟩
        · split at hd
          · next hm =>
            injection hd with hd
            subst hd
            exact region_any hF hc hmix (c := 1) (d := 2) (.inl ⟨rfl, rfl⟩) hst.1 hm hst.2 hops h hA hR hb fun a' H' m' act' w' o hk hs h1 h2 h3 h4 => hK .normal a' H' m' w' act' o hk hs ⟨h1, h2, h3, .same h4⟩
          · split at hd
            · next hm =>
              injection hd with hd
              subst hd
              exact region_any hF hc hmix (.inr (.inr ⟨rfl, by omega⟩)) hst.1 hm hst.2 hops h hA hR hb fun a' H' m' act' w' o hk hs h1 h2 h3 h4 => hK .normal a' H' m' w' act' o hk hs ⟨h1, h2, h3, .same h4⟩
            · cases hd
      · cases h
end
end Go.Gh
