/- The ghost machine: one operation that calls no function goes on together with the model's. -/
import Derived.Test.YthicilkmjamefaaGfStepB
namespace Go.Gh
open Go.RowKit
set_option linter.unusedVariables false
set_option linter.unusedSimpArgs false
section
variable {P : Program} {base : Nat} {m : PM} {H : GH} {w : World}

/-- Is the operation a call of a function? -/
def isCall (o : Oper) : Bool := match o.op with
  | .call c => match c.callee with | .value _ => true | _ => false
  | _ => false

theorem opnd_of {ρ ρ' : Operand → Value} {xs : Array Operand} (h : ∀ y ∈ xs.toList, VR m (ρ y) (ρ' y)) {y : Operand} (hy : y ∈ xs) : VR m (ρ y) (ρ' y) := h y (Array.mem_toList_iff.2 hy)

theorem gStep_run {d : Nat} {call : Handle} {ρ ρ' : Operand → Value} {o : Oper} {l : List (Value × GH)} (hnc : isCall o = false) (h : gStep P d call ρ o H gRet = some l)
    (hρ : ∀ y ∈ o.op.operands.toList, VR m (ρ y) (ρ' y)) (hR : Rel P base m H w) (hb : base ≤ w.heap.size) : NextOk P base m H w (execOp ρ' o) l := by
  unfold gStep at h
  unfold execOp
  split at h
  case h_1 x hop =>
    injection h with h; subst h
    rw [hop] at hρ ⊢
    exact ⟨_, List.mem_singleton.2 rfl, ρ' x, w, m, .inl rfl, hρ x (by simp [Op.operands]), hR, .refl _ _ _ _⟩
  case h_2 x hop =>
    injection h with h; subst h
    rw [hop] at hρ ⊢
    exact ⟨_, List.mem_singleton.2 rfl, ρ' x, w, m, .inl rfl, hρ x (by simp [Op.operands]), hR, .refl _ _ _ _⟩
  case h_3 c a b hop =>
    rw [hop] at hρ ⊢
    obtain ⟨v, hv, rfl⟩ := onV_ret h
    obtain ⟨v', h1, h2⟩ := oPick_VR (w := w) hv (hρ c (by simp [Op.operands])) (hρ a (by simp [Op.operands])) (hρ b (by simp [Op.operands]))
    refine ⟨_, List.mem_singleton.2 rfl, v', w, m, .inl ?_, h2, hR, .refl _ _ _ _⟩
    simp only [Sem.run_bind] at h1 ⊢
    revert h1
    cases (asBool (ρ' c)).run P w with
    | ok t w1 => intro h1; simp at h1 ⊢; exact h1
    | halt e w1 => intro h1; simp at h1
  case h_4 x hop =>
    rw [hop] at hρ ⊢
    obtain ⟨v, hv, rfl⟩ := onV_ret h
    have hx := hρ x (by simp [Op.operands])
    obtain ⟨rfl, h1, h2, h3, h4⟩ := oNilCheck_VR hv hx
    refine ⟨_, List.mem_singleton.2 rfl, ρ' x, w, m, .inl ?_, hx, hR, .refl _ _ _ _⟩
    simp only
    rfl
  case h_5 f first captured hop =>
    injection h with h; subst h
    rw [hop] at hρ ⊢
    have h1 := mapA_VRs (m := m) (ρ := ρ) (ρ' := ρ') (xs := first) fun x hx => hρ x (by simp [Op.operands]; left; exact Array.mem_toList_iff.1 hx)
    have h2 := mapA_VRs (m := m) (ρ := ρ) (ρ' := ρ') (xs := captured) fun x hx => hρ x (by simp [Op.operands]; right; exact Array.mem_toList_iff.1 hx)
    exact ⟨_, List.mem_singleton.2 rfl, _, w, m, .inl rfl, .func f _ _ _ _ h1.size h1.arr h2.size h2.arr, hR, .refl _ _ _ _⟩
  case h_6 t i hop =>
    rw [hop] at hρ ⊢
    obtain ⟨v, hv, rfl⟩ := onV_ret h
    obtain ⟨v', h1, h2⟩ := oExtract_VR (P := P) (w := w) hv (hρ t (by simp [Op.operands]))
    exact NextOk.pure h1 h2 hR
  case h_7 t x hop =>
    rw [hop] at hρ ⊢
    obtain ⟨v, hv, rfl⟩ := onV_ret h
    obtain ⟨v', h1, h2⟩ := oIface_VR (P := P) (w := w) hv (hρ x (by simp [Op.operands]))
    exact NextOk.pure h1 h2 hR
  case h_8 s x f hop =>
    rw [hop] at hρ ⊢
    obtain ⟨v, hv, rfl⟩ := onV_ret h
    obtain ⟨v', h1, h2⟩ := oFieldAddr_VR (w := w) hv (hρ x (by simp [Op.operands]))
    exact NextOk.pure h1 h2 hR
  case h_9 t x f hop =>
    rw [hop] at hρ ⊢
    obtain ⟨v, hv, rfl⟩ := onV_ret h
    obtain ⟨v', h1, h2⟩ := oField_VR (w := w) hv (hρ x (by simp [Op.operands]))
    exact NextOk.pure h1 h2 hR
  case h_10 t x i hop =>
    rw [hop] at hρ ⊢
    obtain ⟨v, hv, rfl⟩ := onV_ret h
    obtain ⟨v', h1, h2⟩ := oIndexAddr_VR (w := w) hv (hρ x (by simp [Op.operands])) (hρ i (by simp [Op.operands]))
    exact NextOk.pure h1 h2 hR
  case h_11 t x i hop =>
    rw [hop] at hρ ⊢
    obtain ⟨v, hv, rfl⟩ := onV_ret h
    obtain ⟨hv, hc⟩ := filter_closed hv
    obtain ⟨v', h1, h2⟩ := oIndex_VR (w := w) hv (hρ x (by simp [Op.operands])) (hρ i (by simp [Op.operands])) hc
    exact NextOk.pure h1 h2 hR
  case h_12 t x lo hi mx hop =>
    rw [hop] at hρ ⊢
    obtain ⟨v, hv, rfl⟩ := onV_ret h
    obtain ⟨v', h1, h2⟩ := oSlice_VR (w := w) hv (hρ x (by simp [Op.operands])) (OptVR.map (ρ' := ρ') fun y hy => hρ y (by simp [Op.operands, hy])) (OptVR.map (ρ' := ρ') fun y hy => hρ y (by simp [Op.operands, hy]))
      (OptVR.map (ρ' := ρ') fun y hy => hρ y (by simp [Op.operands, hy]))
    exact NextOk.pure h1 h2 hR
  case h_13 t parts hop =>
    rw [hop] at hρ ⊢
    obtain ⟨v, hv, rfl⟩ := onV_ret h
    obtain ⟨v', h1, h2⟩ := oBuild_VR (w := w) (ρ' := ρ') hv fun x hx => hρ x.2 (by simp only [Op.operands]; exact List.mem_map.2 ⟨x, hx, rfl⟩)
    exact NextOk.pure h1 h2 hR
  case h_14 op t x y ty hop =>
    rw [hop] at hρ ⊢
    obtain ⟨v, hv, rfl⟩ := onV_ret h
    obtain ⟨hv, hc⟩ := filter_closed hv
    have h1 := oBin_VR (w := w) hv (hρ x (by simp [Op.operands])) (hρ y (by simp [Op.operands])) hc x y
    exact NextOk.pure h1 (closed_VR hc) hR
  case h_15 op ty x hop =>
    rw [hop] at hρ ⊢
    obtain ⟨v, hv, rfl⟩ := onV_ret h
    obtain ⟨hv, hc⟩ := filter_closed hv
    exact NextOk.pure (oUn_VR hv (hρ x (by simp [Op.operands]))) (closed_VR hc) hR
  case h_16 src dst x hop =>
    rw [hop] at hρ ⊢
    obtain ⟨v, hv, rfl⟩ := onV_ret h
    obtain ⟨hv, hc⟩ := filter_closed hv
    exact NextOk.pure (oConvert_VR hv (hρ x (by simp [Op.operands]))) (closed_VR hc) hR
  case h_17 e hop =>
    rw [hop] at hρ ⊢
    cases hz : gZero P e with
    | none => rw [hz] at h; cases h
    | some z =>
      rw [hz] at h
      injection h with h; subst h
      exact NextOk.ofV (gAlloc_step hz hR hb)
  case h_18 e x hop =>
    rw [hop] at hρ ⊢
    split at h
    · next s hs =>
      injection h with h; subst h
      exact NextOk.ofV (gBox_step hs (hρ x (by simp [Op.operands])) hR hb)
    · cases h
  case h_19 t len parts hop =>
    rw [hop] at hρ ⊢
    obtain ⟨v, H', hv, rfl⟩ := onVH_ret h
    exact NextOk.ofV (gBuildSlice_step (ρ' := ρ') hv (fun x hx => hρ x.2 (by simp only [Op.operands]; exact List.mem_map.2 ⟨x, hx, rfl⟩)) hR hb)
  case h_20 t a hop =>
    rw [hop] at hρ ⊢
    obtain ⟨v, hv, rfl⟩ := onV_ret h
    obtain ⟨v', h1, h2⟩ := gLoad_VR hv (hρ a (by simp [Op.operands])) hR
    exact NextOk.pure h1 h2 hR
  case h_21 t a x hop =>
    rw [hop] at hρ ⊢
    obtain ⟨H', hv, rfl⟩ := onH_ret h
    obtain ⟨w', h1, h2, h3⟩ := gStore_VR hv (hρ a (by simp [Op.operands])) (hρ x (by simp [Op.operands])) hR
    exact NextOk.ofU ⟨w', m, h1, h2, h3⟩
  case h_22 t l c hop =>
    rw [hop] at hρ ⊢
    obtain ⟨v, H', hv, rfl⟩ := onVH_ret h
    exact NextOk.ofV (gMakeSlice_step hv (hρ l (by simp [Op.operands])) (hρ c (by simp [Op.operands])) hR hb)
  case h_23 t hop =>
    rw [hop] at hρ ⊢
    injection h with h; subst h
    exact NextOk.ofV (gMakeMap_step hR hb t)
  case h_24 t x k ok hop =>
    rw [hop] at hρ ⊢
    obtain ⟨v, hv, rfl⟩ := onV_ret h
    obtain ⟨v', h1, h2⟩ := gLookup_VR hv (hρ x (by simp [Op.operands])) (hρ k (by simp [Op.operands])) hR
    exact NextOk.pure h1 h2 hR
  case h_25 t x k v hop =>
    rw [hop] at hρ ⊢
    obtain ⟨H', hv, rfl⟩ := onH_ret h
    exact NextOk.ofU (gMapUpdate_step hv (hρ x (by simp [Op.operands])) (hρ k (by simp [Op.operands])) (hρ v (by simp [Op.operands])) hR)
  case h_26 t x k v hop =>
    rw [hop] at hρ ⊢
    obtain ⟨H', hv, rfl⟩ := onH_ret h
    exact NextOk.ofU (gMapUpdate_step hv (hρ x (by simp [Op.operands])) (hρ k (by simp [Op.operands])) (hρ v (by simp [Op.operands])) hR)
  case h_27 t x k hop =>
    rw [hop] at hρ ⊢
    obtain ⟨v, H', hv, rfl⟩ := onVH_ret h
    exact NextOk.ofV (gMapEntry_step hv (hρ x (by simp [Op.operands])) (hρ k (by simp [Op.operands])) hR)
  case h_28 t x k v hop =>
    rw [hop] at hρ ⊢
    obtain ⟨H', hv, rfl⟩ := onH_ret h
    exact NextOk.ofU (gEntryStore_step hv (hρ x (by simp [Op.operands])) (hρ k (by simp [Op.operands])) (hρ v (by simp [Op.operands])) hR)
  case h_29 t x hop =>
    rw [hop] at hρ ⊢
    obtain ⟨v, H', hv, rfl⟩ := onVH_ret h
    exact NextOk.ofV (gRange_step hv (hρ x (by simp [Op.operands])) hR hb)
  case h_30 it s hop =>
    rw [hop] at hρ ⊢
    exact NextOk.ofO (gNext_step (onNext_ret h) (hρ it (by simp [Op.operands])) hR)
  case h_31 it hop =>
    rw [hop] at hρ ⊢
    obtain ⟨v, hv, rfl⟩ := onV_ret h
    obtain ⟨v', h1, h2⟩ := gEntry_VR hv (hρ it (by simp [Op.operands])) hR
    exact NextOk.pure h1 h2 hR
  case h_32 c hop =>
    rw [hop] at hρ ⊢
    split at h
    · next f hf => rw [isCall, hop] at hnc; simp [hf] at hnc
    · next b hf =>
      have hargs : VRs m (c.args.toList.map ρ) (c.args.map ρ').toList := by
        rw [Array.toList_map]
        exact VRs.map fun x hx => hρ x (by simp [Op.operands, Call.operands, hf]; exact Array.mem_toList_iff.1 hx)
      split at h
      · next hm =>
        have hb' : b = .append := by
          simp only [Bool.and_eq_true] at hm
          have h2 := hm.2
          unfold maskHit at h2
          rw [hf] at h2
          cases b <;> first | rfl | (simp at h2)
        subst hb'
        have := gBuiltinQ_run (ty := o.type) (cs := c.args.map fun | .const _ => true | _ => false) h hargs hR hb
        simp only [resolve, hf]
        exact this
      · have := gBuiltin_run (ty := o.type) (cs := c.args.map fun | .const _ => true | _ => false) h hargs hR hb
        simp only [resolve, hf]
        exact this
    · cases h
  case h_33 => cases h
end
end Go.Gh
