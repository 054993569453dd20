/- The ghost machine: code. -/
import Derived.Test.YthicilkmjamefaaGhAnyD
namespace Go.Gh
open Go.RowKit
set_option linter.unusedVariables false
set_option linter.unusedSimpArgs false

section
variable {F : Fence} {n : Nat} {P : Program} {Q : Exit → Act → World → Prop} {a : Act} {w : World}

theorem stepR_scope' {b : Frame} {k : List Item} {cs : List Frame} {c : Code} : step P (lone (b.atR a (.code (.scope c) :: k)) cs w) = .next (lone (b.atR a (.code c :: .inScope c :: k)) cs w) :=
  step_lone_go (by simp [stepG, stepG.exec, Frame.atR])
theorem stepR_inScope' {b : Frame} {k : List Item} {cs : List Frame} {c : Code} : step P (lone (b.atR a (.inScope c :: k)) cs w) = .next (lone (b.atR a k) cs w) :=
  step_lone_go (by simp [stepG, stepG.exec, Frame.atR])

/-- No jump to a label. -/
def noGoto (Q : Exit → Act → World → Prop) : Exit → Act → World → Prop
  | .goto _, _, _ => False
  | e, a, w => Q e a w

theorem wpIn_loop_fuel {c : Code} (J : Nat → Act → World → Prop) (h₀ : ∃ r, J r a w) (hz : ∀ a w, ¬ J 0 a w)
    (round : ∀ r a w, J (r + 1) a w → c.wpIn F n P (Exit.then (fun a' w' => J r a' w') Q) a w) : (Code.loop c).wpIn F n P Q a w := by
  intro b k cs hro hb hr
  have key : ∀ j a w, J j a w →
      ∃ e a' w', Q e a' w' ∧ ArrivesIn (Machine.fenced P F) P (lone (b.atR a (.code c :: .inLoop c :: k)) cs w) b k cs e a' w' := by
    intro j
    induction j with
    | zero => intro a w h; exact absurd h (hz a w)
    | succ j ih =>
      intro a w hJ
      obtain ⟨e, a₁, w₁, hq, harr⟩ := round j a w hJ b (.inLoop c :: k) cs hro hb hr
      cases e with
      | normal =>
        obtain ⟨e₂, a₂, w₂, hq₂, harr₂⟩ := ih a₁ w₁ hq
        exact ⟨e₂, a₂, w₂, hq₂, .of_steps (StepsIn.trans harr (.one (fenced_calm hb hr rfl) stepR_inLoop)) harr₂⟩
      | exit id => exact ⟨_, a₁, w₁, hq, .pass (x := .inLoop c) rfl (fun _ _ => .inl (by simp)) harr⟩
      | goto l => exact ⟨_, a₁, w₁, hq, .pass (x := .inLoop c) rfl (fun _ _ => .inl (by simp)) harr⟩
      | ret => exact ⟨_, a₁, w₁, hq, .pass (x := .inLoop c) rfl (fun _ _ => .inl (by simp)) harr⟩
      | panic ch => exact ⟨_, a₁, w₁, hq, .pass (x := .inLoop c) rfl (fun _ _ => .inl (by simp)) harr⟩
      | outgrown => exact ⟨_, a₁, w₁, hq, .pass (x := .inLoop c) rfl (fun _ _ => .inl (by simp)) harr⟩
  obtain ⟨r, h₀⟩ := h₀
  obtain ⟨e, a', w', hq, harr⟩ := key r a w h₀
  exact ⟨e, a', w', hq, .of_steps (.one (fenced_calm hb hr rfl) stepR_loop) harr⟩

theorem wpIn_scope {c : Code} (h : c.wpIn F n P (noGoto Q) a w) : (Code.scope c).wpIn F n P Q a w := by
  intro b k cs hro hb hr
  have h0 : (lone (b.atR a (.code (.scope c) :: k)) cs w).fenced P F := fenced_calm hb hr rfl
  obtain ⟨e, a₁, w₁, hq, harr⟩ := h b (.inScope c :: k) cs hro hb hr
  cases e with
  | normal => exact ⟨.normal, a₁, w₁, hq, .head h0 stepR_scope' (StepsIn.trans harr (.one (fenced_calm hb hr rfl) stepR_inScope'))⟩
  | exit id =>
    have hx : exitTo id (.inScope c :: k) = exitTo id k := by simp [exitTo]
    exact ⟨.exit id, a₁, w₁, hq, fun k' hk => .head h0 stepR_scope' (harr.1 k' (by rw [hx]; exact hk)),
      fun hr' hk => let ⟨k₁, h1, h2⟩ := harr.2 hr' (by rw [hx]; exact hk); ⟨k₁, h1, .head h0 stepR_scope' h2⟩⟩
  | goto l => exact hq.elim
  | ret => exact ⟨_, a₁, w₁, hq, .of_steps (.one h0 stepR_scope') harr⟩
  | panic ch => exact ⟨_, a₁, w₁, hq, .of_steps (.one h0 stepR_scope') harr⟩
  | outgrown => exact ⟨_, a₁, w₁, hq, .of_steps (.one h0 stepR_scope') harr⟩
end

def toExit : GExit → Exit
  | .normal => .normal
  | .exit id => .exit id
  | .ret => .ret

/-- The block of a range over a function's deferred calls. -/
def markOf (D : Nat) : Deferred := { target := .collected D, args := #[] }
/-- Marks have been laid, each with a block of its own. -/
def Marks (w w' : World) (act act' : Act) : Prop :=
  ∃ ds : List Nat, act'.defers = ds.map markOf ++ act.defers ∧ ds.Nodup ∧ ∀ D ∈ ds, w.heap.size ≤ D ∧ w'.heap[D]? = some (.deferred (some []))
theorem Marks.same {w w' : World} {act act' : Act} (h : act'.defers = act.defers) : Marks w w' act act' := ⟨[], by simpa using h, List.nodup_nil, fun _ h => by cases h⟩
theorem Marks.trans {w w1 w2 : World} {act act1 act2 : Act} (h : Marks w w1 act act1) (k : Marks w1 w2 act1 act2) (g1 : Keep w w1) (g2 : Keep w1 w2) : Marks w w2 act act2 := by
  obtain ⟨ds, h1, h2, h3⟩ := h
  obtain ⟨es, k1, k2, k3⟩ := k
  refine ⟨es ++ ds, by rw [k1, h1]; simp, ?_, fun D hD => ?_⟩
  · rw [List.nodup_append]
    refine ⟨k2, h2, fun a ha b hb e => ?_⟩
    subst e
    have := (k3 a ha).1
    have := (Array.getElem?_eq_some_iff.1 (h3 a hb).2).1
    omega
  · rcases List.mem_append.1 hD with hD | hD
    · exact ⟨Nat.le_trans g1.size (k3 D hD).1, (k3 D hD).2⟩
    · exact ⟨(h3 D hD).1, g2.defs D _ (h3 D hD).2⟩

/-- Where code that was begun at (m, H, w, act) has come to. -/
structure At (P : Program) (base : Nat) (m : PM) (H : GH) (w : World) (act : Act) (a' : GA) (m' : PM) (H' : GH) (w' : World) (act' : Act) : Prop where
  tmps : VRs m' a' act'.tmps.toList
  rel : Rel P base m' H' w'
  go : Go1 base m m' H H' w w'
  marks : Marks w w' act act'
theorem At.trans {P : Program} {base : Nat} {m m1 m2 : PM} {H H1 H2 : GH} {w w1 w2 : World} {act act1 act2 : Act} {a1 a2 : GA} (h : At P base m H w act a1 m1 H1 w1 act1) (k : At P base m1 H1 w1 act1 a2 m2 H2 w2 act2) :
    At P base m H w act a2 m2 H2 w2 act2 := ⟨k.tmps, k.rel, h.go.trans k.go, h.marks.trans k.marks h.go.keep k.go.keep⟩
theorem At.refl {P : Program} {base : Nat} {m : PM} {H : GH} {w : World} {act : Act} {a : GA} (h : VRs m a act.tmps.toList) (hR : Rel P base m H w) : At P base m H w act a m H w act := ⟨h, hR, .refl _ _ _ _, .same rfl⟩

/-- A round's loop has its record. -/
def RoundAt (F : Fence) (w : World) : Prop := ∀ l, F.round = some l → ∃ r : Loop, w.heap[l]? = some (.loop r)
theorem RoundAt.keep {F : Fence} {w w' : World} (h : RoundAt F w) (k : Keep w w') : RoundAt F w' := fun l hl => by
  obtain ⟨r, hr⟩ := h l hl
  exact k.loop l r hr

/-- What is claimed of a piece of code. -/
def CodeOk (F : Fence) (n : Nat) (P : Program) (base : Nat) (c : Code) (f : {β : Type} → GA → GH → Kont β → M β) : Prop :=
  ∀ {β : Type} {K : Kont β} {outs : List β} {a : GA} {H : GH} {m : PM} {w : World} {act : Act} {Q : Exit → Act → World → Prop}, f a H K = some outs → VRs m a act.tmps.toList → Rel P base m H w → base ≤ w.heap.size → RoundAt F w →
    (∀ e a' H' m' w' act' o, K e a' H' = some o → o ⊆ outs → At P base m H w act a' m' H' w' act' → Q (toExit e) act' w') → c.wpIn F n P Q act w

section
variable {P : Program} {base : Nat} {F : Fence} {n : Nat}

theorem loop_sound {c : Code} {f : {β : Type} → GA → GH → Kont β → M β} (hc : CodeOk F n P base c f) (k : Nat) : CodeOk F n P base (.loop c) fun a H K => gLoop (f) K k a H := by
  intro β K outs a H m w act Q h hA hR hb hro hK
  let J : Nat → Act → World → Prop := fun r act' w' => ∃ a' H' m' o, gLoop f K r a' H' = some o ∧ o ⊆ outs ∧ At P base m H w act a' m' H' w' act'
  have hJ0 : ∀ act' w', ¬ J 0 act' w' := fun act' w' ⟨a', H', m', o, h, _⟩ => by simp [gLoop] at h
  refine wpIn_loop_fuel J ⟨k, a, H, m, outs, h, fun _ hx => hx, .refl hA hR⟩ hJ0 fun r act1 w1 hJ => ?_
  obtain ⟨a1, H1, m1, o, hl, hs, hat⟩ := hJ
  unfold gLoop at hl
  refine hc hl hat.tmps hat.rel (Nat.le_trans hb hat.go.keep.size) (hro.keep hat.go.keep) fun e a2 H2 m2 w2 act2 o2 hk hs2 hat2 => ?_
  have hat3 := hat.trans hat2
  cases e with
  | normal => exact ⟨a2, H2, m2, o2, hk, fun x hx => hs (hs2 hx), hat3⟩
  | exit id => exact hK (.exit id) a2 H2 m2 w2 act2 o2 hk (fun x hx => hs (hs2 hx)) hat3
  | ret => exact hK .ret a2 H2 m2 w2 act2 o2 hk (fun x hx => hs (hs2 hx)) hat3
end
end Go.Gh
