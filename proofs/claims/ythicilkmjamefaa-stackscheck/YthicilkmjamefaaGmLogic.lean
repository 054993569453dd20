/- The ghost machine: a small logic for evaluations: single outcomes, heaps that grow, data that lie in a heap, what the operations come to. -/
import Derived.Test.YthicilkmjamefaaGlSh
import Derived.IntWalk
namespace Go.Gh
set_option linter.unusedVariables false
set_option linter.unusedSimpArgs false

/-- It comes to one outcome, and it is such. -/
def Ev {β : Type} (x : M β) (Q : β → Prop) : Prop := ∃ v, x = some [v] ∧ Q v
section
variable {β α : Type} {Q Q' : β → Prop}
theorem Ev.mk {v : β} (h : Q v) : Ev (some [v]) Q := ⟨v, rfl, h⟩
theorem Ev.mono {x : M β} (h : Ev x Q) (hq : ∀ y, Q y → Q' y) : Ev x Q' := by obtain ⟨v, h1, h2⟩ := h; exact ⟨v, h1, hq v h2⟩
theorem Ev.all {x : M β} (h : Ev x Q) : All x Q := by obtain ⟨v, h1, h2⟩ := h; exact ⟨[v], h1, fun y hy => by rw [List.mem_singleton] at hy; subst hy; exact h2⟩
theorem Ev.bind {x : M α} {f : α → M β} {R : α → Prop} (h : Ev x R) (hf : ∀ a, R a → Ev (f a) Q) : Ev (bindM x f) Q := by
  obtain ⟨v, rfl, h2⟩ := h
  exact hf v h2
theorem All.bind' {x : M α} {f : α → M β} {R : α → Prop} (h : All x R) (hf : ∀ a, R a → All (f a) Q) : All (bindM x f) Q := All.bind (h.mono hf)
end
theorem onV_s {β : Type} {v : Value} {f : Value → M β} : onV (some v) f = f v := rfl
theorem onH_s {β : Type} {v : GH} {f : GH → M β} : onH (some v) f = f v := rfl
theorem onVH_s {β : Type} {v : Value} {H : GH} {f : Value → GH → M β} : onVH (some (v, H)) f = f v H := rfl

/-! ### Heaps that grow -/
/-- What was there is as it was; new blocks have been laid. -/
structure Ext (H H' : GH) : Prop where
  ex : ∃ new, H'.objs = new ++ H.objs ∧ H'.n = H.n + new.length
  lo : min H.lo H.n ≤ H'.lo
theorem Ext.refl (H : GH) : Ext H H := ⟨⟨[], rfl, rfl⟩, Nat.min_le_left _ _⟩
theorem Ext.n {H H' : GH} (h : Ext H H') : H.n ≤ H'.n := by obtain ⟨new, _, h2⟩ := h.ex; omega
theorem Ext.trans {A B C : GH} (h : Ext A B) (k : Ext B C) : Ext A C := by
  refine ⟨?_, ?_⟩
  · obtain ⟨n1, a1, b1⟩ := h.ex
    obtain ⟨n2, a2, b2⟩ := k.ex
    exact ⟨n2 ++ n1, by rw [a2, a1, List.append_assoc], by rw [b2, b1, List.length_append]; omega⟩
  · have := h.lo; have := k.lo; have := h.n; omega
theorem Ext.get {H H' : GH} (h : Ext H H') {b : Nat} (hb : b < H.n) : H'.get b = H.get b := by
  obtain ⟨new, h1, h2⟩ := h.ex
  unfold GH.get
  rw [if_pos hb, if_pos (by omega), h1, List.getElem?_append_right (by omega)]
  congr 1
  omega
theorem Ext.get_of {H H' : GH} (h : Ext H H') {b : Nat} {o : GObj} (hb : H.get b = some o) : H'.get b = some o := by rw [h.get (GH.get_lt hb)]; exact hb
theorem Ext.push (H : GH) (o : GObj) : Ext H (H.push o) := ⟨⟨[o], rfl, rfl⟩, Nat.min_le_left _ _⟩
theorem Ext.set {H0 H : GH} (h : Ext H0 H) {b : Nat} (h0 : H0.n ≤ b) (h1 : b < H.n) (o : GObj) : Ext H0 (H.set b o) := by
  obtain ⟨new, e1, e2⟩ := h.ex
  refine ⟨⟨new.set (H.n - 1 - b) o, ?_, by rw [GH.set_n, List.length_set]; exact e2⟩, ?_⟩
  · show H.objs.set (H.n - 1 - b) o = _
    rw [e1, List.set_append_left _ _ (by omega)]
  · have := h.lo; rw [GH.set_lo]; omega
theorem Ext.setLo {H0 H : GH} (h : Ext H0 H) (l : Nat) (hl : min H0.lo H0.n ≤ l) : Ext H0 { H with lo := l } := ⟨h.ex, hl⟩
theorem Ext.push' {H0 H : GH} (h : Ext H0 H) (o : GObj) : Ext H0 (H.push o) := h.trans (.push H o)

/-- A call comes to one outcome, such, and turns nothing that was there. -/
def Sp (call : Handle) (f : Value) (args : List Value) (H : GH) (R : Value → GH → Prop) : Prop :=
  ∀ lo, Ev (call f args { H with lo := lo }) fun x => Ext { H with lo := lo } x.2 ∧ ∀ lo', R x.1 { x.2 with lo := lo' }
theorem Ev.call {β : Type} {Q : β → Prop} {call : Handle} {f : Value} {args : List Value} {H : GH} {R : Value → GH → Prop} {K : Value → GH → M β} (d : Nat) (h : Sp call f args H R)
    (hK : ∀ v H', Ext H H' → R v H' → Ev (K v H') Q) : Ev (onCall d call f args H K) Q := by
  unfold onCall
  split
  · obtain ⟨x, h1, h2, h3⟩ := h H.lo
    have h1 : call f args H = some [x] := h1
    rw [h1]
    exact hK x.1 x.2 h2 (h3 x.2.lo)
  · obtain ⟨⟨v, H1⟩, h1, h2, h3⟩ := h H.lo
    have h1 : call f args H = some [(v, H1)] := h1
    rw [h1]
    simp only
    rw [if_pos h2.n]
    exact hK v H1 h2 (h3 H1.lo)
  · obtain ⟨⟨v, H1⟩, h1, h2, h3⟩ := h H.n
    rw [h1]
    simp only
    obtain ⟨new, e1, e2⟩ := h2.ex
    simp only at e1 e2
    have h2l := h2.lo
    simp only [Nat.min_self] at h2l
    have e3 : H1.objs.take (H1.n - H.n) = new := by rw [e1, e2, Nat.add_sub_cancel_left, List.take_left]
    rw [if_pos ⟨h2l, by omega, by rw [e3]; omega⟩, e3, ← e1]
    refine hK v _ ⟨⟨new, e1, e2⟩, ?_⟩ (h3 _)
    show min H.lo H.n ≤ min H.lo H1.lo
    omega
theorem Sp.mono {call : Handle} {f : Value} {args : List Value} {H : GH} {R R' : Value → GH → Prop} (h : Sp call f args H R) (hR : ∀ v H', R v H' → R' v H') : Sp call f args H R' :=
  fun lo => (h lo).mono fun x hx => ⟨hx.1, fun lo' => hR _ _ (hx.2 lo')⟩
/-- Plain calls: whatever they do. -/
theorem Ev.call0 {β : Type} {Q : β → Prop} {call : Handle} {f : Value} {args : List Value} {H : GH} {R : Value × GH → Prop} {K : Value → GH → M β} (h : Ev (call f args H) R)
    (hK : ∀ v H', R (v, H') → Ev (K v H') Q) : Ev (onCall 0 call f args H K) Q := h.bind fun x hx => hK x.1 x.2 hx
theorem All.call0 {β : Type} {Q : β → Prop} {call : Handle} {f : Value} {args : List Value} {H : GH} {R : Value × GH → Prop} {K : Value → GH → M β} (h : All (call f args H) R)
    (hK : ∀ v H', R (v, H') → All (K v H') Q) : All (onCall 0 call f args H K) Q := h.bind' fun x hx => hK x.1 x.2 hx

section
variable {P : Program} {T : Nat → Option Func}
theorem gCall_func {k : Nat} {f : Nat} {fn : Func} {fs cs : Array Value} {args : List Value} {H : GH} (h : T f = some fn) :
    gCall P T (k + 1) (.func (.func f) fs cs) args H = gFunc P (gCall P T k) k fn (fs.toList ++ args ++ cs.toList) H := by
  show (match T f with | some fn => gFunc P (gCall P T k) k fn (fs.toList ++ args ++ cs.toList) H | none => none) = _
  rw [h]
theorem gCall_yield {k L : Nat} {args : List Value} {H : GH} {tmps : List Value} {ps : List Tmp} {as bd : Code} (h : H.get L = some (.loop .ready none tmps ps as bd)) (hl : args.length = ps.length) :
    gCall P T (k + 1) (.func (.yield L) #[] #[]) args H = gCode P (gCall P T k) k as (gAssign ps args tmps) H (hBegin P (gCall P T k) k L bd) := by
  show gRound P (gCall P T k) k L args H = _
  unfold gRound
  rw [h]
  simp only [if_pos hl]
end
theorem onReady_s {β : Type} {L : Nat} {H : GH} {f : GH → M β} {tmps : List Value} {ps : List Tmp} {as bd : Code} (h : H.get L = some (.loop .ready none tmps ps as bd)) :
    onReady L H f = f (H.set L (.loop .busy none tmps ps as bd)) := by unfold onReady; rw [h]
theorem hRound_n {L : Nat} {H : GH} {tmps : List Value} {ps : List Tmp} {as bd : Code} (h : H.get L = some (.loop .busy none tmps ps as bd)) :
    hRound L .normal [] H = some [(.bool true, H.set L (.loop .ready none tmps ps as bd))] := by unfold hRound; rw [h]; rfl
theorem hRound_r {L : Nat} {H : GH} {tmps : List Value} {ps : List Tmp} {as bd : Code} (h : H.get L = some (.loop .busy none tmps ps as bd)) :
    hRound L .ret [] H = some [(.bool false, H.set L (.loop .done (some .ret) tmps ps as bd))] := by unfold hRound; rw [h]; rfl
theorem hRound_e {L i : Nat} {H : GH} {tmps : List Value} {ps : List Tmp} {as bd : Code} (h : H.get L = some (.loop .busy none tmps ps as bd)) :
    hRound L (.exit i) [] H = some [(.bool false, H.set L (.loop .done (some (.exit i)) tmps ps as bd))] := by unfold hRound; rw [h]; rfl
theorem onFunc_s {β : Type} {f : Nat} {fs cs : Array Value} {C : Value → M β} : onFunc (.func (.func f) fs cs) C = C (.func (.func f) fs cs) := rfl
theorem onEnd_n {β : Type} {L : Nat} {H : GH} {p q : GH → M β} {r : Nat → GH → M β} {st : LoopState} {tmps : List Value} {ps : List Tmp} {as bd : Code} (hs : st ≠ .busy) (h : H.get L = some (.loop st none tmps ps as bd)) :
    onEnd L H p q r = p (H.set L (.loop .exhausted none tmps ps as bd)) := by unfold onEnd; rw [h]; cases st <;> first | exact absurd rfl hs | rfl
theorem onEnd_r {β : Type} {L : Nat} {H : GH} {p q : GH → M β} {r : Nat → GH → M β} {st : LoopState} {tmps : List Value} {ps : List Tmp} {as bd : Code} (hs : st ≠ .busy) (h : H.get L = some (.loop st (some .ret) tmps ps as bd)) :
    onEnd L H p q r = q (H.set L (.loop .exhausted (some .ret) tmps ps as bd)) := by unfold onEnd; rw [h]; cases st <;> first | exact absurd rfl hs | rfl
theorem onEnd_e {β : Type} {L i : Nat} {H : GH} {p q : GH → M β} {r : Nat → GH → M β} {st : LoopState} {tmps : List Value} {ps : List Tmp} {as bd : Code} (hs : st ≠ .busy) (h : H.get L = some (.loop st (some (.exit i)) tmps ps as bd)) :
    onEnd L H p q r = r i (H.set L (.loop .exhausted (some (.exit i)) tmps ps as bd)) := by unfold onEnd; rw [h]; cases st <;> first | exact absurd rfl hs | rfl

/-! ### What operations on numbers come to -/
section
variable {P : Program} {t : TypeId} {k : IntKind} {a b : Int}
theorem bin_add : (oBin P .add t (.int k a) (.int k b)).filter closed = some (.int k (k.wrap (a + b))) := by unfold oBin; simp [gArith]; rfl
theorem bin_sub : (oBin P .sub t (.int k a) (.int k b)).filter closed = some (.int k (k.wrap (a - b))) := by unfold oBin; simp [gArith]; rfl
theorem bin_mul : (oBin P .mul t (.int k a) (.int k b)).filter closed = some (.int k (k.wrap (a * b))) := by unfold oBin; simp [gArith]; rfl
theorem bin_lss : (oBin P .lss t (.int k a) (.int k b)).filter closed = some (.bool (decide (a < b))) := by unfold oBin; simp [gArith]; rfl
theorem bin_leq : (oBin P .leq t (.int k a) (.int k b)).filter closed = some (.bool (decide (a ≤ b))) := by unfold oBin; simp [gArith]; rfl
theorem bin_gtr : (oBin P .gtr t (.int k a) (.int k b)).filter closed = some (.bool (decide (b < a))) := by unfold oBin; simp [gArith]; rfl
theorem bin_geq : (oBin P .geq t (.int k a) (.int k b)).filter closed = some (.bool (decide (b ≤ a))) := by unfold oBin; simp [gArith]; rfl
theorem bin_eql : (oBin P .eql t (.int k a) (.int k b)).filter closed = some (.bool (decide (a = b))) := by unfold oBin; simp [gArith]; exact ⟨rfl, rfl⟩
theorem bin_neq : (oBin P .neq t (.int k a) (.int k b)).filter closed = some (.bool (decide (a ≠ b))) := by unfold oBin; simp [gArith]; exact ⟨rfl, rfl⟩
theorem not_b {b : Bool} : (oUn P .not (.bool b)).filter closed = some (.bool !b) := rfl
end
theorem pick_b {b : Bool} {x y : Value} : oPick (.bool b) x y = some (if b then x else y) := rfl
theorem onBool_d {β : Type} {c : Prop} [Decidable c] {p q : M β} : onBool (some (decide c)) p q = if c then p else q := by by_cases h : c <;> simp [h, onBool]
theorem onBool_i {β : Type} {c : Bool} {p q : M β} : onBool (some c) p q = if c then p else q := by cases c <;> rfl
end Go.Gh
