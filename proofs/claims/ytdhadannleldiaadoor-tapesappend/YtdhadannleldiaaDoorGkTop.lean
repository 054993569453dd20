/- The ghost machine: from an evaluation to the call that a law asks for. -/
import Derived.Test.YtdhadannleldiaaDoorGjCall
import Derived.KernelRfl
import Derived.IntWalk
namespace Go.Gh
open Go.RowKit
set_option linter.unusedVariables false
set_option linter.unusedSimpArgs false

/-- An evaluation all of whose outcomes are true: the call returns true, and nothing that was there has been turned. -/
theorem top_calls {P : Program} (hmix : P.follows .mixedOrders = true) {T : Nat → Option Func} (hT : ∀ f fn, T f = some fn → P.funcs[f]? = some fn ∧ funcOk fn = true) {k : Nat} {f : FuncId} {args : List Value} {H : GH} {outs : List (Value × GH)}
    (h : gCall P T k (.func (.func f) #[] #[]) args H = some outs) (hall : ∀ x ∈ outs, x.1 = .bool true) {m : PM} {W : World} {args' : Array Value} (ha : VRs m args args'.toList) (hR : Rel P W.heap.size m H W) :
    Calls P f args' W fun e w' => e = .returned (.bool true) ∧ Below W.heap.size W w' := by
  have h1 := gCall_ok hmix hT k _ _ _ _ h W.heap.size m W (.func (.func f) #[] #[]) args'.toList
    (.func f #[] #[] #[] #[] rfl (fun i hi => absurd hi (by simp)) rfl (fun i hi => absurd hi (by simp))) ha hR (Nat.le_refl _)
  rcases h1 with ⟨f', fn, fs, cs, e, h2, h3, h4, h5⟩ | ⟨L, f', tmps, as, bd, e, _⟩
  · injection e with e1 e2 e3
    injection e1 with e1
    subst e1; subst e2; subst e3
    have h6 := callsIn_wide.1 (h5 0)
    have e : (#[] ++ args'.toList.toArray ++ #[] : Array Value) = args' := by simp
    rw [e] at h6
    refine h6.mono fun e w' he => ?_
    cases e with
    | returned v =>
      obtain ⟨x, hx, m', hv, _, hG⟩ := he
      rw [hall x hx] at hv
      cases hv
      exact ⟨rfl, hG.below⟩
    | panicked _ => exact he.elim
    | outgrown => exact he.elim
  · cases e
end Go.Gh
/- The ghost machine: what is shown of evaluations: every outcome is such. Plain laws for sequences, conditions, loops. -/
namespace Go.Gh
set_option linter.unusedVariables false

/-- It comes to outcomes, and each is such. -/
def All {β : Type} (x : M β) (Q : β → Prop) : Prop := ∃ l, x = some l ∧ ∀ y ∈ l, Q y
section
variable {β α : Type} {Q Q' : β → Prop}
theorem All.ret {v : β} (h : Q v) : All (ret v) Q := ⟨[v], rfl, fun y hy => by rw [List.mem_singleton] at hy; subst hy; exact h⟩
theorem All.one {v : β} (h : Q v) : All (some [v]) Q := All.ret h
theorem All.mono {x : M β} (h : All x Q) (hq : ∀ y, Q y → Q' y) : All x Q' := by
  obtain ⟨l, h1, h2⟩ := h
  exact ⟨l, h1, fun y hy => hq y (h2 y hy)⟩
theorem joinM_all {f : α → M β} : ∀ l : List α, (∀ a ∈ l, All (f a) Q) → All (joinM (l.map f)) Q := by
  intro l
  induction l with
  | nil => intro _; exact ⟨[], rfl, fun y hy => by cases hy⟩
  | cons a l ih =>
    intro h
    obtain ⟨l1, h1, h2⟩ := h a (by simp)
    obtain ⟨l2, h3, h4⟩ := ih fun b hb => h b (by simp [hb])
    refine ⟨l1 ++ l2, by simp [joinM, h1, h3], fun y hy => ?_⟩
    rcases List.mem_append.1 hy with hy | hy
    · exact h2 y hy
    · exact h4 y hy
theorem All.bind {x : M α} {f : α → M β} (h : All x fun a => All (f a) Q) : All (bindM x f) Q := by
  obtain ⟨l, rfl, h⟩ := h
  unfold bindM
  split
  · next h' => cases h'
  · next a h' => injection h' with h'; subst h'; exact h a (by simp)
  · next l' _ h' => injection h' with h'; subst h'; exact joinM_all _ h
theorem All.onV {x : Option Value} {f : Value → M β} {v : Value} (hx : x = some v) (h : All (f v) Q) : All (onV x f) Q := by subst hx; exact h
theorem All.onH {x : Option GH} {f : GH → M β} {v : GH} (hx : x = some v) (h : All (f v) Q) : All (onH x f) Q := by subst hx; exact h
theorem All.onVH {x : Option (Value × GH)} {f : Value → GH → M β} {v : Value} {H : GH} (hx : x = some (v, H)) (h : All (f v H) Q) : All (onVH x f) Q := by subst hx; exact h
theorem All.onBool {b : Bool} {p q : M β} (hp : b = true → All p Q) (hq : b = false → All q Q) : All (onBool (some b) p q) Q := by
  cases b
  · exact hq rfl
  · exact hp rfl
end

/-- A loop: I i a H: so many rounds at most are left. -/
theorem All.loop {β : Type} {Q : β → Prop} {f : GA → GH → Kont β → M β} {K : Kont β} (I : Nat → GA → GH → Prop) (R : GExit → GA → GH → Prop) (hK : ∀ e a H, R e a H → All (K e a H) Q)
    (step : ∀ (i : Nat) (a : GA) (H : GH) (K' : Kont β), I i a H → (∀ a' H' j, j < i → I j a' H' → All (K' .normal a' H') Q) → (∀ e a' H', e ≠ .normal → R e a' H' → All (K' e a' H') Q) → All (f a H K') Q) :
    ∀ (k i : Nat) (a : GA) (H : GH), I i a H → i < k → All (gLoop f K k a H) Q := by
  intro k
  induction k with
  | zero => intro i a H _ h; omega
  | succ k ih =>
    intro i a H hI hi
    unfold gLoop
    refine step i a H _ hI (fun a' H' j hj hI' => ih j a' H' hI' (by omega)) fun e a' H' he hR => ?_
    cases e with
    | normal => exact absurd rfl he
    | exit id => exact hK (.exit id) a' H' hR
    | ret => exact hK .ret a' H' hR

/-! ### The heap, looked at -/
theorem GH.push_get (H : GH) (o : GObj) (b : Nat) : (H.push o).get b = if b = H.n then some o else H.get b := by
  rcases Nat.lt_trichotomy b H.n with h | h | h
  · rw [if_neg (by omega), GH.get_push_old h]
  · subst h; rw [if_pos rfl, GH.get_push_new]
  · rw [if_neg (by omega), GH.get_push_ge h]
    unfold GH.get
    rw [if_neg (by omega)]
theorem GH.set_get (H : GH) (b : Nat) (o : GObj) (c : Nat) {o' : GObj} (hb : H.get b = some o') : (H.set b o).get c = if c = b then some o else H.get c := by
  by_cases h : c = b
  · subst h; rw [if_pos rfl, GH.get_set_same hb]
  · rw [if_neg h, GH.get_set_other (Ne.symm h) (GH.get_lt hb)]

/-- A place in a piece of code. -/
def cAt : Code → List Nat → Code
  | .seq x _, 0 :: p => cAt x p
  | .seq _ y, _ :: p => cAt y p
  | .cond _ x _, 0 :: p => cAt x p
  | .cond _ _ y, _ :: p => cAt y p
  | .block _ c, _ :: p => cAt c p
  | .scope c, _ :: p => cAt c p
  | .loop c, _ :: p => cAt c p
  | .rangeFunc _ _ x _, 0 :: p => cAt x p
  | .rangeFunc _ _ _ y, _ :: p => cAt y p
  | c, _ => c
def opsAt : Code → List Oper
  | .region _ ops _ => ops.toList
  | _ => []
def onFunc {β : Type} (v : Value) (f : Value → M β) : M β := match v with | .func (.func g) fs cs => f (.func (.func g) fs cs) | _ => none
def fAt (f : Func) (p : List Nat) : Code := match f.body with | some c => cAt c p | none => .skip
end Go.Gh
/- The ghost machine: words for the shallow form of functions (what sh.py prints), and the rules by which the code's control flow is taken apart. -/
namespace Go.Gh
set_option linter.unusedVariables false

/-- A frame of n temporaries. -/
def FF (n : Nat) (d : Nat → Value) : GA := (List.range n).map d
/-- A frame with places set, the last one first. -/
def FS (a : GA) : List (Nat × Value) → GA
  | [] => a
  | x :: r => (FS a r).set x.1 x.2
def FG (n : Nat) (d : Nat → Value) (l : List (Nat × Value)) : GA := FS (FF n d) l
abbrev AG := GA → GH → M (Value × GH)
abbrev Sg0 := GH → M (Value × GH)
abbrev Sg1 := Value → GH → M (Value × GH)
abbrev Sg2 := Value → Value → GH → M (Value × GH)
abbrev Sg3 := Value → Value → Value → GH → M (Value × GH)
abbrev Sg4 := Value → Value → Value → Value → GH → M (Value × GH)
abbrev Sg5 := Value → Value → Value → Value → Value → GH → M (Value × GH)
abbrev Sg6 := Value → Value → Value → Value → Value → Value → GH → M (Value × GH)
abbrev Sg7 := Value → Value → Value → Value → Value → Value → Value → GH → M (Value × GH)
abbrev Sg8 := Value → Value → Value → Value → Value → Value → Value → Value → GH → M (Value × GH)
abbrev Sg9 := Value → Value → Value → Value → Value → Value → Value → Value → Value → GH → M (Value × GH)
abbrev Sg10 := Value → Value → Value → Value → Value → Value → Value → Value → Value → Value → GH → M (Value × GH)
abbrev Sg11 := Value → Value → Value → Value → Value → Value → Value → Value → Value → Value → Value → GH → M (Value × GH)
abbrev Sg12 := Value → Value → Value → Value → Value → Value → Value → Value → Value → Value → Value → Value → GH → M (Value × GH)
abbrev Sg13 := Value → Value → Value → Value → Value → Value → Value → Value → Value → Value → Value → Value → Value → GH → M (Value × GH)
abbrev Sg14 := Value → Value → Value → Value → Value → Value → Value → Value → Value → Value → Value → Value → Value → Value → GH → M (Value × GH)
abbrev Sg15 := Value → Value → Value → Value → Value → Value → Value → Value → Value → Value → Value → Value → Value → Value → Value → GH → M (Value × GH)
abbrev Sg16 := Value → Value → Value → Value → Value → Value → Value → Value → Value → Value → Value → Value → Value → Value → Value → Value → GH → M (Value × GH)
abbrev Sg17 := Value → Value → Value → Value → Value → Value → Value → Value → Value → Value → Value → Value → Value → Value → Value → Value → Value → GH → M (Value × GH)
abbrev Sg18 := Value → Value → Value → Value → Value → Value → Value → Value → Value → Value → Value → Value → Value → Value → Value → Value → Value → Value → GH → M (Value × GH)
abbrev Sg19 := Value → Value → Value → Value → Value → Value → Value → Value → Value → Value → Value → Value → Value → Value → Value → Value → Value → Value → Value → GH → M (Value × GH)
abbrev Sg20 := Value → Value → Value → Value → Value → Value → Value → Value → Value → Value → Value → Value → Value → Value → Value → Value → Value → Value → Value → Value → GH → M (Value × GH)
abbrev Sg21 := Value → Value → Value → Value → Value → Value → Value → Value → Value → Value → Value → Value → Value → Value → Value → Value → Value → Value → Value → Value → Value → GH → M (Value × GH)
abbrev Sg22 := Value → Value → Value → Value → Value → Value → Value → Value → Value → Value → Value → Value → Value → Value → Value → Value → Value → Value → Value → Value → Value → Value → GH → M (Value × GH)
abbrev Sg23 := Value → Value → Value → Value → Value → Value → Value → Value → Value → Value → Value → Value → Value → Value → Value → Value → Value → Value → Value → Value → Value → Value → Value → GH → M (Value × GH)
abbrev Sg24 := Value → Value → Value → Value → Value → Value → Value → Value → Value → Value → Value → Value → Value → Value → Value → Value → Value → Value → Value → Value → Value → Value → Value → Value → GH → M (Value × GH)
abbrev Sg25 := Value → Value → Value → Value → Value → Value → Value → Value → Value → Value → Value → Value → Value → Value → Value → Value → Value → Value → Value → Value → Value → Value → Value → Value → Value → GH → M (Value × GH)
abbrev Sg26 := Value → Value → Value → Value → Value → Value → Value → Value → Value → Value → Value → Value → Value → Value → Value → Value → Value → Value → Value → Value → Value → Value → Value → Value → Value → Value → GH → M (Value × GH)
abbrev Sg27 := Value → Value → Value → Value → Value → Value → Value → Value → Value → Value → Value → Value → Value → Value → Value → Value → Value → Value → Value → Value → Value → Value → Value → Value → Value → Value → Value → GH → M (Value × GH)
abbrev Sg28 := Value → Value → Value → Value → Value → Value → Value → Value → Value → Value → Value → Value → Value → Value → Value → Value → Value → Value → Value → Value → Value → Value → Value → Value → Value → Value → Value → Value → GH → M (Value × GH)
abbrev Sg29 := Value → Value → Value → Value → Value → Value → Value → Value → Value → Value → Value → Value → Value → Value → Value → Value → Value → Value → Value → Value → Value → Value → Value → Value → Value → Value → Value → Value → Value → GH → M (Value × GH)
abbrev Sg30 := Value → Value → Value → Value → Value → Value → Value → Value → Value → Value → Value → Value → Value → Value → Value → Value → Value → Value → Value → Value → Value → Value → Value → Value → Value → Value → Value → Value → Value → Value → GH → M (Value × GH)
abbrev Sg31 := Value → Sg30
abbrev Sg32 := Value → Sg31
abbrev Sg33 := Value → Sg32
abbrev Sg34 := Value → Sg33
abbrev Sg35 := Value → Sg34
abbrev Sg36 := Value → Sg35
abbrev Sg37 := Value → Sg36
abbrev Sg38 := Value → Sg37
abbrev Sg39 := Value → Sg38
abbrev Sg40 := Value → Sg39
abbrev Sg41 := Value → Sg40
abbrev Sg42 := Value → Sg41
abbrev Sg43 := Value → Sg42
abbrev Sg44 := Value → Sg43
abbrev Sg45 := Value → Sg44
abbrev Sg46 := Value → Sg45
abbrev Sg47 := Value → Sg46
abbrev Sg48 := Value → Sg47
abbrev Sg49 := Value → Sg48
abbrev Sg50 := Value → Sg49
abbrev Sg51 := Value → Sg50
abbrev Sg52 := Value → Sg51
abbrev Sg53 := Value → Sg52
abbrev Sg54 := Value → Sg53
abbrev Sg55 := Value → Sg54
abbrev Sg56 := Value → Sg55
abbrev Sg57 := Value → Sg56
abbrev Sg58 := Value → Sg57
abbrev Sg59 := Value → Sg58
abbrev Sg60 := Value → Sg59
abbrev Sg61 := Value → Sg60
abbrev Sg62 := Value → Sg61
abbrev Sg63 := Value → Sg62
abbrev Sg64 := Value → Sg63
abbrev Sg65 := Value → Sg64
abbrev Sg66 := Value → Sg65
abbrev Sg67 := Value → Sg66
abbrev Sg68 := Value → Sg67
abbrev Sg69 := Value → Sg68
abbrev Sg70 := Value → Sg69
abbrev Sg71 := Value → Sg70
abbrev Sg72 := Value → Sg71
abbrev Sg73 := Value → Sg72
abbrev Sg74 := Value → Sg73
abbrev Sg75 := Value → Sg74
abbrev Sg76 := Value → Sg75
abbrev Sg77 := Value → Sg76
abbrev Sg78 := Value → Sg77
abbrev Sg79 := Value → Sg78
abbrev Sg80 := Value → Sg79
/-- What a frame holds. -/
def gf (a : GA) : Nat → Value := fun i => a.getD i undef
theorem FF_len {n : Nat} {d : Nat → Value} : (FF n d).length = n := by unfold FF; rw [List.length_map, List.length_range]
theorem FS_len {a : GA} : ∀ {l : List (Nat × Value)}, (FS a l).length = a.length
  | [] => rfl
  | x :: r => by unfold FS; rw [List.length_set]; exact FS_len
theorem FG_len {n : Nat} {d : Nat → Value} {l : List (Nat × Value)} : (FG n d l).length = n := by unfold FG; rw [FS_len, FF_len]
theorem FF_gf {n : Nat} {a : GA} (h : a.length = n) : FF n (gf a) = a := by
  apply List.ext_getElem?
  intro i
  have e : FF n (gf a) = (List.range n).map (gf a) := rfl
  rw [e, List.getElem?_map]
  rcases Nat.lt_or_ge i n with hi | hi
  · rw [List.getElem?_range hi, Option.map_some]
    unfold gf
    rw [List.getD_eq_getElem?_getD, List.getElem?_eq_getElem (h ▸ hi)]
    rfl
  · rw [List.getElem?_eq_none (by rw [List.length_range]; exact hi), List.getElem?_eq_none (by rw [h]; exact hi)]
    rfl
theorem FS_nil {a : GA} : FS a [] = a := rfl
theorem FS_cons {a : GA} {t : Nat} {v : Value} {r : List (Nat × Value)} (h : a[t]? = some v) (hr : FS a r = a) : FS a ((t, v) :: r) = a := by
  unfold FS
  rw [hr]
  obtain ⟨h1, h2⟩ := List.getElem?_eq_some_iff.1 h
  simp only [← h2, List.set_getElem_self]
theorem FG_eq {n : Nat} {a : GA} {l : List (Nat × Value)} (h : a.length = n) (hl : FS a l = a) : FG n (gf a) l = a := by
  unfold FG
  rw [FF_gf h]
  exact hl
/-- A round's body begins: the loop's record is busy from now on. -/
def onReady {β : Type} (L : Nat) (H : GH) (f : GH → M β) : M β := match H.get L with
  | some (.loop .ready none tmps params assign bd) => f (H.set L (.loop .busy none tmps params assign bd))
  | _ => none
/-- A range over a function ends. -/
def onEnd {β : Type} (l : Nat) (H : GH) (kn kr : GH → M β) (ke : Nat → GH → M β) : M β :=
  match H.get l with
  | some (.loop .busy _ _ _ _ _) => none
  | some (.loop _ none tmps ps as bd) => kn (H.set l (.loop .exhausted none tmps ps as bd))
  | some (.loop _ (some .ret) tmps ps as bd) => kr (H.set l (.loop .exhausted (some .ret) tmps ps as bd))
  | some (.loop _ (some (.exit id)) tmps ps as bd) => ke id (H.set l (.loop .exhausted (some (.exit id)) tmps ps as bd))
  | _ => none
def gRes1 (P : Program) (H : GH) : Value × Option TypeId → Option Value
  | (v, none) => some v
  | (v, some t) => gLoad P t v H
/-- What a function hands back. -/
def gResL (P : Program) (H : GH) (l : List (Value × Option TypeId)) : Option Value :=
  (l.mapM (gRes1 P H)).map fun vs => match vs with | [v] => v | vs => .tuple vs.toArray

def modeOf (P : Program) : Code → Option Nat
  | .region _ ops draw => gMode P ops draw
  | _ => none
section
variable {P : Program} {β : Type} {call : Handle} {k : Nat} {a : GA} {H : GH} {K : Kont β} {c x y : Code}
theorem at_skip (h : c = .skip) : gCode P call k c a H K = K .normal a H := by subst h; rfl
theorem at_label {n : Nat} (h : c = .label n) : gCode P call k c a H K = K .normal a H := by subst h; rfl
theorem at_seq (h : c = .seq x y) : gCode P call k c a H K = gCode P call k x a H (hSeq (gCode P call k y) K) := by subst h; rfl
theorem at_cond {o : Operand} (h : c = .cond o x y) : gCode P call k c a H K = onBool (asB (a.eval o)) (gCode P call k x a H K) (gCode P call k y a H K) := by subst h; rfl
theorem at_block {n : Nat} (h : c = .block n x) : gCode P call k c a H K = gCode P call k x a H (hBlock n K) := by subst h; rfl
theorem at_scope (h : c = .scope x) : gCode P call k c a H K = gCode P call k x a H K := by subst h; rfl
theorem at_loop (h : c = .loop x) : gCode P call k c a H K = gLoop (gCode P call k x) K k a H := by subst h; rfl
theorem at_exit {n : Nat} (h : c = .exit n) : gCode P call k c a H K = K (.exit n) a H := by subst h; rfl
theorem at_ret (h : c = .ret) : gCode P call k c a H K = K .ret a H := by subst h; rfl
theorem at_region {d : Nat} (h : modeOf P c = some d) : gCode P call k c a H K = gOps P d call (opsAt c) 0 ((opsAt c).drop 0) a H (K .normal) := by
  cases c <;> simp only [modeOf] at h <;> first | (cases h; done) | skip
  unfold gCode
  rw [h]
  rfl
theorem onFunc_eq {g : Value} {f : Value → M β} : (match g with | .func (.func f') fs cs => f (.func (.func f') fs cs) | _ => none) = onFunc g f := rfl
theorem gEndRange_on {l : Nat} : gEndRange l a H K = onEnd l H (fun H => K .normal a H) (fun H => K .ret a H) (fun id H => K (.exit id) a H) := by
  unfold gEndRange onEnd
  rfl
theorem at_rangeFunc {o : Operand} {ps : Array Tmp} (h : c = .rangeFunc o ps x y) : gCode P call k c a H K =
    onFunc (a.eval o) fun g => bindM (call g [.func (.yield H.n) #[] #[]] (H.push (.loop .ready none a ps.toList x y))) fun z =>
      onEnd H.n z.2 (fun H => K .normal a H) (fun H => K .ret a H) (fun id H => K (.exit id) a H) := by
  subst h
  unfold gCode
  simp only [gEndRange_on]
  rfl
theorem hSeq_n {f : GA → GH → Kont β → M β} : hSeq f K .normal a H = f a H K := rfl
theorem hSeq_r {f : GA → GH → Kont β → M β} : hSeq f K .ret a H = K .ret a H := rfl
theorem hSeq_e {f : GA → GH → Kont β → M β} {i : Nat} : hSeq f K (.exit i) a H = K (.exit i) a H := rfl
theorem hBlock_n {i : Nat} : hBlock i K .normal a H = K .normal a H := rfl
theorem hBlock_r {i : Nat} : hBlock i K .ret a H = K .ret a H := rfl
theorem hBlock_e {i j : Nat} : hBlock i K (.exit j) a H = if j = i then K .normal a H else K (.exit j) a H := rfl
theorem hLoop_n {again : GA → GH → M β} : hLoop again K .normal a H = again a H := rfl
theorem hLoop_r {again : GA → GH → M β} : hLoop again K .ret a H = K .ret a H := rfl
theorem hLoop_e {again : GA → GH → M β} {i : Nat} : hLoop again K (.exit i) a H = K (.exit i) a H := rfl
theorem hRound_a {L : Nat} {e : GExit} {v : Value} {r : List Value} : hRound L e (v :: r) H = hRound L e [] H := rfl
theorem hBegin_n {L : Nat} : hBegin P call k L c .normal a H = onReady L H fun H' => gCode P call k c a H' (hRound L) := by
  unfold hBegin onReady
  simp only
  cases H.get L with
  | none => rfl
  | some o =>
    cases o <;> try rfl
    rename_i st pe _ _ _ _
    cases st <;> cases pe <;> rfl
theorem hFin_e {f : Func} {i : Nat} : hFin P f (.exit i) a H = none := rfl
theorem onBool_t {p q : M β} : onBool (some true) p q = p := rfl
theorem onBool_f {p q : M β} : onBool (some false) p q = q := rfl
theorem asB_b {b : Bool} : asB (.bool b) = some b := rfl
theorem hBlock_hit {i : Nat} : hBlock i K (.exit i) a H = K .normal a H := by unfold hBlock; simp
theorem hBlock_miss {i j : Nat} (h : j ≠ i) : hBlock i K (.exit j) a H = K (.exit j) a H := by unfold hBlock; simp [h]
theorem onV_c {x : Option Value} {f g : Value → M β} (h : ∀ v, f v = g v) : onV x f = onV x g := by cases x with | none => rfl | some v => exact h v
theorem onH_c {x : Option GH} {f g : GH → M β} (h : ∀ v, f v = g v) : onH x f = onH x g := by cases x with | none => rfl | some v => exact h v
theorem onVH_c {x : Option (Value × GH)} {f g : Value → GH → M β} (h : ∀ v H, f v H = g v H) : onVH x f = onVH x g := by cases x with | none => rfl | some v => exact h v.1 v.2
theorem onCall_c {d : Nat} {f : Value} {args : List Value} {p q : Value → GH → M β} (h : ∀ v H, p v H = q v H) : onCall d call f args H p = onCall d call f args H q := by
  rw [show p = q from funext fun v => funext fun H => h v H]
theorem onNext_c {d : Nat} {x : M (Value × GH)} {p q : Value → GH → M β} (h : ∀ v H, p v H = q v H) : onNext d x p = onNext d x q := by
  rw [show p = q from funext fun v => funext fun H => h v H]
theorem onBool_c {b : Option Bool} {p q p' q' : M β} (h : p = p') (h' : q = q') : onBool b p q = onBool b p' q' := by rw [h, h']
theorem onBool_cc {b b' : Option Bool} {p q p' q' : M β} (e : b = b') (h : p = p') (h' : q = q') : onBool b p q = onBool b' p' q' := by rw [e, h, h']
theorem onBool_tt {b : Option Bool} {p q : M β} (h : b = some true) : onBool b p q = p := by rw [h]; rfl
theorem onBool_ff {b : Option Bool} {p q : M β} (h : b = some false) : onBool b p q = q := by rw [h]; rfl
theorem onRange_cc {g g' : Value} {C : Value → M (Value × GH)} {f f' : Value × GH → M β} (e : g = g') (h : ∀ z, f z = f' z) : (onFunc g fun g => bindM (C g) f) = onFunc g' fun g => bindM (C g) f' := by rw [e, show f = f' from funext h]
theorem onRange_cf {g g' : Value} {call : Handle} {H : GH} {a a' : GA} {ps : List Tmp} {as bd : Code} {f f' : Value × GH → M β} (e : g = g') (ea : a = a') (h : ∀ z, f z = f' z) :
    (onFunc g fun g => bindM (call g [.func (.yield H.n) #[] #[]] (GH.push H (.loop .ready none a ps as bd))) f) = onFunc g' fun g => bindM (call g [.func (.yield H.n) #[] #[]] (GH.push H (.loop .ready none a' ps as bd))) f' := by rw [e, ea, show f = f' from funext h]
theorem onReady_c {L : Nat} {f g : GH → M β} (h : ∀ H, f H = g H) : onReady L H f = onReady L H g := by rw [show f = g from funext h]
theorem onEnd_c {L : Nat} {p q p' q' : GH → M β} {r r' : Nat → GH → M β} (h : ∀ H, p H = p' H) (h' : ∀ H, q H = q' H) (h'' : ∀ i H, r i H = r' i H) : onEnd L H p q r = onEnd L H p' q' r' := by
  rw [show p = p' from funext h, show q = q' from funext h', show r = r' from funext fun i => funext fun H => h'' i H]
theorem onRange_c {g : Value} {C : Value → M (Value × GH)} {f f' : Value × GH → M β} (h : ∀ z, f z = f' z) : (onFunc g fun g => bindM (C g) f) = onFunc g fun g => bindM (C g) f' := by rw [show f = f' from funext h]
theorem ite_c {c : Prop} [Decidable c] {p q p' q' : M β} (h : p = p') (h' : q = q') : (if c then p else q) = if c then p' else q' := by rw [h, h']
theorem hRound_x {L : Nat} {e : GExit} : hRound L e a H = hRound L e [] H := rfl
theorem onClosed_c {b : Bool} {v : Value} {m m' : M β} (h : m = m') : onClosed b v m = onClosed b v m' := by rw [h]
theorem onSame_c {u v : Option Value} {m m' : M β} (h : m = m') : onSame u v m = onSame u v m' := by rw [h]
theorem onGrd_b {b : Bool} {m : M β} : onGrd true (.bool b) m = m := rfl
theorem gOps_append {d : Nat} {ops : List Oper} {K : GA → GH → M β} : ∀ (l1 l2 : List Oper) (i : Nat) (a : GA) (H : GH), gOps P d call ops i (l1 ++ l2) a H K = gOps P d call ops i l1 a H fun a H => gOps P d call ops (i + l1.length) l2 a H K := by
  intro l1
  induction l1 with
  | nil => intro l2 i a H; rfl
  | cons o l ih =>
    intro l2 i a H
    show gOps P d call ops i (o :: (l ++ l2)) a H K = _
    unfold gOps
    simp only [ih, List.length_cons, Nat.add_assoc, Nat.add_comm 1]
theorem gOps_nil {d : Nat} {ops : List Oper} {K : GA → GH → M β} (i j : Nat) (a : GA) (H : GH) : gOps P d call ops i [] a H K = gOps P d call ops j [] a H K := rfl
theorem gOps_split {d : Nat} {ops l : List Oper} {K : GA → GH → M β} (i n : Nat) : gOps P d call ops i (l.drop i) a H K = gOps P d call ops i ((l.drop i).take n) a H fun a H => gOps P d call ops (i + n) (l.drop (i + n)) a H K := by
  have e : l.drop i = (l.drop i).take n ++ l.drop (i + n) := by rw [← List.drop_drop, List.take_append_drop]
  rcases Nat.lt_or_ge (l.drop i).length n with h | h
  rotate_left
  · have hl : ((l.drop i).take n).length = n := by rw [List.length_take]; omega
    conv => lhs; rw [e, gOps_append, hl]
  · have h0 : l.drop (i + n) = [] := List.drop_eq_nil_of_le (by rw [List.length_drop] at h; omega)
    conv => lhs; rw [e, gOps_append, h0]
    rw [h0]
    rfl
end
end Go.Gh
/- The ghost machine: a small logic for evaluations: single outcomes, heaps that grow, data that lie in a heap, what the operations come to. -/
namespace Go.Gh
set_option linter.unusedVariables false
set_option linter.unusedSimpArgs false

/-- It comes to one outcome, and it is such. -/
def Ev {β : Type} (x : M β) (Q : β → Prop) : Prop := ∃ v, x = some [v] ∧ Q v
section
variable {β α : Type} {Q Q' : β → Prop}
theorem Ev.mk {v : β} (h : Q v) : Ev (some [v]) Q := ⟨v, rfl, h⟩
theorem Ev.mono {x : M β} (h : Ev x Q) (hq : ∀ y, Q y → Q' y) : Ev x Q' := by obtain ⟨v, h1, h2⟩ := h; exact ⟨v, h1, hq v h2⟩
theorem Ev.all {x : M β} (h : Ev x Q) : All x Q := by obtain ⟨v, h1, h2⟩ := h; exact ⟨[v], h1, fun y hy => by rw [List.mem_singleton] at hy; subst hy; exact h2⟩
theorem Ev.bind {x : M α} {f : α → M β} {R : α → Prop} (h : Ev x R) (hf : ∀ a, R a → Ev (f a) Q) : Ev (bindM x f) Q := by
  obtain ⟨v, rfl, h2⟩ := h
  exact hf v h2
theorem All.bind' {x : M α} {f : α → M β} {R : α → Prop} (h : All x R) (hf : ∀ a, R a → All (f a) Q) : All (bindM x f) Q := All.bind (h.mono hf)
end
theorem onV_s {β : Type} {v : Value} {f : Value → M β} : onV (some v) f = f v := rfl
theorem onH_s {β : Type} {v : GH} {f : GH → M β} : onH (some v) f = f v := rfl
theorem onVH_s {β : Type} {v : Value} {H : GH} {f : Value → GH → M β} : onVH (some (v, H)) f = f v H := rfl

/-! ### Heaps that grow -/
/-- What was there is as it was; new blocks have been laid. -/
structure Ext (H H' : GH) : Prop where
  ex : ∃ new, H'.objs = new ++ H.objs ∧ H'.n = H.n + new.length
  lo : min H.lo H.n ≤ H'.lo
theorem Ext.refl (H : GH) : Ext H H := ⟨⟨[], rfl, rfl⟩, Nat.min_le_left _ _⟩
theorem Ext.n {H H' : GH} (h : Ext H H') : H.n ≤ H'.n := by obtain ⟨new, _, h2⟩ := h.ex; omega
theorem Ext.trans {A B C : GH} (h : Ext A B) (k : Ext B C) : Ext A C := by
  refine ⟨?_, ?_⟩
  · obtain ⟨n1, a1, b1⟩ := h.ex
    obtain ⟨n2, a2, b2⟩ := k.ex
    exact ⟨n2 ++ n1, by rw [a2, a1, List.append_assoc], by rw [b2, b1, List.length_append]; omega⟩
  · have := h.lo; have := k.lo; have := h.n; omega
theorem Ext.get {H H' : GH} (h : Ext H H') {b : Nat} (hb : b < H.n) : H'.get b = H.get b := by
  obtain ⟨new, h1, h2⟩ := h.ex
  unfold GH.get
  rw [if_pos hb, if_pos (by omega), h1, List.getElem?_append_right (by omega)]
  congr 1
  omega
theorem Ext.get_of {H H' : GH} (h : Ext H H') {b : Nat} {o : GObj} (hb : H.get b = some o) : H'.get b = some o := by rw [h.get (GH.get_lt hb)]; exact hb
theorem Ext.push (H : GH) (o : GObj) : Ext H (H.push o) := ⟨⟨[o], rfl, rfl⟩, Nat.min_le_left _ _⟩
theorem Ext.set {H0 H : GH} (h : Ext H0 H) {b : Nat} (h0 : H0.n ≤ b) (h1 : b < H.n) (o : GObj) : Ext H0 (H.set b o) := by
  obtain ⟨new, e1, e2⟩ := h.ex
  refine ⟨⟨new.set (H.n - 1 - b) o, ?_, by rw [GH.set_n, List.length_set]; exact e2⟩, ?_⟩
  · show H.objs.set (H.n - 1 - b) o = _
    rw [e1, List.set_append_left _ _ (by omega)]
  · have := h.lo; rw [GH.set_lo]; omega
theorem Ext.setLo {H0 H : GH} (h : Ext H0 H) (l : Nat) (hl : min H0.lo H0.n ≤ l) : Ext H0 { H with lo := l } := ⟨h.ex, hl⟩
theorem Ext.push' {H0 H : GH} (h : Ext H0 H) (o : GObj) : Ext H0 (H.push o) := h.trans (.push H o)

/-- A call comes to one outcome, such, and turns nothing that was there. -/
def Sp (call : Handle) (f : Value) (args : List Value) (H : GH) (R : Value → GH → Prop) : Prop :=
  ∀ lo, Ev (call f args { H with lo := lo }) fun x => Ext { H with lo := lo } x.2 ∧ ∀ lo', R x.1 { x.2 with lo := lo' }
theorem Ev.call {β : Type} {Q : β → Prop} {call : Handle} {f : Value} {args : List Value} {H : GH} {R : Value → GH → Prop} {K : Value → GH → M β} (d : Nat) (h : Sp call f args H R)
    (hK : ∀ v H', Ext H H' → R v H' → Ev (K v H') Q) : Ev (onCall d call f args H K) Q := by
  unfold onCall
  split
  · obtain ⟨x, h1, h2, h3⟩ := h H.lo
    have h1 : call f args H = some [x] := h1
    rw [h1]
    exact hK x.1 x.2 h2 (h3 x.2.lo)
  · obtain ⟨⟨v, H1⟩, h1, h2, h3⟩ := h H.lo
    have h1 : call f args H = some [(v, H1)] := h1
    rw [h1]
    simp only
    rw [if_pos h2.n]
    exact hK v H1 h2 (h3 H1.lo)
  · obtain ⟨⟨v, H1⟩, h1, h2, h3⟩ := h H.n
    rw [h1]
    simp only
    obtain ⟨new, e1, e2⟩ := h2.ex
    simp only at e1 e2
    have h2l := h2.lo
    simp only [Nat.min_self] at h2l
    have e3 : H1.objs.take (H1.n - H.n) = new := by rw [e1, e2, Nat.add_sub_cancel_left, List.take_left]
    rw [if_pos ⟨h2l, by omega, by rw [e3]; omega⟩, e3, ← e1]
    refine hK v _ ⟨⟨new, e1, e2⟩, ?_⟩ (h3 _)
    show min H.lo H.n ≤ min H.lo H1.lo
    omega
theorem Sp.mono {call : Handle} {f : Value} {args : List Value} {H : GH} {R R' : Value → GH → Prop} (h : Sp call f args H R) (hR : ∀ v H', R v H' → R' v H') : Sp call f args H R' :=
  fun lo => (h lo).mono fun x hx => ⟨hx.1, fun lo' => hR _ _ (hx.2 lo')⟩
/-- Plain calls: whatever they do. -/
theorem Ev.call0 {β : Type} {Q : β → Prop} {call : Handle} {f : Value} {args : List Value} {H : GH} {R : Value × GH → Prop} {K : Value → GH → M β} (h : Ev (call f args H) R)
    (hK : ∀ v H', R (v, H') → Ev (K v H') Q) : Ev (onCall 0 call f args H K) Q := by
  obtain ⟨x, hx, hr⟩ := h
  show Ev (bindM (dd (call f args H)) fun x => K x.1 x.2) Q
  rw [hx]
  exact hK x.1 x.2 hr
theorem All.call0 {β : Type} {Q : β → Prop} {call : Handle} {f : Value} {args : List Value} {H : GH} {R : Value × GH → Prop} {K : Value → GH → M β} (h : All (call f args H) R)
    (hK : ∀ v H', R (v, H') → All (K v H') Q) : All (onCall 0 call f args H K) Q := by
  obtain ⟨l, hl, hr⟩ := h
  obtain ⟨l2, h2, hm⟩ := dd_of (l' := l)
  show All (bindM (dd (call f args H)) fun x => K x.1 x.2) Q
  rw [hl, h2]
  exact All.bind' (R := R) ⟨l2, rfl, fun y hy => hr y ((hm y).1 hy)⟩ fun x hx => hK x.1 x.2 hx

section
variable {P : Program} {T : Nat → Option Func}
theorem gCall_func {k : Nat} {f : Nat} {fn : Func} {fs cs : Array Value} {args : List Value} {H : GH} (h : T f = some fn) :
    gCall P T (k + 1) (.func (.func f) fs cs) args H = gFunc P (gCall P T k) k fn (fs.toList ++ args ++ cs.toList) H := by
  show (match T f with | some fn => gFunc P (gCall P T k) k fn (fs.toList ++ args ++ cs.toList) H | none => none) = _
  rw [h]
theorem gCall_yield {k L : Nat} {args : List Value} {H : GH} {tmps : List Value} {ps : List Tmp} {as bd : Code} (h : H.get L = some (.loop .ready none tmps ps as bd)) (hl : args.length = ps.length) :
    gCall P T (k + 1) (.func (.yield L) #[] #[]) args H = gCode P (gCall P T k) k as (gAssign ps args tmps) H (hBegin P (gCall P T k) k L bd) := by
  show gRound P (gCall P T k) k L args H = _
  unfold gRound
  rw [h]
  simp only [if_pos hl]
end
theorem onReady_s {β : Type} {L : Nat} {H : GH} {f : GH → M β} {tmps : List Value} {ps : List Tmp} {as bd : Code} (h : H.get L = some (.loop .ready none tmps ps as bd)) :
    onReady L H f = f (H.set L (.loop .busy none tmps ps as bd)) := by unfold onReady; rw [h]
theorem hRound_n {L : Nat} {H : GH} {tmps : List Value} {ps : List Tmp} {as bd : Code} (h : H.get L = some (.loop .busy none tmps ps as bd)) :
    hRound L .normal [] H = some [(.bool true, H.set L (.loop .ready none tmps ps as bd))] := by unfold hRound; rw [h]; rfl
theorem hRound_r {L : Nat} {H : GH} {tmps : List Value} {ps : List Tmp} {as bd : Code} (h : H.get L = some (.loop .busy none tmps ps as bd)) :
    hRound L .ret [] H = some [(.bool false, H.set L (.loop .done (some .ret) tmps ps as bd))] := by unfold hRound; rw [h]; rfl
theorem hRound_e {L i : Nat} {H : GH} {tmps : List Value} {ps : List Tmp} {as bd : Code} (h : H.get L = some (.loop .busy none tmps ps as bd)) :
    hRound L (.exit i) [] H = some [(.bool false, H.set L (.loop .done (some (.exit i)) tmps ps as bd))] := by unfold hRound; rw [h]; rfl
theorem onFunc_s {β : Type} {f : Nat} {fs cs : Array Value} {C : Value → M β} : onFunc (.func (.func f) fs cs) C = C (.func (.func f) fs cs) := rfl
theorem onEnd_n {β : Type} {L : Nat} {H : GH} {p q : GH → M β} {r : Nat → GH → M β} {st : LoopState} {tmps : List Value} {ps : List Tmp} {as bd : Code} (hs : st ≠ .busy) (h : H.get L = some (.loop st none tmps ps as bd)) :
    onEnd L H p q r = p (H.set L (.loop .exhausted none tmps ps as bd)) := by unfold onEnd; rw [h]; cases st <;> first | exact absurd rfl hs | rfl
theorem onEnd_r {β : Type} {L : Nat} {H : GH} {p q : GH → M β} {r : Nat → GH → M β} {st : LoopState} {tmps : List Value} {ps : List Tmp} {as bd : Code} (hs : st ≠ .busy) (h : H.get L = some (.loop st (some .ret) tmps ps as bd)) :
    onEnd L H p q r = q (H.set L (.loop .exhausted (some .ret) tmps ps as bd)) := by unfold onEnd; rw [h]; cases st <;> first | exact absurd rfl hs | rfl
theorem onEnd_e {β : Type} {L i : Nat} {H : GH} {p q : GH → M β} {r : Nat → GH → M β} {st : LoopState} {tmps : List Value} {ps : List Tmp} {as bd : Code} (hs : st ≠ .busy) (h : H.get L = some (.loop st (some (.exit i)) tmps ps as bd)) :
    onEnd L H p q r = r i (H.set L (.loop .exhausted (some (.exit i)) tmps ps as bd)) := by unfold onEnd; rw [h]; cases st <;> first | exact absurd rfl hs | rfl

/-! ### What operations on numbers come to -/
section
variable {P : Program} {t : TypeId} {k : IntKind} {a b : Int}
theorem bin_add : (oBin P .add t (.int k a) (.int k b)).filter closed = some (.int k (k.wrap (a + b))) := by unfold oBin; simp [gArith]; rfl
theorem bin_sub : (oBin P .sub t (.int k a) (.int k b)).filter closed = some (.int k (k.wrap (a - b))) := by unfold oBin; simp [gArith]; rfl
theorem bin_mul : (oBin P .mul t (.int k a) (.int k b)).filter closed = some (.int k (k.wrap (a * b))) := by unfold oBin; simp [gArith]; rfl
theorem bin_lss : (oBin P .lss t (.int k a) (.int k b)).filter closed = some (.bool (decide (a < b))) := by unfold oBin; simp [gArith]; rfl
theorem bin_leq : (oBin P .leq t (.int k a) (.int k b)).filter closed = some (.bool (decide (a ≤ b))) := by unfold oBin; simp [gArith]; rfl
theorem bin_gtr : (oBin P .gtr t (.int k a) (.int k b)).filter closed = some (.bool (decide (b < a))) := by unfold oBin; simp [gArith]; rfl
theorem bin_geq : (oBin P .geq t (.int k a) (.int k b)).filter closed = some (.bool (decide (b ≤ a))) := by unfold oBin; simp [gArith]; rfl
theorem bin_eql : (oBin P .eql t (.int k a) (.int k b)).filter closed = some (.bool (decide (a = b))) := by unfold oBin; simp [gArith]; exact ⟨rfl, rfl⟩
theorem bin_neq : (oBin P .neq t (.int k a) (.int k b)).filter closed = some (.bool (decide (a ≠ b))) := by unfold oBin; simp [gArith]; exact ⟨rfl, rfl⟩
theorem not_b {b : Bool} : (oUn P .not (.bool b)).filter closed = some (.bool !b) := rfl
end
theorem pick_b {b : Bool} {x y : Value} : oPick (.bool b) x y = some (if b then x else y) := rfl
theorem onBool_d {β : Type} {c : Prop} [Decidable c] {p q : M β} : onBool (some (decide c)) p q = if c then p else q := by by_cases h : c <;> simp [h, onBool]
theorem onBool_i {β : Type} {c : Bool} {p q : M β} : onBool (some c) p q = if c then p else q := by cases c <;> rfl
end Go.Gh
