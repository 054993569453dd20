/- The ghost machine: words for the shallow form of functions (what sh.py prints), and the rules by which the code's control flow is taken apart. -/
import Derived.Test.YthicilkmjamefaaGkAll
import Derived.KernelRfl
namespace Go.Gh
set_option linter.unusedVariables false

/-- A round's body begins: the loop's record is busy from now on. -/
def onReady {β : Type} (L : Nat) (H : GH) (f : GH → M β) : M β := match H.get L with
  | some (.loop .ready none tmps params assign bd) => f (H.set L (.loop .busy none tmps params assign bd))
  | _ => none
/-- A range over a function ends. -/
def onEnd {β : Type} (l : Nat) (H : GH) (kn kr : GH → M β) (ke : Nat → GH → M β) : M β :=
  match H.get l with
  | some (.loop .busy _ _ _ _ _) => none
  | some (.loop _ none tmps ps as bd) => kn (H.set l (.loop .exhausted none tmps ps as bd))
  | some (.loop _ (some .ret) tmps ps as bd) => kr (H.set l (.loop .exhausted (some .ret) tmps ps as bd))
  | some (.loop _ (some (.exit id)) tmps ps as bd) => ke id (H.set l (.loop .exhausted (some (.exit id)) tmps ps as bd))
  | _ => none
def gRes1 (P : Program) (H : GH) : Value × Option TypeId → Option Value
  | (v, none) => some v
  | (v, some t) => gLoad P t v H
/-- What a function hands back. -/
def gResL (P : Program) (H : GH) (l : List (Value × Option TypeId)) : Option Value :=
  (l.mapM (gRes1 P H)).map fun vs => match vs with | [v] => v | vs => .tuple vs.toArray

def modeOf (P : Program) : Code → Option Nat
  | .region _ ops draw => gMode P ops draw
  | _ => none
section
variable {P : Program} {β : Type} {call : Handle} {k : Nat} {a : GA} {H : GH} {K : Kont β} {c x y : Code}
theorem at_skip (h : c = .skip) : gCode P call k c a H K = K .normal a H := by subst h; rfl
theorem at_label {n : Nat} (h : c = .label n) : gCode P call k c a H K = K .normal a H := by subst h; rfl
theorem at_seq (h : c = .seq x y) : gCode P call k c a H K = gCode P call k x a H (hSeq (gCode P call k y) K) := by subst h; rfl
theorem at_cond {o : Operand} (h : c = .cond o x y) : gCode P call k c a H K = onBool (asB (a.eval o)) (gCode P call k x a H K) (gCode P call k y a H K) := by subst h; rfl
theorem at_block {n : Nat} (h : c = .block n x) : gCode P call k c a H K = gCode P call k x a H (hBlock n K) := by subst h; rfl
theorem at_scope (h : c = .scope x) : gCode P call k c a H K = gCode P call k x a H K := by subst h; rfl
theorem at_loop (h : c = .loop x) : gCode P call k c a H K = gLoop (gCode P call k x) K k a H := by subst h; rfl
theorem at_exit {n : Nat} (h : c = .exit n) : gCode P call k c a H K = K (.exit n) a H := by subst h; rfl
theorem at_ret (h : c = .ret) : gCode P call k c a H K = K .ret a H := by subst h; rfl
theorem at_region {d : Nat} (h : modeOf P c = some d) : gCode P call k c a H K = gOps P d call (opsAt c) ((opsAt c).drop 0) a H (K .normal) := by
  cases c <;> simp only [modeOf] at h <;> first | (cases h; done) | skip
  unfold gCode
  rw [h]
  rfl
theorem onFunc_eq {g : Value} {f : Value → M β} : (match g with | .func (.func f') fs cs => f (.func (.func f') fs cs) | _ => none) = onFunc g f := rfl
theorem gEndRange_on {l : Nat} : gEndRange l a H K = onEnd l H (fun H => K .normal a H) (fun H => K .ret a H) (fun id H => K (.exit id) a H) := by
  unfold gEndRange onEnd
  rfl
theorem at_rangeFunc {o : Operand} {ps : Array Tmp} (h : c = .rangeFunc o ps x y) : gCode P call k c a H K =
    onFunc (a.eval o) fun g => bindM (call g [.func (.yield H.n) #[] #[]] (H.push (.loop .ready none a ps.toList x y))) fun z =>
      onEnd H.n z.2 (fun H => K .normal a H) (fun H => K .ret a H) (fun id H => K (.exit id) a H) := by
  subst h
  unfold gCode
  simp only [gEndRange_on]
  rfl
theorem hSeq_n {f : GA → GH → Kont β → M β} : hSeq f K .normal a H = f a H K := rfl
theorem hSeq_r {f : GA → GH → Kont β → M β} : hSeq f K .ret a H = K .ret a H := rfl
theorem hSeq_e {f : GA → GH → Kont β → M β} {i : Nat} : hSeq f K (.exit i) a H = K (.exit i) a H := rfl
theorem hBlock_n {i : Nat} : hBlock i K .normal a H = K .normal a H := rfl
theorem hBlock_r {i : Nat} : hBlock i K .ret a H = K .ret a H := rfl
theorem hBlock_e {i j : Nat} : hBlock i K (.exit j) a H = if j = i then K .normal a H else K (.exit j) a H := rfl
theorem hLoop_n {again : GA → GH → M β} : hLoop again K .normal a H = again a H := rfl
theorem hLoop_r {again : GA → GH → M β} : hLoop again K .ret a H = K .ret a H := rfl
theorem hLoop_e {again : GA → GH → M β} {i : Nat} : hLoop again K (.exit i) a H = K (.exit i) a H := rfl
theorem hRound_a {L : Nat} {e : GExit} {v : Value} {r : List Value} : hRound L e (v :: r) H = hRound L e [] H := rfl
theorem hBegin_n {L : Nat} : hBegin P call k L c .normal a H = onReady L H fun H' => gCode P call k c a H' (hRound L) := by
  unfold hBegin onReady
  simp only
  cases H.get L with
  | none => rfl
  | some o =>
    cases o <;> try rfl
    rename_i st pe _ _ _ _
    cases st <;> cases pe <;> rfl
theorem hFin_e {f : Func} {i : Nat} : hFin P f (.exit i) a H = none := rfl
theorem onBool_t {p q : M β} : onBool (some true) p q = p := rfl
theorem onBool_f {p q : M β} : onBool (some false) p q = q := rfl
theorem asB_b {b : Bool} : asB (.bool b) = some b := rfl
theorem hBlock_hit {i : Nat} : hBlock i K (.exit i) a H = K .normal a H := by unfold hBlock; simp
theorem hBlock_miss {i j : Nat} (h : j ≠ i) : hBlock i K (.exit j) a H = K (.exit j) a H := by unfold hBlock; simp [h]
theorem onV_c {x : Option Value} {f g : Value → M β} (h : ∀ v, f v = g v) : onV x f = onV x g := by cases x with | none => rfl | some v => exact h v
theorem onH_c {x : Option GH} {f g : GH → M β} (h : ∀ v, f v = g v) : onH x f = onH x g := by cases x with | none => rfl | some v => exact h v
theorem onVH_c {x : Option (Value × GH)} {f g : Value → GH → M β} (h : ∀ v H, f v H = g v H) : onVH x f = onVH x g := by cases x with | none => rfl | some v => exact h v.1 v.2
theorem onCall_c {d : Nat} {f : Value} {args : List Value} {p q : Value → GH → M β} (h : ∀ v H, p v H = q v H) : onCall d call f args H p = onCall d call f args H q := by
  rw [show p = q from funext fun v => funext fun H => h v H]
theorem onNext_c {d : Nat} {x : M (Value × GH)} {p q : Value → GH → M β} (h : ∀ v H, p v H = q v H) : onNext d x p = onNext d x q := by
  rw [show p = q from funext fun v => funext fun H => h v H]
theorem onBool_c {b : Option Bool} {p q p' q' : M β} (h : p = p') (h' : q = q') : onBool b p q = onBool b p' q' := by rw [h, h']
theorem onBool_cc {b b' : Option Bool} {p q p' q' : M β} (e : b = b') (h : p = p') (h' : q = q') : onBool b p q = onBool b' p' q' := by rw [e, h, h']
theorem onBool_tt {b : Option Bool} {p q : M β} (h : b = some true) : onBool b p q = p := by rw [h]; rfl
theorem onBool_ff {b : Option Bool} {p q : M β} (h : b = some false) : onBool b p q = q := by rw [h]; rfl
theorem onRange_cc {g g' : Value} {C : Value → M (Value × GH)} {f f' : Value × GH → M β} (e : g = g') (h : ∀ z, f z = f' z) : (onFunc g fun g => bindM (C g) f) = onFunc g' fun g => bindM (C g) f' := by rw [e, show f = f' from funext h]
theorem onReady_c {L : Nat} {f g : GH → M β} (h : ∀ H, f H = g H) : onReady L H f = onReady L H g := by rw [show f = g from funext h]
theorem onEnd_c {L : Nat} {p q p' q' : GH → M β} {r r' : Nat → GH → M β} (h : ∀ H, p H = p' H) (h' : ∀ H, q H = q' H) (h'' : ∀ i H, r i H = r' i H) : onEnd L H p q r = onEnd L H p' q' r' := by
  rw [show p = p' from funext h, show q = q' from funext h', show r = r' from funext fun i => funext fun H => h'' i H]
theorem onRange_c {g : Value} {C : Value → M (Value × GH)} {f f' : Value × GH → M β} (h : ∀ z, f z = f' z) : (onFunc g fun g => bindM (C g) f) = onFunc g fun g => bindM (C g) f' := by rw [show f = f' from funext h]
theorem ite_c {c : Prop} [Decidable c] {p q p' q' : M β} (h : p = p') (h' : q = q') : (if c then p else q) = if c then p' else q' := by rw [h, h']
theorem gOps_append {d : Nat} {ops : List Oper} {K : GA → GH → M β} : ∀ (l1 l2 : List Oper) (a : GA) (H : GH), gOps P d call ops (l1 ++ l2) a H K = gOps P d call ops l1 a H fun a H => gOps P d call ops l2 a H K := by
  intro l1
  induction l1 with
  | nil => intro l2 a H; rfl
  | cons o l ih =>
    intro l2 a H
    show gOps P d call ops (o :: (l ++ l2)) a H K = _
    unfold gOps
    simp only [ih]
theorem gOps_split {d : Nat} {ops l : List Oper} {K : GA → GH → M β} (i n : Nat) : gOps P d call ops (l.drop i) a H K = gOps P d call ops ((l.drop i).take n) a H fun a H => gOps P d call ops (l.drop (i + n)) a H K := by
  rw [← gOps_append, ← List.drop_drop, List.take_append_drop]
end
end Go.Gh
