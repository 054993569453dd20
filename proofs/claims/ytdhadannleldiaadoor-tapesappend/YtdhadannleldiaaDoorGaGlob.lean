/- The ghost machine: the package variables that the law reads: which ones, what they hold (numbers that nobody writes). -/
import Derived.CallsIn
import Derived.OrdersIn
import Derived.RangeFuncLeaves
import Derived.Below
import Derived.TacticsIn
import Derived.Laws.CopyRow
import Derived.Laws.Cells
namespace Go.Gh
def glSel (g : Nat) : Bool := g == 0
def glRow (g : Nat) : List Value := [.int .u8 71, .int .u8 84, .int .u8 1, .int .u8 0]
def glTy (g : Nat) : TypeId := 5
/-- Ghost blocks that the program's start takes. -/
def glN : Nat := 1
theorem gl_lt {g : Nat} (h : glSel g = true) : g < glN := by
  have : g = 0 := by simpa [glSel] using h
  subst this; decide
theorem gl_ints {g : Nat} (h : glSel g = true) : ∀ u ∈ glRow g, ∃ k n, u = .int k n := by
  intro u hu
  simp only [glRow, List.mem_cons, List.not_mem_nil, or_false] at hu
  rcases hu with rfl | rfl | rfl | rfl <;> exact ⟨_, _, rfl⟩
end Go.Gh
/- The ghost machine: an evaluator over the model's own code with a heap of its own (definitions only). -/
namespace Go.Gh

/-- From here on a capacity is not known: a slice that append has grown. -/
def loose : Nat := 1152921504606846976

/-- What lies at a ghost block. A row that is 'ro' is an argument's: it is never written. -/
inductive GObj where
  | row (cells : List Value) (elem : TypeId) (ro : Bool)
  | map (es : List MapEntry) (clock : Nat)
  | mapIter (m : Option Nat) (since : Nat) (seen : List Nat) (stepped : Nat)
  | strIter (s : ByteArray) (pos : Nat)
  | loop (st : LoopState) (pending : Option Code) (tmps : List Value) (params : List Tmp) (assign body : Code)
  | dead
  deriving Inhabited

/-- The ghost heap: the newest block first; n: how many; lo: no block below lo has been written since lo was set. -/
structure GH where
  objs : List GObj
  n : Nat
  lo : Nat
  deriving Inhabited

def GH.get (H : GH) (b : Nat) : Option GObj := if b < H.n then H.objs[H.n - 1 - b]? else none
def GH.push (H : GH) (o : GObj) : GH := { objs := o :: H.objs, n := H.n + 1, lo := H.lo }
def GH.set (H : GH) (b : Nat) (o : GObj) : GH := { objs := H.objs.set (H.n - 1 - b) o, n := H.n, lo := min H.lo b }

/-- Outcomes: none: the evaluator gives up; a list: each of them may come. -/
abbrev M (α : Type) := Option (List α)
def ret {α : Type} (x : α) : M α := some [x]
def joinM {α : Type} : List (M α) → M α
  | [] => some []
  | x :: r => match x, joinM r with
    | some a, some b => some (a ++ b)
    | _, _ => none
def bindM {α β : Type} (x : M α) (f : α → M β) : M β :=
  match x with
  | none => none
  | some [a] => f a
  | some l => joinM (l.map f)
def opt {α : Type} (x : Option α) : M α := match x with | some a => some [a] | none => none

/-- A value of one cell that holds no address. -/
def closed0 : Value → Bool
  | .bool _ | .int _ _ | .float _ _ | .complex _ _ _ | .string _ | .pointer none | .slice none _ _ | .map none | .nilFunc | .nilIface => true
  | _ => false
def closed1 : Value → Bool
  | .agg cs => cs.toList.all closed0
  | .iface _ v => closed0 v
  | v => closed0 v
/-- A value that holds no address. -/
def closed : Value → Bool
  | .agg cs => cs.toList.all closed0
  | .tuple vs => vs.toList.all closed1
  | .iface _ v => closed0 v
  | v => closed0 v
/-- May the value lie in one cell? -/
def oneC : Value → Bool
  | .agg _ | .tuple _ => false
  | _ => true

/-- What a computation comes to that touches no memory. -/
def quick {α : Type} (P : Program) : Sem α → Option α
  | .pure a => some a
  | .program k => quick P (k P)
  | .mark _ k => quick P k
  | _ => none
/-- The operands' values. -/
def mapA (ρ : Operand → Value) (xs : Array Operand) : Array Value := (xs.toList.map ρ).toArray

/-- 'Instr.fill' over lists. -/
def gFill (place : Nat → Option (Nat × Nat)) (cells : List Value) : List (Nat × Value) → Option (List Value)
  | [] => some cells
  | (i, v) :: rest =>
    match place i with
    | none => none
    | some (off, size) =>
      if v.cells.toList.length ≠ size ∨ cells.length < off + v.cells.toList.length then none
      else gFill place (cells.take off ++ v.cells.toList ++ cells.drop (off + v.cells.toList.length)) rest
def gParts (ρ : Operand → Value) (parts : Array (Nat × Operand)) : List (Nat × Value) := parts.toList.map fun x => (x.1, ρ x.2)

/-- What '+', '<' and their kin come to on numbers of one kind; none: not told here. -/
def gArith (op : BinOp) (k : IntKind) (a b : Int) : Option Value :=
  match op with
  | .add => some (.int k (k.wrap (a + b)))
  | .sub => some (.int k (k.wrap (a - b)))
  | .mul => some (.int k (k.wrap (a * b)))
  | .eql => some (.bool (a == b))
  | .neq => some (.bool (a != b))
  | .lss => some (.bool (a < b))
  | .leq => some (.bool (a ≤ b))
  | .gtr => some (.bool (a > b))
  | .geq => some (.bool (a ≥ b))
  | _ => none

section
variable (P : Program)

def gSize (t : TypeId) : Option Nat := (P.info? t).map (·.size)
def gIsAgg (t : TypeId) : Bool := match P.underlying t with | some (.struct _) | some (.array _ _) => true | _ => false
def gZero (t : TypeId) : Option Value :=
  match (P.info? t).bind (·.zero) with
  | some z => if closed z then some z else none
  | none => none

/-- A part of an aggregate's cells. -/
def gPart (t : TypeId) (cs : Array Value) (off : Nat) : Option Value :=
  match P.underlying t with
  | none => none
  | some _ =>
    if gIsAgg P t then (gSize P t).map fun s => .agg (cs.extract off (off + s)) else cs[off]?

def gInt : Value → Option Int | .int _ n => some n | _ => none

/-- One bound of a slice expression. -/
def gBound (x : Value) (y : Nat) : Option Nat :=
  match x with
  | .int _ i => if 0 ≤ i ∧ i ≤ y then some i.toNat else none
  | _ => none

/-- A bound that may lack: then d. -/
def optB (x : Option Value) (y d : Nat) : Option Nat := match x with | some v => gBound v y | none => some d

/-- A slice of a slice. Of a loose one no bound may pass the length. -/
def gSliceSl (size : Nat) (a : Option Addr) (len cap : Nat) (lo hi mx : Option Value) : Option Value :=
  match a with
  | none =>
    if len = 0 ∧ cap = 0 ∧ (mx.isSome = true → hi.isSome = true) then
      match optB mx 0 0, optB hi 0 0, optB lo 0 0 with
      | some _, some _, some _ => some (.slice none 0 0)
      | _, _, _ => none
    else none
  | some a =>
    if loose ≤ cap then
      if cap = loose + size ∧ len < loose then
        match mx with
        | none =>
          match optB hi len len with
          | none => none
          | some h => match optB lo h 0 with
            | none => none
            | some l => some (.slice (some (a.add (l * size))) (h - l) (loose + size))
        | some m =>
          match gBound m len with
          | none => none
          | some m => match hi with
            | none => none
            | some h => match gBound h m with
              | none => none
              | some h => match optB lo h 0 with
                | none => none
                | some l => some (.slice (some (if m = l then a else a.add (l * size))) (h - l) (m - l))
      else none
    else
      match optB mx cap cap with
      | none => none
      | some m => match (match hi with | some x => gBound x m | none => if mx.isSome then none else some len) with
        | none => none
        | some h => match optB lo h 0 with
          | none => none
          | some l => some (.slice (some (if m = l then a else a.add (l * size))) (h - l) (m - l))

/-- Comparisons with nil. -/
def gNilEq : Value → Value → Option Bool
  | .slice a _ _, .slice none _ _ => some a.isNone
  | .slice none _ _, .slice a _ _ => some a.isNone
  | .pointer a, .pointer none => some a.isNone
  | .pointer none, .pointer a => some a.isNone
  | .map a, .map none => some a.isNone
  | .map none, .map a => some a.isNone
  | .nilFunc, .nilFunc => some true
  | .func (.func _) _ _, .nilFunc => some false
  | .nilFunc, .func (.func _) _ _ => some false
  | _, _ => none

/-- The kind of a nil comparison fits the type. -/
def gNilFits (t : TypeId) : Value → Bool
  | .slice _ _ _ => match P.underlying t with | some (.slice _) => true | _ => false
  | .pointer _ => match P.underlying t with | some (.pointer _) => true | _ => false
  | .map _ => match P.underlying t with | some (.map _ _) => true | _ => false
  | .func _ _ _ | .nilFunc => match P.underlying t with | some (.func ..) => true | _ => false
  | _ => false

/-! ### Operations on values -/
def oPick (c a b : Value) : Option Value := match c with | .bool t => some (if t then a else b) | _ => none
def oNilCheck : Value → Option Value
  | .pointer (some a) => some (.pointer (some a))
  | .func (.func f) fs cs => some (.func (.func f) fs cs)
  | .map (some b) => some (.map (some b))
  | .slice a n c => some (.slice a n c)
  | _ => none
def oExtract (v : Value) (i : Nat) : Option Value := match v with | .tuple vs => vs[i]? | _ => none
def oIface (t : TypeId) (x : Value) : Option Value := match P.underlying t with | none | some (.interface _) => none | _ => some (.iface t x)
def oFieldAddr (s : TypeId) (x : Value) (f : Nat) : Option Value :=
  match P.underlying s, x with
  | some (.struct fs), .pointer (some a) => match fs[f]? with
    | some fd => match gSize P fd.type with
      | some (_ + 1) => some (.pointer (some (a.add fd.offset)))
      | _ => none
    | none => none
  | _, _ => none
def oField (t : TypeId) (x : Value) (f : Nat) : Option Value :=
  match P.underlying t, x with
  | some (.struct fs), .agg cs => match fs[f]? with
    | some fd => gPart P fd.type cs fd.offset
    | none => none
  | _, _ => none
def oIndexAddr (t : TypeId) (x i : Value) : Option Value :=
  match P.underlying t, x, i with
  | some (.slice e), .slice (some a) len _, .int _ i => if 0 ≤ i ∧ i < len then (gSize P e).map fun s => .pointer (some (a.add (i.toNat * s))) else none
  | some (.array len e), .pointer (some a), .int _ i => if 0 ≤ i ∧ i < len then (gSize P e).map fun s => .pointer (some (a.add (i.toNat * s))) else none
  | _, _, _ => none
def oIndex (t : TypeId) (x i : Value) : Option Value := if closed x && closed i then quick P (Instr.index t x i) else none
def oSlice (t : TypeId) (x : Value) (lo hi mx : Option Value) : Option Value :=
  match P.underlying t, x with
  | some (.slice e), .slice a len cap => match gSize P e with
    | some s => gSliceSl s a len cap lo hi mx
    | none => none
  | some (.array n e), .pointer (some a) => match gSize P e with
    | some s => if n < loose then gSliceSl s (some a) n n lo hi mx else none
    | none => none
  | some .string, .string s => match mx with
    | none => match optB hi s.size s.size with
      | none => none
      | some h => (optB lo h 0).map fun l => .string (s.extract l h)
    | some _ => none
  | _, _ => none
def oBuild (t : TypeId) (parts : List (Nat × Value)) : Option Value :=
  match gZero P t, P.underlying t with
  | some z, some (.struct fs) =>
    match fs.toList.mapM (m := Option) (fun f => (gSize P f.type).map fun s => (f.offset, s)) with
    | some places => (gFill (places[·]?) z.cells.toList parts).map fun cs => .agg cs.toArray
    | none => none
  | some z, some (.array _ e) =>
    match gSize P e with
    | some s => (gFill (fun i => some (i * s, s)) z.cells.toList parts).map fun cs => .agg cs.toArray
    | none => none
  | _, _ => none
def isEq : BinOp → Bool | .eql | .neq => true | _ => false
def oBin (op : BinOp) (t : TypeId) (u v : Value) : Option Value :=
  match u, v with
  | .int k a, .int k' b => if k = k' then (match gArith op k a b with | some r => some r | none => quick P (binOp op t (.int k a) (.int k' b))) else quick P (binOp op t (.int k a) (.int k' b))
  | .bool a, .bool b => quick P (binOp op t (.bool a) (.bool b))
  | .string a, .string b => quick P (binOp op t (.string a) (.string b))
  | .agg a, .agg b => if closed (.agg a) && closed (.agg b) && isEq op && !P.eqGuardType P.depth t then quick P (binOp op t (.agg a) (.agg b)) else none
  | u, v =>
    if gNilFits P t u && gNilFits P t v then
      match op with
      | .eql => (gNilEq u v).map .bool
      | .neq => (gNilEq u v).map fun b => .bool !b
      | _ => none
    else none
def oUn (op : UnOp) (u : Value) : Option Value := if closed u then quick P (Op.unary op u) else none
def oConvert (src dst : TypeId) (u : Value) : Option Value := if closed u then quick P (convert src dst u) else none
def oLen (t : TypeId) (u : Value) : Option Value :=
  match P.underlying t, u with
  | some (.slice _), .slice _ n _ => some (.int .i64 n)
  | some (.array n _), _ => some (.int .i64 n)
  | some .string, .string s => some (.int .i64 s.size)
  | _, _ => none
def oCap (t : TypeId) (u : Value) : Option Value :=
  match P.underlying t, u with
  | some (.slice _), .slice _ _ n => if n < loose then some (.int .i64 n) else none
  | some (.array n _), _ => some (.int .i64 n)
  | _, _ => none
def oMinMax (mx : Bool) (args : List Value) : Option Value :=
  if args.all closed then quick P (if mx then Builtin.max_ #[] 0 args.toArray else Builtin.min_ #[] 0 args.toArray) else none

/-! ### Memory -/

def gLoad (t : TypeId) (v : Value) (H : GH) : Option Value :=
  match v with
  | .pointer (some ⟨b, o, none⟩) => match H.get b, P.underlying t, gSize P t with
    | some (.row cs _ _), some _, some s =>
      if gIsAgg P t then (if o + s ≤ cs.length then some (.agg ((cs.drop o).take s).toArray) else none) else cs[o]?
    | _, _, _ => none
  | _ => none

/-- cs with vs from place o on. -/
def putAt (cs : List Value) (o : Nat) (vs : List Value) : List Value := cs.take o ++ vs ++ cs.drop (o + vs.length)

def gStoreCells (b o : Nat) (vs : List Value) (H : GH) : Option GH :=
  match H.get b with
  | some (.row cs e false) => if o + vs.length ≤ cs.length ∧ vs.all oneC then some (H.set b (.row (putAt cs o vs) e false)) else none
  | _ => none

def gStore (t : TypeId) (p v : Value) (H : GH) : Option GH :=
  match p with
  | .pointer (some ⟨b, o, none⟩) => match gSize P t with
    | some s => if v.cells.size = s then gStoreCells b o v.cells.toList H else none
    | none => none
  | _ => none

def gNew (e : TypeId) (cs : List Value) (H : GH) : Value × GH := (.pointer (some ⟨H.n, 0, none⟩), H.push (.row cs e false))

/-- The first n elements (size cells each) of a slice or string. -/
def gFirst (size n : Nat) (v : Value) (H : GH) : Option (List Value) :=
  match v with
  | .slice none _ _ => some []
  | .slice (some ⟨b, o, none⟩) _ _ => match H.get b with
    | some (.row cs _ _) => if o + n * size ≤ cs.length then some ((cs.drop o).take (n * size)) else none
    | _ => none
  | .string s => some ((s.extract 0 n).data.toList.map fun b => .int .u8 b.toNat)
  | _ => none
def gLen : Value → Option Nat
  | .slice _ n _ => some n
  | .string s => some s.size
  | _ => none

def roomy (n bytes : Nat) : Bool := n * bytes ≤ 1099511627776 && n ≤ 1099511627776

def repeated (z : List Value) (n : Nat) : List Value := (List.replicate n z).flatten

/-- What is appended: how many elements, and their cells. -/
def gAppended (xt : TypeId) (i : TypeInfo) (z x : Value) (H : GH) : Option (Nat × List Value) :=
  match P.underlying xt, x with
  | some (.int _), .int _ l => if 0 ≤ l ∧ l ≤ 1099511627776 then some (l.toNat, repeated z.cells.toList l.toNat) else none
  | some (.slice _), .slice a n c => (gFirst i.size n (.slice a n c) H).map fun new => (n, new)
  | some .string, .string s => (gFirst i.size s.size (.string s) H).map fun new => (s.size, new)
  | _, _ => none

def gAppend (st xt : TypeId) (s x : Value) (H : GH) : Option (Value × GH) :=
  match P.underlying st, s with
  | some (.slice e), .slice base sLen sCap =>
    match P.info? e, gZero P e with
    | some i, some z =>
      match gAppended P xt i z x H with
      | none => none
      | some (n, new) =>
        if roomy (sLen + n) i.bytes && new.all oneC && new.length == n * i.size && z.cells.size == i.size && decide (0 < i.size) && decide (0 < i.bytes) then
          match base with
          | none => if sLen = 0 ∧ sCap = 0 then
              (if n = 0 then some (.slice none 0 0, H)
               else some (.slice (some ⟨H.n, 0, none⟩) n (loose + i.size), H.push (.row new e false)))
              else none
          | some ⟨b, o, none⟩ =>
            if n = 0 then some (.slice base sLen sCap, H)
            else if sCap < loose then
              if sLen + n ≤ sCap then
                (gStoreCells b (o + sLen * i.size) new H).map fun H' => (.slice base (sLen + n) sCap, H')
              else match gFirst i.size sLen s H with
                | some old => if old.length = sLen * i.size then some (.slice (some ⟨H.n, 0, none⟩) (sLen + n) (loose + i.size), H.push (.row (old ++ new) e false)) else none
                | none => none
            else if sCap = loose + i.size then
              match H.get b, gFirst i.size sLen s H with
              | some (.row _ e' false), some old =>
                if e' = e ∧ old.length = sLen * i.size then some (.slice (some ⟨H.n, 0, none⟩) (sLen + n) (loose + i.size), (H.set b .dead).push (.row (old ++ new) e false)) else none
              | _, _ => none
            else none
          | _ => none
        else none
    | _, _ => none
  | _, _ => none

/-- The same, where it turns nothing that was there. -/
def gAppendQ (st xt : TypeId) (s x : Value) (H : GH) : Option (Value × GH) :=
  match gAppend P st xt s x { H with lo := H.n } with
  | some (v, H1) => if H1.lo = H.n then some (v, { H1 with lo := H.lo }) else none
  | none => none

def gMakeSlice (t : TypeId) (l c : Value) (H : GH) : Option (Value × GH) :=
  match P.underlying t, l, c with
  | some (.slice e), .int _ l, .int _ c =>
    match P.info? e, gZero P e with
    | some i, some z => if 0 ≤ l ∧ l ≤ c ∧ roomy c.toNat i.bytes ∧ z.cells.size = i.size ∧ 0 < i.size then
        some (.slice (some ⟨H.n, 0, none⟩) l.toNat c.toNat, H.push (.row (repeated z.cells.toList c.toNat) e false)) else none
    | _, _ => none
  | _, _, _ => none

def gBuildSlice (t : TypeId) (len : Nat) (parts : List (Nat × Value)) (H : GH) : Option (Value × GH) :=
  match P.underlying t with
  | some (.slice e) => match P.info? e, gZero P e with
    | some i, some z =>
      if len * i.size ≤ 16777216 ∧ z.cells.size = i.size ∧ 0 < i.size then
        match gFill (fun k => some (k * i.size, i.size)) (repeated z.cells.toList len) parts with
        | some cells => some (.slice (some ⟨H.n, 0, none⟩) len len, H.push (.row cells e false))
        | none => none
      else none
    | _, _ => none
  | _ => none

def gCopy (dt : TypeId) (d s : Value) (H : GH) : Option (Value × GH) :=
  match P.underlying dt, d, gLen s with
  | some (.slice e), .slice base dLen _, some sn =>
    let n := Nat.min sn dLen
    match gSize P e with
    | none => none
    | some size => match gFirst size n s H with
      | none => none
      | some new => match base with
        | none => some (.int .i64 n, H)
        | some ⟨b, o, none⟩ => if n = 0 then some (.int .i64 0, H) else (gStoreCells b o new H).map fun H' => (.int .i64 n, H')
        | _ => none
  | _, _, _ => none

def gClear (t : TypeId) (x : Value) (H : GH) : Option GH :=
  match P.underlying t, x with
  | some _, .slice none _ _ | some _, .slice _ 0 _ => some H
  | some (.slice e), .slice (some ⟨b, o, none⟩) n _ => match P.info? e, gZero P e with
    | some i, some z => if z.cells.size = i.size ∧ 0 < i.size then gStoreCells b o (repeated z.cells.toList n) H else none
    | _, _ => none
  | _, _ => none

/-- Bytes, as a string. -/
def gBytes : List Value → ByteArray → Option ByteArray
  | [], s => some s
  | .int .u8 n :: r, s => gBytes r (s.push (UInt8.ofNat n.toNat))
  | _, _ => none
def isBytes (src dst : TypeId) : Bool :=
  match P.underlying src, P.underlying dst with
  | some (.slice e), some .string => (match P.underlying e with | some (.int .u8) => true | _ => false)
  | _, _ => false
/-- A conversion of bytes to their own type: the row of a constant's bytes is marked. -/
def isSelf (src dst : TypeId) : Bool :=
  src == dst && (match P.underlying src with
  | some (.slice e) => (match P.underlying e with | some (.int .u8) => true | _ => false)
  | _ => false)
def gMark (u : Value) (H : GH) : Option (Value × GH) := match u with
  | .slice (some ⟨b, _, none⟩) _ c => if c = 0 then none else match H.get b with
    | some (.row cs e false) => some (u, H.set b (.row cs e false))
    | _ => none
  | _ => none
def gConvert (src dst : TypeId) (u : Value) (H : GH) : Option Value :=
  if isBytes P src dst then (match u with
    | .slice _ n _ => ((gFirst 1 n u H).bind fun vs => gBytes vs .empty).map Value.string
    | _ => none)
  else (oConvert P src dst u).filter closed

/-! ### Maps: the keys are closed -/
def gFind (P : Program) (kt : TypeId) (k : Value) : List MapEntry → Nat → Option (Option (Nat × MapEntry))
  | [], _ => some none
  | e :: es, i => match quick P (Op.equal kt k e.key) with
    | some true => some (some (i, e))
    | some false => gFind P kt k es (i + 1)
    | none => none

/-- A key that may be asked for: no address, hashable, equal to itself. -/
def gKeyOk (kt : TypeId) (k : Value) : Bool :=
  closed k && (quick P (Instr.checkKey false 10000 kt k)).isSome && (quick P (Instr.checkKey true 10000 kt k)).isSome &&
    Instr.sameBits 10000 k k

def gMap (v : Value) (H : GH) : Option (Nat × List MapEntry × Nat) :=
  match v with
  | .map (some r) => match H.get r with
    | some (.map es clock) => some (r, es, clock)
    | _ => none
  | _ => none

def gLookup (t : TypeId) (x k : Value) (ok : Bool) (H : GH) : Option Value :=
  match P.underlying t with
  | some (.map kt et) =>
    if gKeyOk P kt k then
      match (match x with | .map none => some [] | _ => (gMap x H).map (·.2.1)), gZero P et with
      | some es, some z => match gFind P kt k es 0 with
        | some (some (_, e)) => some (if ok then .tuple #[e.val, .bool true] else e.val)
        | some none => some (if ok then .tuple #[z, .bool false] else z)
        | none => none
      | _, _ => none
    else none
  | _ => none

def gMapUpdate (t : TypeId) (x k v : Value) (H : GH) : Option GH :=
  match P.underlying t, gMap x H with
  | some (.map kt _), some (r, es, clock) =>
    if gKeyOk P kt k then
      match gFind P kt k es 0 with
      | some (some (i, e)) => if Instr.sameBits 10000 e.key k then some (H.set r (.map (es.modify i fun e => { e with key := k, val := v }) clock)) else none
      | some none => some (H.set r (.map (es ++ [{ key := k, val := v, born := clock }]) (clock + 1)))
      | none => none
    else none
  | _, _ => none

def gMapEntry (t : TypeId) (x k : Value) (H : GH) : Option (Value × GH) :=
  match P.underlying t, gMap x H with
  | some (.map kt et), some (r, es, clock) =>
    if gKeyOk P kt k then
      match gFind P kt k es 0, gZero P et with
      | some (some (i, e)), _ => if Instr.sameBits 10000 e.key k then some (.tuple #[e.val, .int .i64 e.born], H.set r (.map (es.modify i fun e => { e with key := k }) clock)) else none
      | some none, some z => some (.tuple #[z, .int .i64 clock], H.set r (.map (es ++ [{ key := k, val := z, born := clock }]) (clock + 1)))
      | _, _ => none
    else none
  | _, _ => none

/-- An entry in a region that draws: a whole number that stands, or would stand, at the key is the same before and after. -/
def gMapEntryQ (t : TypeId) (x k : Value) (H : GH) : Option (Value × GH) :=
  match gMapEntry P t x k H with
  | some (v, H') => match gLookup P t x k false H, gLookup P t x k false H' with
    | some (.int a n), some (.int b n') => if a = b ∧ n = n' then some (v, H') else none
    | _, _ => none
  | none => none

def gEntryStore (x st v : Value) (H : GH) : Option GH :=
  match gMap x H, st with
  | some (r, es, clock), .int _ born => match es.findIdx? (fun e => (e.born : Int) == born) with
    | some i => some (H.set r (.map (es.modify i fun e => { e with val := v }) clock))
    | none => none
  | _, _ => none

def gDelete (t : TypeId) (x k : Value) (H : GH) : Option GH :=
  match P.underlying t, gMap x H with
  | some (.map kt _), some (r, es, clock) =>
    if gKeyOk P kt k then
      match gFind P kt k es 0 with
      | some (some (i, _)) => some (H.set r (.map (es.eraseIdx i) clock))
      | some none => some (H.set r (.map es clock))
      | none => none
    else none
  | _, _ => none

def gRange (t : TypeId) (x : Value) (H : GH) : Option (Value × GH) :=
  match P.underlying t, x with
  | some .string, .string s => some (.pointer (some ⟨H.n, 0, none⟩), H.push (.strIter s 0))
  | some (.map _ _), .map none => some (.pointer (some ⟨H.n, 0, none⟩), H.push (.mapIter none 0 [] 0))
  | some (.map _ _), .map (some m) => match H.get m with
    | some (.map _ clock) => some (.pointer (some ⟨H.n, 0, none⟩), H.push (.mapIter (some m) clock [] clock))
    | _ => none
  | _, _ => none

/-- The next step of an iterator: all that may come. -/
def gNext (it : Value) (isString : Bool) (H : GH) : M (Value × GH) :=
  match it with
  | .pointer (some ⟨r, 0, none⟩) => match H.get r, isString with
    | some (.strIter s pos), true =>
      if pos < s.size then
        ret (.tuple #[.bool true, .int .i64 pos, .int .i32 (Utf8.decode s pos).1], H.set r (.strIter s (pos + (Utf8.decode s pos).2)))
      else ret (.tuple #[.bool false], H)
    | some (.mapIter none _ _ _), false => ret (.tuple #[.bool false], H)
    | some (.mapIter (some m) since seen last), false => match H.get m with
      | some (.map es clock) =>
        if !seen.isEmpty && !es.isEmpty && es.all (·.born ≥ last) then none else
        let left := es.filter fun e => !seen.contains e.born
        let old := left.filter (·.born < since)
        let new := left.filter (·.born ≥ since)
        some ((if old.isEmpty then [(.tuple #[.bool false], H.set r .dead)] else []) ++
          (old ++ new).map fun e => (.tuple #[.bool true, e.key, e.val], H.set r (.mapIter (some m) since (seen ++ [e.born]) clock)))
      | _ => none
    | _, _ => none
  | _ => none

def gEntry (it : Value) (H : GH) : Option Value :=
  match it with
  | .pointer (some ⟨r, 0, none⟩) => match H.get r with
    | some (.mapIter (some m) _ seen stepped) => match seen.getLast?, H.get m with
      | some stamp, some (.map es clock) => if clock ≠ stepped then none else match es.find? (·.born == stamp) with
        | some e => some (.tuple #[e.key, e.val])
        | none => none
      | _, _ => none
    | _ => none
  | _ => none

/-! ### Code -/
inductive GExit where
  | normal | exit (id : Nat) | ret

/-- A frame's temporaries. -/
abbrev GA := List Value
def GA.eval (a : GA) : Operand → Value
  | .tmp t => a.getD t undef
  | .const v => v
  | .global g => .pointer (some ⟨g, 0, none⟩)
  | .func f => .func (.func f) #[] #[]
def GA.put (a : GA) (dst : Option Tmp) (v : Value) : GA :=
  match dst with
  | some d => a.set d v
  | none => a
/-- What a guard's operation has handed back. -/
def gYield (ops : List Oper) (a : GA) (j : Nat) : Option Bool :=
  match ops[j]? with
  | some o => match o.dst with
    | some d => match a[d]? with
      | some (.bool b) => some b
      | _ => none
    | none => none
  | none => none
/-- A guard's operation that was passed over has left no truth value. -/
def gPassed (ops : List Oper) (a : GA) (j : Nat) : Bool :=
  match ops[j]? with
  | some o => match o.dst with
    | some d => match a[d]? with
      | some (.tuple _) => true
      | _ => false
    | none => false
  | none => false
def gWanted (ops : List Oper) (a : GA) (o : Oper) : Option Bool :=
  match o.guard with
  | none => some true
  | some (j, want) => match gYield ops a j with
    | some b => some (b == want)
    | none => match gPassed ops a j with
      | true => some false
      | false => none
/-- Does another operation's guard ask for what this one hands back? -/
def isGrd (ops : List Oper) (o : Oper) : Bool :=
  match o.dst with
  | none => false
  | some d => ops.any fun o' => match o'.guard with
    | some (j, _) => match ops[j]? with
      | some oj => match oj.dst with | some d' => Nat.beq d' d | none => false
      | none => false
    | none => false

/-- How a function value is called: the caller's handle. -/
abbrev Handle := Value → List Value → GH → M (Value × GH)
section
variable {β : Type}
def onV (x : Option Value) (f : Value → M β) : M β := match x with | some v => f v | none => none
def onH (x : Option GH) (f : GH → M β) : M β := match x with | some v => f v | none => none
def onVH (x : Option (Value × GH)) (f : Value → GH → M β) : M β := match x with | some (v, H) => f v H | none => none
def onBool (x : Option Bool) (p q : M β) : M β := match x with | some true => p | some false => q | none => none
def asB : Value → Option Bool | .bool b => some b | _ => none

/-! ### Equal outcomes count once (a sound test; it need not find all that are equal) -/
def eqI : Int → Int → Bool
  | .ofNat a, .ofNat b => Nat.beq a b
  | .negSucc a, .negSucc b => Nat.beq a b
  | _, _ => false
def eqOA : Option Addr → Option Addr → Bool
  | none, none => true
  | some ⟨b, o, none⟩, some ⟨b', o', none⟩ => Nat.beq b b' && Nat.beq o o'
  | _, _ => false
def eqON : Option Nat → Option Nat → Bool
  | none, none => true
  | some a, some b => Nat.beq a b
  | _, _ => false
def eqL {α : Type} (f : α → α → Bool) : List α → List α → Bool
  | [], [] => true
  | x :: xs, y :: ys => f x y && eqL f xs ys
  | _, _ => false
def eqV : Nat → Value → Value → Bool
  | 0, _, _ => false
  | n + 1, u, v =>
    match u, v with
    | .bool a, .bool b => a == b
    | .int k a, .int k' b => eqI a b && decide (k = k')
    | .pointer a, .pointer b => eqOA a b
    | .slice a n c, .slice b n' c' => eqOA a b && Nat.beq n n' && Nat.beq c c'
    | .map a, .map b => eqON a b
    | .nilFunc, .nilFunc => true
    | .nilIface, .nilIface => true
    | .agg as, .agg bs => eqL (eqV n) as.toList bs.toList
    | .tuple as, .tuple bs => eqL (eqV n) as.toList bs.toList
    | .func (.func f) as cs, .func (.func g) bs ds => Nat.beq f g && eqL (eqV n) as.toList bs.toList && eqL (eqV n) cs.toList ds.toList
    | _, _ => false
def eqE (x y : MapEntry) : Bool := eqV 20 x.key y.key && eqV 20 x.val y.val && Nat.beq x.born y.born
def eqO : GObj → GObj → Bool
  | .row cs e r, .row cs' e' r' => eqL (eqV 20) cs cs' && Nat.beq e e' && r == r'
  | .map es c, .map es' c' => eqL eqE es es' && Nat.beq c c'
  | .dead, .dead => true
  | _, _ => false
def eqX (x y : Value × GH) : Bool := Nat.beq x.2.n y.2.n && eqV 20 x.1 y.1 && Nat.beq x.2.lo y.2.lo && eqL eqO x.2.objs y.2.objs
def ddL : List (Value × GH) → List (Value × GH)
  | [] => []
  | x :: r => match r.any (eqX x) with
    | true => ddL r
    | false => x :: ddL r
def dd : M (Value × GH) → M (Value × GH)
  | none => none
  | some [a] => some [a]
  | some l => some (ddL l)

/-- A call: plainly (0) · in a region that draws (1) · in a region that draws and in which it may turn nothing that was there (2). -/
def onCall (d : Nat) (call : Handle) (f : Value) (args : List Value) (H : GH) (K : Value → GH → M β) : M β :=
  match d with
  | 0 => bindM (dd (call f args H)) fun x => K x.1 x.2
  | 1 => match call f args H with
    | some [(v, H1)] => if H.n ≤ H1.n then K v H1 else none
    | _ => none
  | _ => match call f args { H with lo := H.n } with
    | some [(v, H1)] => if H.n ≤ H1.lo ∧ H.n ≤ H1.n ∧ (H1.objs.take (H1.n - H.n)).length = H1.n - H.n then K v { objs := H1.objs.take (H1.n - H.n) ++ H.objs, n := H1.n, lo := min H.lo H1.lo } else none
    | _ => none
def onNext (d : Nat) (x : M (Value × GH)) (K : Value → GH → M β) : M β :=
  match d with
  | 0 => bindM x fun x => K x.1 x.2
  | _ => match x with
    | some [(v, H1)] => K v H1
    | _ => none

/-- The builtin functions. -/
def gBuiltin (b : Builtin) (tys : List TypeId) (args : List Value) (H : GH) (K : Value → GH → M β) : M β :=
  match b, tys, args with
  | .len, [t], [x] => match P.underlying t with
    | some (.map _ _) => onV ((gMap x H).map fun y => .int .i64 y.2.1.length) fun v => K v H
    | _ => onV (oLen P t x) fun v => K v H
  | .cap, [t], [x] => onV (oCap P t x) fun v => K v H
  | .append, [st, xt], [s, x] => onVH (gAppend P st xt s x H) K
  | .copy, dt :: _, [d, s] => onVH (gCopy P dt d s H) K
  | .clear, [t], [x] => onH (gClear P t x H) fun H => K (.tuple #[]) H
  | .delete, t :: _, [m, k] => onH (gDelete P t m k H) fun H => K (.tuple #[]) H
  | .min, _, args => onV ((oMinMax P false args).filter closed) fun v => K v H
  | .max, _, args => onV ((oMinMax P true args).filter closed) fun v => K v H
  | _, _, _ => none

/-- An append to a slice that one of these temporaries holds. -/
def maskHit (n : Nat) (c : Call) : Bool := match c.callee, c.args[0]? with
  | .builtin .append, some (Operand.tmp t) => n.testBit t
  | _, _ => false
def gBuiltinQ (tys : List TypeId) (args : List Value) (H : GH) (K : Value → GH → M β) : M β :=
  match tys, args with
  | [st, xt], [s, x] => onVH (gAppendQ P st xt s x H) K
  | _, _ => none

/-- One operation. -/
def gStep (d : Nat) (call : Handle) (ρ : Operand → Value) (o : Oper) (H : GH) (K : Value → GH → M β) : M β :=
  match o.op with
  | .move x => K (ρ x) H
  | .assign x => K (ρ x) H
  | .pick c a b => onV (oPick (ρ c) (ρ a) (ρ b)) fun v => K v H
  | .nilCheck x => onV (oNilCheck (ρ x)) fun v => K v H
  | .makeFunc (.func f) first captured => K (.func (.func f) (mapA ρ first) (mapA ρ captured)) H
  | .extract t i => onV (oExtract (ρ t) i) fun v => K v H
  | .makeInterface t x => onV (oIface P t (ρ x)) fun v => K v H
  | .fieldAddr s x f => onV (oFieldAddr P s (ρ x) f) fun v => K v H
  | .field t x f => onV (oField P t (ρ x) f) fun v => K v H
  | .indexAddr t x i => onV (oIndexAddr P t (ρ x) (ρ i)) fun v => K v H
  | .index t x i => onV ((oIndex P t (ρ x) (ρ i)).filter closed) fun v => K v H
  | .slice t x lo hi mx => onV (oSlice P t (ρ x) (lo.map ρ) (hi.map ρ) (mx.map ρ)) fun v => K v H
  | .build t parts => onV (oBuild P t (gParts ρ parts)) fun v => K v H
  | .binOp op t x y _ => onV ((oBin P op t (ρ x) (ρ y)).filter closed) fun v => K v H
  | .unOp op _ x => onV ((oUn P op (ρ x)).filter closed) fun v => K v H
  | .convert src dst x => if isSelf P src dst then onVH (gMark (ρ x) H) K else onV (gConvert P src dst (ρ x) H) fun v => K v H
  | .alloc e => onV (gZero P e) fun z => K (.pointer (some ⟨H.n, 0, none⟩)) (H.push (.row z.cells.toList e false))
  | .box e x => match gSize P e with
    | some _ => K (.pointer (some ⟨H.n, 0, none⟩)) (H.push (.row (ρ x).cells.toList e false))
    | none => none
  | .buildSlice t len parts => onVH (gBuildSlice P t len (gParts ρ parts) H) K
  | .load t a => onV (gLoad P t (ρ a) H) fun v => K v H
  | .store t a x => onH (gStore P t (ρ a) (ρ x) H) fun H => K undef H
  | .makeSlice t l c => onVH (gMakeSlice P t (ρ l) (ρ c) H) K
  | .makeMap _ none => K (.map (some H.n)) (H.push (.map [] 0))
  | .lookup t x k ok => onV (gLookup P t (ρ x) (ρ k) ok H) fun v => K v H
  | .mapUpdate t m k x => onH (gMapUpdate P t (ρ m) (ρ k) (ρ x) H) fun H => K undef H
  | .insert t m k x => onH (gMapUpdate P t (ρ m) (ρ k) (ρ x) H) fun H => K undef H
  | .mapEntry t m k => if decide (3 ≤ d) then onVH (gMapEntryQ P t (ρ m) (ρ k) H) K else onVH (gMapEntry P t (ρ m) (ρ k) H) K
  | .entryStore _ m s x => onH (gEntryStore (ρ m) (ρ s) (ρ x) H) fun H => K undef H
  | .range t x => onVH (gRange P t (ρ x) H) K
  | .next it isString => onNext d (gNext (ρ it) isString H) K
  | .entry it => onV (gEntry (ρ it) H) fun v => K v H
  | .call c => match c.callee with
    | .value f => onCall d call (ρ f) (c.args.toList.map ρ) H K
    | .builtin b => if decide (3 ≤ d) && maskHit (d - 3) c then gBuiltinQ P c.argTypes.toList (c.args.toList.map ρ) H K else gBuiltin P b c.argTypes.toList (c.args.toList.map ρ) H K
    | _ => none
  | _ => none

/-- What guards ask for must be a truth value. -/
def onGrd (g : Bool) (v : Value) (m : M β) : M β := match g with
  | false => m
  | true => match v with
    | .bool _ => m
    | _ => none
/-- What an operation may do to memory: 0: nothing, nor does it look · 1: it looks, or lays new blocks · 2: it may turn what is there. c: how calls count. -/
def opCls (c : Nat) (o : Oper) : Nat :=
  match o.op with
  | .move _ | .assign _ | .pick .. | .nilCheck _ | .makeFunc .. | .extract .. | .makeInterface .. | .fieldAddr .. | .field .. | .indexAddr .. | .index .. | .slice .. | .build .. | .binOp .. | .unOp .. => 0
  | .convert src dst _ => if isSelf P src dst then 2 else if isBytes P src dst then 1 else 0
  | .alloc _ | .box .. | .buildSlice .. | .load .. | .makeSlice .. | .makeMap .. | .lookup .. | .range .. | .entry _ => 1
  | .call cl => match cl.callee with
    | .builtin .len => match (cl.argTypes[0]?).bind P.underlying with | some (.map _ _) => 1 | _ => 0
    | .builtin .cap | .builtin .min | .builtin .max => 0
    | .builtin _ => if decide (3 ≤ c) && maskHit (c - 3) cl then 1 else 2
    | _ => if 3 ≤ c then 2 else c
  | _ => 2
/-- A look whose place a temporary names. -/
def lookTmp (o : Oper) : Option Tmp := match o.op with
  | .load _ (.tmp x) => some x
  | .convert s d (.tmp x) => if s == d then none else some x
  | _ => none
/-- What it finds. -/
def gLook (a : GA) (o : Oper) (H : GH) : Option Value := match o.op with
  | .load t x => gLoad P t (a.eval x) H
  | .convert src dst x => gConvert P src dst (a.eval x) H
  | _ => none
def same1 : Value → Value → Bool
  | .bool a, .bool b => a == b
  | .int k a, .int l b => decide (k = l) && decide (a = b)
  | .string a, .string b => decide (a = b)
  | _, _ => false
/-- The same numbers. -/
def sameV : Value → Value → Bool
  | .agg a, .agg b => (a.toList.zip b.toList).all (fun x => same1 x.1 x.2) && decide (a.toList.length = b.toList.length)
  | u, v => same1 u v
def onSame (u v : Option Value) (m : M β) : M β := match u, v with
  | some x, some y => if sameV x y then m else none
  | _, _ => none
/-- From the look on nobody turns the temporary that names its place. -/
def looksFree (ops : List Oper) (j : Nat) : Bool := match (ops[j]?).bind lookTmp with
  | some x => (List.range ops.length).all fun l => decide (l < j) || (match ops[l]? with | some o => o.dst != some x | none => true)
  | none => false
/-- A look ahead of an operation that may turn what is there, and not ordered with it. -/
def loosePair (c : Nat) (ops : List Oper) (i j : Nat) : Bool :=
  (match ops[i]? with | some o => opCls P c o == 2 | none => false) && looksFree ops j && !((Region.before ops.toArray).getD i 0).testBit j
def looseAt (c : Nat) (ops : List Oper) (i : Nat) : List Oper := ((List.range i).filter (loosePair P c ops i)).filterMap (ops[·]?)
def looseLook (c : Nat) (ops : List Oper) (j : Nat) : Bool := (List.range ops.length).any fun i => decide (j < i) && loosePair P c ops i j
/-- What such a look finds holds no address. -/
def onClosed (b : Bool) (v : Value) (m : M β) : M β := if b then (if closed v then m else none) else m
/-- They find behind it what they found ahead of it. -/
def onApart (d : Nat) (ops : List Oper) (i : Nat) (a : GA) (H H' : GH) (m : M β) : M β :=
  if decide (3 ≤ d) then (looseAt P d ops i).foldr (fun x m => onSame (gLook P a x H) (gLook P a x H') m) m else m
/-- The operations of a region, one after the other. -/
def gOps (d : Nat) (call : Handle) (ops : List Oper) : Nat → List Oper → GA → GH → (GA → GH → M β) → M β
  | _, [], a, H, K => K a H
  | i, o :: rest, a, H, K =>
    onBool (gWanted ops a o) (gStep P d call a.eval o H fun v H' => onGrd (isGrd ops o) v (onClosed (decide (3 ≤ d) && looseLook P d ops i) v (onApart P d ops i a H H' (gOps d call ops (i + 1) rest (a.put o.dst v) H' K)))) (gOps d call ops (i + 1) rest (a.put o.dst undef) H K)
end

/-- A lookup, and an entry at the same key of the same map. -/
def samePlace (o o' : Oper) : Bool := match o.op, o'.op, o'.guard with
  | .lookup t (.tmp a) (.tmp b) false, .mapEntry t' (.tmp a') (.tmp b'), none => t == t' && a == a' && b == b'
  | _, _, _ => false
/-- Of the operations that touch memory each one that may turn what is there is ordered with each other one. -/
def memOk (c : Nat) (ops : Array Oper) : Bool :=
  let b := Region.before ops
  let cls := ops.toList.map (opCls P c)
  (List.range cls.length).all fun j => cls.getD j 0 == 0 || (List.range j).all fun i =>
    cls.getD i 0 == 0 || (cls.getD i 0 != 2 && cls.getD j 0 != 2) || (b.getD j 0).testBit i || (decide (3 ≤ c) && (match ops[i]?, ops[j]? with | some x, some y => samePlace x y | _, _ => false)) || (decide (3 ≤ c) && looksFree ops.toList i)
/-- The temporaries that hold an empty slice that was just made. -/
def nilMask (ops : List Oper) : Nat := ops.foldl (fun n o => match o.op, o.dst with | .buildSlice _ 0 _, some t => n ||| 2 ^ t | _, _ => n) 0
/-- How a region is run. -/
def gMode (ops : Array Oper) (draw : Bool) : Option Nat :=
  if draw then (if memOk P 2 ops then some 1 else if memOk P 1 ops then some 2 else if memOk P (3 + nilMask ops.toList) ops then some (3 + nilMask ops.toList) else none) else some 0

abbrev Kont (β : Type) := GExit → GA → GH → M β
section
variable {β : Type}
def hSeq (f : GA → GH → Kont β → M β) (K : Kont β) : Kont β := fun e a H => match e with | .normal => f a H K | e => K e a H
def hBlock (id : Nat) (K : Kont β) : Kont β := fun e a H => match e with | .exit id' => (if id' = id then K .normal a H else K (.exit id') a H) | e => K e a H
def hLoop (again : GA → GH → M β) (K : Kont β) : Kont β := fun e a H => match e with | .normal => again a H | e => K e a H
/-- A loop: at most so many rounds. -/
def gLoop (f : GA → GH → Kont β → M β) (K : Kont β) : Nat → GA → GH → M β
  | 0, _, _ => none
  | r + 1, a, H => f a H (hLoop (gLoop f K r) K)
/-- The end of a range over a function. -/
def gEndRange (l : Nat) (a : GA) (H : GH) (K : Kont β) : M β :=
  match H.get l with
  | some (.loop .busy _ _ _ _ _) => none
  | some (.loop _ none tmps ps as bd) => K .normal a (H.set l (.loop .exhausted none tmps ps as bd))
  | some (.loop _ (some .ret) tmps ps as bd) => K .ret a (H.set l (.loop .exhausted (some .ret) tmps ps as bd))
  | some (.loop _ (some (.exit id)) tmps ps as bd) => K (.exit id) a (H.set l (.loop .exhausted (some (.exit id)) tmps ps as bd))
  | _ => none

def gCode (call : Handle) (k : Nat) : Code → GA → GH → Kont β → M β
  | .skip, a, H, K => K .normal a H
  | .label _, a, H, K => K .normal a H
  | .seq x y, a, H, K => gCode call k x a H (hSeq (gCode call k y) K)
  | .cond c x y, a, H, K => onBool (asB (a.eval c)) (gCode call k x a H K) (gCode call k y a H K)
  | .block id c, a, H, K => gCode call k c a H (hBlock id K)
  | .scope c, a, H, K => gCode call k c a H K
  | .loop c, a, H, K => gLoop (gCode call k c) K k a H
  | .exit id, a, H, K => K (.exit id) a H
  | .ret, a, H, K => K .ret a H
  | .region _ ops draw, a, H, K => match gMode P ops draw with
    | some d => gOps P d call ops.toList 0 ops.toList a H (K .normal)
    | none => none
  | .rangeFunc g params assign body, a, H, K =>
    match a.eval g with
    | .func (.func f) fs cs => bindM (call (.func (.func f) fs cs) [.func (.yield H.n) #[] #[]] (H.push (.loop .ready none a params.toList assign body))) fun x => gEndRange H.n a x.2 K
    | _ => none
  | _, _, _, _ => none
end

/-- What a function hands back. -/
def gResult (a : GA) (H : GH) : ResultVar → Option Value
  | .tmp t => some (a.getD t undef)
  | .cell t ty => gLoad P ty (a.getD t undef) H
def gResults (fn : Func) (a : GA) (H : GH) : Option Value :=
  (fn.results.toList.mapM (gResult P a H)).map fun vs => match vs with | [v] => v | vs => .tuple vs.toArray
def hFin (fn : Func) : Kont (Value × GH) := fun e a H => match e with
  | .exit _ => none
  | _ => onV (gResults P fn a H) fun v => ret (v, H)

/-- The temporaries at a call. -/
def gEnter (n : Nat) (args : List Value) : GA := args ++ List.replicate (n - args.length) undef
def gAssign (ps : List Tmp) (args : List Value) (tmps : GA) : GA := (ps.zip args).foldl (fun t x => t.set x.1 x.2) tmps

/-- A round's end. -/
def hRound (l : Nat) : Kont (Value × GH) := fun e _ H => match H.get l with
  | some (.loop .busy none tmps params assign body) => match e with
    | .normal => ret (.bool true, H.set l (.loop .ready none tmps params assign body))
    | .ret => ret (.bool false, H.set l (.loop .done (some .ret) tmps params assign body))
    | .exit id => ret (.bool false, H.set l (.loop .done (some (.exit id)) tmps params assign body))
  | _ => none
/-- Between the assignment to a loop's variables and its body. -/
def hBegin (call : Handle) (k l : Nat) (body : Code) : Kont (Value × GH) := fun e a H => match e, H.get l with
  | .normal, some (.loop .ready none tmps params assign bd) => gCode P call k body a (H.set l (.loop .busy none tmps params assign bd)) (hRound l)
  | _, _ => none

/-- A function's run. -/
def gFunc (call : Handle) (k : Nat) (fn : Func) (args : List Value) (H : GH) : M (Value × GH) :=
  match fn.body with
  | some c => gCode P call k c (gEnter fn.ntmps args) H (hFin P fn)
  | none => none
/-- A round's run. -/
def gRound (call : Handle) (k : Nat) (l : Nat) (args : List Value) (H : GH) : M (Value × GH) :=
  match H.get l with
  | some (.loop .ready none tmps params assign body) =>
    if args.length = params.length then gCode P call k assign (gAssign params args tmps) H (hBegin P call k l body) else none
  | _ => none

/-- A call, with at most k levels and k rounds. T: the functions that may be entered. -/
def gCall (T : Nat → Option Func) : Nat → Handle
  | 0 => fun _ _ _ => none
  | k + 1 => fun fv args H =>
    match fv with
    | .func (.func f) first captured => match T f with
      | some fn => gFunc P (gCall T k) k fn (first.toList ++ args ++ captured.toList) H
      | none => none
    | .func (.yield l) _ _ => gRound P (gCall T k) k l args H
    | _ => none
end

/-! ### What is asked of a function's text, once -/
/-- A constant must hold no address; a global must be one of those that are known. -/
def opndOk : Operand → Bool | .const v => closed v | .global g => glSel g | _ => true
def glObj (g : Nat) : GObj := .row (glRow g) (glTy g) true
/-- The heap in which a program starts. -/
def GH.start : GH := { objs := ((List.range glN).map fun g => if glSel g then glObj g else .dead).reverse, n := glN, lo := glN }
/-- The known package variables lie where they lay at the start. -/
def GlIn (H : GH) : Prop := ∀ g, glSel g = true → H.get g = some (glObj g)
def opOk (o : Oper) : Bool := o.op.operands.toList.all opndOk
/-- The temporaries that an operation names. -/
def opTmps (ops : Array Oper) (o : Oper) : List Tmp := o.dst.toList ++ o.looksAt ops
/-- Two operations that name one temporary, of which one writes it, are ordered. -/
def tmpsOk (ops : Array Oper) : Bool :=
  let b := Region.before ops
  (List.range ops.size).all fun j => (List.range j).all fun i =>
    (b.getD j 0).testBit i ||
      (match ops[i]?, ops[j]? with
       | some x, some y => (match x.dst with | some d => !(opTmps ops y).contains d | none => true) && (match y.dst with | some d => !(opTmps ops x).contains d | none => true)
       | _, _ => false)
/-- Edges go back, but for those of the other mode. -/
def edgesOk (ops : Array Oper) : Bool :=
  (List.range ops.size).all fun i => match ops[i]? with
    | some o => o.after.toList.all (fun e => !Region.binds .any e || decide (e.on < i)) && (match o.guard with | some (j, _) => decide (j < i) | none => true)
    | none => false
def codeOk : Code → Bool
  | .seq x y => codeOk x && codeOk y
  | .cond c x y => opndOk c && codeOk x && codeOk y
  | .block _ c | .scope c | .loop c => codeOk c
  | .region _ ops draw => ops.toList.all opOk && (!draw || (edgesOk ops && tmpsOk ops))
  | .rangeFunc g _ x y => opndOk g && codeOk x && codeOk y
  | _ => true
def funcOk (fn : Func) : Bool := (match fn.body with | some c => codeOk c | none => true) && fn.name != "runtime.NumGoroutine"
end Go.Gh
/- The ghost machine: how a ghost heap stands for a part of the real memory; steps and their composition. -/
namespace Go.Gh
open Go.RowKit

/-- Where a ghost block lies: the real block, the place in it where it begins; of a row: how many cells the real block has, and an element's cells; may it be written? -/
structure Pin where
  blk : Nat
  off : Nat
  tot : Nat
  sz : Nat
  rw : Bool
abbrev PM := Nat → Option Pin
def PM.le (m m' : PM) : Prop := ∀ b p, m b = some p → m' b = some p
theorem PM.le.refl (m : PM) : PM.le m m := fun _ _ h => h
theorem PM.le.trans {a b c : PM} (h : PM.le a b) (k : PM.le b c) : PM.le a c := fun x p hx => k x p (h x p hx)

/-- A ghost value and the real one. -/
inductive VR (m : PM) : Value → Value → Prop
  | bool (b : Bool) : VR m (.bool b) (.bool b)
  | int (k : IntKind) (n : Int) : VR m (.int k n) (.int k n)
  | float (k : FloatKind) (b : Nat) : VR m (.float k b) (.float k b)
  | complex (k : FloatKind) (x y : Nat) : VR m (.complex k x y) (.complex k x y)
  | string (s : ByteArray) : VR m (.string s) (.string s)
  | ptrNil : VR m (.pointer none) (.pointer none)
  | ptr {b : Nat} {p : Pin} (o : Nat) (h : m b = some p) : VR m (.pointer (some ⟨b, o, none⟩)) (.pointer (some ⟨p.blk, p.off + o, none⟩))
  | sliceNil (n c : Nat) : VR m (.slice none n c) (.slice none n c)
  | slice {b : Nat} {p : Pin} (o o' n c : Nat) (h : m b = some p) (hc : c < loose) (hn : n ≤ c) (ho : 0 < c → o' = p.off + o) :
      VR m (.slice (some ⟨b, o, none⟩) n c) (.slice (some ⟨p.blk, o', none⟩) n c)
  | sliceL {b : Nat} {p : Pin} (o o' n c c' : Nat) (h : m b = some p) (hc : c = loose + p.sz) (hn : n ≤ c') (ho : 0 < n → o' = p.off + o) (hw : p.rw = true → o' + c' * p.sz ≤ p.tot) :
      VR m (.slice (some ⟨b, o, none⟩) n c) (.slice (some ⟨p.blk, o', none⟩) n c')
  | sliceD (b o : Nat) (A : Addr) : VR m (.slice (some ⟨b, o, none⟩) 0 0) (.slice (some A) 0 0)
  | mapNil : VR m (.map none) (.map none)
  | map {b : Nat} {p : Pin} (h : m b = some p) : VR m (.map (some b)) (.map (some p.blk))
  | nilFunc : VR m .nilFunc .nilFunc
  | func (f : FuncId) (fs gs cs ds : Array Value) (h1 : fs.size = gs.size) (h2 : ∀ (i : Nat) (hi : i < fs.size) (hj : i < gs.size), VR m fs[i] gs[i])
      (h3 : cs.size = ds.size) (h4 : ∀ (i : Nat) (hi : i < cs.size) (hj : i < ds.size), VR m cs[i] ds[i]) : VR m (.func (.func f) fs cs) (.func (.func f) gs ds)
  | yield {l : Nat} {p : Pin} (h : m l = some p) : VR m (.func (.yield l) #[] #[]) (.func (.yield p.blk) #[] #[])
  | nilIface : VR m .nilIface .nilIface
  | iface (t : TypeId) {v v' : Value} (h : VR m v v') : VR m (.iface t v) (.iface t v')
  | agg (cs ds : Array Value) (h3 : cs.size = ds.size) (h4 : ∀ (i : Nat) (hi : i < cs.size) (hj : i < ds.size), VR m cs[i] ds[i]) : VR m (.agg cs) (.agg ds)
  | tuple (cs ds : Array Value) (h3 : cs.size = ds.size) (h4 : ∀ (i : Nat) (hi : i < cs.size) (hj : i < ds.size), VR m cs[i] ds[i]) : VR m (.tuple cs) (.tuple ds)

/-- Lists, value by value. -/
def VRs (m : PM) (xs ys : List Value) : Prop := xs.length = ys.length ∧ ∀ (i : Nat) (hi : i < xs.length) (hj : i < ys.length), VR m xs[i] ys[i]

section
variable {m m' : PM}
theorem VR.mono (hm : PM.le m m') {v v' : Value} (h : VR m v v') : VR m' v v' := by
  induction h with
  | bool b => exact .bool b
  | int k n => exact .int k n
  | float k b => exact .float k b
  | complex k x y => exact .complex k x y
  | string s => exact .string s
  | ptrNil => exact .ptrNil
  | ptr o h => exact .ptr o (hm _ _ h)
  | sliceNil n c => exact .sliceNil n c
  | slice o o' n c h hc hn ho => exact .slice o o' n c (hm _ _ h) hc hn ho
  | sliceL o o' n c c' h hc hn ho hw => exact .sliceL o o' n c c' (hm _ _ h) hc hn ho hw
  | sliceD b o A => exact .sliceD b o A
  | mapNil => exact .mapNil
  | map h => exact .map (hm _ _ h)
  | nilFunc => exact .nilFunc
  | func f fs gs cs ds h1 _ h3 _ i2 i4 => exact .func f fs gs cs ds h1 i2 h3 i4
  | yield h => exact .yield (hm _ _ h)
  | nilIface => exact .nilIface
  | iface t _ ih => exact .iface t ih
  | agg cs ds h3 _ i4 => exact .agg cs ds h3 i4
  | tuple cs ds h3 _ i4 => exact .tuple cs ds h3 i4

theorem VRs.mono (hm : PM.le m m') {xs ys : List Value} (h : VRs m xs ys) : VRs m' xs ys := ⟨h.1, fun i hi hj => (h.2 i hi hj).mono hm⟩
theorem VRs.nil : VRs m [] [] := ⟨rfl, fun _ hi => absurd hi (by simp)⟩
theorem VRs.cons {x y : Value} {xs ys : List Value} (h : VR m x y) (t : VRs m xs ys) : VRs m (x :: xs) (y :: ys) :=
  ⟨by simp [t.1], fun i hi hj => by cases i with
    | zero => exact h
    | succ i => exact t.2 i (by simpa using hi) (by simpa using hj)⟩
theorem VRs.head {x y : Value} {xs ys : List Value} (h : VRs m (x :: xs) (y :: ys)) : VR m x y := h.2 0 (by simp) (by simp)
theorem VRs.tail {x y : Value} {xs ys : List Value} (h : VRs m (x :: xs) (y :: ys)) : VRs m xs ys :=
  ⟨by simpa using h.1, fun i hi hj => h.2 (i + 1) (by simpa using hi) (by simpa using hj)⟩
theorem VRs.get? {xs ys : List Value} (h : VRs m xs ys) {i : Nat} {u : Value} (hu : xs[i]? = some u) : ∃ v, ys[i]? = some v ∧ VR m u v := by
  obtain ⟨hi, rfl⟩ := List.getElem?_eq_some_iff.1 hu
  have hj : i < ys.length := h.1 ▸ hi
  exact ⟨ys[i], List.getElem?_eq_getElem hj, h.2 i hi hj⟩
theorem VRs.of_get? {xs ys : List Value} (hl : xs.length = ys.length) (h : ∀ (i : Nat) (u v : Value), xs[i]? = some u → ys[i]? = some v → VR m u v) : VRs m xs ys :=
  ⟨hl, fun i hi hj => h i _ _ (List.getElem?_eq_getElem hi) (List.getElem?_eq_getElem hj)⟩
theorem VRs.get?' {xs ys : List Value} (h : VRs m xs ys) {i : Nat} {u v : Value} (hu : xs[i]? = some u) (hv : ys[i]? = some v) : VR m u v := by
  obtain ⟨v', hv', hr⟩ := h.get? hu
  rw [hv] at hv'
  injection hv' with e
  subst e
  exact hr
theorem VRs.append {xs ys us vs : List Value} (h : VRs m xs ys) (k : VRs m us vs) : VRs m (xs ++ us) (ys ++ vs) := by
  refine VRs.of_get? (by simp [h.1, k.1]) fun i u v hu hv => ?_
  rcases Nat.lt_or_ge i xs.length with hi | hi
  · rw [List.getElem?_append_left hi] at hu
    rw [List.getElem?_append_left (h.1 ▸ hi)] at hv
    exact h.get?' hu hv
  · rw [List.getElem?_append_right hi] at hu
    rw [List.getElem?_append_right (h.1 ▸ hi), ← h.1] at hv
    exact k.get?' hu hv
theorem VRs.drop {xs ys : List Value} (h : VRs m xs ys) (n : Nat) : VRs m (xs.drop n) (ys.drop n) :=
  VRs.of_get? (by simp [h.1]) fun i u v hu hv => by
    rw [List.getElem?_drop] at hu hv
    exact h.get?' hu hv
theorem VRs.take {xs ys : List Value} (h : VRs m xs ys) (n : Nat) : VRs m (xs.take n) (ys.take n) := by
  refine VRs.of_get? (by simp [h.1]) fun i u v hu hv => ?_
  rcases Nat.lt_or_ge i n with hi | hi
  · rw [List.getElem?_take_of_lt hi] at hu hv
    exact h.get?' hu hv
  · rw [List.getElem?_take_eq_none hi] at hu
    cases hu
theorem VRs.set {xs ys : List Value} (h : VRs m xs ys) (i : Nat) {u v : Value} (hr : VR m u v) : VRs m (xs.set i u) (ys.set i v) := by
  refine VRs.of_get? (by simp [h.1]) fun j a b ha hb => ?_
  rw [List.getElem?_set] at ha hb
  by_cases e : i = j
  · subst e
    simp only [if_true] at ha hb
    split at ha
    · split at hb
      · injection ha with ha
        injection hb with hb
        subst ha; subst hb
        exact hr
      · cases hb
    · cases ha
  · rw [if_neg e] at ha hb
    exact h.get?' ha hb
theorem VRs.getD {xs ys : List Value} (h : VRs m xs ys) (i : Nat) {u v : Value} (hr : VR m u v) : VR m (xs.getD i u) (ys.getD i v) := by
  rw [List.getD_eq_getElem?_getD, List.getD_eq_getElem?_getD]
  rcases Nat.lt_or_ge i xs.length with hi | hi
  · have hj : i < ys.length := h.1 ▸ hi
    rw [List.getElem?_eq_getElem hi, List.getElem?_eq_getElem hj]
    exact h.2 i hi hj
  · rw [List.getElem?_eq_none hi, List.getElem?_eq_none (by rw [← h.1]; exact hi)]
    exact hr
theorem VRs.toArr {cs ds : Array Value} (h3 : cs.size = ds.size) (h4 : ∀ (i : Nat) (hi : i < cs.size) (hj : i < ds.size), VR m cs[i] ds[i]) : VRs m cs.toList ds.toList :=
  ⟨by simpa using h3, fun i hi hj => by simpa using h4 i (by simpa using hi) (by simpa using hj)⟩
theorem VRs.arr {cs ds : Array Value} (h : VRs m cs.toList ds.toList) : ∀ (i : Nat) (hi : i < cs.size) (hj : i < ds.size), VR m cs[i] ds[i] :=
  fun i hi hj => by have := h.2 i (by simpa using hi) (by simpa using hj); simp only [Array.getElem_toList] at this; exact this
theorem VRs.size {cs ds : Array Value} (h : VRs m cs.toList ds.toList) : cs.size = ds.size := by simpa using h.1
theorem VR.aggL {xs ys : List Value} (h : VRs m xs ys) : VR m (.agg xs.toArray) (.agg ys.toArray) := .agg _ _ (by simpa using h.1) (VRs.arr (by simpa using h))
theorem VR.aggA {cs ds : Array Value} (h : VRs m cs.toList ds.toList) : VR m (.agg cs) (.agg ds) := .agg _ _ h.size h.arr
theorem VR.tupA {cs ds : Array Value} (h : VRs m cs.toList ds.toList) : VR m (.tuple cs) (.tuple ds) := .tuple _ _ h.size h.arr
theorem VRs.map {α : Type} {f g : α → Value} {xs : List α} (h : ∀ x ∈ xs, VR m (f x) (g x)) : VRs m (xs.map f) (xs.map g) := by
  induction xs with
  | nil => exact .nil
  | cons x xs ih => exact .cons (h x (by simp)) (ih fun y hy => h y (by simp [hy]))

/-! ### Values without an address -/
theorem VR.closed0_eq {v v' : Value} (h : VR m v v') (hc : closed0 v = true) : v = v' := by
  cases h <;> first | rfl | simp [closed0] at hc
theorem closed0_VR {v : Value} (hc : closed0 v = true) : VR m v v := by
  cases v with
  | bool b => exact .bool b
  | int k n => exact .int k n
  | float k b => exact .float k b
  | complex k x y => exact .complex k x y
  | string s => exact .string s
  | pointer a => cases a with
    | none => exact .ptrNil
    | some a => simp [closed0] at hc
  | slice a n c => cases a with
    | none => exact .sliceNil n c
    | some a => simp [closed0] at hc
  | map a => cases a with
    | none => exact .mapNil
    | some a => simp [closed0] at hc
  | nilFunc => exact .nilFunc
  | nilIface => exact .nilIface
  | _ => simp [closed0] at hc
theorem VRs.eq_of {p : Value → Bool} (hp : ∀ {v v' : Value}, VR m v v' → p v = true → v = v') {xs ys : List Value} (h : VRs m xs ys) (hc : xs.all p = true) : xs = ys := by
  refine List.ext_getElem? fun i => ?_
  cases hx : xs[i]? with
  | none =>
    have : xs.length ≤ i := List.getElem?_eq_none_iff.1 hx
    rw [List.getElem?_eq_none (by rw [← h.1]; exact this)]
  | some u =>
    obtain ⟨v, hv, hr⟩ := h.get? hx
    rw [hv, hp hr (List.all_eq_true.1 hc u (List.mem_of_getElem? hx))]
theorem VRs.self {p : Value → Bool} (hp : ∀ {v : Value}, p v = true → VR m v v) {xs : List Value} (hc : xs.all p = true) : VRs m xs xs :=
  VRs.of_get? rfl fun i u v hu hv => by
    rw [hu] at hv
    injection hv with e
    subst e
    exact hp (List.all_eq_true.1 hc u (List.mem_of_getElem? hu))
theorem VR.closed1_eq {v v' : Value} (h : VR m v v') (hc : closed1 v = true) : v = v' := by
  cases h with
  | agg cs ds h3 h4 =>
    have := VRs.eq_of (p := closed0) (fun h hc => h.closed0_eq hc) (VRs.toArr h3 h4) (by simpa [closed1] using hc)
    rw [Array.toList_inj.1 this]
  | iface t h => rw [h.closed0_eq (by simpa [closed1] using hc)]
  | bool b => rfl
  | int k n => rfl
  | float k b => rfl
  | complex k x y => rfl
  | string s => rfl
  | ptrNil => rfl
  | sliceNil n c => rfl
  | mapNil => rfl
  | nilFunc => rfl
  | nilIface => rfl
  | _ => simp [closed1, closed0] at hc
theorem closed1_VR {v : Value} (hc : closed1 v = true) : VR m v v := by
  cases v with
  | agg cs => exact .aggA (VRs.self (p := closed0) (fun h => closed0_VR h) (by simpa [closed1] using hc))
  | iface t v => exact .iface t (closed0_VR (by simpa [closed1] using hc))
  | _ => exact closed0_VR (by simpa [closed1] using hc)
theorem VR.closed_eq {v v' : Value} (h : VR m v v') (hc : closed v = true) : v = v' := by
  cases h with
  | agg cs ds h3 h4 =>
    have := VRs.eq_of (p := closed0) (fun h hc => h.closed0_eq hc) (VRs.toArr h3 h4) (by simpa [closed] using hc)
    rw [Array.toList_inj.1 this]
  | tuple cs ds h3 h4 =>
    have := VRs.eq_of (p := closed1) (fun h hc => h.closed1_eq hc) (VRs.toArr h3 h4) (by simpa [closed] using hc)
    rw [Array.toList_inj.1 this]
  | iface t h => rw [h.closed0_eq (by simpa [closed] using hc)]
  | bool b => rfl
  | int k n => rfl
  | float k b => rfl
  | complex k x y => rfl
  | string s => rfl
  | ptrNil => rfl
  | sliceNil n c => rfl
  | mapNil => rfl
  | nilFunc => rfl
  | nilIface => rfl
  | _ => simp [closed, closed0] at hc
theorem closed_VR {v : Value} (hc : closed v = true) : VR m v v := by
  cases v with
  | agg cs => exact .aggA (VRs.self (p := closed0) (fun h => closed0_VR h) (by simpa [closed] using hc))
  | tuple cs => exact .tupA (VRs.self (p := closed1) (fun h => closed1_VR h) (by simpa [closed] using hc))
  | iface t v => exact .iface t (closed0_VR (by simpa [closed] using hc))
  | _ => exact closed0_VR (by simpa [closed] using hc)
theorem VR.undef : VR m Go.undef Go.undef := .tuple #[] #[] rfl (fun i hi => absurd hi (by simp))
theorem VR.oneC_eq {v v' : Value} (h : VR m v v') : oneC v' = oneC v := by cases h <;> rfl
theorem VR.cells {v v' : Value} (h : VR m v v') : VRs m v.cells.toList v'.cells.toList := by
  cases h with
  | agg cs ds h3 h4 => exact VRs.toArr h3 h4
  | bool b => exact .cons (.bool b) .nil
  | int k n => exact .cons (.int k n) .nil
  | float k b => exact .cons (.float k b) .nil
  | complex k x y => exact .cons (.complex k x y) .nil
  | string s => exact .cons (.string s) .nil
  | ptrNil => exact .cons .ptrNil .nil
  | ptr o h => exact .cons (.ptr o h) .nil
  | sliceNil n c => exact .cons (.sliceNil n c) .nil
  | slice o o' n c h hc hn ho => exact .cons (.slice o o' n c h hc hn ho) .nil
  | sliceL o o' n c c' h hc hn ho hw => exact .cons (.sliceL o o' n c c' h hc hn ho hw) .nil
  | sliceD b o A => exact .cons (.sliceD b o A) .nil
  | mapNil => exact .cons .mapNil .nil
  | map h => exact .cons (.map h) .nil
  | nilFunc => exact .cons .nilFunc .nil
  | func f fs gs cs ds h1 h2 h3 h4 => exact .cons (.func f fs gs cs ds h1 h2 h3 h4) .nil
  | yield h => exact .cons (.yield h) .nil
  | nilIface => exact .cons .nilIface .nil
  | iface t h => exact .cons (.iface t h) .nil
  | tuple cs ds h3 h4 => exact .cons (.tuple cs ds h3 h4) .nil
end

/-! ### The ghost heap -/
section
variable {H : GH} {b : Nat} {o o' : GObj}
theorem GH.get_lt (h : H.get b = some o) : b < H.n := by
  unfold GH.get at h
  split at h
  · assumption
  · cases h
theorem GH.get_push_new : (H.push o).get H.n = some o := by simp [GH.get, GH.push]
theorem GH.get_push_old (hb : b < H.n) : (H.push o).get b = H.get b := by
  unfold GH.get GH.push
  simp only
  rw [if_pos (by omega), if_pos hb]
  have e : H.n + 1 - 1 - b = (H.n - 1 - b) + 1 := by omega
  rw [e, List.getElem?_cons_succ]
theorem GH.get_push_ge (hb : H.n < b) : (H.push o).get b = none := by
  unfold GH.get GH.push
  simp only
  rw [if_neg (by omega)]
theorem GH.push_n : (H.push o).n = H.n + 1 := rfl
theorem GH.push_lo : (H.push o).lo = H.lo := rfl
theorem GH.set_n : (H.set b o).n = H.n := rfl
theorem GH.set_lo : (H.set b o).lo = min H.lo b := rfl
theorem GH.get_set_same (h : H.get b = some o') : (H.set b o).get b = some o := by
  have hb := GH.get_lt h
  unfold GH.get at h ⊢
  unfold GH.set
  simp only
  rw [if_pos hb] at h ⊢
  rw [List.getElem?_set_self (List.getElem?_eq_some_iff.1 h).1]
theorem GH.get_set_other {c : Nat} (hne : b ≠ c) (hb : b < H.n) : (H.set b o).get c = H.get c := by
  unfold GH.get GH.set
  simp only
  by_cases hc : c < H.n
  · rw [if_pos hc, if_pos hc, List.getElem?_set_ne (by omega)]
  · rw [if_neg hc, if_neg hc]
end

/-! ### A ghost object and the real one -/
def EntR (m : PM) (x y : MapEntry) : Prop := y.key = x.key ∧ closed x.key = true ∧ y.born = x.born ∧ VR m x.val y.val
def optR (m : PM) : Option Nat → Option Nat → Prop
  | none, none => True
  | some b, some B => ∃ p, m b = some p ∧ B = p.blk
  | _, _ => False

/-- No cell of the row is frozen. -/
def FrOk (fr : Nat × Nat) (n : Nat) : Prop := fr = (0, 0) ∨ n ≤ fr.1
inductive ObjR (P : Program) (m : PM) (base : Nat) (p : Pin) : GObj → Obj → Prop
  | row {cells : List Value} {e t : TypeId} {ro : Bool} {arr : Array Value} {fr : Nat × Nat} (hro : p.rw = !ro) (hold : ro = true → p.blk < base)
      (hrw : ro = false → t = e ∧ FrOk fr arr.size ∧ arr.size = p.tot ∧ gSize P e = some p.sz ∧ base ≤ p.blk)
      (hc : ∀ (i : Nat) (u : Value), cells[i]? = some u → ∃ u', arr[p.off + i]? = some u' ∧ VR m u u') : ObjR P m base p (.row cells e ro) (.cells arr t fr)
  | map {es : List MapEntry} {es' : Array MapEntry} {clock : Nat} (hb : base ≤ p.blk) (hl : es.length = es'.size)
      (he : ∀ (i : Nat) (x y : MapEntry), es[i]? = some x → es'[i]? = some y → EntR m x y) : ObjR P m base p (.map es clock) (.map es' clock)
  | mapIter {mo mo' : Option Nat} {since : Nat} {seen : List Nat} {seen' : Array Nat} {st : Nat} (h0 : p.off = 0) (hb : base ≤ p.blk) (hs : seen'.toList = seen) (hm : optR m mo mo') :
      ObjR P m base p (.mapIter mo since seen st) (.mapIter mo' since seen' st)
  | strIter {s : ByteArray} {pos : Nat} (h0 : p.off = 0) (hb : base ≤ p.blk) : ObjR P m base p (.strIter s pos) (.stringIter s pos)
  | loop {st : LoopState} {pe : Option Code} {tmps : List Value} {ps : List Tmp} {as bd : Code} {r : Loop} (hb : base ≤ p.blk) (h1 : r.state = st) (h2 : r.pending = pe)
      (h3 : r.params.toList = ps) (h4 : r.assign = as) (h5 : r.body = bd) (h6 : codeOk as = true) (h7 : codeOk bd = true) (h8 : VRs m tmps r.tmps.toList) :
      ObjR P m base p (.loop st pe tmps ps as bd) (.loop r)
  | dead {o : Obj} : ObjR P m base p .dead o

theorem ObjR.mono {P : Program} {m m' : PM} {base : Nat} {p : Pin} {o : GObj} {r : Obj} (hm : PM.le m m') (h : ObjR P m base p o r) : ObjR P m' base p o r := by
  cases h with
  | row hro hold hrw hc => exact .row hro hold hrw fun i u hu => by obtain ⟨u', h1, h2⟩ := hc i u hu; exact ⟨u', h1, h2.mono hm⟩
  | map hb hl he => exact .map hb hl fun i x y hx hy => by obtain ⟨h1, h2, h3, h4⟩ := he i x y hx hy; exact ⟨h1, h2, h3, h4.mono hm⟩
  | mapIter h0 hb hs ho =>
    refine .mapIter h0 hb hs ?_
    rename_i mo mo' _ _ _ _
    cases mo <;> cases mo' <;> first | exact ho | (obtain ⟨p, h1, h2⟩ := ho; exact ⟨p, hm _ _ h1, h2⟩)
  | strIter h0 hb => exact .strIter h0 hb
  | loop hb h1 h2 h3 h4 h5 h6 h7 h8 => exact .loop hb h1 h2 h3 h4 h5 h6 h7 (h8.mono hm)
  | dead => exact .dead

/-- May the block's real one be asked for by this ghost block alone? -/
def alive : Option GObj → Bool
  | some (.row _ _ true) | some .dead | none => false
  | _ => true

/-- The known package variables are pinned where they lie. -/
def GlobOk (m : PM) : Prop := ∀ g, glSel g = true → ∃ p, m g = some p ∧ p.blk = g ∧ p.off = 0
theorem GlobOk.mono {m m' : PM} (h : PM.le m m') (hg : GlobOk m) : GlobOk m' := fun g hs => by obtain ⟨p, h1, h2⟩ := hg g hs; exact ⟨p, h _ _ h1, h2⟩
/-- A ghost heap stands for a part of the world. -/
structure Rel (P : Program) (base : Nat) (m : PM) (H : GH) (w : World) : Prop where
  obj : ∀ b p, m b = some p → ∃ o r, H.get b = some o ∧ w.heap[p.blk]? = some r ∧ ObjR P m base p o r
  inj : ∀ b c p q, b ≠ c → m b = some p → m c = some q → alive (H.get b) = true → alive (H.get c) = true → p.blk ≠ q.blk
  glob : GlobOk m

/-- What was a loop's record or a block of deferred calls is one still. -/
structure Keep (w w' : World) : Prop where
  size : w.heap.size ≤ w'.heap.size
  loop : ∀ (L : Nat) (r : Loop), w.heap[L]? = some (.loop r) → ∃ r' : Loop, w'.heap[L]? = some (.loop r')
  defs : ∀ (D : Nat) (ds : Option (List Deferred)), w.heap[D]? = some (.deferred ds) → w'.heap[D]? = some (.deferred ds)
theorem Keep.refl (w : World) : Keep w w := ⟨Nat.le_refl _, fun _ r h => ⟨r, h⟩, fun _ _ h => h⟩
theorem Keep.trans {a b c : World} (h : Keep a b) (k : Keep b c) : Keep a c :=
  ⟨Nat.le_trans h.size k.size, fun L r hr => by obtain ⟨r', h'⟩ := h.loop L r hr; exact k.loop L r' h', fun D ds hd => k.defs D ds (h.defs D ds hd)⟩

/-- A step: the ghost heap and the world go on together. -/
structure Go1 (base : Nat) (m m' : PM) (H H' : GH) (w w' : World) : Prop where
  le : PM.le m m'
  newId : ∀ b p, m' b = some p → m b = none → H.n ≤ b
  fresh : ∀ b p, m' b = some p → m b = none → w.heap.size ≤ p.blk ∨ ∃ c q, m c = some q ∧ q.blk = p.blk ∧ H'.lo ≤ c
  frame : ∀ B, B < w.heap.size → (∀ b p, m b = some p → p.blk = B → b < H'.lo) → w'.heap[B]? = w.heap[B]?
  below : Below base w w'
  keep : Keep w w'
  n : H.n ≤ H'.n
  lo : H'.lo ≤ H.lo
  same : ∀ b, b < H.n → b < H'.lo → H'.get b = H.get b

theorem Go1.refl (base : Nat) (m : PM) (H : GH) (w : World) : Go1 base m m H H w w :=
  ⟨.refl m, fun b p h h' => (by rw [h] at h'; cases h'), fun b p h h' => (by rw [h] at h'; cases h'), fun _ _ _ => rfl, .refl _ _, .refl _, Nat.le_refl _, Nat.le_refl _, fun _ _ _ => rfl⟩

theorem Go1.trans {base : Nat} {m0 m1 m2 : PM} {H0 H1 H2 : GH} {w0 w1 w2 : World} (h : Go1 base m0 m1 H0 H1 w0 w1) (k : Go1 base m1 m2 H1 H2 w1 w2) : Go1 base m0 m2 H0 H2 w0 w2 where
  le := h.le.trans k.le
  newId b p hb h0 := by
    cases h1 : m1 b with
    | none => exact Nat.le_trans h.n (k.newId b p hb h1)
    | some q => exact h.newId b q h1 h0
  fresh b p hb h0 := by
    cases h1 : m1 b with
    | some q =>
      have e : q = p := by have := k.le b q h1; rw [hb] at this; injection this with e; exact e.symm
      subst e
      rcases h.fresh b q h1 h0 with hs | ⟨c, r, hc, hr, hl⟩
      · exact .inl hs
      · exact .inr ⟨c, r, hc, hr, Nat.le_trans k.lo hl⟩
    | none =>
      rcases k.fresh b p hb h1 with hs | ⟨c, r, hc, hr, hl⟩
      · exact .inl (Nat.le_trans h.keep.size hs)
      · cases hc0 : m0 c with
        | some r0 =>
          have e : r0 = r := by have := h.le c r0 hc0; rw [hc] at this; injection this with e; exact e.symm
          subst e
          exact .inr ⟨c, r0, hc0, hr, hl⟩
        | none =>
          rcases h.fresh c r hc hc0 with hs | ⟨d, s, hd, hs, hl'⟩
          · exact .inl (hr ▸ hs)
          · exact .inr ⟨d, s, hd, hs.trans hr, Nat.le_trans k.lo hl'⟩
  frame B hB hf := by
    have e1 := h.frame B hB fun b p hb hp => Nat.lt_of_lt_of_le (hf b p hb hp) k.lo
    refine (k.frame B (Nat.lt_of_lt_of_le hB h.keep.size) fun b p hb hp => ?_).trans e1
    cases h0 : m0 b with
    | some q =>
      have e : q = p := by have := h.le b q h0; rw [hb] at this; injection this with e; exact e.symm
      subst e
      exact hf b q h0 hp
    | none =>
      rcases h.fresh b p hb h0 with hs | ⟨c, r, hc, hr, hl⟩
      · omega
      · have := hf c r hc (hr.trans hp)
        have := k.lo
        omega
  below := h.below.trans k.below
  keep := h.keep.trans k.keep
  n := Nat.le_trans h.n k.n
  lo := Nat.le_trans k.lo h.lo
  same b hb hl := (k.same b (Nat.lt_of_lt_of_le hb h.n) hl).trans (h.same b hb (Nat.lt_of_lt_of_le hl k.lo))

/-- A draw turns nothing. -/
theorem Rel.drew {P : Program} {base : Nat} {m : PM} {H : GH} {w w' : World} (h : Rel P base m H w) (e : w'.heap = w.heap) : Rel P base m H w' :=
  ⟨fun b p hb => by rw [e]; exact h.obj b p hb, h.inj, h.glob⟩
theorem Go1.drew {base : Nat} {m : PM} {H : GH} {w w' : World} (e : w'.heap = w.heap) (h1 : w'.os = w.os) (h2 : w'.tape = w.tape) (h3 : w'.output = w.output) : Go1 base m m H H w w' :=
  ⟨.refl m, fun b p h h' => (by rw [h] at h'; cases h'), fun b p h h' => (by rw [h] at h'; cases h'), fun _ _ _ => by rw [e], ⟨h1, h2, h3, by rw [e]; exact Nat.le_refl _, fun k _ => by rw [e]⟩,
    ⟨by rw [e]; exact Nat.le_refl _, fun _ r h => ⟨r, by rw [e]; exact h⟩, fun _ _ h => by rw [e]; exact h⟩, Nat.le_refl _, Nat.le_refl _, fun _ _ _ => rfl⟩

section
variable {P : Program} {base : Nat} {m : PM} {H : GH} {w : World}
theorem Rel.blk_lt (h : Rel P base m H w) {b : Nat} {p : Pin} (hb : m b = some p) : p.blk < w.heap.size := by
  obtain ⟨_, r, _, hr, _⟩ := h.obj b p hb
  exact (Array.getElem?_eq_some_iff.1 hr).1
theorem Rel.id_lt (h : Rel P base m H w) {b : Nat} {p : Pin} (hb : m b = some p) : b < H.n := by
  obtain ⟨o, _, ho, _⟩ := h.obj b p hb
  exact GH.get_lt ho
theorem Rel.lo (h : Rel P base m H w) (l : Nat) : Rel P base m { H with lo := l } w := ⟨h.obj, h.inj, h.glob⟩

/-- A new ghost block over a new real one. -/
def PM.put (m : PM) (b : Nat) (p : Pin) : PM := fun c => if c = b then some p else m c
theorem PM.put_same (m : PM) (b : Nat) (p : Pin) : m.put b p b = some p := by simp [PM.put]
theorem PM.put_other (m : PM) {b c : Nat} (p : Pin) (h : c ≠ b) : m.put b p c = m c := by simp [PM.put, h]
theorem Rel.put_le (h : Rel P base m H w) (p : Pin) : PM.le m (m.put H.n p) := fun b q hb => by
  rw [PM.put_other m p (by have := h.id_lt hb; omega)]; exact hb

theorem World.alloc_size (w : World) (o : Obj) : (w.alloc o).heap.size = w.heap.size + 1 := by simp
theorem heap_alloc_at (w : World) (o : Obj) : (w.alloc o).heap[w.heap.size]? = some o := by
  show (w.heap.push o)[w.heap.size]? = _
  simp

theorem Rel.new (h : Rel P base m H w) (hbase : base ≤ w.heap.size) (o : GObj) (r : Obj) (p : Pin) (hp : p.blk = w.heap.size) (ho : ObjR P (m.put H.n p) base p o r) :
    Rel P base (m.put H.n p) (H.push o) (w.alloc r) ∧ Go1 base m (m.put H.n p) H (H.push o) w (w.alloc r) := by
  have hle := h.put_le p
  refine ⟨⟨fun b q hb => ?_, fun b c q s hne hb hc ab ac => ?_, h.glob.mono hle⟩, ⟨hle, fun b q hb h0 => ?_, fun b q hb h0 => ?_, fun B hB _ => ?_, ?_, ?_, ?_, ?_, fun b hb _ => ?_⟩⟩
  · by_cases e : b = H.n
    · subst e
      rw [PM.put_same] at hb
      injection hb with hb
      subst hb
      exact ⟨o, r, GH.get_push_new, by rw [hp]; exact heap_alloc_at w r, ho⟩
    · rw [PM.put_other m p e] at hb
      obtain ⟨o', r', h1, h2, h3⟩ := h.obj b q hb
      exact ⟨o', r', (GH.get_push_old (GH.get_lt h1)).trans h1, (Below.heap_alloc w r q.blk (h.blk_lt hb)).trans h2, h3.mono hle⟩
  · by_cases eb : b = H.n
    · subst eb
      rw [PM.put_same] at hb
      injection hb with hb
      subst hb
      rw [PM.put_other m p (Ne.symm hne)] at hc
      have := h.blk_lt hc
      omega
    · rw [PM.put_other m p eb] at hb
      by_cases ec : c = H.n
      · subst ec
        rw [PM.put_same] at hc
        injection hc with hc
        subst hc
        have := h.blk_lt hb
        omega
      · rw [PM.put_other m p ec] at hc
        rw [GH.get_push_old (h.id_lt hb)] at ab
        rw [GH.get_push_old (h.id_lt hc)] at ac
        exact h.inj b c q s hne hb hc ab ac
  · by_cases e : b = H.n
    · omega
    · rw [PM.put_other m p e, h0] at hb; cases hb
  · by_cases e : b = H.n
    · subst e
      rw [PM.put_same] at hb
      injection hb with hb
      subst hb
      exact .inl (by omega)
    · rw [PM.put_other m p e, h0] at hb; cases hb
  · exact Below.heap_alloc w r B hB
  · exact (Below.refl base w).alloc hbase r
  · refine ⟨by simp, fun L q hL => ⟨q, ?_⟩, fun D ds hD => ?_⟩
    · exact (Below.heap_alloc w r L (Array.getElem?_eq_some_iff.1 hL).1).trans hL
    · exact (Below.heap_alloc w r D (Array.getElem?_eq_some_iff.1 hD).1).trans hD
  · rw [GH.push_n]; omega
  · exact Nat.le_refl _
  · exact GH.get_push_old hb

/-- A real block turned, and the ghost block that stands for it. -/
theorem Rel.turn (h : Rel P base m H w) {b : Nat} {p : Pin} (hb : m b = some p) {o : GObj} {w' : World} {r : Obj}
    (hal : alive (H.get b) = true) (hbk : base ≤ p.blk) (hh : w'.heap = w.heap.setIfInBounds p.blk r) (h1 : w'.os = w.os) (h2 : w'.tape = w.tape) (h3 : w'.output = w.output)
    (ho : ObjR P m base p o r) (hloop : ∀ q, w.heap[p.blk]? = some (.loop q) → ∃ q', r = .loop q') (hdef : ∀ ds, w.heap[p.blk]? ≠ some (.deferred ds))
    (hro : ∀ c q, m c = some q → q.blk = p.blk → c ≠ b → H.get c = some .dead) :
    Rel P base m (H.set b o) w' ∧ Go1 base m m H (H.set b o) w w' := by
  have hlt := h.blk_lt hb
  have hbn := h.id_lt hb
  obtain ⟨ob, _, hob, _, _⟩ := h.obj b p hb
  have hsame : w'.heap[p.blk]? = some r := by rw [hh]; simp [hlt]
  have hother : ∀ B, B ≠ p.blk → w'.heap[B]? = w.heap[B]? := fun B hB => by rw [hh, Array.getElem?_setIfInBounds, if_neg (Ne.symm hB)]
  have hsz : w'.heap.size = w.heap.size := by rw [hh]; simp
  refine ⟨⟨fun c q hc => ?_, fun c d q s hne hc hd ac ad => ?_, h.glob⟩, ⟨.refl m, fun c q hc h0 => (by rw [hc] at h0; cases h0), fun c q hc h0 => (by rw [hc] at h0; cases h0), fun B hB hf => ?_, ?_, ?_, Nat.le_refl _, ?_, fun c hc hl => ?_⟩⟩
  · by_cases e : c = b
    · subst e
      rw [hb] at hc
      injection hc with hc
      subst hc
      exact ⟨o, r, GH.get_set_same hob, hsame, ho⟩
    · obtain ⟨o', r', g1, g2, g3⟩ := h.obj c q hc
      by_cases eb : q.blk = p.blk
      · have hdead := hro c q hc eb e
        rw [g1] at hdead
        injection hdead with hdead
        subst hdead
        exact ⟨.dead, r, (GH.get_set_other (Ne.symm e) hbn).trans g1, by rw [eb]; exact hsame, .dead⟩
      · exact ⟨o', r', (GH.get_set_other (Ne.symm e) hbn).trans g1, (hother _ eb).trans g2, g3⟩
  · by_cases ec : c = b
    · subst ec
      rw [GH.get_set_other hne hbn] at ad
      exact h.inj c d q s hne hc hd hal ad
    · rw [GH.get_set_other (Ne.symm ec) hbn] at ac
      by_cases ed : d = b
      · subst ed
        exact h.inj c d q s hne hc hd ac hal
      · rw [GH.get_set_other (Ne.symm ed) hbn] at ad
        exact h.inj c d q s hne hc hd ac ad
  · refine hother B fun e => ?_
    have := hf b p hb e.symm
    rw [GH.set_lo] at this
    omega
  · exact ⟨h1, h2, h3, by rw [hsz]; exact Nat.le_refl _, fun k hk => hother k (by omega)⟩
  · refine ⟨by rw [hsz]; exact Nat.le_refl _, fun L q hL => ?_, fun D ds hD => ?_⟩
    · by_cases e : L = p.blk
      · subst e
        obtain ⟨q', hq⟩ := hloop q hL
        exact ⟨q', by rw [hsame, hq]⟩
      · exact ⟨q, (hother L e).trans hL⟩
    · by_cases e : D = p.blk
      · subst e
        exact absurd hD (hdef ds)
      · exact (hother D e).trans hD
  · rw [GH.set_lo]; omega
  · rw [GH.set_lo] at hl
    exact GH.get_set_other (by omega) hbn

/-- A new ghost block over a real one for which no live one stands. -/
theorem Rel.adopt (h : Rel P base m H w) (o : GObj) (r : Obj) (p : Pin) (hr : w.heap[p.blk]? = some r) (ho : ObjR P (m.put H.n p) base p o r)
    (hd : ∀ c q, m c = some q → q.blk = p.blk → alive (H.get c) = false) (hf : ∃ c q, m c = some q ∧ q.blk = p.blk ∧ H.lo ≤ c) :
    Rel P base (m.put H.n p) (H.push o) w ∧ Go1 base m (m.put H.n p) H (H.push o) w w := by
  have hle := h.put_le p
  refine ⟨⟨fun b q hb => ?_, fun b c q s hne hb hc ab ac => ?_, h.glob.mono hle⟩, ⟨hle, fun b q hb h0 => ?_, fun b q hb h0 => ?_, fun B hB _ => rfl, .refl _ _, .refl _, ?_, ?_, fun b hb _ => ?_⟩⟩
  · by_cases e : b = H.n
    · subst e
      rw [PM.put_same] at hb
      injection hb with hb
      subst hb
      exact ⟨o, r, GH.get_push_new, hr, ho⟩
    · rw [PM.put_other m p e] at hb
      obtain ⟨o', r', h1, h2, h3⟩ := h.obj b q hb
      exact ⟨o', r', (GH.get_push_old (GH.get_lt h1)).trans h1, h2, h3.mono hle⟩
  · by_cases eb : b = H.n
    · subst eb
      rw [PM.put_same] at hb
      injection hb with hb
      subst hb
      rw [PM.put_other m p (Ne.symm hne)] at hc
      rw [GH.get_push_old (h.id_lt hc)] at ac
      intro e
      rw [hd c s hc e.symm] at ac
      cases ac
    · rw [PM.put_other m p eb] at hb
      rw [GH.get_push_old (h.id_lt hb)] at ab
      by_cases ec : c = H.n
      · subst ec
        rw [PM.put_same] at hc
        injection hc with hc
        subst hc
        intro e
        rw [hd b q hb e] at ab
        cases ab
      · rw [PM.put_other m p ec] at hc
        rw [GH.get_push_old (h.id_lt hc)] at ac
        exact h.inj b c q s hne hb hc ab ac
  · by_cases e : b = H.n
    · omega
    · rw [PM.put_other m p e, h0] at hb; cases hb
  · by_cases e : b = H.n
    · subst e
      rw [PM.put_same] at hb
      injection hb with hb
      subst hb
      exact .inr hf
    · rw [PM.put_other m p e, h0] at hb; cases hb
  · rw [GH.push_n]; omega
  · exact Nat.le_refl _
  · exact GH.get_push_old hb

/-- Of a live block: what else is pinned to its real block is dead. -/
theorem Rel.alone (h : Rel P base m H w) {b : Nat} {p : Pin} (hb : m b = some p) (hal : alive (H.get b) = true) (hbk : base ≤ p.blk) :
    ∀ c q, m c = some q → q.blk = p.blk → c ≠ b → H.get c = some .dead := fun c q hc hq hne => by
  cases hg : alive (H.get c) with
  | true => exact absurd hq (h.inj c b q p hne hc hb hg hal)
  | false =>
    obtain ⟨o, _, ho, _, hr⟩ := h.obj c q hc
    rw [ho] at hg ⊢
    cases o with
    | row cs e ro =>
      cases ro with
      | true =>
        cases hr with
        | row _ hold _ _ => have := hold rfl; omega
      | false => simp [alive] at hg
    | dead => rfl
    | _ => simp [alive] at hg
end
end Go.Gh
