/- The ghost machine: an evaluator over the model's own code with a heap of its own (definitions only). -/
import Derived.CallsIn
import Derived.OrdersIn
import Derived.RangeFuncLeaves
namespace Go.Gh

/-- From here on a capacity is not known: a slice that append has grown. -/
def loose : Nat := 1152921504606846976

/-- What lies at a ghost block. A row that is 'ro' is an argument's: it is never written. -/
inductive GObj where
  | row (cells : List Value) (elem : TypeId) (ro : Bool)
  | map (es : List MapEntry) (clock : Nat)
  | mapIter (m : Option Nat) (since : Nat) (seen : List Nat) (stepped : Nat)
  | strIter (s : ByteArray) (pos : Nat)
  | loop (st : LoopState) (pending : Option Code) (tmps : List Value) (params : List Tmp) (assign body : Code)
  | dead
  deriving Inhabited

/-- The ghost heap: the newest block first; n: how many; lo: no block below lo has been written since lo was set. -/
structure GH where
  objs : List GObj
  n : Nat
  lo : Nat
  deriving Inhabited

def GH.get (H : GH) (b : Nat) : Option GObj := if b < H.n then H.objs[H.n - 1 - b]? else none
def GH.push (H : GH) (o : GObj) : GH := { objs := o :: H.objs, n := H.n + 1, lo := H.lo }
def GH.set (H : GH) (b : Nat) (o : GObj) : GH := { objs := H.objs.set (H.n - 1 - b) o, n := H.n, lo := min H.lo b }

/-- Outcomes: none: the evaluator gives up; a list: each of them may come. -/
abbrev M (α : Type) := Option (List α)
def ret {α : Type} (x : α) : M α := some [x]
def joinM {α : Type} : List (M α) → M α
  | [] => some []
  | x :: r => match x, joinM r with
    | some a, some b => some (a ++ b)
    | _, _ => none
def bindM {α β : Type} (x : M α) (f : α → M β) : M β :=
  match x with
  | none => none
  | some [a] => f a
  | some l => joinM (l.map f)
def opt {α : Type} (x : Option α) : M α := match x with | some a => some [a] | none => none

/-- A value of one cell that holds no address. -/
def closed0 : Value → Bool
  | .bool _ | .int _ _ | .float _ _ | .complex _ _ _ | .string _ | .pointer none | .slice none _ _ | .map none | .nilFunc | .nilIface => true
  | _ => false
def closed1 : Value → Bool
  | .agg cs => cs.toList.all closed0
  | .iface _ v => closed0 v
  | v => closed0 v
/-- A value that holds no address. -/
def closed : Value → Bool
  | .agg cs => cs.toList.all closed0
  | .tuple vs => vs.toList.all closed1
  | .iface _ v => closed0 v
  | v => closed0 v
/-- May the value lie in one cell? -/
def oneC : Value → Bool
  | .agg _ | .tuple _ => false
  | _ => true

/-- What a computation comes to that touches no memory. -/
def quick {α : Type} (P : Program) : Sem α → Option α
  | .pure a => some a
  | .program k => quick P (k P)
  | .mark _ k => quick P k
  | _ => none
/-- The operands' values. -/
def mapA (ρ : Operand → Value) (xs : Array Operand) : Array Value := (xs.toList.map ρ).toArray

/-- 'Instr.fill' over lists. -/
def gFill (place : Nat → Option (Nat × Nat)) (cells : List Value) : List (Nat × Value) → Option (List Value)
  | [] => some cells
  | (i, v) :: rest =>
    match place i with
    | none => none
    | some (off, size) =>
      if v.cells.toList.length ≠ size ∨ cells.length < off + v.cells.toList.length then none
      else gFill place (cells.take off ++ v.cells.toList ++ cells.drop (off + v.cells.toList.length)) rest
def gParts (ρ : Operand → Value) (parts : Array (Nat × Operand)) : List (Nat × Value) := parts.toList.map fun x => (x.1, ρ x.2)

/-- What '+', '<' and their kin come to on numbers of one kind; none: not told here. -/
def gArith (op : BinOp) (k : IntKind) (a b : Int) : Option Value :=
  match op with
  | .add => some (.int k (k.wrap (a + b)))
  | .sub => some (.int k (k.wrap (a - b)))
  | .mul => some (.int k (k.wrap (a * b)))
  | .eql => some (.bool (a == b))
  | .neq => some (.bool (a != b))
  | .lss => some (.bool (a < b))
  | .leq => some (.bool (a ≤ b))
  | .gtr => some (.bool (a > b))
  | .geq => some (.bool (a ≥ b))
  | _ => none

section
variable (P : Program)

def gSize (t : TypeId) : Option Nat := (P.info? t).map (·.size)
def gIsAgg (t : TypeId) : Bool := match P.underlying t with | some (.struct _) | some (.array _ _) => true | _ => false
def gZero (t : TypeId) : Option Value :=
  match (P.info? t).bind (·.zero) with
  | some z => if closed z then some z else none
  | none => none

/-- A part of an aggregate's cells. -/
def gPart (t : TypeId) (cs : Array Value) (off : Nat) : Option Value :=
  match P.underlying t with
  | none => none
  | some _ =>
    if gIsAgg P t then (gSize P t).map fun s => .agg (cs.extract off (off + s)) else cs[off]?

def gInt : Value → Option Int | .int _ n => some n | _ => none

/-- One bound of a slice expression. -/
def gBound (x : Value) (y : Nat) : Option Nat :=
  match x with
  | .int _ i => if 0 ≤ i ∧ i ≤ y then some i.toNat else none
  | _ => none

/-- A bound that may lack: then d. -/
def optB (x : Option Value) (y d : Nat) : Option Nat := match x with | some v => gBound v y | none => some d

/-- A slice of a slice. Of a loose one no bound may pass the length. -/
def gSliceSl (size : Nat) (a : Option Addr) (len cap : Nat) (lo hi mx : Option Value) : Option Value :=
  match a with
  | none =>
    if len = 0 ∧ cap = 0 ∧ (mx.isSome = true → hi.isSome = true) then
      match optB mx 0 0, optB hi 0 0, optB lo 0 0 with
      | some _, some _, some _ => some (.slice none 0 0)
      | _, _, _ => none
    else none
  | some a =>
    if loose ≤ cap then
      if cap = loose + size ∧ len < loose then
        match mx with
        | none =>
          match optB hi len len with
          | none => none
          | some h => match optB lo h 0 with
            | none => none
            | some l => some (.slice (some (a.add (l * size))) (h - l) (loose + size))
        | some m =>
          match gBound m len with
          | none => none
          | some m => match hi with
            | none => none
            | some h => match gBound h m with
              | none => none
              | some h => match optB lo h 0 with
                | none => none
                | some l => some (.slice (some (if m = l then a else a.add (l * size))) (h - l) (m - l))
      else none
    else
      match optB mx cap cap with
      | none => none
      | some m => match (match hi with | some x => gBound x m | none => if mx.isSome then none else some len) with
        | none => none
        | some h => match optB lo h 0 with
          | none => none
          | some l => some (.slice (some (if m = l then a else a.add (l * size))) (h - l) (m - l))

/-- Comparisons with nil. -/
def gNilEq : Value → Value → Option Bool
  | .slice a _ _, .slice none _ _ => some a.isNone
  | .slice none _ _, .slice a _ _ => some a.isNone
  | .pointer a, .pointer none => some a.isNone
  | .pointer none, .pointer a => some a.isNone
  | .map a, .map none => some a.isNone
  | .map none, .map a => some a.isNone
  | .nilFunc, .nilFunc => some true
  | .func (.func _) _ _, .nilFunc => some false
  | .nilFunc, .func (.func _) _ _ => some false
  | _, _ => none

/-- The kind of a nil comparison fits the type. -/
def gNilFits (t : TypeId) : Value → Bool
  | .slice _ _ _ => match P.underlying t with | some (.slice _) => true | _ => false
  | .pointer _ => match P.underlying t with | some (.pointer _) => true | _ => false
  | .map _ => match P.underlying t with | some (.map _ _) => true | _ => false
  | .func _ _ _ | .nilFunc => match P.underlying t with | some (.func ..) => true | _ => false
  | _ => false

/-! ### Operations on values -/
def oPick (c a b : Value) : Option Value := match c with | .bool t => some (if t then a else b) | _ => none
def oNilCheck : Value → Option Value
  | .pointer (some a) => some (.pointer (some a))
  | .func (.func f) fs cs => some (.func (.func f) fs cs)
  | .map (some b) => some (.map (some b))
  | .slice a n c => some (.slice a n c)
  | _ => none
def oExtract (v : Value) (i : Nat) : Option Value := match v with | .tuple vs => vs[i]? | _ => none
def oIface (t : TypeId) (x : Value) : Option Value := match P.underlying t with | none | some (.interface _) => none | _ => some (.iface t x)
def oFieldAddr (s : TypeId) (x : Value) (f : Nat) : Option Value :=
  match P.underlying s, x with
  | some (.struct fs), .pointer (some a) => match fs[f]? with
    | some fd => match gSize P fd.type with
      | some (_ + 1) => some (.pointer (some (a.add fd.offset)))
      | _ => none
    | none => none
  | _, _ => none
def oField (t : TypeId) (x : Value) (f : Nat) : Option Value :=
  match P.underlying t, x with
  | some (.struct fs), .agg cs => match fs[f]? with
    | some fd => gPart P fd.type cs fd.offset
    | none => none
  | _, _ => none
def oIndexAddr (t : TypeId) (x i : Value) : Option Value :=
  match P.underlying t, x, i with
  | some (.slice e), .slice (some a) len _, .int _ i => if 0 ≤ i ∧ i < len then (gSize P e).map fun s => .pointer (some (a.add (i.toNat * s))) else none
  | some (.array len e), .pointer (some a), .int _ i => if 0 ≤ i ∧ i < len then (gSize P e).map fun s => .pointer (some (a.add (i.toNat * s))) else none
  | _, _, _ => none
def oIndex (t : TypeId) (x i : Value) : Option Value := if closed x && closed i then quick P (Instr.index t x i) else none
def oSlice (t : TypeId) (x : Value) (lo hi mx : Option Value) : Option Value :=
  match P.underlying t, x with
  | some (.slice e), .slice a len cap => match gSize P e with
    | some s => gSliceSl s a len cap lo hi mx
    | none => none
  | some (.array n e), .pointer (some a) => match gSize P e with
    | some s => if n < loose then gSliceSl s (some a) n n lo hi mx else none
    | none => none
  | some .string, .string s => match mx with
    | none => match optB hi s.size s.size with
      | none => none
      | some h => (optB lo h 0).map fun l => .string (s.extract l h)
    | some _ => none
  | _, _ => none
def oBuild (t : TypeId) (parts : List (Nat × Value)) : Option Value :=
  match gZero P t, P.underlying t with
  | some z, some (.struct fs) =>
    match fs.toList.mapM (m := Option) (fun f => (gSize P f.type).map fun s => (f.offset, s)) with
    | some places => (gFill (places[·]?) z.cells.toList parts).map fun cs => .agg cs.toArray
    | none => none
  | some z, some (.array _ e) =>
    match gSize P e with
    | some s => (gFill (fun i => some (i * s, s)) z.cells.toList parts).map fun cs => .agg cs.toArray
    | none => none
  | _, _ => none
def isEq : BinOp → Bool | .eql | .neq => true | _ => false
def oBin (op : BinOp) (t : TypeId) (u v : Value) : Option Value :=
  match u, v with
  | .int k a, .int k' b => if k = k' then (match gArith op k a b with | some r => some r | none => quick P (binOp op t (.int k a) (.int k' b))) else quick P (binOp op t (.int k a) (.int k' b))
  | .bool a, .bool b => quick P (binOp op t (.bool a) (.bool b))
  | .string a, .string b => quick P (binOp op t (.string a) (.string b))
  | .agg a, .agg b => if closed (.agg a) && closed (.agg b) && isEq op && !P.eqGuardType P.depth t then quick P (binOp op t (.agg a) (.agg b)) else none
  | u, v =>
    if gNilFits P t u && gNilFits P t v then
      match op with
      | .eql => (gNilEq u v).map .bool
      | .neq => (gNilEq u v).map fun b => .bool !b
      | _ => none
    else none
def oUn (op : UnOp) (u : Value) : Option Value := if closed u then quick P (Op.unary op u) else none
def oConvert (src dst : TypeId) (u : Value) : Option Value := if closed u then quick P (convert src dst u) else none
def oLen (t : TypeId) (u : Value) : Option Value :=
  match P.underlying t, u with
  | some (.slice _), .slice _ n _ => some (.int .i64 n)
  | some (.array n _), _ => some (.int .i64 n)
  | some .string, .string s => some (.int .i64 s.size)
  | _, _ => none
def oCap (t : TypeId) (u : Value) : Option Value :=
  match P.underlying t, u with
  | some (.slice _), .slice _ _ n => if n < loose then some (.int .i64 n) else none
  | some (.array n _), _ => some (.int .i64 n)
  | _, _ => none
def oMinMax (mx : Bool) (args : List Value) : Option Value :=
  if args.all closed then quick P (if mx then Builtin.max_ #[] 0 args.toArray else Builtin.min_ #[] 0 args.toArray) else none

/-! ### Memory -/

def gLoad (t : TypeId) (v : Value) (H : GH) : Option Value :=
  match v with
  | .pointer (some ⟨b, o, none⟩) => match H.get b, P.underlying t, gSize P t with
    | some (.row cs _ _), some _, some s =>
      if gIsAgg P t then (if o + s ≤ cs.length then some (.agg ((cs.drop o).take s).toArray) else none) else cs[o]?
    | _, _, _ => none
  | _ => none

/-- cs with vs from place o on. -/
def putAt (cs : List Value) (o : Nat) (vs : List Value) : List Value := cs.take o ++ vs ++ cs.drop (o + vs.length)

def gStoreCells (b o : Nat) (vs : List Value) (H : GH) : Option GH :=
  match H.get b with
  | some (.row cs e false) => if o + vs.length ≤ cs.length ∧ vs.all oneC then some (H.set b (.row (putAt cs o vs) e false)) else none
  | _ => none

def gStore (t : TypeId) (p v : Value) (H : GH) : Option GH :=
  match p with
  | .pointer (some ⟨b, o, none⟩) => match gSize P t with
    | some s => if v.cells.size = s then gStoreCells b o v.cells.toList H else none
    | none => none
  | _ => none

def gNew (e : TypeId) (cs : List Value) (H : GH) : Value × GH := (.pointer (some ⟨H.n, 0, none⟩), H.push (.row cs e false))

/-- The first n elements (size cells each) of a slice or string. -/
def gFirst (size n : Nat) (v : Value) (H : GH) : Option (List Value) :=
  match v with
  | .slice none _ _ => some []
  | .slice (some ⟨b, o, none⟩) _ _ => match H.get b with
    | some (.row cs _ _) => if o + n * size ≤ cs.length then some ((cs.drop o).take (n * size)) else none
    | _ => none
  | .string s => some ((s.extract 0 n).data.toList.map fun b => .int .u8 b.toNat)
  | _ => none
def gLen : Value → Option Nat
  | .slice _ n _ => some n
  | .string s => some s.size
  | _ => none

def roomy (n bytes : Nat) : Bool := n * bytes ≤ 1099511627776 && n ≤ 1099511627776

def repeated (z : List Value) (n : Nat) : List Value := (List.replicate n z).flatten

/-- What is appended: how many elements, and their cells. -/
def gAppended (xt : TypeId) (i : TypeInfo) (z x : Value) (H : GH) : Option (Nat × List Value) :=
  match P.underlying xt, x with
  | some (.int _), .int _ l => if 0 ≤ l ∧ l ≤ 1099511627776 then some (l.toNat, repeated z.cells.toList l.toNat) else none
  | some (.slice _), .slice a n c => (gFirst i.size n (.slice a n c) H).map fun new => (n, new)
  | some .string, .string s => (gFirst i.size s.size (.string s) H).map fun new => (s.size, new)
  | _, _ => none

def gAppend (st xt : TypeId) (s x : Value) (H : GH) : Option (Value × GH) :=
  match P.underlying st, s with
  | some (.slice e), .slice base sLen sCap =>
    match P.info? e, gZero P e with
    | some i, some z =>
      match gAppended P xt i z x H with
      | none => none
      | some (n, new) =>
        if roomy (sLen + n) i.bytes && new.all oneC && new.length == n * i.size && z.cells.size == i.size && decide (0 < i.size) && decide (0 < i.bytes) then
          match base with
          | none => if sLen = 0 ∧ sCap = 0 then
              (if n = 0 then some (.slice none 0 0, H)
               else some (.slice (some ⟨H.n, 0, none⟩) n (loose + i.size), H.push (.row new e false)))
              else none
          | some ⟨b, o, none⟩ =>
            if n = 0 then some (.slice base sLen sCap, H)
            else if sCap < loose then
              if sLen + n ≤ sCap then
                (gStoreCells b (o + sLen * i.size) new H).map fun H' => (.slice base (sLen + n) sCap, H')
              else match gFirst i.size sLen s H with
                | some old => if old.length = sLen * i.size then some (.slice (some ⟨H.n, 0, none⟩) (sLen + n) (loose + i.size), H.push (.row (old ++ new) e false)) else none
                | none => none
            else if sCap = loose + i.size then
              match H.get b, gFirst i.size sLen s H with
              | some (.row _ e' false), some old =>
                if e' = e ∧ old.length = sLen * i.size then some (.slice (some ⟨H.n, 0, none⟩) (sLen + n) (loose + i.size), (H.set b .dead).push (.row (old ++ new) e false)) else none
              | _, _ => none
            else none
          | _ => none
        else none
    | _, _ => none
  | _, _ => none

/-- The same, where it turns nothing that was there. -/
def gAppendQ (st xt : TypeId) (s x : Value) (H : GH) : Option (Value × GH) :=
  match gAppend P st xt s x { H with lo := H.n } with
  | some (v, H1) => if H1.lo = H.n then some (v, { H1 with lo := H.lo }) else none
  | none => none

def gMakeSlice (t : TypeId) (l c : Value) (H : GH) : Option (Value × GH) :=
  match P.underlying t, l, c with
  | some (.slice e), .int _ l, .int _ c =>
    match P.info? e, gZero P e with
    | some i, some z => if 0 ≤ l ∧ l ≤ c ∧ roomy c.toNat i.bytes ∧ z.cells.size = i.size ∧ 0 < i.size then
        some (.slice (some ⟨H.n, 0, none⟩) l.toNat c.toNat, H.push (.row (repeated z.cells.toList c.toNat) e false)) else none
    | _, _ => none
  | _, _, _ => none

def gBuildSlice (t : TypeId) (len : Nat) (parts : List (Nat × Value)) (H : GH) : Option (Value × GH) :=
  match P.underlying t with
  | some (.slice e) => match P.info? e, gZero P e with
    | some i, some z =>
      if len * i.size ≤ 16777216 ∧ z.cells.size = i.size ∧ 0 < i.size then
        match gFill (fun k => some (k * i.size, i.size)) (repeated z.cells.toList len) parts with
        | some cells => some (.slice (some ⟨H.n, 0, none⟩) len len, H.push (.row cells e false))
        | none => none
      else none
    | _, _ => none
  | _ => none

def gCopy (dt : TypeId) (d s : Value) (H : GH) : Option (Value × GH) :=
  match P.underlying dt, d, gLen s with
  | some (.slice e), .slice base dLen _, some sn =>
    let n := Nat.min sn dLen
    match gSize P e with
    | none => none
    | some size => match gFirst size n s H with
      | none => none
      | some new => match base with
        | none => some (.int .i64 n, H)
        | some ⟨b, o, none⟩ => if n = 0 then some (.int .i64 0, H) else (gStoreCells b o new H).map fun H' => (.int .i64 n, H')
        | _ => none
  | _, _, _ => none

def gClear (t : TypeId) (x : Value) (H : GH) : Option GH :=
  match P.underlying t, x with
  | some _, .slice none _ _ | some _, .slice _ 0 _ => some H
  | some (.slice e), .slice (some ⟨b, o, none⟩) n _ => match P.info? e, gZero P e with
    | some i, some z => if z.cells.size = i.size ∧ 0 < i.size then gStoreCells b o (repeated z.cells.toList n) H else none
    | _, _ => none
  | _, _ => none

/-! ### Maps: the keys are closed -/
def gFind (P : Program) (kt : TypeId) (k : Value) : List MapEntry → Nat → Option (Option (Nat × MapEntry))
  | [], _ => some none
  | e :: es, i => match quick P (Op.equal kt k e.key) with
    | some true => some (some (i, e))
    | some false => gFind P kt k es (i + 1)
    | none => none

/-- A key that may be asked for: no address, hashable, equal to itself. -/
def gKeyOk (kt : TypeId) (k : Value) : Bool :=
  closed k && (quick P (Instr.checkKey false 10000 kt k)).isSome && (quick P (Instr.checkKey true 10000 kt k)).isSome &&
    Instr.sameBits 10000 k k

def gMap (v : Value) (H : GH) : Option (Nat × List MapEntry × Nat) :=
  match v with
  | .map (some r) => match H.get r with
    | some (.map es clock) => some (r, es, clock)
    | _ => none
  | _ => none

def gLookup (t : TypeId) (x k : Value) (ok : Bool) (H : GH) : Option Value :=
  match P.underlying t with
  | some (.map kt et) =>
    if gKeyOk P kt k then
      match (match x with | .map none => some [] | _ => (gMap x H).map (·.2.1)), gZero P et with
      | some es, some z => match gFind P kt k es 0 with
        | some (some (_, e)) => some (if ok then .tuple #[e.val, .bool true] else e.val)
        | some none => some (if ok then .tuple #[z, .bool false] else z)
        | none => none
      | _, _ => none
    else none
  | _ => none

def gMapUpdate (t : TypeId) (x k v : Value) (H : GH) : Option GH :=
  match P.underlying t, gMap x H with
  | some (.map kt _), some (r, es, clock) =>
    if gKeyOk P kt k then
      match gFind P kt k es 0 with
      | some (some (i, e)) => if Instr.sameBits 10000 e.key k then some (H.set r (.map (es.modify i fun e => { e with key := k, val := v }) clock)) else none
      | some none => some (H.set r (.map (es ++ [{ key := k, val := v, born := clock }]) (clock + 1)))
      | none => none
    else none
  | _, _ => none

def gMapEntry (t : TypeId) (x k : Value) (H : GH) : Option (Value × GH) :=
  match P.underlying t, gMap x H with
  | some (.map kt et), some (r, es, clock) =>
    if gKeyOk P kt k then
      match gFind P kt k es 0, gZero P et with
      | some (some (i, e)), _ => if Instr.sameBits 10000 e.key k then some (.tuple #[e.val, .int .i64 e.born], H.set r (.map (es.modify i fun e => { e with key := k }) clock)) else none
      | some none, some z => some (.tuple #[z, .int .i64 clock], H.set r (.map (es ++ [{ key := k, val := z, born := clock }]) (clock + 1)))
      | _, _ => none
    else none
  | _, _ => none

def gEntryStore (x st v : Value) (H : GH) : Option GH :=
  match gMap x H, st with
  | some (r, es, clock), .int _ born => match es.findIdx? (fun e => (e.born : Int) == born) with
    | some i => some (H.set r (.map (es.modify i fun e => { e with val := v }) clock))
    | none => none
  | _, _ => none

def gDelete (t : TypeId) (x k : Value) (H : GH) : Option GH :=
  match P.underlying t, gMap x H with
  | some (.map kt _), some (r, es, clock) =>
    if gKeyOk P kt k then
      match gFind P kt k es 0 with
      | some (some (i, _)) => some (H.set r (.map (es.eraseIdx i) clock))
      | some none => some (H.set r (.map es clock))
      | none => none
    else none
  | _, _ => none

def gRange (t : TypeId) (x : Value) (H : GH) : Option (Value × GH) :=
  match P.underlying t, x with
  | some .string, .string s => some (.pointer (some ⟨H.n, 0, none⟩), H.push (.strIter s 0))
  | some (.map _ _), .map none => some (.pointer (some ⟨H.n, 0, none⟩), H.push (.mapIter none 0 [] 0))
  | some (.map _ _), .map (some m) => match H.get m with
    | some (.map _ clock) => some (.pointer (some ⟨H.n, 0, none⟩), H.push (.mapIter (some m) clock [] clock))
    | _ => none
  | _, _ => none

/-- The next step of an iterator: all that may come. -/
def gNext (it : Value) (isString : Bool) (H : GH) : M (Value × GH) :=
  match it with
  | .pointer (some ⟨r, 0, none⟩) => match H.get r, isString with
    | some (.strIter s pos), true =>
      if pos < s.size then
        ret (.tuple #[.bool true, .int .i64 pos, .int .i32 (Utf8.decode s pos).1], H.set r (.strIter s (pos + (Utf8.decode s pos).2)))
      else ret (.tuple #[.bool false], H)
    | some (.mapIter none _ _ _), false => ret (.tuple #[.bool false], H)
    | some (.mapIter (some m) since seen last), false => match H.get m with
      | some (.map es clock) =>
        if !seen.isEmpty && !es.isEmpty && es.all (·.born ≥ last) then none else
        let left := es.filter fun e => !seen.contains e.born
        let old := left.filter (·.born < since)
        let new := left.filter (·.born ≥ since)
        some ((if old.isEmpty then [(.tuple #[.bool false], H)] else []) ++
          (old ++ new).map fun e => (.tuple #[.bool true, e.key, e.val], H.set r (.mapIter (some m) since (seen ++ [e.born]) clock)))
      | _ => none
    | _, _ => none
  | _ => none

def gEntry (it : Value) (H : GH) : Option Value :=
  match it with
  | .pointer (some ⟨r, 0, none⟩) => match H.get r with
    | some (.mapIter (some m) _ seen stepped) => match seen.getLast?, H.get m with
      | some stamp, some (.map es clock) => if clock ≠ stepped then none else match es.find? (·.born == stamp) with
        | some e => some (.tuple #[e.key, e.val])
        | none => none
      | _, _ => none
    | _ => none
  | _ => none

/-! ### Code -/
inductive GExit where
  | normal | exit (id : Nat) | ret

/-- A frame's temporaries. -/
abbrev GA := List Value
def GA.eval (a : GA) : Operand → Value
  | .tmp t => a.getD t undef
  | .const v => v
  | .global g => .pointer (some ⟨g, 0, none⟩)
  | .func f => .func (.func f) #[] #[]
def GA.put (a : GA) (dst : Option Tmp) (v : Value) : GA :=
  match dst with
  | some d => a.set d v
  | none => a
/-- What a guard's operation has handed back. -/
def gYield (ops : List Oper) (a : GA) (j : Nat) : Option Bool :=
  match ops[j]? with
  | some o => match o.dst with
    | some d => match a[d]? with
      | some (.bool b) => some b
      | _ => none
    | none => none
  | none => none
def gWanted (ops : List Oper) (a : GA) (o : Oper) : Option Bool :=
  match o.guard with
  | none => some true
  | some (j, want) => (gYield ops a j).map fun b => b == want

/-- How a function value is called: the caller's handle. -/
abbrev Handle := Value → List Value → GH → M (Value × GH)
section
variable {β : Type}
def onV (x : Option Value) (f : Value → M β) : M β := match x with | some v => f v | none => none
def onH (x : Option GH) (f : GH → M β) : M β := match x with | some v => f v | none => none
def onVH (x : Option (Value × GH)) (f : Value → GH → M β) : M β := match x with | some (v, H) => f v H | none => none
def onBool (x : Option Bool) (p q : M β) : M β := match x with | some true => p | some false => q | none => none
def asB : Value → Option Bool | .bool b => some b | _ => none

/-- A call: plainly (0) · in a region that draws (1) · in a region that draws and in which it may turn nothing that was there (2). -/
def onCall (d : Nat) (call : Handle) (f : Value) (args : List Value) (H : GH) (K : Value → GH → M β) : M β :=
  match d with
  | 0 => bindM (call f args H) fun x => K x.1 x.2
  | 1 => match call f args H with
    | some [(v, H1)] => if H.n ≤ H1.n then K v H1 else none
    | _ => none
  | _ => match call f args { H with lo := H.n } with
    | some [(v, H1)] => if H.n ≤ H1.lo ∧ H.n ≤ H1.n ∧ (H1.objs.take (H1.n - H.n)).length = H1.n - H.n then K v { objs := H1.objs.take (H1.n - H.n) ++ H.objs, n := H1.n, lo := min H.lo H1.lo } else none
    | _ => none
def onNext (d : Nat) (x : M (Value × GH)) (K : Value → GH → M β) : M β :=
  match d with
  | 0 => bindM x fun x => K x.1 x.2
  | _ => match x with
    | some [(v, H1)] => K v H1
    | _ => none

/-- The builtin functions. -/
def gBuiltin (b : Builtin) (tys : List TypeId) (args : List Value) (H : GH) (K : Value → GH → M β) : M β :=
  match b, tys, args with
  | .len, [t], [x] => match P.underlying t with
    | some (.map _ _) => onV ((gMap x H).map fun y => .int .i64 y.2.1.length) fun v => K v H
    | _ => onV (oLen P t x) fun v => K v H
  | .cap, [t], [x] => onV (oCap P t x) fun v => K v H
  | .append, [st, xt], [s, x] => onVH (gAppend P st xt s x H) K
  | .copy, dt :: _, [d, s] => onVH (gCopy P dt d s H) K
  | .clear, [t], [x] => onH (gClear P t x H) fun H => K (.tuple #[]) H
  | .delete, t :: _, [m, k] => onH (gDelete P t m k H) fun H => K (.tuple #[]) H
  | .min, _, args => onV ((oMinMax P false args).filter closed) fun v => K v H
  | .max, _, args => onV ((oMinMax P true args).filter closed) fun v => K v H
  | _, _, _ => none

/-- An append to a slice that one of these temporaries holds. -/
def maskHit (n : Nat) (c : Call) : Bool := match c.callee, c.args[0]? with
  | .builtin .append, some (Operand.tmp t) => n.testBit t
  | _, _ => false
def gBuiltinQ (tys : List TypeId) (args : List Value) (H : GH) (K : Value → GH → M β) : M β :=
  match tys, args with
  | [st, xt], [s, x] => onVH (gAppendQ P st xt s x H) K
  | _, _ => none

/-- One operation. -/
def gStep (d : Nat) (call : Handle) (ρ : Operand → Value) (o : Oper) (H : GH) (K : Value → GH → M β) : M β :=
  match o.op with
  | .move x => K (ρ x) H
  | .assign x => K (ρ x) H
  | .pick c a b => onV (oPick (ρ c) (ρ a) (ρ b)) fun v => K v H
  | .nilCheck x => onV (oNilCheck (ρ x)) fun v => K v H
  | .makeFunc (.func f) first captured => K (.func (.func f) (mapA ρ first) (mapA ρ captured)) H
  | .extract t i => onV (oExtract (ρ t) i) fun v => K v H
  | .makeInterface t x => onV (oIface P t (ρ x)) fun v => K v H
  | .fieldAddr s x f => onV (oFieldAddr P s (ρ x) f) fun v => K v H
  | .field t x f => onV (oField P t (ρ x) f) fun v => K v H
  | .indexAddr t x i => onV (oIndexAddr P t (ρ x) (ρ i)) fun v => K v H
  | .index t x i => onV ((oIndex P t (ρ x) (ρ i)).filter closed) fun v => K v H
  | .slice t x lo hi mx => onV (oSlice P t (ρ x) (lo.map ρ) (hi.map ρ) (mx.map ρ)) fun v => K v H
  | .build t parts => onV (oBuild P t (gParts ρ parts)) fun v => K v H
  | .binOp op t x y _ => onV ((oBin P op t (ρ x) (ρ y)).filter closed) fun v => K v H
  | .unOp op _ x => onV ((oUn P op (ρ x)).filter closed) fun v => K v H
  | .convert src dst x => onV ((oConvert P src dst (ρ x)).filter closed) fun v => K v H
  | .alloc e => onV (gZero P e) fun z => K (.pointer (some ⟨H.n, 0, none⟩)) (H.push (.row z.cells.toList e false))
  | .box e x => match gSize P e with
    | some _ => K (.pointer (some ⟨H.n, 0, none⟩)) (H.push (.row (ρ x).cells.toList e false))
    | none => none
  | .buildSlice t len parts => onVH (gBuildSlice P t len (gParts ρ parts) H) K
  | .load t a => onV (gLoad P t (ρ a) H) fun v => K v H
  | .store t a x => onH (gStore P t (ρ a) (ρ x) H) fun H => K undef H
  | .makeSlice t l c => onVH (gMakeSlice P t (ρ l) (ρ c) H) K
  | .makeMap _ none => K (.map (some H.n)) (H.push (.map [] 0))
  | .lookup t x k ok => onV (gLookup P t (ρ x) (ρ k) ok H) fun v => K v H
  | .mapUpdate t m k x => onH (gMapUpdate P t (ρ m) (ρ k) (ρ x) H) fun H => K undef H
  | .insert t m k x => onH (gMapUpdate P t (ρ m) (ρ k) (ρ x) H) fun H => K undef H
  | .mapEntry t m k => onVH (gMapEntry P t (ρ m) (ρ k) H) K
  | .entryStore _ m s x => onH (gEntryStore (ρ m) (ρ s) (ρ x) H) fun H => K undef H
  | .range t x => onVH (gRange P t (ρ x) H) K
  | .next it isString => onNext d (gNext (ρ it) isString H) K
  | .entry it => onV (gEntry (ρ it) H) fun v => K v H
  | .call c => match c.callee with
    | .value f => onCall d call (ρ f) (c.args.toList.map ρ) H K
    | .builtin b => if decide (3 ≤ d) && maskHit (d - 3) c then gBuiltinQ P c.argTypes.toList (c.args.toList.map ρ) H K else gBuiltin P b c.argTypes.toList (c.args.toList.map ρ) H K
    | _ => none
  | _ => none

/-- The operations of a region, one after the other. -/
def gOps (d : Nat) (call : Handle) (ops : List Oper) : List Oper → GA → GH → (GA → GH → M β) → M β
  | [], a, H, K => K a H
  | o :: rest, a, H, K =>
    onBool (gWanted ops a o) (gStep P d call a.eval o H fun v H => gOps d call ops rest (a.put o.dst v) H K) (gOps d call ops rest (a.put o.dst undef) H K)
end

/-- What an operation may do to memory: 0: nothing, nor does it look · 1: it looks, or lays new blocks · 2: it may turn what is there. c: how calls count. -/
def opCls (c : Nat) (o : Oper) : Nat :=
  match o.op with
  | .move _ | .assign _ | .pick .. | .nilCheck _ | .makeFunc .. | .extract .. | .makeInterface .. | .fieldAddr .. | .field .. | .indexAddr .. | .index .. | .slice .. | .build .. | .binOp .. | .unOp .. | .convert .. => 0
  | .alloc _ | .box .. | .buildSlice .. | .load .. | .makeSlice .. | .makeMap .. | .lookup .. | .range .. | .entry _ => 1
  | .call cl => match cl.callee with
    | .builtin .len => match (cl.argTypes[0]?).bind P.underlying with | some (.map _ _) => 1 | _ => 0
    | .builtin .cap | .builtin .min | .builtin .max => 0
    | .builtin _ => if decide (3 ≤ c) && maskHit (c - 3) cl then 1 else 2
    | _ => if 3 ≤ c then 2 else c
  | _ => 2
/-- Of the operations that touch memory each one that may turn what is there is ordered with each other one. -/
def memOk (c : Nat) (ops : Array Oper) : Bool :=
  let b := Region.before ops
  let cls := ops.toList.map (opCls P c)
  (List.range cls.length).all fun j => cls.getD j 0 == 0 || (List.range j).all fun i =>
    cls.getD i 0 == 0 || (cls.getD i 0 != 2 && cls.getD j 0 != 2) || (b.getD j 0).testBit i
/-- The temporaries that hold an empty slice that was just made. -/
def nilMask (ops : List Oper) : Nat := ops.foldl (fun n o => match o.op, o.dst with | .buildSlice _ 0 _, some t => n ||| 2 ^ t | _, _ => n) 0
/-- How a region is run. -/
def gMode (ops : Array Oper) (draw : Bool) : Option Nat :=
  if draw then (if memOk P 2 ops then some 1 else if memOk P 1 ops then some 2 else if memOk P (3 + nilMask ops.toList) ops then some (3 + nilMask ops.toList) else none) else some 0

abbrev Kont (β : Type) := GExit → GA → GH → M β
section
variable {β : Type}
def hSeq (f : GA → GH → Kont β → M β) (K : Kont β) : Kont β := fun e a H => match e with | .normal => f a H K | e => K e a H
def hBlock (id : Nat) (K : Kont β) : Kont β := fun e a H => match e with | .exit id' => (if id' = id then K .normal a H else K (.exit id') a H) | e => K e a H
def hLoop (again : GA → GH → M β) (K : Kont β) : Kont β := fun e a H => match e with | .normal => again a H | e => K e a H
/-- A loop: at most so many rounds. -/
def gLoop (f : GA → GH → Kont β → M β) (K : Kont β) : Nat → GA → GH → M β
  | 0, _, _ => none
  | r + 1, a, H => f a H (hLoop (gLoop f K r) K)
/-- The end of a range over a function. -/
def gEndRange (l : Nat) (a : GA) (H : GH) (K : Kont β) : M β :=
  match H.get l with
  | some (.loop .busy _ _ _ _ _) => none
  | some (.loop _ none tmps ps as bd) => K .normal a (H.set l (.loop .exhausted none tmps ps as bd))
  | some (.loop _ (some .ret) tmps ps as bd) => K .ret a (H.set l (.loop .exhausted (some .ret) tmps ps as bd))
  | some (.loop _ (some (.exit id)) tmps ps as bd) => K (.exit id) a (H.set l (.loop .exhausted (some (.exit id)) tmps ps as bd))
  | _ => none

def gCode (call : Handle) (k : Nat) : Code → GA → GH → Kont β → M β
  | .skip, a, H, K => K .normal a H
  | .label _, a, H, K => K .normal a H
  | .seq x y, a, H, K => gCode call k x a H (hSeq (gCode call k y) K)
  | .cond c x y, a, H, K => onBool (asB (a.eval c)) (gCode call k x a H K) (gCode call k y a H K)
  | .block id c, a, H, K => gCode call k c a H (hBlock id K)
  | .scope c, a, H, K => gCode call k c a H K
  | .loop c, a, H, K => gLoop (gCode call k c) K k a H
  | .exit id, a, H, K => K (.exit id) a H
  | .ret, a, H, K => K .ret a H
  | .region _ ops draw, a, H, K => match gMode P ops draw with
    | some d => gOps P d call ops.toList ops.toList a H (K .normal)
    | none => none
  | .rangeFunc g params assign body, a, H, K =>
    match a.eval g with
    | .func (.func f) fs cs => bindM (call (.func (.func f) fs cs) [.func (.yield H.n) #[] #[]] (H.push (.loop .ready none a params.toList assign body))) fun x => gEndRange H.n a x.2 K
    | _ => none
  | _, _, _, _ => none
end

/-- What a function hands back. -/
def gResult (a : GA) (H : GH) : ResultVar → Option Value
  | .tmp t => some (a.getD t undef)
  | .cell t ty => gLoad P ty (a.getD t undef) H
def gResults (fn : Func) (a : GA) (H : GH) : Option Value :=
  (fn.results.toList.mapM (gResult P a H)).map fun vs => match vs with | [v] => v | vs => .tuple vs.toArray
def hFin (fn : Func) : Kont (Value × GH) := fun e a H => match e with
  | .exit _ => none
  | _ => onV (gResults P fn a H) fun v => ret (v, H)

/-- The temporaries at a call. -/
def gEnter (n : Nat) (args : List Value) : GA := args ++ List.replicate (n - args.length) undef
def gAssign (ps : List Tmp) (args : List Value) (tmps : GA) : GA := (ps.zip args).foldl (fun t x => t.set x.1 x.2) tmps

/-- A round's end. -/
def hRound (l : Nat) : Kont (Value × GH) := fun e _ H => match H.get l with
  | some (.loop .busy none tmps params assign body) => match e with
    | .normal => ret (.bool true, H.set l (.loop .ready none tmps params assign body))
    | .ret => ret (.bool false, H.set l (.loop .done (some .ret) tmps params assign body))
    | .exit id => ret (.bool false, H.set l (.loop .done (some (.exit id)) tmps params assign body))
  | _ => none
/-- Between the assignment to a loop's variables and its body. -/
def hBegin (call : Handle) (k l : Nat) (body : Code) : Kont (Value × GH) := fun e a H => match e, H.get l with
  | .normal, some (.loop .ready none tmps params assign bd) => gCode P call k body a (H.set l (.loop .busy none tmps params assign bd)) (hRound l)
  | _, _ => none

/-- A function's run. -/
def gFunc (call : Handle) (k : Nat) (fn : Func) (args : List Value) (H : GH) : M (Value × GH) :=
  match fn.body with
  | some c => gCode P call k c (gEnter fn.ntmps args) H (hFin P fn)
  | none => none
/-- A round's run. -/
def gRound (call : Handle) (k : Nat) (l : Nat) (args : List Value) (H : GH) : M (Value × GH) :=
  match H.get l with
  | some (.loop .ready none tmps params assign body) =>
    if args.length = params.length then gCode P call k assign (gAssign params args tmps) H (hBegin P call k l body) else none
  | _ => none

/-- A call, with at most k levels and k rounds. T: the functions that may be entered. -/
def gCall (T : Nat → Option Func) : Nat → Handle
  | 0 => fun _ _ _ => none
  | k + 1 => fun fv args H =>
    match fv with
    | .func (.func f) first captured => match T f with
      | some fn => gFunc P (gCall T k) k fn (first.toList ++ args ++ captured.toList) H
      | none => none
    | .func (.yield l) _ _ => gRound P (gCall T k) k l args H
    | _ => none
end

/-! ### What is asked of a function's text, once -/
/-- A constant must hold no address; a global is not served yet. -/
def opndOk : Operand → Bool | .const v => closed v | .global _ => false | _ => true
def opOk (o : Oper) : Bool := o.op.operands.toList.all opndOk
/-- The temporaries that an operation names. -/
def opTmps (ops : Array Oper) (o : Oper) : List Tmp := o.dst.toList ++ o.looksAt ops
/-- Two operations that name one temporary, of which one writes it, are ordered. -/
def tmpsOk (ops : Array Oper) : Bool :=
  let b := Region.before ops
  (List.range ops.size).all fun j => (List.range j).all fun i =>
    (b.getD j 0).testBit i ||
      (match ops[i]?, ops[j]? with
       | some x, some y => (match x.dst with | some d => !(opTmps ops y).contains d | none => true) && (match y.dst with | some d => !(opTmps ops x).contains d | none => true)
       | _, _ => false)
/-- Edges go back, but for those of the other mode. -/
def edgesOk (ops : Array Oper) : Bool :=
  (List.range ops.size).all fun i => match ops[i]? with
    | some o => o.after.toList.all (fun e => !Region.binds .any e || decide (e.on < i)) && (match o.guard with | some (j, _) => decide (j < i) | none => true)
    | none => false
def codeOk : Code → Bool
  | .seq x y => codeOk x && codeOk y
  | .cond c x y => opndOk c && codeOk x && codeOk y
  | .block _ c | .scope c | .loop c => codeOk c
  | .region _ ops draw => ops.toList.all opOk && (!draw || (edgesOk ops && tmpsOk ops))
  | .rangeFunc g _ x y => opndOk g && codeOk x && codeOk y
  | _ => true
def funcOk (fn : Func) : Bool := (match fn.body with | some c => codeOk c | none => true) && fn.name != "runtime.NumGoroutine"
end Go.Gh
