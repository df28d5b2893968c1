/- An evaluator for calls of the program over a memory in which an array that append may have grown has no known capacity. No conditions: definitions alone. -/
import Derived.WalkKit
import Derived.Deep.AppendSrc
import Derived.Test.YtbdeppefllcocaaVsObj
namespace Go.VS
set_option linter.unusedVariables false

inductive Trie (α : Type) where
  | leaf
  | node (v : Option α) (l r : Trie α)

def Trie.get {α : Type} : Trie α → Nat → Option α
  | .leaf, _ => none
  | .node v _ _, 0 => v
  | .node _ l r, k + 1 => match k % 2 with
    | 0 => l.get (k / 2)
    | _ => r.get (k / 2)

def Trie.setF {α : Type} : Nat → Trie α → Nat → α → Trie α
  | 0, t, _, _ => t
  | _ + 1, .leaf, 0, x => .node (some x) .leaf .leaf
  | n + 1, .leaf, k + 1, x => match k % 2 with
    | 0 => .node none (setF n .leaf (k / 2) x) .leaf
    | _ => .node none .leaf (setF n .leaf (k / 2) x)
  | _ + 1, .node _ l r, 0, x => .node (some x) l r
  | n + 1, .node v l r, k + 1, x => match k % 2 with
    | 0 => .node v (setF n l (k / 2) x) r
    | _ => .node v l (setF n r (k / 2) x)
def Trie.set {α : Type} (t : Trie α) (k : Nat) (x : α) : Trie α := t.setF (k + 1) k x

/-- A capacity from here on is not known: what is above it is how far the slice was cut off at its front while it was empty. -/
def unk : Nat := 2 ^ 64

structure ALoop where
  state : LoopState
  pending : Option Code
  fn : FuncId
  slots : Trie Value
  ntmps : Nat
  params : Array Tmp
  assign : Code
  body : Code
  defers : Nat

inductive Blk where
  | cells (c : List Value) (elem : TypeId) (exact : Bool)
  | map (es : List MapEntry) (clock : Nat)
  | siter (s : ByteArray) (pos : Nat)
  | miter (m : Option Nat) (since : Nat) (seen : List Nat) (stepped : Nat)
  | loop (l : ALoop)
  | deferred
  | dead
  | obj (o : Ob)

structure St where
  heap : Trie Blk
  next : Nat

structure Fr where
  slots : Trie Value
  ntmps : Nat
  defers : List Deferred
  roundOf : Option Nat := none

inductive Ex where
  | normal | exit (id : Nat) | ret

inductive Out where
  | val (v : Value) (st : St)
  | skip (st : St)
  | enter (f : FuncId) (args : List Value) (st : St)
  | defer (d : Deferred) (st : St)
  | round (l : Nat) (args : List Value) (st : St)

/-- Types from here on mark what is known of frozen memory: FZ itself a pointer into it, FZ + s a slice of elements of s cells. -/
@[irreducible] def FZ : Nat := 2 ^ 64

structure FzV where
  sz : Nat
  n : Nat
  cap : Nat
  cells : List Value

/-- A frozen slice: its element's size, its length, its capacity and one more (0: not known), its cells. -/
def fzOf : Value → Option FzV
  | .iface t (.agg ⟨.slice none n b :: c⟩) => if Nat.ble (FZ + 1) t then some ⟨t - FZ, n, b, c⟩ else none
  | _ => none
/-- A pointer into frozen cells. -/
def fpOf : Value → Option (Nat × List Value)
  | .iface t (.agg ⟨.slice none a _ :: c⟩) => if Nat.beq t FZ then some (a, c) else none
  | _ => none
def mkFz (sz n b : Nat) (c : List Value) : Value := .iface (FZ + sz) (.agg ⟨.slice none n b :: c⟩)
def mkFp (a : Nat) (c : List Value) : Value := .iface FZ (.agg ⟨.slice none a 0 :: c⟩)

def flatFn : Fn → Bool
  | .yield _ => false
  | _ => true

mutual
def flat : Value → Bool
  | .bool _ | .int .. | .float .. | .complex .. | .string _ | .pointer none | .slice none _ _ | .map none | .chan none | .nilFunc | .nilIface => true
  | .iface t v => Nat.ble (t + 1) FZ && flat v
  | .agg a => flatA a
  | .tuple a => flatA a
  | .func g f c => flatFn g && flatA f && flatA c
  | _ => false
def flatA : Array Value → Bool
  | ⟨l⟩ => flatL l
def flatL : List Value → Bool
  | [] => true
  | v :: l => flat v && flatL l
end

/-- A Sem program that asks no world. -/
def pureRun {α : Type} (P : Program) : Sem α → Option α
  | .pure a => some a
  | .program k => pureRun P (k P)
  | .mark _ k => pureRun P k
  | _ => none

/-- A value of which nothing is known. ('.chan (some 0)': it is one cell.) -/
def anyV : Value := .chan (some 1)
def isAny : Value → Bool
  | .chan (some (_ + 1)) => true
  | _ => false

def Fr.eval (f : Fr) : Operand → Value
  | .tmp t => (f.slots.get t).getD undef
  | .const v => if flat v then v else anyV
  | .global _ => .chan (some 0)
  | .func g => .func (.func g) #[] #[]

def Fr.put (f : Fr) (dst : Option Tmp) (v : Value) : Option Fr :=
  match dst with
  | none => some f
  | some d => if d < f.ntmps then some { f with slots := f.slots.set d v } else none

def St.new (st : St) (b : Blk) : Nat × St := (st.next, { heap := st.heap.set st.next b, next := st.next + 1 })

def newRow (st : St) (c : List Value) (e : TypeId) (exact : Bool) : Addr × St :=
  let (i, st) := st.new (.cells c e exact)
  (⟨i, 0, none⟩, st)

def cellsAt (st : St) (a : Addr) (n : Nat) : Option (List Value) :=
  if a.spot.isSome then none else
  match st.heap.get a.block with
  | some (.cells c _ _) => if a.off + n ≤ c.length then some ((c.drop a.off).take n) else none
  | _ => none

def oneCell : Value → Bool
  | .agg _ | .tuple _ | .chan (some (_ + 1)) => false
  | _ => true

def putAt (c : List Value) (i : Nat) (vs : List Value) : List Value := c.take i ++ vs ++ c.drop (i + vs.length)

def setCells (st : St) (a : Addr) (vs : List Value) : Option St :=
  if a.spot.isSome then none else
  match st.heap.get a.block with
  | some (.cells c e x) =>
    if a.off + vs.length ≤ c.length && vs.all oneCell then some { st with heap := st.heap.set a.block (.cells (putAt c a.off vs) e x) } else none
  | _ => none

def isAggB (P : Program) (t : TypeId) : Bool :=
  match P.underlying t with
  | some (.struct _) | some (.array _ _) => true
  | _ => false

def loadV (P : Program) (st : St) (t : TypeId) (a : Addr) : Option Value :=
  match P.underlying t, P.info? t with
  | some _, some i =>
    if isAggB P t then (cellsAt st a i.size).map fun c => .agg ⟨c⟩
    else match cellsAt st a 1 with
      | some [v] => some v
      | _ => none
  | _, _ => none

def loadC (P : Program) (t : TypeId) (a : Nat) (c : List Value) : Option Value :=
  match P.underlying t, P.info? t with
  | some _, some i => if isAggB P t then (if a + i.size ≤ c.length then some (.agg ⟨(c.drop a).take i.size⟩) else none) else c[a]?
  | _, _ => none

def storeV (P : Program) (st : St) (t : TypeId) (a : Addr) (v : Value) : Option St :=
  match P.info? t with
  | some i => if v.cells.size = i.size && !isAny v then setCells st a v.cells.toList else none
  | none => none

def sizeOfT (P : Program) (t : TypeId) : Option Nat := (P.info? t).map (·.size)
def zeroOfT (P : Program) (t : TypeId) : Option Value := match P.info? t with
  | some i => match i.zero with
    | some z => if flat z then some z else none
    | none => none
  | none => none

def asIntV : Value → Option Int
  | .int _ n => some n
  | _ => none

/-- The bounds of a slice expression, where nothing is out of them. -/
def boundOf (x : Value) (y : Nat) : Option Nat :=
  match x with
  | .int _ i => if 0 ≤ i ∧ i ≤ y then some i.toNat else none
  | _ => none

def optBound (x : Option Value) (y dflt : Nat) : Option Nat :=
  match x with
  | none => some dflt
  | some v => boundOf v y

def esz (P : Program) (e : TypeId) : Nat := ((P.info? e).map (·.size)).getD 0

/-- How many elements from an address on an array of unknown capacity has for sure. -/
def room (P : Program) (st : St) (a : Addr) (size : Nat) : Option Nat :=
  match st.heap.get a.block with
  | some (.cells c e _) => if size = 0 || size ≠ esz P e then none else if a.off ≤ c.length then some ((c.length - a.off) / size) else none
  | _ => none

def sliceS (P : Program) (st : St) (size : Nat) (a : Addr) (len cap : Nat) (lo hi mx : Option Value) : Option Value :=
  if cap < unk then
    match optBound mx cap cap with
    | some m => match (if mx.isSome && hi.isNone then none else optBound hi (if mx.isSome then m else cap) len) with
      | some h => match optBound lo h 0 with
        | some l => some (.slice (some (if m = l then a else a.add (l * size))) (h - l) (m - l))
        | none => none
      | none => none
    | none => none
  else if cap = unk then
    match room P st a size with
    | none => none
    | some r =>
      match mx with
      | some v => match boundOf v r with
        | some m => match hi with
          | some v => match boundOf v m with
            | some h => match optBound lo h 0 with
              | some l => if m < unk then some (.slice (some (if m = l then a else a.add (l * size))) (h - l) (m - l)) else none
              | none => none
            | none => none
          | none => none
        | none => none
      | none => match optBound hi r len with
        | some h => match optBound lo h 0 with
          | some l => if l < r then some (.slice (some (a.add (l * size))) (h - l) unk) else if h ≠ l || r < l then none else if l = 0 then some (.slice (some a) 0 unk) else some (.slice (some a) 0 (unk + l))
          | none => none
        | none => none
  else if mx.isSome then none else
    match optBound hi 0 0, optBound lo 0 0 with
    | some _, some _ => some (.slice (some a) 0 cap)
    | _, _ => none

/-- A slice expression on a frozen slice. -/
def sliceZ (z : FzV) (lo hi mx : Option Value) : Option Value :=
  match mx with
  | some v => match boundOf v (if z.cap = 0 then z.n else z.cap - 1) with
    | some m => match hi with
      | some v => match boundOf v (min m z.n) with
        | some h => match optBound lo h 0 with
          | some l => some (mkFz z.sz (h - l) (m - l + 1) ((z.cells.drop (l * z.sz)).take ((h - l) * z.sz)))
          | none => none
        | none => none
      | none => none
    | none => none
  | none => match optBound hi z.n z.n with
    | some h => match optBound lo h 0 with
      | some l => some (mkFz z.sz (h - l) (if z.cap = 0 then 0 else z.cap - l) ((z.cells.drop (l * z.sz)).take ((h - l) * z.sz)))
      | none => none
    | none => none

/-- The cells that an append puts behind. -/
def tailOf (st : St) (size : Nat) (xt : TypeDesc) (x : Value) : Option (Nat × List Value) :=
  match xt, x with
  | .slice _, .slice (some a) n _ => match cellsAt st a (n * size) with
    | some c => some (n, c)
    | none => none
  | .slice _, .slice none n _ => if n = 0 then some (0, []) else none
  | .string, .string s => if size = 1 then some (s.size, byteCells s) else none
  | .slice _, x => match fzOf x with
    | some z => if z.sz = size then some (z.n, z.cells) else none
    | none => none
  | _, _ => none

def kill (st : St) (i : Nat) : St := { st with heap := st.heap.set i .dead }

/-- Bytes and elements of one append are kept below this. -/
def big : Nat := 2 ^ 22

/-- Behind a slice n elements more, the cells 'new'. -/
def appendTo (P : Program) (st : St) (e : TypeId) (size n : Nat) (new : List Value) (s : Value) : Option (Value × St) :=
  match s with
  | .slice none len cap =>
    if len ≠ 0 || cap ≠ 0 || big < n then none
    else if n = 0 then some (.slice none 0 0, st)
    else some (.slice (some (newRow st new e false).1) n unk, (newRow st new e false).2)
  | .slice (some a) len cap =>
    if big < len + n then none else
    if cap < unk then
      if len + n ≤ cap then
        if n = 0 then some (.slice (some a) len cap, st) else
        match setCells st (a.add (len * size)) new with
        | some st => some (.slice (some a) (len + n) cap, st)
        | none => none
      else match cellsAt st a (len * size) with
        | some old => some (.slice (some (newRow st (old ++ new) e false).1) (len + n) unk, (newRow st (old ++ new) e false).2)
        | none => none
    else
      match st.heap.get a.block with
      | some (.cells c e' exact) =>
        if exact || a.spot.isSome || e' ≠ e || c.length < a.off || (cap ≠ unk && len ≠ 0) then none else
        if n = 0 then (if a.off + len * size ≤ c.length then some (.slice (some a) len cap, st) else none) else
        if a.off + (len + (cap - unk)) * size = c.length then
          some (.slice (some (newRow (kill st a.block) ((c.drop a.off).take (len * size) ++ new) e false).1) (len + n) unk, (newRow (kill st a.block) ((c.drop a.off).take (len * size) ++ new) e false).2)
        else if cap = unk && a.off + len * size + new.length ≤ c.length then
          match setCells st (a.add (len * size)) new with
          | some st => some (.slice (some a) (len + n) cap, st)
          | none => none
        else if cap = unk && a.off + len * size ≤ c.length then
          some (.slice (some (newRow (kill st a.block) ((c.drop a.off).take (len * size) ++ new) e false).1) (len + n) unk, (newRow (kill st a.block) ((c.drop a.off).take (len * size) ++ new) e false).2)
        else none
      | _ => none
  | s => match fzOf s with
    | some z => if z.sz ≠ size || z.cap = 0 || big < z.n + n then none
      else if n = 0 then some (s, st)
      else if z.cap - 1 < z.n + n then some (.slice (some (newRow st (z.cells ++ new) e false).1) (z.n + n) unk, (newRow st (z.cells ++ new) e false).2) else none
    | none => none

def appendS (P : Program) (st : St) (sType xType : TypeId) (s x : Value) : Option (Value × St) :=
  match P.underlying sType, P.underlying xType with
  | some (.slice e), some xt => match P.info? e, zeroOfT P e with
    | some ei, some z =>
      if ei.size = 0 || big < ei.bytes || z.cells.size ≠ ei.size then none else
      match tailOf st ei.size xt x with
      | some (n, new) => if new.all oneCell then appendTo P st e ei.size n new s else none
      | none => none
    | _, _ => none
  | _, _ => none

def fieldOf (P : Program) (t : TypeId) (i : Nat) : Option (Field × Nat) :=
  match P.underlying t with
  | some (.struct fs) => match fs[i]? with
    | some f => match P.info? f.type with
      | some fi => some (f, fi.size)
      | none => none
    | none => none
  | _ => none

def partOf (P : Program) (t : TypeId) (cs : List Value) (off : Nat) : Option Value :=
  match P.underlying t, P.info? t with
  | some _, some i => if isAggB P t then (if off + i.size ≤ cs.length then some (.agg ⟨(cs.drop off).take i.size⟩) else none) else cs[off]?
  | _, _ => none

def keyFlat : Value → Bool
  | .int .. | .string _ | .bool _ => true
  | _ => false

def keyKind (P : Program) (t : TypeId) : Option TypeDesc :=
  match P.underlying t with
  | some (.int k) => some (.int k)
  | some .string => some .string
  | some .bool => some .bool
  | _ => none

def mapSet (es : List MapEntry) (clock i : Nat) (key v : Value) (found : Bool) : List MapEntry × Nat :=
  if found then (es.modify i (fun e => { e with key, val := v }), clock) else (es ++ [{ key, val := v, born := clock }], clock + 1)

/-- A key that is a struct, among the keys of a map. -/
def findEq (P : Program) (kt : TypeId) (k : Value) : List MapEntry → Nat → Option (Option (Nat × Value))
  | [], _ => some none
  | e :: es, i => match pureRun P (Op.equal kt k e.key) with
    | some true => if flat e.key && Instr.sameBits 10000 e.key k then some (some (i, e.val)) else none
    | some false => if flat e.key then findEq P kt k es (i + 1) else none
    | none => none

/-- A key among the keys of a map. -/
def findS (P : Program) (b : Bool) (kt : TypeId) (k : Value) (es : List MapEntry) : Option (Option (Nat × Value)) :=
  match keyKind P kt with
  | some kd => if keyFlat k then Instr.findNow kd k es 0 else none
  | none => match P.underlying kt with
    | some (.struct _) => if flat k then (match pureRun P (Instr.checkKey b 10000 kt k) with
      | some _ => findEq P kt k es 0
      | none => none) else none
    | _ => none

def mapPut (P : Program) (st : St) (t : TypeId) (m k x : Value) : Option St :=
  match P.underlying t, m with
  | some (.map kt _), .map (some r) => match st.heap.get r with
    | some (.map es clock) => match findS P false kt k es with
      | some (some (i, _)) => some { st with heap := st.heap.set r (.map (mapSet es clock i k x true).1 (mapSet es clock i k x true).2) }
      | some none => some { st with heap := st.heap.set r (.map (mapSet es clock 0 k x false).1 (mapSet es clock 0 k x false).2) }
      | none => none
    | _ => none
  | _, _ => none

def isNilV : Value → Option Bool
  | .pointer none | .slice none _ _ | .map none | .nilFunc | .nilIface => some true
  | .pointer (some _) | .map (some _) | .func .. => some false
  | _ => none

/-- '==' where one side is nil. -/
def eqNil (P : Program) (t : TypeId) (x y : Value) : Option Bool :=
  match P.underlying t, x, y with
  | some (.pointer _), .pointer none, .pointer b => some b.isNone
  | some (.pointer _), .pointer (some _), .pointer none => some false
  | some (.slice _), .slice none _ _, .slice none _ _ => some true
  | some (.slice _), .slice none _ _, .slice (some _) n _ => if n = 0 then none else some false
  | some (.slice _), .slice (some _) n _, .slice none _ _ => if n = 0 then none else some false
  | some (.map _ _), .map none, .map b => some b.isNone
  | some (.map _ _), .map (some _), .map none => some false
  | some (.func _ _ _), .nilFunc, .func _ _ _ => some false
  | some (.func _ _ _), .func _ _ _, .nilFunc => some false
  | some (.interface _), .nilIface, .iface t _ => if t < FZ then some false else none
  | some (.interface _), .iface t _, .nilIface => if t < FZ then some false else none
  | _, _, _ => none

def callF (P : Program) (f : FuncId) (args : List Value) (st : St) : Option Out :=
  match P.funcs[f]? with
  | some fn => match fn.body with
    | some _ => some (.enter f args st)
    | none => none
  | none => none

/-- The function behind a method's name, where it stands in the type's own rows and takes the value as it is. -/
def methodOf (P : Program) (t : TypeId) (name : String) : Option FuncId :=
  match P.info? t with
  | some i => match i.methods.find? (·.name == name) with
    | some m => if m.path.isEmpty then match m.func, P.underlying t with
        | some (f, true), some (.pointer _) => some f
        | some (_, false), some (.pointer _) => none
        | some (f, false), some _ => some f
        | _, _ => none
      else none
    | none => none
  | none => none

def invokeV (P : Program) (t : Target) (args : List Value) (st : St) : Option Out :=
  match t with
  | .fn (.func f) captured => callF P f (args ++ captured.toList) st
  | .fn (.method name) _ => match args with
    | .iface t v :: rest => if t < FZ then match methodOf P t name with
      | some f => callF P f (v :: rest) st
      | none => none
      else none
    | _ => none
  | .fn (.yield l) _ => some (.round l args st)
  | _ => none

def lenV (st : St) : Value → Option Nat
  | .map none => some 0
  | .map (some r) => match st.heap.get r with
    | some (.map es _) => some es.length
    | _ => none
  | _ => none

def builtinS (P : Program) (b : Builtin) (argTypes : Array TypeId) (type : TypeId) (consts : Array Bool) (args : List Value) (st : St) : Option Out :=
  match b, args with
  | .append, [s, x] => match argTypes[0]?, argTypes[1]? with
    | some sT, some xT => match appendS P st sT xT s x with
      | some (v, st) => some (.val v st)
      | none => none
    | _, _ => none
  | .len, [x] => match argTypes[0]? with
    | some t => match P.underlying t, x with
      | some .string, .string s => some (.val (.int .i64 s.size) st)
      | some (.array n _), _ => some (.val (.int .i64 n) st)
      | some (.slice _), .slice _ n _ => some (.val (.int .i64 n) st)
      | some (.slice _), x => match fzOf x with
        | some z => some (.val (.int .i64 z.n) st)
        | none => none
      | some (.map _ _), x => match lenV st x with
        | some n => some (.val (.int .i64 n) st)
        | none => none
      | _, _ => none
    | none => none
  | .clear, [x] => match argTypes[0]? with
    | some t => match P.underlying t, x with
      | some (.slice e), .slice (some a) n _ =>
        if n = 0 then some (.val (.tuple #[]) st) else match zeroOfT P e with
        | some z => if flatL (Builtin.zeroCells z.cells n).toList then match setCells st a (Builtin.zeroCells z.cells n).toList with
            | some st => some (.val (.tuple #[]) st)
            | none => none
          else none
        | none => none
      | some (.slice _), .slice none _ _ => some (.val (.tuple #[]) st)
      | _, _ => none
    | none => none
  | b, args => if flatL args then match pureRun P (builtin b argTypes type consts ⟨args⟩) with
      | some (.value v) => if flat v then some (.val v st) else none
      | _ => none
    else none

def bytesOf : List Value → Option (List UInt8)
  | [] => some []
  | .int .u8 n :: l => match bytesOf l with
    | some r => some (UInt8.ofNat n.toNat :: r)
    | none => none
  | _ :: _ => none

def constB : Operand → Bool
  | .const _ => true
  | _ => false

/-- One operation. 'ρ' reads its operands. -/
def evOp (P : Program) (ρ : Operand → Value) (o : Oper) (st : St) : Option Out :=
  match o.op with
  | .move x | .assign x => some (.val (ρ x) st)
  | .pick c a b => match ρ c with
    | .bool t => some (.val (if t then ρ a else ρ b) st)
    | _ => none
  | .alloc e => match zeroOfT P e with
    | some z => let (a, st) := newRow st z.cells.toList e true; some (.val (.pointer (some a)) st)
    | none => none
  | .box e x => if isAny (ρ x) then none else let (a, st) := newRow st (ρ x).cells.toList e true; some (.val (.pointer (some a)) st)
  | .build t parts => match zeroOfT P t with
    | some _ => if parts.toList.any (fun p => isAny (ρ p.2)) then none else match P.built t (parts.toList.map fun p => (p.1, ρ p.2)) with
      | some c => some (.val (.agg c) st)
      | none => none
    | none => none
  | .buildSlice t len parts => match P.underlying t with
    | some (.slice e) => match P.info? e, zeroOfT P e with
      | some ie, some z =>
        if len * ie.size > 2 ^ 24 || ie.size = 0 || z.cells.size ≠ ie.size || parts.toList.any (fun p => isAny (ρ p.2)) then none
        else if len = 0 then (if parts.isEmpty then let (a, st) := newRow st [] e true; some (.val (.slice (some a) 0 0) st) else none)
        else
        match Instr.fill (fun i => some (i * ie.size, ie.size)) ((Array.range (len * ie.size)).map (z.cells[· % z.cells.size]!)) (parts.toList.map fun p => (p.1, ρ p.2)) with
        | some c => let (a, st) := newRow st c.toList e true; some (.val (.slice (some a) len len) st)
        | none => none
      | _, _ => none
    | _ => none
  | .load t x => match ρ x with
    | .pointer (some a) => match loadV P st t a with
      | some v => some (.val v st)
      | none => none
    | p => match fpOf p with
      | some (a, c) => match loadC P t a c with
        | some v => some (.val v st)
        | none => none
      | none => none
  | .store t x v => match ρ x with
    | .pointer (some a) => match storeV P st t a (ρ v) with
      | some st => some (.skip st)
      | none => none
    | _ => none
  | .nilCheck x => match ρ x with
    | .pointer (some a) => some (.val (.pointer (some a)) st)
    | .func (.func f) a b => some (.val (.func (.func f) a b) st)
    | .func (.yield f) a b => some (.val (.func (.yield f) a b) st)
    | .iface t v => if t ≤ FZ then some (.val (.iface t v) st) else none
    | _ => none
  | .binOp op t x y _ =>
    if flat (ρ x) && flat (ρ y) then match pureRun P (do eqGuard op t x y (ρ x) (ρ y); binOp op t (ρ x) (ρ y)) with
      | some v => if flat v then some (.val v st) else none
      | none => none
    else match op with
      | .eql => match eqNil P t (ρ x) (ρ y) with
        | some b => some (.val (.bool b) st)
        | none => none
      | .neq => match eqNil P t (ρ x) (ρ y) with
        | some b => some (.val (.bool !b) st)
        | none => none
      | _ => none
  | .unOp op _ x => if flat (ρ x) then match pureRun P (Op.unary op (ρ x)) with
      | some v => if flat v then some (.val v st) else none
      | none => none
    else none
  | .convert s d x =>
    match P.underlying s, P.underlying d, ρ x with
    | some (.slice e), some .string, .slice b n _ => match P.underlying e with
      | some (.int .u8) => match b with
        | none => if n = 0 then some (.val (.string .empty) st) else none
        | some a => match cellsAt st a n with
          | some c => match bytesOf c with
            | some l => some (.val (.string ⟨⟨l⟩⟩) st)
            | none => none
          | none => none
      | _ => none
    | some (.slice e), some .string, .iface t x => match P.underlying e with
      | some (.int .u8) => match fzOf (.iface t x) with
        | some z => if z.sz = 1 then match bytesOf z.cells with
            | some l => some (.val (.string ⟨⟨l⟩⟩) st)
            | none => none
          else none
        | none => none
      | _ => none
    | some _, some (.slice e), .string s => match P.underlying e with
      | some (.int .u8) =>
        if big < s.size || esz P e ≠ 1 then none else
        let (a, st) := newRow st (byteCells s) e false
        some (.val (.slice (some a) s.size unk) st)
      | _ => none
    | _, _, v => if flat v then match pureRun P (convert s d v) with
        | some v => if flat v then some (.val v st) else none
        | none => none
      else none
  | .makeInterface t x => match P.underlying t with
    | some (.interface _) => none
    | some _ => if t < FZ then some (.val (.iface t (ρ x)) st) else none
    | none => none
  | .makeFunc fn first captured => if flatFn fn then some (.val (.func fn (first.map ρ) (captured.map ρ)) st) else none
  | .makeMap t r => match r with
    | none => let (i, st) := st.new (.map [] 0); some (.val (.map (some i)) st)
    | some h => match P.underlying t, ρ h with
      | some (.map _ _), .int _ _ => let (i, st) := st.new (.map [] 0); some (.val (.map (some i)) st)
      | _, _ => none
  | .makeSlice t l c => match P.underlying t, ρ l, ρ c with
    | some (.slice e), .int _ l, .int _ c => match P.info? e, zeroOfT P e with
      | some ei, some z =>
        if 0 ≤ l ∧ l ≤ c ∧ c ≤ big ∧ ei.bytes ≤ big ∧ z.cells.size = ei.size ∧ ei.size ≠ 0 then
          let (a, st) := newRow st ((List.range (c.toNat * ei.size)).map fun i => z.cells[i % ei.size]!) e true
          some (.val (.slice (some a) l.toNat c.toNat) st)
        else none
      | _, _ => none
    | _, _, _ => none
  | .slice t x lo hi mx => match P.underlying t, ρ x with
    | some .string, .string s => if mx.isSome then none else match optBound (hi.map ρ) s.size s.size with
      | some h => match optBound (lo.map ρ) h 0 with
        | some l => some (.val (.string (s.extract l h)) st)
        | none => none
      | none => none
    | some (.slice e), .slice (some a) len cap => match sizeOfT P e with
      | some n => match sliceS P st n a len cap (lo.map ρ) (hi.map ρ) (mx.map ρ) with
        | some v => some (.val v st)
        | none => none
      | none => none
    | some (.slice e), .slice none len cap =>
      if len = 0 && cap = 0 then match sizeOfT P e, optBound (mx.map ρ) 0 0, optBound (hi.map ρ) 0 0, optBound (lo.map ρ) 0 0 with
        | some _, some _, some _, some _ => if mx.isSome && hi.isNone then none else some (.val (.slice none 0 0) st)
        | _, _, _, _ => none
      else none
    | some (.array n e), .pointer (some a) => match sizeOfT P e with
      | some size => match optBound (mx.map ρ) n n with
        | some m => match (if mx.isSome && hi.isNone then none else optBound (hi.map ρ) (if mx.isSome then m else n) n) with
          | some h => match optBound (lo.map ρ) h 0 with
            | some l => match st.heap.get a.block with
              | some (.cells _ _ true) => if m < unk then some (.val (.slice (some (if m = l then a else a.add (l * size))) (h - l) (m - l)) st) else none
              | _ => none
            | none => none
          | none => none
        | none => none
      | none => none
    | some (.slice e), x => match fzOf x, sizeOfT P e with
      | some z, some n => if z.sz = n then match sliceZ z (lo.map ρ) (hi.map ρ) (mx.map ρ) with
          | some v => some (.val v st)
          | none => none
        else none
      | _, _ => none
    | _, _ => none
  | .fieldAddr t x i => match fieldOf P t i, ρ x with
    | some (f, n), .pointer (some a) => if n = 0 then none else some (.val (.pointer (some (a.add f.offset))) st)
    | some (f, n), p => match fpOf p with
      | some (a, c) => if n = 0 then none else some (.val (mkFp (a + f.offset) c) st)
      | none => none
    | _, _ => none
  | .field t x i => match fieldOf P t i, ρ x with
    | some (f, _), .agg cs => match partOf P f.type cs.toList f.offset with
      | some v => some (.val v st)
      | none => none
    | _, _ => none
  | .indexAddr t x ix => match P.underlying t, ρ x, ρ ix with
    | some (.slice e), .slice (some a) len _, .int _ i => match sizeOfT P e with
      | some n => if 0 ≤ i ∧ i < len then some (.val (.pointer (some (a.add (i.toNat * n)))) st) else none
      | none => none
    | some (.array len e), .pointer (some a), .int _ i => match sizeOfT P e with
      | some n => if 0 ≤ i ∧ i < len then some (.val (.pointer (some (a.add (i.toNat * n)))) st) else none
      | none => none
    | some (.slice e), x, .int _ i => match fzOf x, sizeOfT P e with
      | some z, some n => if z.sz = n ∧ 0 ≤ i ∧ i < z.n then some (.val (mkFp (i.toNat * n) z.cells) st) else none
      | _, _ => none
    | _, _, _ => none
  | .index t x ix => match P.underlying t, ρ x, ρ ix with
    | some (.array len e), .agg cs, .int _ i => match sizeOfT P e with
      | some n => if 0 ≤ i ∧ i < len then match partOf P e cs.toList (i.toNat * n) with
          | some v => some (.val v st)
          | none => none
        else none
      | none => none
    | some .string, .string s, .int _ i => if 0 ≤ i then match s[i.toNat]? with
        | some b => some (.val (.int .u8 b.toNat) st)
        | none => none
      else none
    | _, _, _ => none
  | .lookup t x k ok => match P.underlying t with
    | some (.map kt e) => match zeroOfT P e with
      | some z =>
        let es : Option (List MapEntry) := match ρ x with
          | .map none => some []
          | .map (some r) => match st.heap.get r with
            | some (.map es _) => some es
            | _ => none
          | _ => none
        match es with
        | some es => match findS P es.isEmpty kt (ρ k) es with
          | some (some (_, v)) => some (.val (if ok then .tuple #[v, .bool true] else v) st)
          | some none => some (.val (if ok then .tuple #[z, .bool false] else z) st)
          | none => none
        | none => none
      | _ => none
    | _ => none
  | .mapUpdate t m k x | .insert t m k x => (mapPut P st t (ρ m) (ρ k) (ρ x)).map Out.skip
  | .mapEntry t m k => match P.underlying t, ρ m with
    | some (.map kt e), .map (some r) => match st.heap.get r, zeroOfT P e with
      | some (.map es clock), some z => match findS P false kt (ρ k) es with
        | some (some (i, v)) => some (.val (.tuple #[v, .int .i64 (((es[i]?).map (·.born)).getD 0)]) { st with heap := st.heap.set r (.map (es.modify i fun e => { e with key := ρ k }) clock) })
        | some none => some (.val (.tuple #[z, .int .i64 clock]) { st with heap := st.heap.set r (.map (es ++ [{ key := ρ k, val := z, born := clock }]) (clock + 1)) })
        | none => none
      | _, _ => none
    | _, _ => none
  | .entryStore _ m s x => match ρ m, ρ s with
    | .map (some r), .int _ born => match st.heap.get r with
      | some (.map es clock) => match es.findIdx? (fun e => (e.born : Int) == born) with
        | some i => some (.skip { st with heap := st.heap.set r (.map (es.modify i fun e => { e with val := ρ x }) clock) })
        | none => none
      | _ => none
    | _, _ => none
  | .range t x => match P.underlying t, ρ x with
    | some .string, .string s => let (i, st) := st.new (.siter s 0); some (.val (.pointer (some ⟨i, 0, none⟩)) st)
    | some (.map _ _), .map none => let (i, st) := st.new (.miter none 0 [] 0); some (.val (.pointer (some ⟨i, 0, none⟩)) st)
    | some (.map _ _), .map (some m) => match st.heap.get m with
      | some (.map _ clock) => let (i, st) := st.new (.miter (some m) clock [] clock); some (.val (.pointer (some ⟨i, 0, none⟩)) st)
      | _ => none
    | _, _ => none
  | .next it true => match ρ it with
    | .pointer (some ⟨r, 0, _⟩) => match st.heap.get r with
      | some (.siter s pos) => if pos < s.size then
          some (.val (.tuple #[.bool true, .int .i64 pos, .int .i32 (Utf8.decode s pos).1]) { st with heap := st.heap.set r (.siter s (pos + (Utf8.decode s pos).2)) })
        else some (.val (.tuple #[.bool false]) st)
      | _ => none
    | _ => none
  | .next it false => match ρ it with
    | .pointer (some ⟨r, 0, _⟩) => match st.heap.get r with
      | some (.miter none _ _ _) => some (.val (.tuple #[.bool false]) st)
      | some (.miter (some m) since seen last) => match st.heap.get m with
        | some (.map es clock) =>
          if !seen.isEmpty && !es.isEmpty && es.all (fun e => decide (e.born ≥ last)) then none else
          let left := es.filter fun e => !seen.contains e.born
          let old := left.filter fun e => decide (e.born < since)
          let new := left.filter fun e => decide (e.born ≥ since)
          match old, new with
          | [], [] => some (.val (.tuple #[.bool false]) st)
          | [e], [] => some (.val (.tuple #[.bool true, e.key, e.val]) { st with heap := st.heap.set r (.miter (some m) since (seen ++ [e.born]) clock) })
          | _, _ => none
        | _ => none
      | _ => none
    | _ => none
  | .entry it => match ρ it with
    | .pointer (some ⟨r, 0, _⟩) => match st.heap.get r with
      | some (.miter (some m) _ seen stepped) => match seen.getLast?, st.heap.get m with
        | some stamp, some (.map es clock) => if clock ≠ stepped then none else match es.find? (fun e => e.born == stamp) with
          | some e => some (.val (.tuple #[e.key, e.val]) st)
          | none => none
        | _, _ => none
      | _ => none
    | _ => none
  | .typeAssert x _ asserted ok => match P.underlying asserted, ρ x with
    | some (.interface want), .iface t v => if FZ ≤ t then none else match P.info? t with
      | some i => match Instr.missingMethod want i.methods with
        | none => some (.val (if ok then .tuple #[.iface t v, .bool true] else .iface t v) st)
        | some _ => if ok then none else none
      | none => none
    | some (.interface _), .nilIface => if ok then none else none
    | some _, .nilIface => if ok then match zeroOfT P asserted with
        | some z => some (.val (.tuple #[z, .bool false]) st)
        | none => none
      else none
    | some _, .iface t v => if FZ ≤ t then none else if t = asserted then some (.val (if ok then .tuple #[v, .bool true] else v) st)
      else if ok then match zeroOfT P asserted with
        | some z => some (.val (.tuple #[z, .bool false]) st)
        | none => none
      else none
    | _, _ => none
  | .extract t i => match ρ t with
    | .tuple vs => match vs[i]? with
      | some v => some (.val v st)
      | none => none
    | _ => none
  | .call c => match c.callee with
    | .builtin b => builtinS P b c.argTypes o.type (c.args.map constB) (c.args.toList.map ρ) st
    | .invoke r name => invokeV P (.fn (.method name) #[]) (ρ r :: c.args.toList.map ρ) st
    | .value f => match ρ f with
      | .func fn first captured => invokeV P (.fn fn captured) (first.toList ++ c.args.toList.map ρ) st
      | _ => none
  | .defer c => match c.callee with
    | .builtin _ => none
    | .invoke r name => some (.defer { target := .fn (.method name) #[], args := ⟨ρ r :: c.args.toList.map ρ⟩ } st)
    | .value f => match ρ f with
      | .func fn first captured => some (.defer { target := .fn fn captured, args := ⟨first.toList ++ c.args.toList.map ρ⟩ } st)
      | _ => none
  | _ => none

/-- Is an operation carried out? -/
def wantedF (ops : Array Oper) (f : Fr) (o : Oper) : Option Bool :=
  match o.guard with
  | none => some true
  | some (j, want) => match (ops[j]?).bind (·.dst) with
    | none => some false
    | some d => match (f.slots.get d).getD undef with
      | .bool b => some (b == want)
      | .tuple _ => some false
      | _ => none

/-! ### regions whose order is drawn -/
inductive Kind where
  | quiet | new | chain

/-- What an operation does to memory: nothing, one new block that no other has seen, or anything. -/
def kindOf (P : Program) (o : Oper) : Kind :=
  match o.op with
  | .move _ | .assign _ | .pick .. | .build .. | .load .. | .nilCheck _ | .binOp .. | .unOp .. | .makeInterface .. | .makeFunc .. | .slice .. | .fieldAddr .. | .field ..
  | .indexAddr .. | .index .. | .lookup .. | .typeAssert .. | .extract .. | .entry _ => .quiet
  | .convert _ d _ => match P.underlying d with
    | some (.slice _) => .new
    | _ => .quiet
  | .call c => match c.callee with
    | .builtin .append => .chain
    | .builtin .clear => .chain
    | .builtin _ => .quiet
    | _ => .chain
  | .alloc _ | .box .. | .buildSlice .. => .new
  | _ => .chain

/-- An operation that makes a block, its number told beforehand. -/
def evNew (ev : (Operand → Value) → Oper → St → Option Out) (ρ : Operand → Value) (o : Oper) (r : Nat) : Option (Value × Blk) :=
  match ev ρ o ⟨.leaf, r⟩ with
  | some (.val v st) => match st.heap.get r with
    | some b => some (v, b)
    | none => none
  | _ => none

/-- Blocks that so far only the world had. -/
def wake (base : Nat) (sel : Nat → Bool) : List (Nat × Blk) → St → St
  | [], st => st
  | (i, b) :: l, st => wake base sel l (if sel i then { st with heap := st.heap.set (base + i) b } else st)

/-- What comes before what. -/
def bitsL : List Oper → List Nat → List Nat
  | [], acc => acc
  | o :: os, acc => bitsL os (acc ++ [o.after.toList.foldl (fun s e => if Region.binds .any e then s ||| 2 ^ e.on ||| acc.getD e.on 0 else s) 0])

def tmpsOf (ops : Array Oper) (o : Oper) : List Tmp :=
  o.dst.toList ++ o.op.operands.toList.filterMap (fun x => match x with | .tmp t => some t | _ => none) ++
    (match o.guard with | some (j, _) => ((ops[j]?).bind (·.dst)).toList | none => [])

def writersL : List Oper → Nat → List (Nat × Tmp)
  | [], _ => []
  | o :: os, i => match o.dst with
    | some d => (i, d) :: writersL os (i + 1)
    | none => writersL os (i + 1)

def isChain (P : Program) (o : Oper) : Bool := match kindOf P o with
  | .chain => true
  | _ => false

def chainsL (P : Program) : List Oper → Nat → List Nat
  | [], _ => []
  | o :: os, i => if isChain P o then i :: chainsL P os (i + 1) else chainsL P os (i + 1)

def edgesOk : List Oper → Nat → Bool
  | [], _ => true
  | o :: os, i => o.after.toList.all (fun e => !Region.binds .any e || decide (e.on < i)) && edgesOk os (i + 1)

def bitOf (bs : List Nat) (i j : Nat) : Bool := (bs.getD i 0).testBit j

def tmpsOk (ops : Array Oper) (bs : List Nat) (ws : List (Nat × Tmp)) : List Oper → Nat → Bool
  | [], _ => true
  | o :: os, i => (tmpsOf ops o).all (fun t => ws.all fun p => p.2 != t || p.1 == i || (if p.1 < i then bitOf bs i p.1 else bitOf bs p.1 i)) && tmpsOk ops bs ws os (i + 1)

def chainOk (bs : List Nat) : List Nat → Bool
  | [] => true
  | c :: cs => cs.all (fun d => bitOf bs d c) && chainOk bs cs

structure Rec where
  f : Fr
  st : St
  m : Nat
  pend : List (Nat × Blk)
  rep : Nat
  v : Value
  b : Option Blk

/-- The operations in the order of the text. -/
def drawPass (P : Program) (ev : (Operand → Value) → Oper → St → Option Out) (rd : Fr → Operand → Value) (out : Out → Option (Value × St)) (ops : Array Oper) (bs : List Nat) (base : Nat) : List Oper → Nat → Fr → St → Nat → List (Nat × Blk) → Nat → Option (List Rec)
  | [], _, f, st, m, pend, rep => some [⟨f, st, m, pend, rep, undef, none⟩]
  | o :: os, i, f, st, m, pend, rep =>
    match wantedF ops f o with
    | none => none
    | some wd =>
      match kindOf P o with
      | .quiet =>
        match (if wd then (match ev (rd f) o st with
          | some (.val v _) => some v
          | _ => none) else some undef) with
        | none => none
        | some v => match f.put o.dst v with
          | none => none
          | some f' => match drawPass P ev rd out ops bs base os (i + 1) f' st m pend rep with
            | none => none
            | some l => some (⟨f, st, m, pend, rep, v, none⟩ :: l)
      | .new =>
        match (if wd then (match evNew ev (rd f) o (base + i) with
          | some (v, b) => some (v, some b)
          | none => none) else some (undef, none)) with
        | none => none
        | some (v, b) => match f.put o.dst v with
          | none => none
          | some f' => match drawPass P ev rd out ops bs base os (i + 1) f' st m (pend ++ (b.map fun b => (i, b)).toList) rep with
            | none => none
            | some l => some (⟨f, st, m, pend, rep, v, b⟩ :: l)
      | .chain =>
        let st1 := wake base (fun j => bitOf bs i j && !m.testBit j) pend st
        match (if wd then (match ev (rd f) o st1 with
          | some r => out r
          | none => none) else some (undef, st1)) with
        | none => none
        | some (v, st') => match f.put o.dst v with
          | none => none
          | some f' => match drawPass P ev rd out ops bs base os (i + 1) f' st' (m ||| bs.getD i 0) pend (i + 1) with
            | none => none
            | some l => some (⟨f, st, m, pend, rep, v, none⟩ :: l)

mutual
def beqV : Value → Value → Bool
  | .bool a, .bool b => a == b
  | .int k n, .int l m => decide (k = l) && decide (n = m)
  | .string a, .string b => decide (a.data.toList = b.data.toList)
  | .pointer none, .pointer none => true
  | .pointer (some a), .pointer (some b) => decide (a.block = b.block) && decide (a.off = b.off) && a.spot.isNone && b.spot.isNone
  | .slice none n c, .slice none n' c' => decide (n = n') && decide (c = c')
  | .slice (some a) n c, .slice (some b) n' c' => decide (a.block = b.block) && decide (a.off = b.off) && a.spot.isNone && b.spot.isNone && decide (n = n') && decide (c = c')
  | .map a, .map b => decide (a = b)
  | .chan a, .chan b => decide (a = b)
  | .nilFunc, .nilFunc => true
  | .nilIface, .nilIface => true
  | .iface t x, .iface u y => decide (t = u) && beqV x y
  | .agg a, .agg b => beqVA a b
  | .tuple a, .tuple b => beqVA a b
  | _, _ => false
def beqVA : Array Value → Array Value → Bool
  | ⟨a⟩, ⟨b⟩ => beqVL a b
def beqVL : List Value → List Value → Bool
  | [], [] => true
  | x :: xs, y :: ys => beqV x y && beqVL xs ys
  | _, _ => false
end

/-- May operation i come where the chain has come to m? -/
def admits (bs : List Nat) (cs : List Nat) (i m : Nat) : Bool := cs.all fun c => if c < m then !bitOf bs c i else !bitOf bs i c

/-- Operations that do not look at memory. -/
def noHeap (o : Oper) : Bool := match o.op with
  | .move _ | .assign _ | .pick .. | .build .. | .nilCheck _ | .binOp .. | .unOp .. | .makeInterface .. | .makeFunc .. | .fieldAddr .. | .field .. | .extract .. | .indexAddr .. | .index .. | .typeAssert .. => true
  | _ => false

/-- An operation that only reads comes to the same wherever it may come. -/
def quietOk (P : Program) (ev : (Operand → Value) → Oper → St → Option Out) (rd : Fr → Operand → Value) (ops : Array Oper) (bs cs : List Nat) (reps : List (Nat × St)) : List Oper → List Rec → Nat → Bool
  | o :: os, r :: rs, i => (match kindOf P o, wantedF ops r.f o with
    | .quiet, some true => noHeap o || reps.all fun p => p.1 == r.rep || !admits bs cs i p.1 || (match ev (rd r.f) o p.2 with
      | some (.val v _) => beqV v r.v
      | _ => false)
    | _, _ => true) && quietOk P ev rd ops bs cs reps os rs (i + 1)
  | _, _, _ => true

def repsL (P : Program) : List Oper → List Rec → Nat → List (Nat × St)
  | o :: os, _ :: r :: rs, i => if isChain P o then (i + 1, r.st) :: repsL P os (r :: rs) (i + 1) else repsL P os (r :: rs) (i + 1)
  | _, _, _ => []

def drawRegion (P : Program) (out : Out → Option (Value × St)) (ops : Array Oper) (f : Fr) (st : St) : Option (Fr × St) :=
  if !P.follows .mixedOrders then none else
  let os := ops.toList
  let bs := bitsL os []
  let cs := chainsL P os 0
  if !(edgesOk os 0 && tmpsOk ops bs (writersL os 0) os 0 && chainOk bs cs) then none else
  match drawPass P (evOp P) Fr.eval out ops bs st.next os 0 f { st with next := st.next + ops.size } 0 [] 0 with
  | none => none
  | some recs => match recs.getLast? with
    | none => none
    | some r =>
      if quietOk P (evOp P) Fr.eval ops bs cs ((0, { st with next := st.next + ops.size }) :: repsL P os recs 0) os recs 0 then
        some (r.f, wake st.next (fun j => !r.m.testBit j) r.pend r.st)
      else none

def isDefer : Op → Bool
  | .defer _ => true
  | _ => false

def codeOfEx : Ex → Option Code
  | .normal => none
  | .exit id => some (.exit id)
  | .ret => some .ret

def resultV (P : Program) (f : Fr) (st : St) : ResultVar → Option Value
  | .tmp t => some ((f.slots.get t).getD undef)
  | .cell a t => match f.slots.get a with
    | some (.pointer (some a)) => loadV P st t a
    | _ => none
def resultsV (P : Program) (fn : Func) (f : Fr) (st : St) : Option (List Value) := fn.results.toList.mapM (resultV P f st)

def resultOf (vs : List Value) : Value := match vs with
  | [v] => v
  | vs => .tuple ⟨vs⟩

def argSlots (args : List Value) (i : Nat) (t : Trie Value) : Trie Value :=
  match args with
  | [] => t
  | v :: l => argSlots l (i + 1) (t.set i v)

/-- A loop over a function is entered: its number. -/
def enterA (fid : FuncId) (f : Fr) (st : St) (params : Array Tmp) (assign body : Code) : Option (Nat × Fr × St) :=
  match f.roundOf with
  | none => some (st.next + 1, { f with defers := { target := .collected st.next, args := #[] } :: f.defers },
      ((st.new .deferred).2.new (.loop { state := .ready, pending := none, fn := fid, slots := f.slots, ntmps := f.ntmps, params, assign, body, defers := st.next })).2)
  | some r => match st.heap.get r with
    | some (.loop R) => some (st.next, f, (st.new (.loop { state := .ready, pending := none, fn := fid, slots := f.slots, ntmps := f.ntmps, params, assign, body, defers := R.defers })).2)
    | _ => none

/-- It is left. -/
def endA (st : St) (l : Nat) : Option (Option Code × St) :=
  match st.heap.get l with
  | some (.loop r) => if r.state = .busy then none else some (r.pending, { st with heap := st.heap.set l (.loop { r with state := .exhausted }) })
  | _ => none

/-- The parameters of a round. -/
def putAll (n : Nat) : List (Tmp × Value) → Trie Value → Option (Trie Value)
  | [], t => some t
  | (d, v) :: l, t => if d < n then putAll n l (t.set d v) else none

def beginA (st : St) (l : Nat) : Option St :=
  match st.heap.get l with
  | some (.loop r) => if r.state = .ready then some { st with heap := st.heap.set l (.loop { r with state := .busy }) } else none
  | _ => none

def roundEndA (st : St) (l : Nat) (jump : Option Code) : Option St :=
  match st.heap.get l with
  | some (.loop r) => some { st with heap := st.heap.set l (.loop { r with state := if jump.isNone then .ready else .done, pending := jump }) }
  | _ => none

/-- What something comes to, by cases. -/
inductive DT (α : Type) where
  | fail
  | leaf (a : α)
  | ite (b : Bool) (x y : DT α)
def DT.eval {α : Type} : DT α → Option α
  | .fail => none
  | .leaf a => some a
  | .ite true x _ => x.eval
  | .ite false _ y => y.eval
noncomputable def DT.run {α : Type} {ρ : Type} (t : DT α) (k : α → Option ρ) : Option ρ :=
  @DT.rec α (fun _ => Option ρ) none k (fun b _ _ ihx ihy => @Bool.rec (fun _ => Option ρ) ihy ihx b) t
theorem DT.run_spec {α ρ : Type} {k : α → Option ρ} {r : ρ} : ∀ {t : DT α}, t.run k = some r → ∃ a, t.eval = some a ∧ k a = some r
  | .fail, h => by cases h
  | .leaf a, h => ⟨a, rfl, h⟩
  | .ite true x y, h => DT.run_spec (t := x) h
  | .ite false x y, h => DT.run_spec (t := y) h

/-- What is known of some calls. -/
structure Ct where
  call : FuncId → List Value → St → Option (DT (Value × St))
  loop : FuncId → Nat → Fr → St → Option (DT (Ex × Trie Value × St))
def noCt : Ct := ⟨fun _ _ _ => none, fun _ _ _ _ => none⟩

mutual
def evCode (P : Program) (ct : Ct) : Nat → Nat → Code → Fr → St → Option (Ex × Fr × St)
  | 0, _, _, _, _ => none
  | n + 1, fid, c, f, st => match c with
    | .skip => some (.normal, f, st)
    | .label _ => some (.normal, f, st)
    | .exit id => some (.exit id, f, st)
    | .ret => some (.ret, f, st)
    | .seq a b => match evCode P ct n fid a f st with
      | some (.normal, f, st) => evCode P ct n fid b f st
      | r => r
    | .cond c a b => match f.eval c with
      | .bool true => evCode P ct n fid a f st
      | .bool false => evCode P ct n fid b f st
      | _ => none
    | .block id c => match ct.loop fid id f st with
     | some t => match t.eval with
       | some (e, s, st) => some (e, { f with slots := s }, st)
       | none => none
     | none => match evCode P ct n fid c f st with
      | some (.exit id', f, st) => if id' = id then some (.normal, f, st) else some (.exit id', f, st)
      | r => r
    | .loop c => match evCode P ct n fid c f st with
      | some (.normal, f, st) => evCode P ct n fid (.loop c) f st
      | r => r
    | .scope c => evCode P ct n fid c f st
    | .region _ ops true => match drawRegion P (evOut P ct n) ops f st with
      | some (f, st) => some (.normal, f, st)
      | none => none
    | .region _ ops false => match evOps P ct n ops (List.range ops.size) f st with
      | some (f, st) => some (.normal, f, st)
      | none => none
    | .rangeFunc g params assign body => match enterA fid f st params assign body with
      | none => none
      | some (l, f, st) => match f.eval g with
        | .func fn first captured => match invokeV P (.fn fn captured) (first.toList ++ [.func (.yield l) #[] #[]]) st with
          | some (.enter f' args st) => match evCall P ct n f' args st with
            | some (_, st) => match endA st l with
              | some (none, st) => some (.normal, f, st)
              | some (some (.exit id), st) => some (.exit id, f, st)
              | some (some .ret, st) => some (.ret, f, st)
              | _ => none
            | none => none
          | _ => none
        | _ => none
    | _ => none
def evOps (P : Program) (ct : Ct) : Nat → Array Oper → List Nat → Fr → St → Option (Fr × St)
  | 0, _, _, _, _ => none
  | _ + 1, _, [], f, st => some (f, st)
  | n + 1, ops, i :: rest, f, st => match ops[i]? with
    | none => none
    | some o => match wantedF ops f o with
      | none => none
      | some false => match f.put o.dst undef with
        | some f => evOps P ct n ops rest f st
        | none => none
      | some true => if f.roundOf.isSome && isDefer o.op then none else match evOp P f.eval o st with
        | some (.val v st) => match f.put o.dst v with
          | some f => evOps P ct n ops rest f st
          | none => none
        | some (.skip st) => match f.put o.dst undef with
          | some f => evOps P ct n ops rest f st
          | none => none
        | some (.defer d st) => match Fr.put { f with defers := d :: f.defers } o.dst undef with
          | some f => evOps P ct n ops rest f st
          | none => none
        | some (.enter g args st) => match evCall P ct n g args st with
          | some (v, st) => match f.put o.dst v with
            | some f => evOps P ct n ops rest f st
            | none => none
          | none => none
        | some (.round l args st) => match evRound P ct n l args st with
          | some (v, st) => match f.put o.dst v with
            | some f => evOps P ct n ops rest f st
            | none => none
          | none => none
        | none => none
def evOut (P : Program) (ct : Ct) : Nat → Out → Option (Value × St)
  | 0, _ => none
  | n + 1, r => match r with
    | .val v st => some (v, st)
    | .skip st => some (undef, st)
    | .defer .. => none
    | .enter g args st => evCall P ct n g args st
    | .round l args st => evRound P ct n l args st
def evCall (P : Program) (ct : Ct) : Nat → FuncId → List Value → St → Option (Value × St)
  | 0, _, _, _ => none
  | n + 1, g, args, st => match ct.call g args st with
   | some t => t.eval
   | none => match P.funcs[g]? with
    | none => none
    | some fn => match fn.body with
      | none => none
      | some c => match evCode P ct n g c { slots := argSlots args 0 .leaf, ntmps := max fn.ntmps args.length, defers := [] } st with
        | some (.normal, f, st) | some (.ret, f, st) => match evDefers P ct n f.defers st with
          | some st => match resultsV P fn f st with
            | some vs => some (resultOf vs, st)
            | none => none
          | none => none
        | _ => none
def evDefers (P : Program) (ct : Ct) : Nat → List Deferred → St → Option St
  | 0, _, _ => none
  | _ + 1, [], st => some st
  | n + 1, d :: ds, st => match d.target with
    | .collected i => match st.heap.get i with
      | some .deferred => evDefers P ct n ds (kill st i)
      | _ => none
    | _ => match invokeV P d.target d.args.toList st with
      | some (.enter g args st) => match ct.call g args st with
        | some _ => none
        | none => match evCall P ct n g args st with
          | some (_, st) => evDefers P ct n ds st
          | none => none
      | _ => none
def evRound (P : Program) (ct : Ct) : Nat → Nat → List Value → St → Option (Value × St)
  | 0, _, _, _ => none
  | n + 1, l, args, st => match st.heap.get l with
    | some (.loop r) =>
      if args.length ≠ r.params.size || r.state ≠ .ready then none else
      match putAll r.ntmps (r.params.toList.zip args) r.slots with
      | none => none
      | some slots => match evCode P ct n r.fn r.assign { slots, ntmps := r.ntmps, defers := [], roundOf := some l } st with
        | some (.normal, f, st) => match beginA st l with
          | none => none
          | some st => match evCode P ct n r.fn r.body f st with
            | some (e, f, st) => match f.defers, roundEndA st l (codeOfEx e) with
              | [], some st => some (.bool (codeOfEx e).isNone, st)
              | _, _ => none
            | none => none
        | _ => none
    | _ => none
end

def start (g : Nat) : St := { heap := .leaf, next := g }

end Go.VS
