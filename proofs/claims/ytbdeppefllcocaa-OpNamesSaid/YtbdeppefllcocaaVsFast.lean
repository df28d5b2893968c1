/- The evaluator, so written that the kernel carries it out quickly. No conditions: definitions alone. -/
import Derived.Test.YtbdeppefllcocaaVsCall
namespace Go.VS
set_option linter.unusedVariables false

/-- The way to a number's place in a trie. -/
inductive Path where
  | h
  | l (p : Path)
  | r (p : Path)

noncomputable def pathF (n : Nat) : Nat → Path :=
  @Nat.rec (fun _ => Nat → Path) (fun _ => .h)
    (fun _ ih k => @Bool.rec (fun _ => Path) (@Bool.rec (fun _ => Path) (.r (ih (Nat.div (Nat.sub k 1) 2))) (.l (ih (Nat.div (Nat.sub k 1) 2))) (Nat.beq (Nat.mod (Nat.sub k 1) 2) 0)) .h (Nat.beq k 0)) n
noncomputable def path (k : Nat) : Path := pathF (Nat.add k 1) k

noncomputable def getP {α : Type} (p : Path) : Trie α → Option α :=
  @Path.rec (fun _ => Trie α → Option α)
    (fun t => @Trie.rec α (fun _ => Option α) none (fun v _ _ _ _ => v) t)
    (fun _ ih t => @Trie.rec α (fun _ => Option α) none (fun _ l _ _ _ => ih l) t)
    (fun _ ih t => @Trie.rec α (fun _ => Option α) none (fun _ _ r _ _ => ih r) t) p

noncomputable def setP {α : Type} (p : Path) : Trie α → α → Trie α :=
  @Path.rec (fun _ => Trie α → α → Trie α)
    (fun t x => @Trie.rec α (fun _ => Trie α) (.node (some x) .leaf .leaf) (fun _ l r _ _ => .node (some x) l r) t)
    (fun _ ih t x => @Trie.rec α (fun _ => Trie α) (.node none (ih .leaf x) .leaf) (fun v l r _ _ => .node v (ih l x) r) t)
    (fun _ ih t x => @Trie.rec α (fun _ => Trie α) (.node none .leaf (ih .leaf x)) (fun v l r _ _ => .node v l (ih r x)) t) p

noncomputable def nthF (c : List Value) : Nat → Option Value :=
  @List.rec Value (fun _ => Nat → Option Value) (fun _ => none) (fun v _ ih n => @Bool.rec (fun _ => Option Value) (ih (Nat.sub n 1)) (some v) (Nat.beq n 0)) c
noncomputable def setL (c : List Value) : Nat → Value → List Value :=
  @List.rec Value (fun _ => Nat → Value → List Value) (fun _ _ => []) (fun v vs ih n x => @Bool.rec (fun _ => List Value) (v :: ih (Nat.sub n 1) x) (x :: vs) (Nat.beq n 0)) c

abbrev Res := Option (Value × St)

noncomputable def slotF (s : Trie Value) (t : Tmp) : Value := @Option.rec Value (fun _ => Value) undef (fun v => v) (getP (path t) s)
noncomputable def rdF (s : Trie Value) (x : Operand) : Value :=
  @Operand.rec (fun _ => Value) (fun t => slotF s t) (fun v => @Bool.rec (fun _ => Value) anyV v (flat v)) (fun _ => .chan (some 0)) (fun g => .func (.func g) #[] #[]) x

noncomputable def putS (nt : Nat) (dst : Option Tmp) (v : Value) (s : Trie Value) (k : Trie Value → Res) : Res :=
  @Option.rec Tmp (fun _ => Res) (k s) (fun d => @Bool.rec (fun _ => Res) none (k (setP (path d) s v)) (Nat.ble (Nat.add d 1) nt)) dst

/-! ### what types tell, once and for all -/
/-- Every other one of a list: the first, the third ..; or the second, the fourth .. -/
noncomputable def altL {α : Type} (l : List α) : Bool → List α :=
  @List.rec α (fun _ => Bool → List α) (fun _ => []) (fun x _ ih b => @Bool.rec (fun _ => List α) (ih true) (x :: ih false) b) l
/-- A list as a trie. -/
noncomputable def ofL {α : Type} (n : Nat) : List α → Trie α :=
  @Nat.rec (fun _ => List α → Trie α) (fun _ => .leaf) (fun _ ih l => @List.rec α (fun _ => Trie α) .leaf (fun x rest _ => .node (some x) (ih (altL rest true)) (ih (altL rest false))) l) n
noncomputable def typesT (P : Program) : Trie TypeInfo := ofL P.types.size P.types.toList
noncomputable def funcsT (P : Program) : Trie Func := ofL P.funcs.size P.funcs.toList
noncomputable def infoQ (P : Program) (t : TypeId) : Option TypeInfo := match getP (path t) (typesT P) with
  | some i => some i
  | none => P.info? t
noncomputable def undQ (P : Program) (t : TypeId) : Option TypeDesc :=
  match infoQ P t with
  | some { desc := .named _ u, .. } => (infoQ P u).map (·.desc)
  | some i => some i.desc
  | none => none
noncomputable def isAggQ (P : Program) (t : TypeId) : Bool := match undQ P t with
  | some (.struct _) | some (.array _ _) => true
  | _ => false
noncomputable def fieldQ (P : Program) (t : TypeId) (i : Nat) : Option (Field × Nat) :=
  match undQ P t with
  | some (.struct fs) => match fs[i]? with
    | some f => match infoQ P f.type with
      | some fi => some (f, fi.size)
      | none => none
    | none => none
  | _ => none
noncomputable def loadK (P : Program) (t : TypeId) : Option (Option Nat) := match undQ P t, infoQ P t with
  | some _, some i => some (if isAggQ P t then some i.size else none)
  | _, _ => none
noncomputable def sizeQ (P : Program) (t : TypeId) : Option Nat := (infoQ P t).map (·.size)
noncomputable def faOff (P : Program) (t : TypeId) (i : Nat) : Option Nat := match fieldQ P t i with
  | some (f, n) => if n = 0 then none else some f.offset
  | none => none
noncomputable def fldK (P : Program) (t : TypeId) (i : Nat) : Option (Nat × Option Nat) := match fieldQ P t i with
  | some (f, _) => (loadK P f.type).map fun k => (f.offset, k)
  | none => none
noncomputable def sliceElem (P : Program) (t : TypeId) : Option Nat := match undQ P t with
  | some (.slice e) => sizeQ P e
  | _ => none
noncomputable def isIfc (P : Program) (t : TypeId) : Option Bool := match undQ P t with
  | some (.interface _) => some true
  | some _ => some false
  | none => none
noncomputable def lenK (P : Program) (ts : Array TypeId) : Nat := match ts[0]? with
  | some t => match undQ P t with
    | some (.slice _) => 1
    | some .string => 2
    | _ => 0
  | none => 0
noncomputable def zeroQ (P : Program) (t : TypeId) : Option Value := match infoQ P t with
  | some i => match i.zero with
    | some z => if flat z then some z else none
    | none => none
  | none => none
noncomputable def zeroC (P : Program) (t : TypeId) : Option (List Value) := (zeroQ P t).map fun z => z.cells.toList
noncomputable def bodyOf (P : Program) (g : FuncId) : Option (Func × Code) := match getP (path g) (funcsT P) with
  | some fn => match fn.body with
    | some c => some (fn, c)
    | none => none
  | none => none
noncomputable def hasBody (P : Program) (g : FuncId) : Bool := (bodyOf P g).isSome
def dstOf (ops : Array Oper) (j : Nat) : Option Tmp := (ops[j]?).bind (·.dst)

def kindNo : IntKind → Nat
  | .i8 => 0 | .i16 => 1 | .i32 => 2 | .i64 => 3 | .u8 => 4 | .u16 => 5 | .u32 => 6 | .u64 => 7
def maxN : IntKind → Nat
  | .i8 => 127 | .i16 => 32767 | .i32 => 2147483647 | .i64 => 9223372036854775807 | .u8 => 255 | .u16 => 65535 | .u32 => 4294967295 | .u64 => 18446744073709551615

section
variable (P : Program)

noncomputable def addA (b off n : Nat) (spot : Option Nat) : Addr := @Bool.rec (fun _ => Addr) ⟨b, Nat.add off n, none⟩ ⟨b, off, spot⟩ (Nat.beq n 0)

/-- Cells of one block. -/
noncomputable def cellsF (st : St) (a : Addr) (k : Nat → Nat → List Value → TypeId → Bool → Trie Blk → Nat → Res) : Res :=
  @St.rec (fun _ => Res) (fun heap next => @Addr.rec (fun _ => Res) (fun b off spot => @Option.rec Nat (fun _ => Res)
    (match getP (path b) heap with
      | some (.cells c e x) => k b off c e x heap next
      | _ => none) (fun _ => none) spot) a) st

noncomputable def loadF (st : St) (t : TypeId) (a : Addr) (k : Value → Res) : Res :=
  match loadK P t with
  | none => none
  | some w => cellsF st a fun b off c _ _ _ _ => match w with
    | none => match nthF c off with
      | some v => k v
      | none => none
    | some n => @Bool.rec (fun _ => Res) none (k (.agg ⟨(c.drop off).take n⟩)) (Nat.ble (Nat.add off n) c.length)

def scalarB : Value → Bool
  | .agg _ | .tuple _ | .chan (some _) => false
  | _ => true

noncomputable def storeF (st : St) (t : TypeId) (a : Addr) (v : Value) (k : St → Res) : Res :=
  match sizeQ P t with
  | none => none
  | some n => @Bool.rec (fun _ => Res)
      (match storeV P st t a v with
        | some st => k st
        | none => none)
      (cellsF st a fun b off c e x heap next => match nthF c off with
        | some _ => k (St.mk (setP (path b) heap (.cells (setL c off v) e x)) next)
        | none => none) (and (Nat.beq n 1) (scalarB v))

/-! ### operations, each by itself -/
structure OutFn where
  run : (Operand → Value) → St → Option Out

noncomputable def a_move (P : Program) (o : Oper) (x : Operand) (ρ : Operand → Value) (st : St) : Option Out :=
  some (.val (ρ x) st)

noncomputable def a_pick (P : Program) (o : Oper) (c a b : Operand) (ρ : Operand → Value) (st : St) : Option Out :=
  match ρ c with
    | .bool t => some (.val (if t then ρ a else ρ b) st)
    | _ => none

noncomputable def a_alloc (P : Program) (o : Oper) (e : TypeId) (ρ : Operand → Value) (st : St) : Option Out :=
  match zeroQ P e with
    | some z => let (a, st) := newRow st z.cells.toList e true; some (.val (.pointer (some a)) st)
    | none => none

noncomputable def a_box (P : Program) (o : Oper) (e : TypeId) (x : Operand) (ρ : Operand → Value) (st : St) : Option Out :=
  if isAny (ρ x) then none else let (a, st) := newRow st (ρ x).cells.toList e true; some (.val (.pointer (some a)) st)

noncomputable def a_build (P : Program) (o : Oper) (t : TypeId) (parts : Array (Nat × Operand)) (ρ : Operand → Value) (st : St) : Option Out :=
  match zeroQ P t with
    | some _ => if parts.toList.any (fun p => isAny (ρ p.2)) then none else match P.built t (parts.toList.map fun p => (p.1, ρ p.2)) with
      | some c => some (.val (.agg c) st)
      | none => none
    | none => none

noncomputable def a_buildSlice (P : Program) (o : Oper) (t : TypeId) (len : Nat) (parts : Array (Nat × Operand)) (ρ : Operand → Value) (st : St) : Option Out :=
  match undQ P t with
    | some (.slice e) => match infoQ P e, zeroQ P e with
      | some ie, some z =>
        if len * ie.size > 2 ^ 24 || ie.size = 0 || z.cells.size ≠ ie.size || parts.toList.any (fun p => isAny (ρ p.2)) then none
        else if len = 0 then (if parts.isEmpty then let (a, st) := newRow st [] e true; some (.val (.slice (some a) 0 0) st) else none)
        else
        match Instr.fill (fun i => some (i * ie.size, ie.size)) ((Array.range (len * ie.size)).map (z.cells[· % z.cells.size]!)) (parts.toList.map fun p => (p.1, ρ p.2)) with
        | some c => let (a, st) := newRow st c.toList e true; some (.val (.slice (some a) len len) st)
        | none => none
      | _, _ => none
    | _ => none

noncomputable def a_load (P : Program) (o : Oper) (t : TypeId) (x : Operand) (ρ : Operand → Value) (st : St) : Option Out :=
  match ρ x with
    | .pointer (some a) => match loadV P st t a with
      | some v => some (.val v st)
      | none => none
    | p => match fpOf p with
      | some (a, c) => match loadC P t a c with
        | some v => some (.val v st)
        | none => none
      | none => none

noncomputable def a_store (P : Program) (o : Oper) (t : TypeId) (x v : Operand) (ρ : Operand → Value) (st : St) : Option Out :=
  match ρ x with
    | .pointer (some a) => match storeV P st t a (ρ v) with
      | some st => some (.skip st)
      | none => none
    | _ => none

noncomputable def a_nilCheck (P : Program) (o : Oper) (x : Operand) (ρ : Operand → Value) (st : St) : Option Out :=
  match ρ x with
    | .pointer (some a) => some (.val (.pointer (some a)) st)
    | .func (.func f) a b => some (.val (.func (.func f) a b) st)
    | .func (.yield f) a b => some (.val (.func (.yield f) a b) st)
    | .iface t v => if t ≤ FZ then some (.val (.iface t v) st) else none
    | _ => none

noncomputable def a_binOp (P : Program) (o : Oper) (op : BinOp) (t : TypeId) (x y : Operand) (ρ : Operand → Value) (st : St) : Option Out :=

    if flat (ρ x) && flat (ρ y) then match pureRun P (do eqGuard op t x y (ρ x) (ρ y); binOp op t (ρ x) (ρ y)) with
      | some v => if flat v then some (.val v st) else none
      | none => none
    else match op with
      | .eql => match eqNil P t (ρ x) (ρ y) with
        | some b => some (.val (.bool b) st)
        | none => none
      | .neq => match eqNil P t (ρ x) (ρ y) with
        | some b => some (.val (.bool !b) st)
        | none => none
      | _ => none

noncomputable def a_unOp (P : Program) (o : Oper) (op : UnOp) (x : Operand) (ρ : Operand → Value) (st : St) : Option Out :=
  if flat (ρ x) then match pureRun P (Op.unary op (ρ x)) with
      | some v => if flat v then some (.val v st) else none
      | none => none
    else none

noncomputable def a_convert (P : Program) (o : Oper) (s d : TypeId) (x : Operand) (ρ : Operand → Value) (st : St) : Option Out :=
  match undQ P s, undQ P d, ρ x with
    | some (.slice e), some .string, .slice b n _ => match undQ P e with
      | some (.int .u8) => match b with
        | none => if n = 0 then some (.val (.string .empty) st) else none
        | some a => match cellsAt st a n with
          | some c => match bytesOf c with
            | some l => some (.val (.string ⟨⟨l⟩⟩) st)
            | none => none
          | none => none
      | _ => none
    | some (.slice e), some .string, .iface t x => match undQ P e with
      | some (.int .u8) => match fzOf (.iface t x) with
        | some z => if z.sz = 1 then match bytesOf z.cells with
            | some l => some (.val (.string ⟨⟨l⟩⟩) st)
            | none => none
          else none
        | none => none
      | _ => none
    | some _, some (.slice e), .string s => match undQ P e with
      | some (.int .u8) =>
        if big < s.size || esz P e ≠ 1 then none else
        let (a, st) := newRow st (byteCells s) e false
        some (.val (.slice (some a) s.size unk) st)
      | _ => none
    | _, _, v => if flat v then match pureRun P (convert s d v) with
        | some v => if flat v then some (.val v st) else none
        | none => none
      else none

noncomputable def a_makeInterface (P : Program) (o : Oper) (t : TypeId) (x : Operand) (ρ : Operand → Value) (st : St) : Option Out :=
  match undQ P t with
    | some (.interface _) => none
    | some _ => if t < FZ then some (.val (.iface t (ρ x)) st) else none
    | none => none

noncomputable def a_makeFunc (P : Program) (o : Oper) (fn : Fn) (first captured : Array Operand) (ρ : Operand → Value) (st : St) : Option Out :=
  if flatFn fn then some (.val (.func fn (first.map ρ) (captured.map ρ)) st) else none

noncomputable def a_makeMap (P : Program) (o : Oper) (t : TypeId) (r : Option Operand) (ρ : Operand → Value) (st : St) : Option Out :=
  match r with
    | none => let (i, st) := st.new (.map [] 0); some (.val (.map (some i)) st)
    | some h => match undQ P t, ρ h with
      | some (.map _ _), .int _ _ => let (i, st) := st.new (.map [] 0); some (.val (.map (some i)) st)
      | _, _ => none

noncomputable def a_makeSlice (P : Program) (o : Oper) (t : TypeId) (l c : Operand) (ρ : Operand → Value) (st : St) : Option Out :=
  match undQ P t, ρ l, ρ c with
    | some (.slice e), .int _ l, .int _ c => match infoQ P e, zeroQ P e with
      | some ei, some z =>
        if 0 ≤ l ∧ l ≤ c ∧ c ≤ big ∧ ei.bytes ≤ big ∧ z.cells.size = ei.size ∧ ei.size ≠ 0 then
          let (a, st) := newRow st ((List.range (c.toNat * ei.size)).map fun i => z.cells[i % ei.size]!) e true
          some (.val (.slice (some a) l.toNat c.toNat) st)
        else none
      | _, _ => none
    | _, _, _ => none

noncomputable def a_slice (P : Program) (o : Oper) (t : TypeId) (x : Operand) (lo hi mx : Option Operand) (ρ : Operand → Value) (st : St) : Option Out :=
  match undQ P t, ρ x with
    | some .string, .string s => if mx.isSome then none else match optBound (hi.map ρ) s.size s.size with
      | some h => match optBound (lo.map ρ) h 0 with
        | some l => some (.val (.string (s.extract l h)) st)
        | none => none
      | none => none
    | some (.slice e), .slice (some a) len cap => match sizeQ P e with
      | some n => match sliceS P st n a len cap (lo.map ρ) (hi.map ρ) (mx.map ρ) with
        | some v => some (.val v st)
        | none => none
      | none => none
    | some (.slice e), .slice none len cap =>
      if len = 0 && cap = 0 then match sizeQ P e, optBound (mx.map ρ) 0 0, optBound (hi.map ρ) 0 0, optBound (lo.map ρ) 0 0 with
        | some _, some _, some _, some _ => if mx.isSome && hi.isNone then none else some (.val (.slice none 0 0) st)
        | _, _, _, _ => none
      else none
    | some (.array n e), .pointer (some a) => match sizeQ P e with
      | some size => match optBound (mx.map ρ) n n with
        | some m => match (if mx.isSome && hi.isNone then none else optBound (hi.map ρ) (if mx.isSome then m else n) n) with
          | some h => match optBound (lo.map ρ) h 0 with
            | some l => match st.heap.get a.block with
              | some (.cells _ _ true) => if m < unk then some (.val (.slice (some (if m = l then a else a.add (l * size))) (h - l) (m - l)) st) else none
              | _ => none
            | none => none
          | none => none
        | none => none
      | none => none
    | some (.slice e), x => match fzOf x, sizeQ P e with
      | some z, some n => if z.sz = n then match sliceZ z (lo.map ρ) (hi.map ρ) (mx.map ρ) with
          | some v => some (.val v st)
          | none => none
        else none
      | _, _ => none
    | _, _ => none

noncomputable def a_fieldAddr (P : Program) (o : Oper) (t : TypeId) (x : Operand) (i : Nat) (ρ : Operand → Value) (st : St) : Option Out :=
  match fieldQ P t i, ρ x with
    | some (f, n), .pointer (some a) => if n = 0 then none else some (.val (.pointer (some (a.add f.offset))) st)
    | some (f, n), p => match fpOf p with
      | some (a, c) => if n = 0 then none else some (.val (mkFp (a + f.offset) c) st)
      | none => none
    | _, _ => none

noncomputable def a_field (P : Program) (o : Oper) (t : TypeId) (x : Operand) (i : Nat) (ρ : Operand → Value) (st : St) : Option Out :=
  match fieldQ P t i, ρ x with
    | some (f, _), .agg cs => match partOf P f.type cs.toList f.offset with
      | some v => some (.val v st)
      | none => none
    | _, _ => none

noncomputable def a_indexAddr (P : Program) (o : Oper) (t : TypeId) (x ix : Operand) (ρ : Operand → Value) (st : St) : Option Out :=
  match undQ P t, ρ x, ρ ix with
    | some (.slice e), .slice (some a) len _, .int _ i => match sizeQ P e with
      | some n => if 0 ≤ i ∧ i < len then some (.val (.pointer (some (a.add (i.toNat * n)))) st) else none
      | none => none
    | some (.array len e), .pointer (some a), .int _ i => match sizeQ P e with
      | some n => if 0 ≤ i ∧ i < len then some (.val (.pointer (some (a.add (i.toNat * n)))) st) else none
      | none => none
    | some (.slice e), x, .int _ i => match fzOf x, sizeQ P e with
      | some z, some n => if z.sz = n ∧ 0 ≤ i ∧ i < z.n then some (.val (mkFp (i.toNat * n) z.cells) st) else none
      | _, _ => none
    | _, _, _ => none

noncomputable def a_index (P : Program) (o : Oper) (t : TypeId) (x ix : Operand) (ρ : Operand → Value) (st : St) : Option Out :=
  match undQ P t, ρ x, ρ ix with
    | some (.array len e), .agg cs, .int _ i => match sizeQ P e with
      | some n => if 0 ≤ i ∧ i < len then match partOf P e cs.toList (i.toNat * n) with
          | some v => some (.val v st)
          | none => none
        else none
      | none => none
    | some .string, .string s, .int _ i => if 0 ≤ i then match s[i.toNat]? with
        | some b => some (.val (.int .u8 b.toNat) st)
        | none => none
      else none
    | _, _, _ => none

noncomputable def a_lookup (P : Program) (o : Oper) (t : TypeId) (x k : Operand) (ok : Bool) (ρ : Operand → Value) (st : St) : Option Out :=
  match undQ P t with
    | some (.map kt e) => match zeroQ P e with
      | some z =>
        let es : Option (List MapEntry) := match ρ x with
          | .map none => some []
          | .map (some r) => match st.heap.get r with
            | some (.map es _) => some es
            | _ => none
          | _ => none
        match es with
        | some es => match findS P es.isEmpty kt (ρ k) es with
          | some (some (_, v)) => some (.val (if ok then .tuple #[v, .bool true] else v) st)
          | some none => some (.val (if ok then .tuple #[z, .bool false] else z) st)
          | none => none
        | none => none
      | _ => none
    | _ => none

noncomputable def a_mapUpdate (P : Program) (o : Oper) (t : TypeId) (m k x : Operand) (ρ : Operand → Value) (st : St) : Option Out :=
  (mapPut P st t (ρ m) (ρ k) (ρ x)).map Out.skip

noncomputable def a_mapEntry (P : Program) (o : Oper) (t : TypeId) (m k : Operand) (ρ : Operand → Value) (st : St) : Option Out :=
  match undQ P t, ρ m with
    | some (.map kt e), .map (some r) => match st.heap.get r, zeroQ P e with
      | some (.map es clock), some z => match findS P false kt (ρ k) es with
        | some (some (i, v)) => some (.val (.tuple #[v, .int .i64 (((es[i]?).map (·.born)).getD 0)]) { st with heap := st.heap.set r (.map (es.modify i fun e => { e with key := ρ k }) clock) })
        | some none => some (.val (.tuple #[z, .int .i64 clock]) { st with heap := st.heap.set r (.map (es ++ [{ key := ρ k, val := z, born := clock }]) (clock + 1)) })
        | none => none
      | _, _ => none
    | _, _ => none

noncomputable def a_entryStore (P : Program) (o : Oper) (m s x : Operand) (ρ : Operand → Value) (st : St) : Option Out :=
  match ρ m, ρ s with
    | .map (some r), .int _ born => match st.heap.get r with
      | some (.map es clock) => match es.findIdx? (fun e => (e.born : Int) == born) with
        | some i => some (.skip { st with heap := st.heap.set r (.map (es.modify i fun e => { e with val := ρ x }) clock) })
        | none => none
      | _ => none
    | _, _ => none

noncomputable def a_range (P : Program) (o : Oper) (t : TypeId) (x : Operand) (ρ : Operand → Value) (st : St) : Option Out :=
  match undQ P t, ρ x with
    | some .string, .string s => let (i, st) := st.new (.siter s 0); some (.val (.pointer (some ⟨i, 0, none⟩)) st)
    | some (.map _ _), .map none => let (i, st) := st.new (.miter none 0 [] 0); some (.val (.pointer (some ⟨i, 0, none⟩)) st)
    | some (.map _ _), .map (some m) => match st.heap.get m with
      | some (.map _ clock) => let (i, st) := st.new (.miter (some m) clock [] clock); some (.val (.pointer (some ⟨i, 0, none⟩)) st)
      | _ => none
    | _, _ => none

noncomputable def a_nextT (P : Program) (o : Oper) (it : Operand) (ρ : Operand → Value) (st : St) : Option Out :=
  match ρ it with
    | .pointer (some ⟨r, 0, _⟩) => match st.heap.get r with
      | some (.siter s pos) => if pos < s.size then
          some (.val (.tuple #[.bool true, .int .i64 pos, .int .i32 (Utf8.decode s pos).1]) { st with heap := st.heap.set r (.siter s (pos + (Utf8.decode s pos).2)) })
        else some (.val (.tuple #[.bool false]) st)
      | _ => none
    | _ => none

noncomputable def a_nextF (P : Program) (o : Oper) (it : Operand) (ρ : Operand → Value) (st : St) : Option Out :=
  match ρ it with
    | .pointer (some ⟨r, 0, _⟩) => match st.heap.get r with
      | some (.miter none _ _ _) => some (.val (.tuple #[.bool false]) st)
      | some (.miter (some m) since seen last) => match st.heap.get m with
        | some (.map es clock) =>
          if !seen.isEmpty && !es.isEmpty && es.all (fun e => decide (e.born ≥ last)) then none else
          let left := es.filter fun e => !seen.contains e.born
          let old := left.filter fun e => decide (e.born < since)
          let new := left.filter fun e => decide (e.born ≥ since)
          match old, new with
          | [], [] => some (.val (.tuple #[.bool false]) st)
          | [e], [] => some (.val (.tuple #[.bool true, e.key, e.val]) { st with heap := st.heap.set r (.miter (some m) since (seen ++ [e.born]) clock) })
          | _, _ => none
        | _ => none
      | _ => none
    | _ => none

noncomputable def a_entry (P : Program) (o : Oper) (it : Operand) (ρ : Operand → Value) (st : St) : Option Out :=
  match ρ it with
    | .pointer (some ⟨r, 0, _⟩) => match st.heap.get r with
      | some (.miter (some m) _ seen stepped) => match seen.getLast?, st.heap.get m with
        | some stamp, some (.map es clock) => if clock ≠ stepped then none else match es.find? (fun e => e.born == stamp) with
          | some e => some (.val (.tuple #[e.key, e.val]) st)
          | none => none
        | _, _ => none
      | _ => none
    | _ => none

noncomputable def a_typeAssert (P : Program) (o : Oper) (x : Operand) (asserted : TypeId) (ok : Bool) (ρ : Operand → Value) (st : St) : Option Out :=
  match undQ P asserted, ρ x with
    | some (.interface want), .iface t v => if FZ ≤ t then none else match infoQ P t with
      | some i => match Instr.missingMethod want i.methods with
        | none => some (.val (if ok then .tuple #[.iface t v, .bool true] else .iface t v) st)
        | some _ => if ok then none else none
      | none => none
    | some (.interface _), .nilIface => if ok then none else none
    | some _, .nilIface => if ok then match zeroQ P asserted with
        | some z => some (.val (.tuple #[z, .bool false]) st)
        | none => none
      else none
    | some _, .iface t v => if FZ ≤ t then none else if t = asserted then some (.val (if ok then .tuple #[v, .bool true] else v) st)
      else if ok then match zeroQ P asserted with
        | some z => some (.val (.tuple #[z, .bool false]) st)
        | none => none
      else none
    | _, _ => none

noncomputable def a_extract (P : Program) (o : Oper) (t : Operand) (i : Nat) (ρ : Operand → Value) (st : St) : Option Out :=
  match ρ t with
    | .tuple vs => match vs[i]? with
      | some v => some (.val v st)
      | none => none
    | _ => none

noncomputable def a_call (P : Program) (o : Oper) (c : Call) (ρ : Operand → Value) (st : St) : Option Out :=
  match c.callee with
    | .builtin b => builtinS P b c.argTypes o.type (c.args.map constB) (c.args.toList.map ρ) st
    | .invoke r name => invokeV P (.fn (.method name) #[]) (ρ r :: c.args.toList.map ρ) st
    | .value f => match ρ f with
      | .func fn first captured => invokeV P (.fn fn captured) (first.toList ++ c.args.toList.map ρ) st
      | _ => none

noncomputable def a_defer (P : Program) (o : Oper) (c : Call) (ρ : Operand → Value) (st : St) : Option Out :=
  match c.callee with
    | .builtin _ => none
    | .invoke r name => some (.defer { target := .fn (.method name) #[], args := ⟨ρ r :: c.args.toList.map ρ⟩ } st)
    | .value f => match ρ f with
      | .func fn first captured => some (.defer { target := .fn fn captured, args := ⟨first.toList ++ c.args.toList.map ρ⟩ } st)
      | _ => none


noncomputable def compA (P : Program) (o : Oper) : OutFn := match o.op with
  | .move x => ⟨a_move P o x⟩
  | .assign x => ⟨a_move P o x⟩
  | .pick c a b => ⟨a_pick P o c a b⟩
  | .alloc e => ⟨a_alloc P o e⟩
  | .box e x => ⟨a_box P o e x⟩
  | .build t parts => ⟨a_build P o t parts⟩
  | .buildSlice t len parts => ⟨a_buildSlice P o t len parts⟩
  | .load t x => ⟨a_load P o t x⟩
  | .store t x v => ⟨a_store P o t x v⟩
  | .nilCheck x => ⟨a_nilCheck P o x⟩
  | .binOp op t x y _ => ⟨a_binOp P o op t x y⟩
  | .unOp op _ x => ⟨a_unOp P o op x⟩
  | .convert s d x => ⟨a_convert P o s d x⟩
  | .makeInterface t x => ⟨a_makeInterface P o t x⟩
  | .makeFunc fn first captured => ⟨a_makeFunc P o fn first captured⟩
  | .makeMap t r => ⟨a_makeMap P o t r⟩
  | .makeSlice t l c => ⟨a_makeSlice P o t l c⟩
  | .slice t x lo hi mx => ⟨a_slice P o t x lo hi mx⟩
  | .fieldAddr t x i => ⟨a_fieldAddr P o t x i⟩
  | .field t x i => ⟨a_field P o t x i⟩
  | .indexAddr t x ix => ⟨a_indexAddr P o t x ix⟩
  | .index t x ix => ⟨a_index P o t x ix⟩
  | .lookup t x k ok => ⟨a_lookup P o t x k ok⟩
  | .mapUpdate t m k x => ⟨a_mapUpdate P o t m k x⟩
  | .insert t m k x => ⟨a_mapUpdate P o t m k x⟩
  | .mapEntry t m k => ⟨a_mapEntry P o t m k⟩
  | .entryStore _ m s x => ⟨a_entryStore P o m s x⟩
  | .range t x => ⟨a_range P o t x⟩
  | .next it true => ⟨a_nextT P o it⟩
  | .next it false => ⟨a_nextF P o it⟩
  | .entry it => ⟨a_entry P o it⟩
  | .typeAssert x _ asserted ok => ⟨a_typeAssert P o x asserted ok⟩
  | .extract t i => ⟨a_extract P o t i⟩
  | .call c => ⟨a_call P o c⟩
  | .defer c => ⟨a_defer P o c⟩
  | _ => ⟨fun _ _ => none⟩
noncomputable def evOpA (P : Program) (ρ : Operand → Value) (o : Oper) (st : St) : Option Out := (compA P o).run ρ st

abbrev CallK := FuncId → List Value → St → (Value → St → Res) → Res
abbrev RoundK := Nat → List Value → St → (Value → St → Res) → Res
/-- What calls and rounds come to. -/
structure Knot where
  call : CallK
  rnd : RoundK
abbrev OpT := Knot → Trie Value → St → (Value → St → Res) → (Deferred → St → Res) → Res
structure OpFn where
  run : OpT

abbrev NatF := IntKind → Nat → Nat → (Value → Res) → Res → Res
noncomputable def n_add : NatF := fun kx m n k slow => @Bool.rec (fun _ => Res) slow (k (.int kx (.ofNat (Nat.add m n)))) (Nat.ble (Nat.add m n) (maxN kx))
noncomputable def n_sub : NatF := fun kx m n k slow => @Bool.rec (fun _ => Res) slow (@Bool.rec (fun _ => Res) slow (k (.int kx (.ofNat (Nat.sub m n)))) (Nat.ble m (maxN kx))) (Nat.ble n m)
noncomputable def n_eql : NatF := fun _ m n k _ => k (.bool (Nat.beq m n))
noncomputable def n_neq : NatF := fun _ m n k _ => k (.bool (@Bool.rec (fun _ => Bool) true false (Nat.beq m n)))
noncomputable def n_lss : NatF := fun _ m n k _ => k (.bool (Nat.ble (Nat.add m 1) n))
noncomputable def n_leq : NatF := fun _ m n k _ => k (.bool (Nat.ble m n))
noncomputable def n_gtr : NatF := fun _ m n k _ => k (.bool (Nat.ble (Nat.add n 1) m))
noncomputable def n_geq : NatF := fun _ m n k _ => k (.bool (Nat.ble n m))
noncomputable def natFn (op : BinOp) : Option NatF := match op with
  | .add => some n_add
  | .sub => some n_sub
  | .eql => some n_eql
  | .neq => some n_neq
  | .lss => some n_lss
  | .leq => some n_leq
  | .gtr => some n_gtr
  | .geq => some n_geq
  | _ => none

noncomputable def binF (f : NatF) (x y : Value) (k : Value → Res) (slow : Res) : Res := match x with
  | .int kx a => match y with
    | .int ky b => @Int.rec (fun _ => Res) (fun m => @Int.rec (fun _ => Res) (fun n => @Bool.rec (fun _ => Res) slow (f kx m n k slow) (Nat.beq (kindNo kx) (kindNo ky))) (fun _ => slow) b) (fun _ => slow) a
    | _ => slow
  | _ => slow

noncomputable def handF (kn : Knot) (kv : Value → St → Res) (kd : Deferred → St → Res) (x : Option Out) : Res := match x with
  | some (.val v st) => kv v st
  | some (.skip st) => kv undef st
  | some (.enter g args st) => kn.call g args st kv
  | some (.defer d st) => kd d st
  | some (.round l args st) => kn.rnd l args st kv
  | none => none

/-- An operation by the plain evaluator. -/
noncomputable def q_slow (o : Oper) : OpT := fun call s st kv kd => handF call kv kd (evOpA P (rdF s) o st)
noncomputable def q_none : OpT := fun _ _ _ _ _ => none
noncomputable def q_move (x : Operand) : OpT := fun _ s st kv _ => kv (rdF s x) st
noncomputable def q_pick (c a b : Operand) : OpT := fun _ s st kv _ => match rdF s c with
  | .bool t => kv (@Bool.rec (fun _ => Value) (rdF s b) (rdF s a) t) st
  | _ => none

/-- A new block. -/
noncomputable def newF (st : St) (b : Blk) (k : Addr → St → Res) : Res :=
  @St.rec (fun _ => Res) (fun heap next => k ⟨next, 0, none⟩ (St.mk (setP (path next) heap b) (Nat.add next 1))) st
noncomputable def q_alloc (e : TypeId) (z : List Value) : OpT := fun _ _ st kv _ => newF st (.cells z e true) fun a st => kv (.pointer (some a)) st
noncomputable def q_box (o : Oper) (e : TypeId) (x : Operand) : OpT := fun call s st kv kd => match rdF s x with
  | .agg cs => newF st (.cells cs.toList e true) fun a st => kv (.pointer (some a)) st
  | .chan (some _) => q_slow P o call s st kv kd
  | v => newF st (.cells [v] e true) fun a st => kv (.pointer (some a)) st
noncomputable def q_load1 (x : Operand) : OpT := fun _ s st kv _ => match rdF s x with
  | .pointer (some a) => cellsF st a fun b off c _ _ _ _ => match nthF c off with
    | some v => kv v st
    | none => none
  | _ => none
noncomputable def q_loadN (n : Nat) (x : Operand) : OpT := fun _ s st kv _ => match rdF s x with
  | .pointer (some a) => cellsF st a fun b off c _ _ _ _ => @Bool.rec (fun _ => Res) none (kv (.agg ⟨(c.drop off).take n⟩) st) (Nat.ble (Nat.add off n) c.length)
  | _ => none
noncomputable def q_store (t : TypeId) (x v : Operand) : OpT := fun _ s st kv _ => match rdF s x with
  | .pointer (some a) => storeF P st t a (rdF s v) fun st => kv undef st
  | _ => none
noncomputable def q_nilCheck (o : Oper) (x : Operand) : OpT := fun call s st kv kd => match rdF s x with
  | .pointer (some a) => kv (.pointer (some a)) st
  | _ => q_slow P o call s st kv kd
noncomputable def q_bin (o : Oper) (f : NatF) (x y : Operand) : OpT := fun call s st kv kd => binF f (rdF s x) (rdF s y) (fun v => kv v st) (q_slow P o call s st kv kd)
noncomputable def q_iface (t : TypeId) (x : Operand) : OpT := fun _ s st kv _ => kv (.iface t (rdF s x)) st
noncomputable def q_fieldAddr (n : Nat) (x : Operand) : OpT := fun _ s st kv _ => match rdF s x with
  | .pointer (some a) => kv (.pointer (some (@Addr.rec (fun _ => Addr) (fun b off spot => addA b off n spot) a))) st
  | _ => none
noncomputable def q_field1 (n : Nat) (x : Operand) : OpT := fun _ s st kv _ => match rdF s x with
  | .agg cs => match nthF cs.toList n with
    | some v => kv v st
    | none => none
  | _ => none
noncomputable def q_fieldN (k n : Nat) (x : Operand) : OpT := fun _ s st kv _ => match rdF s x with
  | .agg cs => @Bool.rec (fun _ => Res) none (kv (.agg ⟨(cs.toList.drop k).take n⟩) st) (Nat.ble (Nat.add k n) cs.toList.length)
  | _ => none
noncomputable def q_indexAddr (n : Nat) (x ix : Operand) : OpT := fun _ s st kv _ => match rdF s x with
  | .slice (some a) len _ => match rdF s ix with
    | .int _ (.ofNat i) => @Bool.rec (fun _ => Res) none (kv (.pointer (some (@Addr.rec (fun _ => Addr) (fun b off spot => addA b off (Nat.mul i n) spot) a))) st) (Nat.ble (Nat.add i 1) len)
    | _ => none
  | _ => none
noncomputable def q_extract (t : Operand) (i : Nat) : OpT := fun _ s st kv _ => match rdF s t with
  | .tuple vs => match nthF vs.toList i with
    | some v => kv v st
    | none => none
  | _ => none
noncomputable def mapF (s : Trie Value) (l : List Operand) : List Value := @List.rec Operand (fun _ => List Value) [] (fun x _ ih => rdF s x :: ih) l
noncomputable def q_call (g : FuncId) (l : List Operand) : OpT := fun kn s st kv _ => kn.call g (mapF s l) st kv
noncomputable def q_len1 (o : Oper) (x : Operand) : OpT := fun call s st kv kd => match rdF s x with
  | .slice _ n _ => kv (.int .i64 n) st
  | _ => q_slow P o call s st kv kd
noncomputable def q_len2 (o : Oper) (x : Operand) : OpT := fun call s st kv kd => match rdF s x with
  | .string b => kv (.int .i64 b.size) st
  | _ => q_slow P o call s st kv kd

noncomputable def compC (o : Oper) (c : Call) : OpFn := match c.callee with
  | .value (.func g) => match hasBody P g with
    | true => ⟨q_call g c.args.toList⟩
    | false => ⟨q_slow P o⟩
  | .builtin .len => match c.args.toList with
    | [x] => match lenK P c.argTypes with
      | 1 => ⟨q_len1 P o x⟩
      | 2 => ⟨q_len2 P o x⟩
      | _ => ⟨q_slow P o⟩
    | _ => ⟨q_slow P o⟩
  | _ => ⟨q_slow P o⟩

noncomputable def compO (o : Oper) : OpFn := match o.op with
  | .move x => ⟨q_move x⟩
  | .assign x => ⟨q_move x⟩
  | .pick c a b => ⟨q_pick c a b⟩
  | .alloc e => match zeroC P e with
    | some z => ⟨q_alloc e z⟩
    | none => ⟨q_none⟩
  | .box e x => ⟨q_box P o e x⟩
  | .load t x => match loadK P t with
    | none => ⟨q_none⟩
    | some none => ⟨q_load1 x⟩
    | some (some n) => ⟨q_loadN n x⟩
  | .store t x v => ⟨q_store P t x v⟩
  | .nilCheck x => ⟨q_nilCheck P o x⟩
  | .binOp op _ x y _ => match natFn op with
    | some f => ⟨q_bin P o f x y⟩
    | none => ⟨q_slow P o⟩
  | .makeInterface t x => match isIfc P t with
    | some false => match Nat.ble (t + 1) FZ with
      | true => ⟨q_iface t x⟩
      | false => ⟨q_none⟩
    | _ => ⟨q_none⟩
  | .fieldAddr t x i => match faOff P t i with
    | none => ⟨q_none⟩
    | some n => ⟨q_fieldAddr n x⟩
  | .field t x i => match fldK P t i with
    | none => ⟨q_none⟩
    | some (k, none) => ⟨q_field1 k x⟩
    | some (k, some n) => ⟨q_fieldN k n x⟩
  | .indexAddr t x ix => match sliceElem P t with
    | none => ⟨q_slow P o⟩
    | some n => ⟨q_indexAddr n x ix⟩
  | .extract t i => ⟨q_extract t i⟩
  | .call c => compC P o c
  | _ => ⟨q_slow P o⟩

noncomputable def guardF (ops : Array Oper) (s : Trie Value) (o : Oper) (yes no : Trie Value → Res) : Res := match o.guard with
  | none => yes s
  | some g => match dstOf ops g.1 with
    | none => no s
    | some d => match slotF s d with
      | .bool b => @Bool.rec (fun _ => Res) (@Bool.rec (fun _ => Res) (yes (setP (path d) s (.bool false))) (no (setP (path d) s (.bool false))) g.2) (@Bool.rec (fun _ => Res) (no (setP (path d) s (.bool true))) (yes (setP (path d) s (.bool true))) g.2) b
      | .tuple _ => no s
      | _ => none

/-- How operations, and regions whose order is drawn, are carried out. -/
structure Eng where
  comp : Oper → OpFn
  draw : Knot → Array Oper → Nat → Option Nat → Trie Value → List Deferred → St → (Trie Value → List Deferred → St → Res) → Res

noncomputable def opsF (E : Eng) (kn : Knot) (nt : Nat) (ro : Option Nat) (ops : Array Oper) (os : List Oper) : Trie Value → List Deferred → St → (Trie Value → List Deferred → St → Res) → Res :=
  @List.rec Oper (fun _ => Trie Value → List Deferred → St → (Trie Value → List Deferred → St → Res) → Res) (fun s d st k => k s d st)
    (fun o _ ih s d st k => guardF ops s o
      (fun s => (E.comp o).run kn s st (fun v st => putS nt o.dst v s fun s => ih s d st k) (fun df st => @Option.rec Nat (fun _ => Res) (putS nt o.dst undef s fun s => ih s (df :: d) st k) (fun _ => none) ro))
      (fun s => putS nt o.dst undef s fun s => ih s d st k)) os

def outF (kn : Knot) : Out → Res
  | .val v st => some (v, st)
  | .skip st => some (undef, st)
  | .enter g args st => kn.call g args st fun v st => some (v, st)
  | .round l args st => kn.rnd l args st fun v st => some (v, st)
  | _ => none

/-! ### regions whose order is drawn -/
noncomputable def bitN (b j : Nat) : Bool := Nat.beq (Nat.land (Nat.shiftRight b j) 1) 1

noncomputable def foldE (T : Trie Nat) (es : List Edge) : Nat → Nat :=
  @List.rec Edge (fun _ => Nat → Nat) (fun s => s) (fun e _ ih s => ih (@Bool.rec (fun _ => Nat) s (Nat.lor (Nat.lor s (Nat.pow 2 e.on)) (@Option.rec Nat (fun _ => Nat) 0 (fun b => b) (getP (path e.on) T))) (Region.binds .any e))) es
noncomputable def bitsQ (os : List Oper) : Nat → Trie Nat → List Nat :=
  @List.rec Oper (fun _ => Nat → Trie Nat → List Nat) (fun _ _ => []) (fun o _ ih n T => foldE T o.after.toList 0 :: ih (Nat.add n 1) (setP (path n) T (foldE T o.after.toList 0))) os

noncomputable def writersQ (os : List Oper) : Nat → Trie Nat → Option (Trie Nat) :=
  @List.rec Oper (fun _ => Nat → Trie Nat → Option (Trie Nat)) (fun _ T => some T)
    (fun o _ ih i T => @Option.rec Tmp (fun _ => Option (Trie Nat)) (ih (Nat.add i 1) T) (fun d => @Option.rec Nat (fun _ => Option (Trie Nat)) (ih (Nat.add i 1) (setP (path d) T i)) (fun _ => none) (getP (path d) T)) o.dst) os

noncomputable def tmpQ (bs : List Nat) (W : Trie Nat) (b i : Nat) (ts : List Tmp) : Bool :=
  @List.rec Tmp (fun _ => Bool) true (fun t _ ih => @Bool.rec (fun _ => Bool) false ih (@Option.rec Nat (fun _ => Bool) true (fun j => @Bool.rec (fun _ => Bool) (@Bool.rec (fun _ => Bool) (bitN (bs.getD j 0) i) (bitN b j) (Nat.ble (Nat.add j 1) i)) true (Nat.beq j i)) (getP (path t) W))) ts
noncomputable def tmpsQ (ops : Array Oper) (bs : List Nat) (W : Trie Nat) (os : List Oper) : Nat → List Nat → Bool :=
  @List.rec Oper (fun _ => Nat → List Nat → Bool) (fun _ _ => true)
    (fun o _ ih i l => @List.rec Nat (fun _ => Bool) false (fun b l' _ => @Bool.rec (fun _ => Bool) false (ih (Nat.add i 1) l') (tmpQ bs W b i (tmpsOf ops o))) l) os

noncomputable def rdQ (f : Fr) : Operand → Value := rdF f.slots

noncomputable def drawQ (P : Program) (out : Out → Option (Value × St)) (ops : Array Oper) (s : Trie Value) (nt : Nat) (d : List Deferred) (ro : Option Nat) (st : St) : Option (Fr × St) :=
  if !P.follows .mixedOrders then none else
  let os := ops.toList
  let bs := bitsQ os 0 .leaf
  let cs := chainsL P os 0
  match writersQ os 0 .leaf with
  | none => drawRegion P out ops ⟨s, nt, d, ro⟩ st
  | some W =>
  if !(edgesOk os 0 && tmpsQ ops bs W os 0 bs && chainOk bs cs) then none else
  match drawPass P (evOpA P) rdQ out ops bs st.next os 0 ⟨s, nt, d, ro⟩ { st with next := st.next + ops.size } 0 [] 0 with
  | none => none
  | some recs => match recs.getLast? with
    | none => none
    | some r =>
      if quietOk P (evOpA P) rdQ ops bs cs ((0, { st with next := st.next + ops.size }) :: repsL P os recs 0) os recs 0 then
        some (r.f, wake st.next (fun j => !r.m.testBit j) r.pend r.st)
      else none

abbrev CodeK := Trie Value → List Deferred → St → (Ex → Trie Value → List Deferred → St → Res) → Res

noncomputable def loopF (body : CodeK) (n : Nat) : CodeK :=
  @Nat.rec (fun _ => CodeK) (fun _ _ _ _ => none) (fun _ again s d st k => body s d st fun e s d st => @Ex.rec (fun _ => Res) (again s d st k) (fun id => k (.exit id) s d st) (k .ret s d st) e) n

noncomputable def rangeQ (kn : Knot) (fid nt : Nat) (ro : Option Nat) (f : Operand) (ps : Array Tmp) (a b : Code) : CodeK := fun s d st k =>
  match enterA fid { slots := s, ntmps := nt, defers := d, roundOf := ro } st ps a b with
  | none => none
  | some x => match rdF x.2.1.slots f with
    | .func fn first captured => match invokeV P (.fn fn captured) (first.toList ++ [.func (.yield x.1) #[] #[]]) x.2.2 with
      | some (.enter f' args st) => kn.call f' args st fun _ st => match endA st x.1 with
        | some (none, st) => k .normal x.2.1.slots x.2.1.defers st
        | some (some (.exit id), st) => k (.exit id) x.2.1.slots x.2.1.defers st
        | some (some .ret, st) => k .ret x.2.1.slots x.2.1.defers st
        | _ => none
      | _ => none
    | _ => none

noncomputable def drawE (kn : Knot) (ops : Array Oper) (nt : Nat) (ro : Option Nat) (s : Trie Value) (d : List Deferred) (st : St) (k : Trie Value → List Deferred → St → Res) : Res :=
  match drawQ P (outF kn) ops s nt d ro st with
  | some r => k r.1.slots r.1.defers r.2
  | none => none
/-- The engine for closed runs. -/
noncomputable def engQ : Eng := ⟨compO P, drawE P⟩

noncomputable def codeQ (E : Eng) (ct : Ct) (n0 : Nat) (kn : Knot) (fid nt : Nat) (ro : Option Nat) (c : Code) : CodeK :=
  @Code.rec (fun _ => CodeK)
    (fun s d st k => k .normal s d st)
    (fun _ ops draw s d st k => @Bool.rec (fun _ => Res) (opsF E kn nt ro ops ops.toList s d st fun s d st => k .normal s d st)
      (E.draw kn ops nt ro s d st fun s d st => k .normal s d st) draw)
    (fun _ _ iha ihb s d st k => iha s d st fun e s d st => @Ex.rec (fun _ => Res) (ihb s d st k) (fun id => k (.exit id) s d st) (k .ret s d st) e)
    (fun c _ _ iha ihb s d st k => match rdF s c with
      | .bool t => @Bool.rec (fun _ => Res) (ihb s d st k) (iha s d st k) t
      | _ => none)
    (fun id _ ih s d st k => match ct.loop fid id ⟨s, nt, d, ro⟩ st with
      | some t => t.run fun r => k r.1 r.2.1 d r.2.2
      | none => ih s d st fun e s d st => @Ex.rec (fun _ => Res) (k .normal s d st) (fun id' => @Bool.rec (fun _ => Res) (k (.exit id') s d st) (k .normal s d st) (Nat.beq id' id)) (k .ret s d st) e)
    (fun _ ih => loopF ih n0)
    (fun f ps a b _ _ => rangeQ P kn fid nt ro f ps a b)
    (fun id s d st k => k (.exit id) s d st)
    (fun _ ih => ih)
    (fun _ s d st k => k .normal s d st)
    (fun _ _ _ _ _ => none)
    (fun s d st k => k .ret s d st)
    (fun _ _ _ _ _ => none) c

noncomputable def argF (args : List Value) : Nat → Trie Value → Trie Value :=
  @List.rec Value (fun _ => Nat → Trie Value → Trie Value) (fun _ t => t) (fun v _ ih i t => ih (Nat.add i 1) (setP (path i) t v)) args

noncomputable def resF (s : Trie Value) (st : St) (rs : List ResultVar) : (List Value → Res) → Res :=
  @List.rec ResultVar (fun _ => (List Value → Res) → Res) (fun k => k [])
    (fun r _ ih k => @ResultVar.rec (fun _ => Res) (fun t => ih fun vs => k (slotF s t :: vs)) (fun a t => match getP (path a) s with
      | some (.pointer (some a)) => loadF P st t a fun v => ih fun vs => k (v :: vs)
      | _ => none) r) rs

/-- Deferred calls, the last one first. -/
noncomputable def deferF (ct : Ct) (kn : Knot) (ds : List Deferred) : St → (St → Res) → Res :=
  @List.rec Deferred (fun _ => St → (St → Res) → Res) (fun st k => k st)
    (fun d _ ih st k => match d.target with
      | .collected i => match getP (path i) st.heap with
        | some .deferred => ih (kill st i) k
        | _ => none
      | t => match invokeV P t d.args.toList st with
        | some (.enter g args st) => match ct.call g args st with
          | some _ => none
          | none => kn.call g args st fun _ st => ih st k
        | _ => none) ds

noncomputable def finF (ct : Ct) (kn : Knot) (rs : List ResultVar) (k : Value → St → Res) (s : Trie Value) (d : List Deferred) (st : St) : Res :=
  deferF P ct kn d st fun st => resF P s st rs fun vs => k (resultOf vs) st

noncomputable def callB (E : Eng) (ct : Ct) (n0 : Nat) (kn : Knot) : CallK := fun g args st k => match ct.call g args st with
  | some t => t.run fun r => k r.1 r.2
  | none => match bodyOf P g with
    | none => none
    | some fb => codeQ P E ct n0 kn g (max fb.1.ntmps args.length) none fb.2 (argF args 0 .leaf) [] st fun e s d st =>
        @Ex.rec (fun _ => Res) (finF P ct kn fb.1.results.toList k s d st) (fun _ => none) (finF P ct kn fb.1.results.toList k s d st) e

noncomputable def roundEnd (l : Nat) (k : Value → St → Res) (e : Ex) (d : List Deferred) (st : St) : Res := match d with
  | [] => match roundEndA st l (codeOfEx e) with
    | some st => k (.bool (codeOfEx e).isNone) st
    | none => none
  | _ => none

noncomputable def roundB (E : Eng) (ct : Ct) (n0 : Nat) (kn : Knot) : RoundK := fun l args st k => match getP (path l) st.heap with
  | some (.loop r) =>
    if args.length ≠ r.params.size || r.state ≠ .ready then none else
    match putAll r.ntmps (r.params.toList.zip args) r.slots with
    | none => none
    | some slots => codeQ P E ct n0 kn r.fn r.ntmps (some l) r.assign slots [] st fun e s d st => match e with
      | .normal => match beginA st l with
        | none => none
        | some st => codeQ P E ct n0 kn r.fn r.ntmps (some l) r.body s d st fun e _ d st => roundEnd l k e d st
      | _ => none
  | _ => none

noncomputable def knotQ (E : Eng) (ct : Ct) (n0 : Nat) (n : Nat) : Knot :=
  @Nat.rec (fun _ => Knot) ⟨fun _ _ _ _ => none, fun _ _ _ _ => none⟩ (fun _ ih => ⟨callB P E ct n0 ih, roundB P E ct n0 ih⟩) n
end
end Go.VS
