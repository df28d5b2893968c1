/- Operations on values of unknown content, so written that the kernel comes to a tree of cases. No conditions. -/
import Derived.Test.YtdhloodnajdfbaaGreatVsKnown
import Derived.Test.YtdhloodnajdfbaaGreatVsDrawM
namespace Go.VS
set_option linter.unusedSimpArgs false
set_option linter.unusedVariables false

/-! ### what a value is, by its kind -/
def asI : Value → Int
  | .int _ n => n
  | _ => 0
def asS : Value → ByteArray
  | .string s => s
  | _ => .empty
def asB : Value → Bool
  | .bool b => b
  | _ => false
def zN (v : Value) : Nat := match fzOf v with
  | some z => z.n
  | none => 0
def zB (v : Value) : Nat := match fzOf v with
  | some z => z.cap
  | none => 0
def zC (v : Value) : List Value := match fzOf v with
  | some z => z.cells
  | none => []
def isI (k : IntKind) : Value → Bool
  | .int k' _ => decide (k' = k)
  | _ => false
def isS : Value → Bool
  | .string _ => true
  | _ => false
def isB : Value → Bool
  | .bool _ => true
  | _ => false
def isZ (sz : Nat) (v : Value) : Bool := match fzOf v with
  | some z => Nat.beq z.sz sz
  | none => false
def nthD (c : List Value) (n : Nat) : Value := c.getD n undef
/-- The byte of a text at a place. -/
def bAt (s : ByteArray) (i : Int) : Int := ((s.data.toList.getD i.toNat 0).toNat : Int)
def byteOf : Value → UInt8
  | .int .u8 n => UInt8.ofNat n.toNat
  | _ => 0
def isByte : Value → Bool
  | .int .u8 _ => true
  | _ => false
def bytesT (c : List Value) : ByteArray := ⟨⟨c.map byteOf⟩⟩
def allBytes (c : List Value) : Bool := c.all isByte

theorem bytesOf_all : ∀ {c : List Value}, allBytes c = true → bytesOf c = some (c.map byteOf)
  | [], _ => rfl
  | v :: c, h => by
    simp only [allBytes, List.all_cons, Bool.and_eq_true] at h
    have ih := bytesOf_all (c := c) h.2
    unfold isByte at h
    split at h
    · simp only [bytesOf, ih, List.map_cons, byteOf]
    · cases h.1

/-! ### what is reckoned, by name -/
def addI (k : IntKind) (x y : Int) : Int := k.wrap (x + y)
def subI (k : IntKind) (x y : Int) : Int := k.wrap (x - y)
def mulI (k : IntKind) (x y : Int) : Int := k.wrap (x * y)
def quoI (k : IntKind) (x y : Int) : Int := k.wrap (x.tdiv y)
def remI (x y : Int) : Int := x.tmod y
def shlI (k : IntKind) (x y : Int) : Int := k.wrap (x * 2 ^ (min y.toNat k.bits))
def shrI (k : IntKind) (x y : Int) : Int := x.fdiv (2 ^ (min y.toNat k.bits))
def andI (k : IntKind) (x y : Int) : Int := k.wrap (BitVec.ofInt k.bits x &&& BitVec.ofInt k.bits y).toNat
def orI (k : IntKind) (x y : Int) : Int := k.wrap (BitVec.ofInt k.bits x ||| BitVec.ofInt k.bits y).toNat
def xorI (k : IntKind) (x y : Int) : Int := k.wrap (BitVec.ofInt k.bits x ^^^ BitVec.ofInt k.bits y).toNat
def clrI (k : IntKind) (x y : Int) : Int := k.wrap (BitVec.ofInt k.bits x &&& ~~~BitVec.ofInt k.bits y).toNat
def eqI (x y : Int) : Bool := x == y
def neI (x y : Int) : Bool := x != y
def ltI (x y : Int) : Bool := decide (x < y)
def leI (x y : Int) : Bool := decide (x ≤ y)
def gtI (x y : Int) : Bool := decide (x > y)
def geI (x y : Int) : Bool := decide (x ≥ y)
def eqS (a b : ByteArray) : Bool := a.toList == b.toList
def neS (a b : ByteArray) : Bool := !(a.toList == b.toList)
def eqB (a b : Bool) : Bool := a == b
def cvI (k : IntKind) (x : Int) : Int := k.wrap x
def minI (x y : Int) : Int := if y < x then y else x
def maxI (x y : Int) : Int := if y > x then y else x
def ltS (a b : ByteArray) : Bool := Op.bytesLess a.toList b.toList
def leS (a b : ByteArray) : Bool := Op.bytesLess a.toList b.toList || a.toList == b.toList
def gtS (a b : ByteArray) : Bool := !(Op.bytesLess a.toList b.toList || a.toList == b.toList)
def geS (a b : ByteArray) : Bool := !(Op.bytesLess a.toList b.toList)
def catS (a b : ByteArray) : ByteArray := a ++ b
def cutS (b : ByteArray) (l h : Int) : ByteArray := b.extract l.toNat h.toNat
def lenI (n : Nat) : Int := n
def inI (i : Int) (n : Nat) : Bool := decide (0 ≤ i ∧ i < n)
def cutI (l h : Int) (n : Nat) : Bool := decide (0 ≤ l ∧ l ≤ h ∧ h ≤ n)
def posI (i : Int) : Bool := decide (0 ≤ i)
def nonzI (i : Int) : Bool := !decide (i = 0)
def fitS (a b : ByteArray) : Bool := decide ((a.size : Int) + b.size ≤ 9223372036854775807)
def atN (i : Int) (n : Nat) : Nat := i.toNat * n
def lapN (l h : Int) : Nat := h.toNat - l.toNat
def notB (b : Bool) : Bool := !b
def dropC (n : Nat) (c : List Value) : List Value := c.drop n
def takeC (n : Nat) (c : List Value) : List Value := c.take n

noncomputable def addS (a : Addr) (n : Nat) : Addr := @Addr.rec (fun _ => Addr) (fun b off spot => @Option.rec Nat (fun _ => Addr) ⟨b, Nat.add off n, none⟩ (fun s => Addr.add ⟨b, off, some s⟩ n) spot) a
theorem addS_eq (a : Addr) (n : Nat) : addS a n = a.add n := by
  obtain ⟨b, off, spot⟩ := a
  cases spot with
  | none => exact (add_of b off n).symm
  | some s => rfl

section
variable (P : Program)

noncomputable def s_index (x ix : Operand) : OpT := fun _ s st kv _ => match rdF s x with
  | .string b => match rdF s ix with
    | .int _ i => needB (inI i b.size) (kv (.int .u8 (bAt b i)) st)
    | _ => none
  | _ => none

noncomputable def s_indexAddr (n : Nat) (x ix : Operand) : OpT := fun call s st kv kd => match rdF s x with
  | .slice (some a) len _ => match rdF s ix with
    | .int _ i => needB (inI i len) (kv (.pointer (some (addS a (atN i n)))) st)
    | _ => none
  | .iface t v => match fzOf (.iface t v) with
    | some z => match rdF s ix with
      | .int _ i => needB (and (Nat.beq z.sz n) (inI i z.n)) (kv (mkFp (atN i n) z.cells) st)
      | _ => none
    | none => none
  | _ => none

/-- How a cell is seen that nothing is known of but its type. -/
inductive Eta where
  | int (k : IntKind)
  | string
  | bool
  | slice (sz : Nat)
noncomputable def etaOf (t : TypeId) : Option Eta := match undQ P t with
  | some (.int k) => some (.int k)
  | some .string => some .string
  | some .bool => some .bool
  | some (.slice e) => match sizeQ P e with
    | some n => some (.slice n)
    | none => none
  | _ => none
noncomputable def etaV (e : Eta) (v : Value) : Value := match e with
  | .int k => .int k (asI v)
  | .string => .string (asS v)
  | .bool => .bool (asB v)
  | .slice n => mkFz n (zN v) (zB v) (zC v)
noncomputable def etaB (e : Eta) (v : Value) : Bool := match e with
  | .int k => isI k v
  | .string => isS v
  | .bool => isB v
  | .slice n => isZ n v

noncomputable def s_load1 (e : Eta) (x : Operand) : OpT := fun _ s st kv _ => match rdF s x with
  | .pointer (some a) => cellsF st a fun b off c _ ex _ _ => @Bool.rec (fun _ => Res)
      (needB (and (Nat.ble (Nat.add off 1) c.length) (etaB e (nthD c off))) (kv (etaV e (nthD c off)) st))
      (match nthF c off with
        | some v => kv v st
        | none => none) ex
  | .iface t v => match fpOf (.iface t v) with
    | some (off, c) => needB (and (Nat.ble (Nat.add off 1) c.length) (etaB e (nthD c off))) (kv (etaV e (nthD c off)) st)
    | none => none
  | _ => none

noncomputable def intK (s : Trie Value) (o : Option Operand) (d : Int) (k : Int → Res) : Res := match o with
  | none => k d
  | some x => match rdF s x with
    | .int _ i => k i
    | _ => none

def capS (b l : Nat) : Nat := if b = 0 then 0 else b - l

noncomputable def s_sliceS (x : Operand) (lo hi : Option Operand) : OpT := fun _ s st kv _ => match rdF s x with
  | .string b => intK s hi (lenI b.size) fun h => intK s lo 0 fun l => needB (cutI l h b.size) (kv (.string (cutS b l h)) st)
  | _ => none
noncomputable def s_slice (o : Oper) (n : Nat) (x : Operand) (lo hi : Option Operand) : OpT := fun call s st kv kd => match rdF s x with
  | .iface t v => match fzOf (.iface t v) with
    | some z => intK s hi (lenI z.n) fun h => intK s lo 0 fun l => needB (and (Nat.beq z.sz n) (cutI l h z.n))
        (kv (mkFz z.sz (lapN l h) (capS z.cap l.toNat) (takeC (Nat.mul (lapN l h) z.sz) (dropC (atN l z.sz) z.cells))) st)
    | none => none
  | .slice (some a) len cap => @Bool.rec (fun _ => Res) (q_slow P o call s st kv kd)
      (cellsF st a fun b off c e ex _ _ => needB (and (Nat.ble off c.length) (and (Nat.ble 1 n) (Nat.beq n (esz P e))))
        (intK s hi (lenI len) fun h => intK s lo 0 fun l => needB (cutI l h (Nat.div (Nat.sub c.length off) n))
          (@Bool.rec (fun _ => Res) (@Bool.rec (fun _ => Res) (kv (.slice (some a) 0 (Nat.add unk l.toNat)) st) (kv (.slice (some a) 0 unk) st) (Nat.beq l.toNat 0))
            (kv (.slice (some (addS a (atN l n))) (lapN l h) unk) st) (Nat.ble (Nat.add l.toNat 1) (Nat.div (Nat.sub c.length off) n)))))
      (Nat.beq cap unk)
  | _ => q_slow P o call s st kv kd

noncomputable def s_toString (o : Oper) (x : Operand) : OpT := fun call s st kv kd => match rdF s x with
  | .slice (some a) n _ => cellsF st a fun b off c _ _ _ _ => needB (and (Nat.ble (Nat.add off n) c.length) (allBytes (takeC n (dropC off c)))) (kv (.string (bytesT (takeC n (dropC off c)))) st)
  | .iface t v => match fzOf (.iface t v) with
    | some z => needB (and (Nat.beq z.sz 1) (allBytes z.cells)) (kv (.string (bytesT z.cells)) st)
    | none => none
  | _ => q_slow P o call s st kv kd

noncomputable def s_toBytes (e : TypeId) (x : Operand) : OpT := fun _ s st kv _ => match rdF s x with
  | .string b => needB (Nat.ble b.size big) (newF st (.cells (byteCells b) e false) fun a st => kv (.slice (some a) b.size unk) st)
  | _ => none

noncomputable def s_shl (o : Oper) (x y : Operand) : OpT := fun call s st kv kd => match rdF s x, rdF s y with
  | .int k a, .int _ b => needB (posI b) (kv (.int k (shlI k a b)) st)
  | _, _ => q_slow P o call s st kv kd
noncomputable def s_shr (o : Oper) (x y : Operand) : OpT := fun call s st kv kd => match rdF s x, rdF s y with
  | .int k a, .int _ b => needB (posI b) (kv (.int k (shrI k a b)) st)
  | _, _ => q_slow P o call s st kv kd
noncomputable def s_quo (o : Oper) (x y : Operand) : OpT := fun call s st kv kd => match rdF s x, rdF s y with
  | .int k a, .int k' b => needB (and (decide (k = k')) (nonzI b)) (kv (.int k (quoI k a b)) st)
  | _, _ => q_slow P o call s st kv kd
noncomputable def s_rem (o : Oper) (x y : Operand) : OpT := fun call s st kv kd => match rdF s x, rdF s y with
  | .int k a, .int k' b => needB (and (decide (k = k')) (nonzI b)) (kv (.int k (remI a b)) st)
  | _, _ => q_slow P o call s st kv kd
noncomputable def s_add (o : Oper) (x y : Operand) : OpT := fun call s st kv kd => match rdF s x, rdF s y with
  | .string a, .string b => needB (fitS a b) (kv (.string (catS a b)) st)
  | .int k a, .int k' b => needB (decide (k = k')) (kv (.int k (addI k a b)) st)
  | _, _ => q_slow P o call s st kv kd
noncomputable def s_int (o : Oper) (f : IntKind → Int → Int → Int) (x y : Operand) : OpT := fun call s st kv kd => match rdF s x, rdF s y with
  | .int k a, .int k' b => needB (decide (k = k')) (kv (.int k (f k a b)) st)
  | _, _ => q_slow P o call s st kv kd
noncomputable def s_cmp (o : Oper) (f : Int → Int → Bool) (g : ByteArray → ByteArray → Bool) (str : Bool) (x y : Operand) : OpT := fun call s st kv kd => match rdF s x, rdF s y with
  | .int k a, .int k' b => needB (decide (k = k')) (kv (.bool (f a b)) st)
  | .string a, .string b => match str with
    | true => kv (.bool (g a b)) st
    | false => q_slow P o call s st kv kd
  | _, _ => q_slow P o call s st kv kd
noncomputable def eqE (e : Eta) (x y : Value) (k : Bool → Res) : Res := match e with
  | .int _ => match x, y with
    | .int a m, .int b n => needB (decide (a = b)) (k (eqI m n))
    | _, _ => none
  | .string => match x, y with
    | .string a, .string b => k (eqS a b)
    | _, _ => none
  | .bool => match x, y with
    | .bool a, .bool b => k (eqB a b)
    | _, _ => none
  | .slice _ => none
/-- '==', field by field. -/
noncomputable def eqC (es : List Eta) : List Value → List Value → (Bool → Res) → Res :=
  @List.rec Eta (fun _ => List Value → List Value → (Bool → Res) → Res) (fun _ _ k => k true)
    (fun e _ ih xs ys k => match xs with
      | x :: xs => match ys with
        | y :: ys => eqE e x y fun b => ih xs ys fun r => k (and b r)
        | [] => none
      | [] => none) es
noncomputable def etaFs (fs : List Field) : Nat → Option (List Eta) :=
  @List.rec Field (fun _ => Nat → Option (List Eta)) (fun _ => some []) (fun f _ ih i => match and (Nat.beq f.offset i) (f.name != "_"), etaOf P f.type, ih (Nat.add i 1) with
    | true, some (.slice _), _ => none
    | true, some e, some es => some (e :: es)
    | _, _, _ => none) fs
/-- The fields of a struct that are compared. -/
noncomputable def eqK (t : TypeId) : Option (List Eta) := match undQ P t with
  | some (.struct fs) => match P.stoodInHeld t || P.eqGuardType P.depth t with
    | true => none
    | false => etaFs P fs.toList 0
  | _ => none
noncomputable def isBoolT (t : TypeId) : Bool := match undQ P t with
  | some .bool => true
  | _ => false
noncomputable def s_eql (o : Oper) (bk : Bool) (es : Option (List Eta)) (x y : Operand) : OpT := fun call s st kv kd => match rdF s x, rdF s y with
  | .int k a, .int k' b => needB (decide (k = k')) (kv (.bool (eqI a b)) st)
  | .string a, .string b => kv (.bool (eqS a b)) st
  | .bool a, .bool b => match bk with
    | true => kv (.bool (eqB a b)) st
    | false => q_slow P o call s st kv kd
  | .agg a, .agg b => match es with
    | some es => needB (and (flatA a) (flatA b)) (eqC es a.toList b.toList fun r => kv (.bool r) st)
    | none => q_slow P o call s st kv kd
  | _, _ => q_slow P o call s st kv kd
noncomputable def s_neq (o : Oper) (bk : Bool) (es : Option (List Eta)) (x y : Operand) : OpT := fun call s st kv kd => match rdF s x, rdF s y with
  | .int k a, .int k' b => needB (decide (k = k')) (kv (.bool (neI a b)) st)
  | .string a, .string b => kv (.bool (neS a b)) st
  | .bool a, .bool b => match bk with
    | true => kv (.bool (notB (eqB a b))) st
    | false => q_slow P o call s st kv kd
  | .agg a, .agg b => match es with
    | some es => needB (and (flatA a) (flatA b)) (eqC es a.toList b.toList fun r => kv (.bool (notB r)) st)
    | none => q_slow P o call s st kv kd
  | _, _ => q_slow P o call s st kv kd
noncomputable def s_cvI (o : Oper) (k : IntKind) (x : Operand) : OpT := fun call s st kv kd => match rdF s x with
  | .int _ n => kv (.int k (cvI k n)) st
  | _ => q_slow P o call s st kv kd
noncomputable def s_min2 (o : Oper) (f : Int → Int → Int) (x y : Operand) : OpT := fun call s st kv kd => match rdF s x, rdF s y with
  | .int k a, .int _ b => kv (.int k (f a b)) st
  | _, _ => q_slow P o call s st kv kd
noncomputable def s_not (o : Oper) (x : Operand) : OpT := fun call s st kv kd => match rdF s x with
  | .bool b => kv (.bool (notB b)) st
  | _ => q_slow P o call s st kv kd
noncomputable def s_len1 (o : Oper) (x : Operand) : OpT := fun call s st kv kd => match rdF s x with
  | .slice _ n _ => kv (.int .i64 (lenI n)) st
  | .iface t v => match fzOf (.iface t v) with
    | some z => kv (.int .i64 (lenI z.n)) st
    | none => none
  | _ => q_slow P o call s st kv kd
noncomputable def s_len2 (o : Oper) (x : Operand) : OpT := fun call s st kv kd => match rdF s x with
  | .string b => kv (.int .i64 (lenI b.size)) st
  | _ => q_slow P o call s st kv kd

/-- What an append puts behind. -/
noncomputable def s_tail (str : Bool) (size : Nat) (st : St) (x : Value) (k : Nat → List Value → Res) : Res := match str with
  | false => match x with
    | .slice (some a) n _ => cellsF st a fun b off c _ _ _ _ => needB (Nat.ble (Nat.add off (Nat.mul n size)) c.length) (k n (takeC (Nat.mul n size) (dropC off c)))
    | .slice none n _ => needB (Nat.beq n 0) (k 0 [])
    | .iface t v => match fzOf (.iface t v) with
      | some z => needB (Nat.beq z.sz size) (k z.n z.cells)
      | none => none
    | _ => none
  | true => match x with
    | .string b => needB (Nat.beq size 1) (k b.size (byteCells b))
    | _ => none

noncomputable def s_appendTo (slow : Res) (e : TypeId) (size n : Nat) (new : List Value) (st : St) (s : Value) (kv : Value → St → Res) : Res := match s with
  | .slice none len cap => needB (and (Nat.beq len 0) (and (Nat.beq cap 0) (Nat.ble n big)))
      (@Bool.rec (fun _ => Res) (newF st (.cells new e false) fun a st => kv (.slice (some a) n unk) st) (kv (.slice none 0 0) st) (Nat.beq n 0))
  | .slice (some a) len cap => @Bool.rec (fun _ => Res)
      (needB (Nat.ble (Nat.add len n) big) (@Bool.rec (fun _ => Res)
        (cellsF st a fun b off c _ _ _ _ => needB (Nat.ble (Nat.add off (Nat.mul len size)) c.length)
          (newF st (.cells ((takeC (Nat.mul len size) (dropC off c)).append new) e false) fun a st => kv (.slice (some a) (Nat.add len n) unk) st))
        (@Bool.rec (fun _ => Res) slow (needB (Nat.ble (Nat.add cap 1) unk) (kv (.slice (some a) len cap) st)) (Nat.beq n 0)) (Nat.ble (Nat.add len n) cap)))
      (cellsF st a fun b off c e' ex heap next => needB (and (not ex) (and (Nat.beq e' e) (and (Nat.ble off c.length) (Nat.ble (Nat.add len n) big))))
        (@Bool.rec (fun _ => Res)
          (needB (Nat.beq (Nat.add off (Nat.mul len size)) c.length)
            (newF ⟨setP (path b) heap .dead, next⟩ (.cells ((takeC (Nat.mul len size) (dropC off c)).append new) e false) fun a st => kv (.slice (some a) (Nat.add len n) unk) st))
          (needB (Nat.ble (Nat.add off (Nat.mul len size)) c.length) (kv (.slice (some a) len cap) st)) (Nat.beq n 0)))
      (Nat.beq cap unk)
  | _ => slow

noncomputable def appK (sT xT : TypeId) : Option (TypeId × Nat × Bool) := match undQ P sT, undQ P xT with
  | some (.slice e), some xt => match (match xt with | .slice _ => some false | .string => some true | _ => none), infoQ P e, zeroQ P e with
    | some str, some ei, some z => if ei.size = 0 || big < ei.bytes || z.cells.size ≠ ei.size then none else some (e, ei.size, str)
    | _, _, _ => none
  | _, _ => none

noncomputable def s_append (o : Oper) (e : TypeId) (size : Nat) (str : Bool) (x y : Operand) : OpT := fun call s st kv kd =>
  s_tail str size st (rdF s y) fun n new => needB (new.all oneCell) (s_appendTo (q_slow P o call s st kv kd) e size n new st (rdF s x) kv)

noncomputable def s_pick (c a b : Operand) : OpT := fun _ s st kv _ => match rdF s c with
  | .bool t => @Bool.rec (fun _ => Res) (kv (rdF s b) st) (kv (rdF s a) st) t
  | _ => none

/-- From bytes to a text (1), from a text to bytes (2). -/
noncomputable def cvK (sT dT : TypeId) : Nat := match undQ P sT, undQ P dT with
  | some (.slice e), some .string => match undQ P e with
    | some (.int .u8) => 1
    | _ => 0
  | some .string, some (.slice e) => match undQ P e, sizeQ P e with
    | some (.int .u8), some 1 => 2
    | _, _ => 0
  | _, _ => 0
noncomputable def cvT (sT dT : TypeId) : Option IntKind := match undQ P sT, undQ P dT with
  | some (.int _), some (.int k) => some k
  | _, _ => none
noncomputable def elemQ (t : TypeId) : TypeId := match undQ P t with
  | some (.slice e) => e
  | _ => 0
noncomputable def isStr (t : TypeId) : Bool := match undQ P t with
  | some .string => true
  | _ => false

noncomputable def compS (o : Oper) : OpFn := match o.op with
  | .pick c a b => ⟨s_pick c a b⟩
  | .load t x => match loadK P t with
    | some none => match etaOf P t with
      | some e => ⟨s_load1 e x⟩
      | none => compO P o
    | _ => compO P o
  | .index t x ix => match isStr P t with
    | true => ⟨s_index x ix⟩
    | false => compO P o
  | .indexAddr t x ix => match sliceElem P t with
    | some n => ⟨s_indexAddr n x ix⟩
    | none => compO P o
  | .slice t x lo hi none => match isStr P t with
    | true => ⟨s_sliceS x lo hi⟩
    | false => match sliceElem P t with
      | some n => ⟨s_slice P o n x lo hi⟩
      | none => compO P o
  | .convert sT dT x => match cvK P sT dT with
    | 1 => ⟨s_toString P o x⟩
    | 2 => ⟨s_toBytes (elemQ P dT) x⟩
    | _ => match cvT P sT dT with
      | some k => ⟨s_cvI P o k x⟩
      | none => ⟨q_slow P o⟩
  | .binOp op t x y _ => match op with
    | .shl => ⟨s_shl P o x y⟩
    | .shr => ⟨s_shr P o x y⟩
    | .quo => ⟨s_quo P o x y⟩
    | .rem => ⟨s_rem P o x y⟩
    | .add => ⟨s_add P o x y⟩
    | .sub => ⟨s_int P o subI x y⟩
    | .mul => ⟨s_int P o mulI x y⟩
    | .and => ⟨s_int P o andI x y⟩
    | .or => ⟨s_int P o orI x y⟩
    | .xor => ⟨s_int P o xorI x y⟩
    | .andNot => ⟨s_int P o clrI x y⟩
    | .eql => ⟨s_eql P o (isBoolT P t) (eqK P t) x y⟩
    | .neq => ⟨s_neq P o (isBoolT P t) (eqK P t) x y⟩
    | .lss => ⟨s_cmp P o ltI ltS true x y⟩
    | .leq => ⟨s_cmp P o leI leS true x y⟩
    | .gtr => ⟨s_cmp P o gtI gtS true x y⟩
    | .geq => ⟨s_cmp P o geI geS true x y⟩
  | .unOp .not _ x => ⟨s_not P o x⟩
  | .call c => match c.callee, c.args.toList, c.argTypes.toList with
    | .builtin .append, [x, y], [tx, ty] => match appK P tx ty with
      | some r => ⟨s_append P o r.1 r.2.1 r.2.2 x y⟩
      | none => compO P o
    | .builtin .len, [x], _ => match lenK P c.argTypes with
      | 1 => ⟨s_len1 P o x⟩
      | 2 => ⟨s_len2 P o x⟩
      | _ => ⟨q_slow P o⟩
    | .builtin .min, [x, y], _ => ⟨s_min2 P o minI x y⟩
    | .builtin .max, [x, y], _ => ⟨s_min2 P o maxI x y⟩
    | _, _, _ => compO P o
  | _ => compO P o
end
end Go.VS
