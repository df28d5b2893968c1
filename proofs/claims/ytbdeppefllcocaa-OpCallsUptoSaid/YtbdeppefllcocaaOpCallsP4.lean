/- Texts of the proof, merged: VsSym, VsSym2, VsSym3, VsSymDraw, VsLaws, VsMemo, VsSwap, VsCallM, VsApp, OpB, Va1, Va2, Va3. No conditions. -/
import Derived.Test.YtbdeppefllcocaaOpCallsP3
import Derived.Laws.Strings
import Derived.Test.YtbdeppefllcocaaProg
import Derived.KernelRfl
section
namespace Go.VS
set_option linter.unusedSimpArgs false
set_option linter.unusedVariables false

/-! ### what a value is, by its kind -/
def asI : Value → Int
  | .int _ n => n
  | _ => 0
def asS : Value → ByteArray
  | .string s => s
  | _ => .empty
def asB : Value → Bool
  | .bool b => b
  | _ => false
def zN (v : Value) : Nat := match fzOf v with
  | some z => z.n
  | none => 0
def zB (v : Value) : Nat := match fzOf v with
  | some z => z.cap
  | none => 0
def zC (v : Value) : List Value := match fzOf v with
  | some z => z.cells
  | none => []
def isI (k : IntKind) : Value → Bool
  | .int k' _ => decide (k' = k)
  | _ => false
def isS : Value → Bool
  | .string _ => true
  | _ => false
def isB : Value → Bool
  | .bool _ => true
  | _ => false
def isZ (sz : Nat) (v : Value) : Bool := match fzOf v with
  | some z => Nat.beq z.sz sz
  | none => false
def nthD (c : List Value) (n : Nat) : Value := c.getD n undef
/-- The byte of a text at a place. -/
def bAt (s : ByteArray) (i : Int) : Int := ((s.data.toList.getD i.toNat 0).toNat : Int)
def byteOf : Value → UInt8
  | .int .u8 n => UInt8.ofNat n.toNat
  | _ => 0
def isByte : Value → Bool
  | .int .u8 _ => true
  | _ => false
def bytesT (c : List Value) : ByteArray := ⟨⟨c.map byteOf⟩⟩
def allBytes (c : List Value) : Bool := c.all isByte

theorem bytesOf_all : ∀ {c : List Value}, allBytes c = true → bytesOf c = some (c.map byteOf)
  | [], _ => rfl
  | v :: c, h => by
    simp only [allBytes, List.all_cons, Bool.and_eq_true] at h
    have ih := bytesOf_all (c := c) h.2
    unfold isByte at h
    split at h
    · simp only [bytesOf, ih, List.map_cons, byteOf]
    · cases h.1

/-! ### what is reckoned, by name -/
def addI (k : IntKind) (x y : Int) : Int := k.wrap (x + y)
def subI (k : IntKind) (x y : Int) : Int := k.wrap (x - y)
def mulI (k : IntKind) (x y : Int) : Int := k.wrap (x * y)
def quoI (k : IntKind) (x y : Int) : Int := k.wrap (x.tdiv y)
def remI (x y : Int) : Int := x.tmod y
def shlI (k : IntKind) (x y : Int) : Int := k.wrap (x * 2 ^ (min y.toNat k.bits))
def shrI (k : IntKind) (x y : Int) : Int := x.fdiv (2 ^ (min y.toNat k.bits))
def andI (k : IntKind) (x y : Int) : Int := k.wrap (BitVec.ofInt k.bits x &&& BitVec.ofInt k.bits y).toNat
def orI (k : IntKind) (x y : Int) : Int := k.wrap (BitVec.ofInt k.bits x ||| BitVec.ofInt k.bits y).toNat
def xorI (k : IntKind) (x y : Int) : Int := k.wrap (BitVec.ofInt k.bits x ^^^ BitVec.ofInt k.bits y).toNat
def clrI (k : IntKind) (x y : Int) : Int := k.wrap (BitVec.ofInt k.bits x &&& ~~~BitVec.ofInt k.bits y).toNat
def eqI (x y : Int) : Bool := x == y
def neI (x y : Int) : Bool := x != y
def ltI (x y : Int) : Bool := decide (x < y)
def leI (x y : Int) : Bool := decide (x ≤ y)
def gtI (x y : Int) : Bool := decide (x > y)
def geI (x y : Int) : Bool := decide (x ≥ y)
def eqS (a b : ByteArray) : Bool := a.toList == b.toList
def neS (a b : ByteArray) : Bool := !(a.toList == b.toList)
def eqB (a b : Bool) : Bool := a == b
def cvI (k : IntKind) (x : Int) : Int := k.wrap x
def minI (x y : Int) : Int := if y < x then y else x
def maxI (x y : Int) : Int := if y > x then y else x
def ltS (a b : ByteArray) : Bool := Op.bytesLess a.toList b.toList
def leS (a b : ByteArray) : Bool := Op.bytesLess a.toList b.toList || a.toList == b.toList
def gtS (a b : ByteArray) : Bool := !(Op.bytesLess a.toList b.toList || a.toList == b.toList)
def geS (a b : ByteArray) : Bool := !(Op.bytesLess a.toList b.toList)
def catS (a b : ByteArray) : ByteArray := a ++ b
def cutS (b : ByteArray) (l h : Int) : ByteArray := b.extract l.toNat h.toNat
def lenI (n : Nat) : Int := n
def inI (i : Int) (n : Nat) : Bool := decide (0 ≤ i ∧ i < n)
def cutI (l h : Int) (n : Nat) : Bool := decide (0 ≤ l ∧ l ≤ h ∧ h ≤ n)
def posI (i : Int) : Bool := decide (0 ≤ i)
def nonzI (i : Int) : Bool := !decide (i = 0)
def fitS (a b : ByteArray) : Bool := Nat.ble (Nat.add a.size b.size) 9223372036854775807
def atN (i : Int) (n : Nat) : Nat := i.toNat * n
def lapN (l h : Int) : Nat := h.toNat - l.toNat
def comI (k : IntKind) (x : Int) : Int := xorI k (if k.signed then -1 else k.max) x
def notB (b : Bool) : Bool := !b

noncomputable def addS (a : Addr) (n : Nat) : Addr := @Addr.rec (fun _ => Addr) (fun b off spot => @Option.rec Nat (fun _ => Addr) ⟨b, Nat.add off n, none⟩ (fun s => Addr.add ⟨b, off, some s⟩ n) spot) a
theorem addS_eq (a : Addr) (n : Nat) : addS a n = a.add n := by
  obtain ⟨b, off, spot⟩ := a
  cases spot with
  | none => exact (add_of b off n).symm
  | some s => rfl

section
variable (P : Program)

noncomputable def s_index (x ix : Operand) : OpT := fun _ s st kv _ => match rdF s x with
  | .string b => match rdF s ix with
    | .int _ i => needB (inI i b.size) (kv (.int .u8 (bAt b i)) st)
    | _ => none
  | _ => none

noncomputable def s_indexAddr (n : Nat) (x ix : Operand) : OpT := fun call s st kv kd => match rdF s x with
  | .slice (some a) len _ => match rdF s ix with
    | .int _ i => needB (inI i len) (kv (.pointer (some (addS a (atN i n)))) st)
    | _ => none
  | .iface t v => match fzOf (.iface t v) with
    | some z => match rdF s ix with
      | .int _ i => needB (and (Nat.beq z.sz n) (inI i z.n)) (kv (mkFp (atN i n) z.cells) st)
      | _ => none
    | none => none
  | _ => none

/-- How a cell is seen that nothing is known of but its type. -/
inductive Eta where
  | int (k : IntKind)
  | string
  | bool
  | slice (sz : Nat)
noncomputable def etaOf (t : TypeId) : Option Eta := match undQ P t with
  | some (.int k) => some (.int k)
  | some .string => some .string
  | some .bool => some .bool
  | some (.slice e) => match sizeQ P e with
    | some n => some (.slice n)
    | none => none
  | _ => none
noncomputable def etaV (e : Eta) (v : Value) : Value := match e with
  | .int k => .int k (asI v)
  | .string => .string (asS v)
  | .bool => .bool (asB v)
  | .slice n => mkFz n (zN v) (zB v) (zC v)
noncomputable def etaB (e : Eta) (v : Value) : Bool := match e with
  | .int k => isI k v
  | .string => isS v
  | .bool => isB v
  | .slice n => isZ n v

noncomputable def s_load1 (e : Eta) (x : Operand) : OpT := fun _ s st kv _ => match rdF s x with
  | .pointer (some a) => cellsF st a fun b off c _ ex _ _ => @Bool.rec (fun _ => Res)
      (needB (and (Nat.ble (Nat.add off 1) c.length) (etaB e (nthD c off))) (kv (etaV e (nthD c off)) st))
      (match nthF c off with
        | some v => kv v st
        | none => none) ex
  | .iface t v => match fpOf (.iface t v) with
    | some (off, c) => needB (and (Nat.ble (Nat.add off 1) c.length) (etaB e (nthD c off))) (kv (etaV e (nthD c off)) st)
    | none => none
  | _ => none

noncomputable def intK (s : Trie Value) (o : Option Operand) (d : Int) (k : Int → Res) : Res := match o with
  | none => k d
  | some x => match rdF s x with
    | .int _ i => k i
    | _ => none

def capS (b l : Nat) : Nat := if b = 0 then 0 else b - l

noncomputable def s_sliceS (x : Operand) (lo hi : Option Operand) : OpT := fun _ s st kv _ => match rdF s x with
  | .string b => intK s hi (lenI b.size) fun h => intK s lo 0 fun l => needB (cutI l h b.size) (kv (.string (cutS b l h)) st)
  | _ => none
noncomputable def s_slice (o : Oper) (n : Nat) (x : Operand) (lo hi : Option Operand) : OpT := fun call s st kv kd => match rdF s x with
  | .iface t v => match fzOf (.iface t v) with
    | some z => intK s hi (lenI z.n) fun h => intK s lo 0 fun l => needB (and (Nat.beq z.sz n) (cutI l h z.n))
        (kv (mkFz n (lapN l h) (capS z.cap l.toNat) (takeC (Nat.mul (lapN l h) n) (dropC (atN l n) z.cells))) st)
    | none => none
  | .slice (some a) len cap => @Bool.rec (fun _ => Res) (q_slow P o call s st kv kd)
      (cellsF st a fun b off c e ex _ _ => needB (and (Nat.ble off c.length) (and (Nat.ble 1 n) (Nat.beq n (esz P e))))
        (intK s hi (lenI len) fun h => intK s lo 0 fun l => needB (cutI l h (Nat.div (Nat.sub c.length off) n))
          (@Bool.rec (fun _ => Res) (@Bool.rec (fun _ => Res) (kv (.slice (some a) 0 (Nat.add unk l.toNat)) st) (kv (.slice (some a) 0 unk) st) (Nat.beq l.toNat 0))
            (kv (.slice (some (addS a (atN l n))) (lapN l h) unk) st) (Nat.ble (Nat.add l.toNat 1) (Nat.div (Nat.sub c.length off) n)))))
      (Nat.beq cap unk)
  | _ => q_slow P o call s st kv kd

noncomputable def s_toString (o : Oper) (x : Operand) : OpT := fun call s st kv kd => match rdF s x with
  | .slice (some a) n _ => cellsF st a fun b off c _ _ _ _ => needB (and (Nat.ble (Nat.add off n) c.length) (allBytes (takeC n (dropC off c)))) (kv (.string (bytesT (takeC n (dropC off c)))) st)
  | .iface t v => match fzOf (.iface t v) with
    | some z => needB (and (Nat.beq z.sz 1) (allBytes z.cells)) (kv (.string (bytesT z.cells)) st)
    | none => none
  | _ => q_slow P o call s st kv kd

noncomputable def s_toBytes (e : TypeId) (x : Operand) : OpT := fun _ s st kv _ => match rdF s x with
  | .string b => needB (Nat.ble b.size big) (newF st (.cells (byteCells b) e false) fun a st => kv (.slice (some a) b.size unk) st)
  | _ => none

noncomputable def s_shl (o : Oper) (x y : Operand) : OpT := fun call s st kv kd => match rdF s x, rdF s y with
  | .int k a, .int _ b => needB (posI b) (kv (.int k (shlI k a b)) st)
  | _, _ => q_slow P o call s st kv kd
noncomputable def s_shr (o : Oper) (x y : Operand) : OpT := fun call s st kv kd => match rdF s x, rdF s y with
  | .int k a, .int _ b => needB (posI b) (kv (.int k (shrI k a b)) st)
  | _, _ => q_slow P o call s st kv kd
noncomputable def s_quo (o : Oper) (x y : Operand) : OpT := fun call s st kv kd => match rdF s x, rdF s y with
  | .int k a, .int k' b => needB (and (decide (k = k')) (nonzI b)) (kv (.int k (quoI k a b)) st)
  | _, _ => q_slow P o call s st kv kd
noncomputable def s_rem (o : Oper) (x y : Operand) : OpT := fun call s st kv kd => match rdF s x, rdF s y with
  | .int k a, .int k' b => needB (and (decide (k = k')) (nonzI b)) (kv (.int k (remI a b)) st)
  | _, _ => q_slow P o call s st kv kd
noncomputable def s_add (o : Oper) (x y : Operand) : OpT := fun call s st kv kd => match rdF s x, rdF s y with
  | .string a, .string b => needB (fitS a b) (kv (.string (catS a b)) st)
  | .int k a, .int k' b => needB (decide (k = k')) (kv (.int k (addI k a b)) st)
  | _, _ => q_slow P o call s st kv kd
noncomputable def s_int (o : Oper) (f : IntKind → Int → Int → Int) (x y : Operand) : OpT := fun call s st kv kd => match rdF s x, rdF s y with
  | .int k a, .int k' b => needB (decide (k = k')) (kv (.int k (f k a b)) st)
  | _, _ => q_slow P o call s st kv kd
noncomputable def s_cmp (o : Oper) (f : Int → Int → Bool) (g : ByteArray → ByteArray → Bool) (str : Bool) (x y : Operand) : OpT := fun call s st kv kd => match rdF s x, rdF s y with
  | .int k a, .int k' b => needB (decide (k = k')) (kv (.bool (f a b)) st)
  | .string a, .string b => match str with
    | true => kv (.bool (g a b)) st
    | false => q_slow P o call s st kv kd
  | _, _ => q_slow P o call s st kv kd
noncomputable def eqE (e : Eta) (x y : Value) (k : Bool → Res) : Res := match e with
  | .int _ => match x, y with
    | .int a m, .int b n => needB (decide (a = b)) (k (eqI m n))
    | _, _ => none
  | .string => match x, y with
    | .string a, .string b => k (eqS a b)
    | _, _ => none
  | .bool => match x, y with
    | .bool a, .bool b => k (eqB a b)
    | _, _ => none
  | .slice _ => none
/-- '==', field by field. -/
noncomputable def eqC (es : List Eta) : List Value → List Value → (Bool → Res) → Res :=
  @List.rec Eta (fun _ => List Value → List Value → (Bool → Res) → Res) (fun _ _ k => k true)
    (fun e _ ih xs ys k => match xs with
      | x :: xs => match ys with
        | y :: ys => eqE e x y fun b => ih xs ys fun r => k (and b r)
        | [] => none
      | [] => none) es
noncomputable def etaFs (fs : List Field) : Nat → Option (List Eta) :=
  @List.rec Field (fun _ => Nat → Option (List Eta)) (fun _ => some []) (fun f _ ih i => match and (Nat.beq f.offset i) (f.name != "_"), etaOf P f.type, ih (Nat.add i 1) with
    | true, some (.slice _), _ => none
    | true, some e, some es => some (e :: es)
    | _, _, _ => none) fs
/-- The fields of a struct that are compared. -/
noncomputable def eqK (t : TypeId) : Option (List Eta) := match undQ P t with
  | some (.struct fs) => match P.stoodInHeld t || P.eqGuardType P.depth t with
    | true => none
    | false => etaFs P fs.toList 0
  | _ => none
noncomputable def isBoolT (t : TypeId) : Bool := match undQ P t with
  | some .bool => true
  | _ => false
noncomputable def s_eql (o : Oper) (bk : Bool) (es : Option (List Eta)) (x y : Operand) : OpT := fun call s st kv kd => match rdF s x, rdF s y with
  | .int k a, .int k' b => needB (decide (k = k')) (kv (.bool (eqI a b)) st)
  | .string a, .string b => kv (.bool (eqS a b)) st
  | .bool a, .bool b => match bk with
    | true => kv (.bool (eqB a b)) st
    | false => q_slow P o call s st kv kd
  | .agg a, .agg b => match es with
    | some es => needB (and (flatA a) (flatA b)) (eqC es a.toList b.toList fun r => kv (.bool r) st)
    | none => q_slow P o call s st kv kd
  | _, _ => q_slow P o call s st kv kd
noncomputable def s_neq (o : Oper) (bk : Bool) (es : Option (List Eta)) (x y : Operand) : OpT := fun call s st kv kd => match rdF s x, rdF s y with
  | .int k a, .int k' b => needB (decide (k = k')) (kv (.bool (neI a b)) st)
  | .string a, .string b => kv (.bool (neS a b)) st
  | .bool a, .bool b => match bk with
    | true => kv (.bool (notB (eqB a b))) st
    | false => q_slow P o call s st kv kd
  | .agg a, .agg b => match es with
    | some es => needB (and (flatA a) (flatA b)) (eqC es a.toList b.toList fun r => kv (.bool (notB r)) st)
    | none => q_slow P o call s st kv kd
  | _, _ => q_slow P o call s st kv kd
noncomputable def s_cvI (o : Oper) (k : IntKind) (x : Operand) : OpT := fun call s st kv kd => match rdF s x with
  | .int _ n => kv (.int k (cvI k n)) st
  | _ => q_slow P o call s st kv kd
noncomputable def s_min2 (o : Oper) (g : Int → Int → Bool) (x y : Operand) : OpT := fun call s st kv kd => match rdF s x, rdF s y with
  | .int k a, .int _ b => @Bool.rec (fun _ => Res) (kv (.int k a) st) (kv (.int k b) st) (g b a)
  | _, _ => q_slow P o call s st kv kd
noncomputable def s_not (o : Oper) (x : Operand) : OpT := fun call s st kv kd => match rdF s x with
  | .bool b => kv (.bool (notB b)) st
  | _ => q_slow P o call s st kv kd
noncomputable def s_com (o : Oper) (x : Operand) : OpT := fun call s st kv kd => match rdF s x with
  | .int k n => kv (.int k (comI k n)) st
  | _ => q_slow P o call s st kv kd
noncomputable def s_len1 (o : Oper) (x : Operand) : OpT := fun call s st kv kd => match rdF s x with
  | .slice _ n _ => kv (.int .i64 (lenI n)) st
  | .iface t v => match fzOf (.iface t v) with
    | some z => kv (.int .i64 (lenI z.n)) st
    | none => none
  | _ => q_slow P o call s st kv kd
noncomputable def s_cap1 (o : Oper) (x : Operand) : OpT := fun call s st kv kd => match rdF s x with
  | .slice (some _) _ c => needB (Nat.ble (Nat.add c 1) unk) (kv (.int .i64 (lenI c)) st)
  | .slice none _ c => kv (.int .i64 (lenI c)) st
  | _ => q_slow P o call s st kv kd
noncomputable def s_len2 (o : Oper) (x : Operand) : OpT := fun call s st kv kd => match rdF s x with
  | .string b => kv (.int .i64 (lenI b.size)) st
  | _ => q_slow P o call s st kv kd

/-- What an append puts behind. -/
noncomputable def s_tail (str : Bool) (size : Nat) (st : St) (x : Value) (k : Nat → List Value → Res) : Res := match str with
  | false => match x with
    | .slice (some a) n _ => cellsF st a fun b off c _ _ _ _ => needB (Nat.ble (Nat.add off (Nat.mul n size)) c.length) (k n (takeC (Nat.mul n size) (dropC off c)))
    | .slice none n _ => needB (Nat.beq n 0) (k 0 [])
    | .iface t v => match fzOf (.iface t v) with
      | some z => needB (Nat.beq z.sz size) (k z.n z.cells)
      | none => none
    | _ => none
  | true => match x with
    | .string b => needB (Nat.beq size 1) (k b.size (byteCells b))
    | _ => none

noncomputable def s_appendTo (slow : Res) (e : TypeId) (size n : Nat) (new : List Value) (st : St) (s : Value) (kv : Value → St → Res) : Res := match s with
  | .slice none len cap => needB (and (Nat.beq len 0) (and (Nat.beq cap 0) (Nat.ble n big)))
      (@Bool.rec (fun _ => Res) (newF st (.cells new e false) fun a st => kv (.slice (some a) n unk) st) (kv (.slice none 0 0) st) (Nat.beq n 0))
  | .slice (some a) len cap => @Bool.rec (fun _ => Res)
      (@Bool.rec (fun _ => Res) (@Bool.rec (fun _ => Res)
        (needB (Nat.ble (Nat.add len n) big) (cellsF st a fun b off c _ _ _ _ => needB (Nat.ble (Nat.add off (Nat.mul len size)) c.length)
          (newF st (.cells ((takeC (Nat.mul len size) (dropC off c)).append new) e false) fun a st => kv (.slice (some a) (Nat.add len n) unk) st)))
        (@Bool.rec (fun _ => Res)
          (cellsF st a fun b off c e' ex heap next => needB (and (Nat.ble (Nat.add cap 1) unk) (Nat.ble (Nat.add (Nat.add off (Nat.mul len size)) new.length) c.length))
            (kv (.slice (some a) (Nat.add len n) cap) ⟨setP (path b) heap (.cells (putAt c (Nat.add off (Nat.mul len size)) new) e' ex), next⟩))
          (needB (Nat.ble (Nat.add cap 1) unk) (kv (.slice (some a) len cap) st)) (Nat.beq n 0)) (Nat.ble (Nat.add len n) cap))
        (@Bool.rec (fun _ => Res)
          (needB (Nat.ble (Nat.add len n) big) (cellsF st a fun b off c _ _ _ _ => needB (Nat.ble (Nat.add off (Nat.mul len size)) c.length)
            (newF st (.cells ((takeC (Nat.mul len size) (dropC off c)).append new) e false) fun a st => kv (.slice (some a) (Nat.add len n) unk) st)))
          (needB (Nat.ble (Nat.add cap 1) unk) (kv (.slice (some a) len cap) st)) (Nat.beq n 0)) (Nat.beq cap len))
      (cellsF st a fun b off c e' ex heap next => needB (and (not ex) (and (Nat.beq e' e) (and (Nat.ble off c.length) (Nat.ble (Nat.add len n) big))))
        (@Bool.rec (fun _ => Res)
          (needB (Nat.beq (Nat.add off (Nat.mul len size)) c.length)
            (newF ⟨setP (path b) heap .dead, next⟩ (.cells ((takeC (Nat.mul len size) (dropC off c)).append new) e false) fun a st => kv (.slice (some a) (Nat.add len n) unk) st))
          (needB (Nat.ble (Nat.add off (Nat.mul len size)) c.length) (kv (.slice (some a) len cap) st)) (Nat.beq n 0)))
      (Nat.beq cap unk)
  | _ => slow

noncomputable def appK (sT xT : TypeId) : Option (TypeId × Nat × Bool) := match undQ P sT, undQ P xT with
  | some (.slice e), some xt => match (match xt with | .slice _ => some false | .string => some true | _ => none), infoQ P e, zeroQ P e with
    | some str, some ei, some z => if ei.size = 0 || big < ei.bytes || z.cells.size ≠ ei.size then none else some (e, ei.size, str)
    | _, _, _ => none
  | _, _ => none

noncomputable def s_append (o : Oper) (e : TypeId) (size : Nat) (str : Bool) (x y : Operand) : OpT := fun call s st kv kd =>
  s_tail str size st (rdF s y) fun n new => needB (new.all oneCell) (s_appendTo (q_slow P o call s st kv kd) e size n new st (rdF s x) kv)

/-- A store at a place that may be unknown. -/
noncomputable def s_store1 (t : TypeId) (x v : Operand) : OpT := fun call s st kv kd => match rdF s x with
  | .pointer (some a) => cellsF st a fun b off c e ex heap next => @Bool.rec (fun _ => Res)
      (needB (and (scalarB (rdF s v)) (Nat.ble (Nat.add off 1) c.length)) (kv undef ⟨setP (path b) heap (.cells (putAt c off [rdF s v]) e false), next⟩))
      (q_store P t x v call s st kv kd) ex
  | _ => none

noncomputable def s_pick (c a b : Operand) : OpT := fun _ s st kv _ => match rdF s c with
  | .bool t => @Bool.rec (fun _ => Res) (kv (rdF s b) st) (kv (rdF s a) st) t
  | _ => none

/-- From bytes to a text (1), from a text to bytes (2). -/
noncomputable def cvK (sT dT : TypeId) : Nat := match undQ P sT, undQ P dT with
  | some (.slice e), some .string => match undQ P e with
    | some (.int .u8) => 1
    | _ => 0
  | some .string, some (.slice e) => match undQ P e, sizeQ P e with
    | some (.int .u8), some 1 => 2
    | _, _ => 0
  | _, _ => 0
noncomputable def cvT (sT dT : TypeId) : Option IntKind := match undQ P sT, undQ P dT with
  | some (.int _), some (.int k) => some k
  | _, _ => none
noncomputable def elemQ (t : TypeId) : TypeId := match undQ P t with
  | some (.slice e) => e
  | _ => 0
noncomputable def oneT (t : TypeId) : Bool := match sizeQ P t with
  | some n => Nat.beq n 1
  | none => false
noncomputable def isStr (t : TypeId) : Bool := match undQ P t with
  | some .string => true
  | _ => false

noncomputable def compS (o : Oper) : OpFn := match o.op with
  | .pick c a b => ⟨s_pick c a b⟩
  | .load t x => match loadK P t with
    | some none => match etaOf P t with
      | some e => ⟨s_load1 e x⟩
      | none => compO P o
    | _ => compO P o
  | .store t x v => match oneT P t with
    | true => ⟨s_store1 P t x v⟩
    | false => compO P o
  | .index t x ix => match isStr P t with
    | true => ⟨s_index x ix⟩
    | false => compO P o
  | .indexAddr t x ix => match sliceElem P t with
    | some n => ⟨s_indexAddr n x ix⟩
    | none => compO P o
  | .slice t x lo hi none => match isStr P t with
    | true => ⟨s_sliceS x lo hi⟩
    | false => match sliceElem P t with
      | some n => ⟨s_slice P o n x lo hi⟩
      | none => compO P o
  | .convert sT dT x => match cvK P sT dT with
    | 1 => ⟨s_toString P o x⟩
    | 2 => ⟨s_toBytes (elemQ P dT) x⟩
    | _ => match cvT P sT dT with
      | some k => ⟨s_cvI P o k x⟩
      | none => ⟨q_slow P o⟩
  | .binOp op t x y _ => match op with
    | .shl => ⟨s_shl P o x y⟩
    | .shr => ⟨s_shr P o x y⟩
    | .quo => ⟨s_quo P o x y⟩
    | .rem => ⟨s_rem P o x y⟩
    | .add => ⟨s_add P o x y⟩
    | .sub => ⟨s_int P o subI x y⟩
    | .mul => ⟨s_int P o mulI x y⟩
    | .and => ⟨s_int P o andI x y⟩
    | .or => ⟨s_int P o orI x y⟩
    | .xor => ⟨s_int P o xorI x y⟩
    | .andNot => ⟨s_int P o clrI x y⟩
    | .eql => ⟨s_eql P o (isBoolT P t) (eqK P t) x y⟩
    | .neq => ⟨s_neq P o (isBoolT P t) (eqK P t) x y⟩
    | .lss => ⟨s_cmp P o ltI ltS true x y⟩
    | .leq => ⟨s_cmp P o leI leS true x y⟩
    | .gtr => ⟨s_cmp P o gtI gtS true x y⟩
    | .geq => ⟨s_cmp P o geI geS true x y⟩
  | .unOp .not _ x => ⟨s_not P o x⟩
  | .unOp .xor _ x => ⟨s_com P o x⟩
  | .call c => match c.callee, c.args.toList, c.argTypes.toList with
    | .builtin .append, [x, y], [tx, ty] => match appK P tx ty with
      | some r => ⟨s_append P o r.1 r.2.1 r.2.2 x y⟩
      | none => compO P o
    | .builtin .len, [x], _ => match lenK P c.argTypes with
      | 1 => ⟨s_len1 P o x⟩
      | 2 => ⟨s_len2 P o x⟩
      | _ => ⟨q_slow P o⟩
    | .builtin .cap, [x], _ => match lenK P c.argTypes with
      | 1 => ⟨s_cap1 P o x⟩
      | _ => ⟨q_slow P o⟩
    | .builtin .min, [x, y], _ => ⟨s_min2 P o ltI x y⟩
    | .builtin .max, [x, y], _ => ⟨s_min2 P o gtI x y⟩
    | _, _, _ => compO P o
  | _ => compO P o
end
end Go.VS
end

section
namespace Go.VS
set_option linter.unusedSimpArgs false
set_option linter.unusedVariables false
section
variable {P : Program}
variable {call : Knot} {s : Trie Value} {st : St} {kv : Value → St → Res} {kd : Deferred → St → Res} {r : Value × St}

theorem byte_at (b : ByteArray) (n : Nat) (h : n < b.size) : b[n]? = some (b.data.toList.getD n 0) := by
  have h1 : b[n]? = some b[n] := by simp [h]
  rw [h1]
  congr 1
  have h2 : n < b.data.toList.length := by simpa using h
  rw [List.getD_eq_getElem?_getD, List.getElem?_eq_getElem h2]
  rfl

theorem s_index_spec {dst type pos after guard} {t : TypeId} {x ix : Operand} (hu : P.underlying t = some .string) (h : s_index x ix call s st kv kd = some r) :
    Hands call kv kd (evOp P (rdF s) ⟨dst, .index t x ix, type, pos, after, guard⟩ st) r := by
  unfold s_index at h
  split at h
  · rename_i b hx
    split at h
    · rename_i k i hi
      obtain ⟨hc, h⟩ := needB_spec h
      simp only [inI, cutI, decide_eq_true_eq] at hc
      have hlt : i.toNat < b.size := by omega
      simp only [evOp, hu, hx, hi, hc.1, if_true, byte_at b _ hlt]
      exact h
    · cases h
  · cases h

theorem s_indexAddr_spec {dst type pos after guard} {t : TypeId} {x ix : Operand} {n : Nat} (hn : sliceElem P t = some n) (h : s_indexAddr n x ix call s st kv kd = some r) :
    Hands call kv kd (evOp P (rdF s) ⟨dst, .indexAddr t x ix, type, pos, after, guard⟩ st) r := by
  unfold sliceElem at hn
  rw [undQ_eq] at hn
  split at hn
  · rename_i e hu
    rw [sizeQ_eq] at hn
    unfold s_indexAddr at h
    split at h
    · rename_i a len cap hx
      split at h
      · rename_i k i hi
        obtain ⟨hc, h⟩ := needB_spec h
        simp only [inI, cutI, decide_eq_true_eq] at hc
        simp only [evOp, hu, hx, hi, hn, hc, and_self, if_true]
        rw [addS_eq] at h
        exact h
      · cases h
    · rename_i tt v hx
      split at h
      · rename_i z hz
        split at h
        · rename_i k i hi
          obtain ⟨hc, h⟩ := needB_spec h
          simp only [inI, cutI, Bool.and_eq_true, decide_eq_true_eq] at hc
          have h1 := Nat.eq_of_beq_eq_true hc.1
          simp only [evOp, hu, hx, hi, hn, hz, h1, hc.2, and_self, if_true]
          exact h
        · cases h
      · cases h
    · cases h
  · cases hn

theorem eta_eq {e : Eta} {v : Value} (h : etaB e v = true) : ∀ (hz : ∀ n, e = .slice n → ∃ z, fzOf v = some z), etaV e v = v ∨ ∃ n, e = .slice n := by
  intro _
  cases e with
  | int k =>
    simp only [etaB, isI] at h
    split at h
    · simp only [decide_eq_true_eq] at h; subst h; exact Or.inl rfl
    · cases h
  | string =>
    simp only [etaB, isS] at h
    split at h
    · exact Or.inl rfl
    · cases h
  | bool =>
    simp only [etaB, isB] at h
    split at h
    · exact Or.inl rfl
    · cases h
  | slice n => exact Or.inr ⟨n, rfl⟩

theorem fzOf_form {v : Value} {z : FzV} (h : fzOf v = some z) : v = mkFz z.sz z.n z.cap z.cells := by
  unfold fzOf at h
  split at h
  · rename_i t n b c
    split at h
    · rename_i ht
      have ht : FZ + 1 ≤ t := Nat.le_of_ble_eq_true ht
      obtain rfl := Option.some.inj h
      unfold mkFz
      have : FZ + (t - FZ) = t := Nat.add_sub_cancel' (Nat.le_of_succ_le ht)
      rw [this]
    · cases h
  · cases h

theorem eta_same {e : Eta} {v : Value} (h : etaB e v = true) : etaV e v = v := by
  cases e with
  | slice n =>
    simp only [etaB, isZ] at h
    split at h
    · rename_i z hz
      have := Nat.eq_of_beq_eq_true h
      simp only [etaV, zN, zB, zC, hz]
      rw [← this]
      exact (fzOf_form hz).symm
    · cases h
  | _ =>
    rcases eta_eq h (fun n e => by cases e) with h | ⟨n, e⟩
    · exact h
    · cases e

theorem nthD_get {c : List Value} {n : Nat} (h : n + 1 ≤ c.length) : c[n]? = some (nthD c n) := by
  unfold nthD
  rw [List.getD_eq_getElem?_getD, List.getElem?_eq_getElem h]
  rfl

theorem take_one {c : List Value} {n : Nat} {v : Value} (h : c[n]? = some v) : (c.drop n).take 1 = [v] := by
  have := (List.getElem?_eq_some_iff.1 h)
  obtain ⟨hl, e⟩ := this
  rw [List.drop_eq_getElem_cons hl, e]
  rfl

theorem s_load1_spec {dst type pos after guard} {t : TypeId} {x : Operand} {e : Eta} (hk : loadK P t = some none) (h : s_load1 e x call s st kv kd = some r) :
    Hands call kv kd (evOp P (rdF s) ⟨dst, .load t x, type, pos, after, guard⟩ st) r := by
  unfold loadK at hk
  rw [undQ_eq, infoQ_eq, isAggQ_eq] at hk
  split at hk
  · rename_i d i hu hi
    have hag : isAggB P t = false := by
      cases hb : isAggB P t with
      | false => rfl
      | true => rw [hb] at hk; cases hk
    unfold s_load1 at h
    split at h
    · rename_i a hx
      obtain ⟨c, e', ex, h1, h2, h3⟩ := cellsF_spec h
      have go : ∀ v, c[a.off]? = some v → kv v st = some r → Hands call kv kd (evOp P (rdF s) ⟨dst, .load t x, type, pos, after, guard⟩ st) r := by
        intro v hv hk
        have hl : a.off + 1 ≤ c.length := (List.getElem?_eq_some_iff.1 hv).1
        have : loadV P st t a = some v := by
          simp only [loadV, hu, hi, hag, Bool.false_eq_true, if_false, cellsAt, h1, h2, Option.isSome_none, hl, if_true, take_one hv]
        simp only [evOp, hx, this]
        exact hk
      cases ex with
      | false =>
        obtain ⟨hc, h3⟩ := needB_spec h3
        simp only [Bool.and_eq_true] at hc
        rw [eta_same hc.2] at h3
        exact go _ (nthD_get (Nat.le_of_ble_eq_true hc.1)) h3
      | true =>
        simp only at h3
        rw [nthF_eq] at h3
        split at h3
        · rename_i v hv
          exact go v hv h3
        · cases h3
    · rename_i tt v hx
      split at h
      · rename_i off c hfp
        obtain ⟨hc, h⟩ := needB_spec h
        simp only [Bool.and_eq_true] at hc
        rw [eta_same hc.2] at h
        simp only [evOp, hx, hfp, loadC, hu, hi, hag, Bool.false_eq_true, if_false, nthD_get (Nat.le_of_ble_eq_true hc.1)]
        exact h
      · cases h
    · cases h
  · cases hk

theorem intK_spec {o : Option Operand} {d : Int} {k : Int → Res} (h : intK s o d k = some r) : (o = none ∧ k d = some r) ∨ ∃ x kk i, o = some x ∧ rdF s x = .int kk i ∧ k i = some r := by
  unfold intK at h
  split at h
  · exact Or.inl ⟨rfl, h⟩
  · split at h
    · exact Or.inr ⟨_, _, _, rfl, ‹_›, h⟩
    · cases h

theorem bound_of {o : Option Operand} {y d : Nat} {i : Int} (h : (o = none ∧ i = d) ∨ ∃ x kk, o = some x ∧ rdF s x = .int kk i) (h1 : 0 ≤ i) (h2 : i ≤ y) : optBound (o.map (rdF s)) y d = some i.toNat := by
  rcases h with ⟨rfl, rfl⟩ | ⟨x, kk, rfl, hx⟩
  · simp [optBound]
  · simp only [Option.map_some, optBound, hx, boundOf, h1, h2, and_self, if_true]

theorem two_spec {lo hi : Option Operand} {dh : Nat} {k : Int → Int → Res} (h : (intK s hi dh fun h => intK s lo 0 fun l => k h l) = some r) :
    ∃ h l : Int, ((hi = none ∧ h = dh) ∨ ∃ x kk, hi = some x ∧ rdF s x = .int kk h) ∧ ((lo = none ∧ l = (0 : Nat)) ∨ ∃ x kk, lo = some x ∧ rdF s x = .int kk l) ∧ k h l = some r := by
  rcases intK_spec h with ⟨e, h⟩ | ⟨x, kk, i, e, hx, h⟩ <;> rcases intK_spec h with ⟨e', h⟩ | ⟨x', kk', i', e', hx', h⟩
  · exact ⟨_, _, Or.inl ⟨e, rfl⟩, Or.inl ⟨e', rfl⟩, h⟩
  · exact ⟨_, _, Or.inl ⟨e, rfl⟩, Or.inr ⟨x', kk', e', hx'⟩, h⟩
  · exact ⟨_, _, Or.inr ⟨x, kk, e, hx⟩, Or.inl ⟨e', rfl⟩, h⟩
  · exact ⟨_, _, Or.inr ⟨x, kk, e, hx⟩, Or.inr ⟨x', kk', e', hx'⟩, h⟩

theorem s_slice_string_spec {dst type pos after guard} {t : TypeId} {x : Operand} {lo hi : Option Operand} (hu : P.underlying t = some .string)
    (h : s_sliceS x lo hi call s st kv kd = some r) : Hands call kv kd (evOp P (rdF s) ⟨dst, .slice t x lo hi none, type, pos, after, guard⟩ st) r := by
  unfold s_sliceS at h
  split at h
  · rename_i b hx
    obtain ⟨h0, l0, hh, hl, h⟩ := two_spec h
    obtain ⟨hc, h⟩ := needB_spec h
    simp only [inI, cutI, decide_eq_true_eq] at hc
    have e1 := bound_of hh (y := b.size) (by omega) (by omega)
    have e2 := bound_of hl (y := h0.toNat) (by omega) (by omega)
    simp only [evOp, hu, hx, Option.map_none, Option.isSome_none, Bool.false_eq_true, if_false, e1, e2]
    exact h
  · cases h

theorem s_slice_spec {dst type pos after guard} {t : TypeId} {x : Operand} {lo hi : Option Operand} {n : Nat} (hn : sliceElem P t = some n) 
    (h : s_slice P ⟨dst, .slice t x lo hi none, type, pos, after, guard⟩ n x lo hi call s st kv kd = some r) : Hands call kv kd (evOp P (rdF s) ⟨dst, .slice t x lo hi none, type, pos, after, guard⟩ st) r := by
  unfold sliceElem at hn
  rw [undQ_eq] at hn
  split at hn
  · rename_i e hu
    rw [sizeQ_eq] at hn
    unfold s_slice at h
    split at h
    · rename_i tt v hx
      split at h
      · rename_i z hz
        obtain ⟨h0, l0, hh, hl, h⟩ := two_spec h
        obtain ⟨hc, h⟩ := needB_spec h
        simp only [inI, cutI, Bool.and_eq_true, decide_eq_true_eq] at hc
        have h1 := Nat.eq_of_beq_eq_true hc.1
        have e1 := bound_of hh (y := z.n) (by omega) (by omega)
        have e2 := bound_of hl (y := h0.toNat) (by omega) (by omega)
        simp only [evOp, hu, hx, hz, hn, h1, if_true, sliceZ, Option.map_none, e1, e2]
        unfold capS at h
        exact h
      · cases h
    · rename_i a len cap hx
      cases hb : Nat.beq cap unk with
      | false => rw [hb] at h; exact slowOp_spec h
      | true =>
        rw [hb] at h
        have hcap := Nat.eq_of_beq_eq_true hb
        obtain ⟨c, e', ex, h1, h2, h3⟩ := cellsF_spec h
        obtain ⟨hc, h3⟩ := needB_spec h3
        simp only [Bool.and_eq_true] at hc
        obtain ⟨hc1, hc2, hc3⟩ := hc
        have hc1 := Nat.le_of_ble_eq_true hc1
        have hc2 := Nat.le_of_ble_eq_true hc2
        have hc3 := Nat.eq_of_beq_eq_true hc3
        obtain ⟨h0, l0, hh, hl, h3⟩ := two_spec h3
        obtain ⟨hd, h3⟩ := needB_spec h3
        simp only [cutI, decide_eq_true_eq] at hd
        have hd : 0 ≤ l0 ∧ l0 ≤ h0 ∧ h0 ≤ (((c.length - a.off) / n : Nat) : Int) := hd
        change @Bool.rec (fun _ => Res) (@Bool.rec (fun _ => Res) (kv (.slice (some a) 0 (unk + l0.toNat)) st) (kv (.slice (some a) 0 unk) st) (Nat.beq l0.toNat 0)) (kv (.slice (some (addS a (l0.toNat * n))) (h0.toNat - l0.toNat) unk) st) (Nat.ble (l0.toNat + 1) ((c.length - a.off) / n)) = some r at h3
        have hroom : room P st a n = some ((c.length - a.off) / n) := by
          unfold room
          rw [h2]
          simp only
          rw [if_neg (by simp; omega), if_pos hc1]
        have e1 := bound_of hh (y := (c.length - a.off) / n) (by omega) (by omega)
        have e2 := bound_of hl (y := h0.toNat) (by omega) (by omega)
        have hs : sliceS P st n a len cap (lo.map (rdF s)) (hi.map (rdF s)) none = some (if l0.toNat < (c.length - a.off) / n then .slice (some (a.add (l0.toNat * n))) (h0.toNat - l0.toNat) unk else if l0.toNat = 0 then .slice (some a) 0 unk else .slice (some a) 0 (unk + l0.toNat)) := by
          unfold sliceS
          rw [if_neg (by omega), if_pos hcap, hroom]
          simp only [e1, e2]
          split
          · rfl
          · rename_i hlt
            rw [if_neg (by simp; omega)]
            split <;> rfl
        simp only [evOp, hu, hx, hn, Option.map_none, hs]
        cases hb1 : Nat.ble (l0.toNat + 1) ((c.length - a.off) / n) with
        | true =>
          rw [hb1] at h3
          rw [if_pos (show l0.toNat < (c.length - a.off) / n from Nat.le_of_ble_eq_true hb1)]
          rw [addS_eq] at h3
          exact h3
        | false =>
          rw [hb1] at h3
          have hnl : ¬ l0.toNat < (c.length - a.off) / n := fun k => by rw [Nat.ble_eq_true_of_le k] at hb1; cases hb1
          rw [if_neg hnl]
          cases hb2 : Nat.beq l0.toNat 0 with
          | true => rw [hb2] at h3; rw [if_pos (Nat.eq_of_beq_eq_true hb2)]; exact h3
          | false => rw [hb2] at h3; rw [if_neg (Nat.ne_of_beq_eq_false hb2)]; exact h3
    · exact slowOp_spec h
  · cases hn

theorem s_toString_spec {dst type pos after guard} {sT dT : TypeId} {x : Operand} (hk : cvK P sT dT = 1) (h : s_toString P ⟨dst, .convert sT dT x, type, pos, after, guard⟩ x call s st kv kd = some r) :
    Hands call kv kd (evOp P (rdF s) ⟨dst, .convert sT dT x, type, pos, after, guard⟩ st) r := by
  unfold cvK at hk
  rw [undQ_eq, undQ_eq] at hk
  split at hk
  · rename_i e hs hd
    rw [undQ_eq] at hk
    split at hk
    · rename_i he
      unfold s_toString at h
      split at h
      · rename_i a n cap hx
        obtain ⟨c, e', ex, h1, h2, h3⟩ := cellsF_spec h
        obtain ⟨hc, h3⟩ := needB_spec h3
        simp only [Bool.and_eq_true] at hc
        have hle : a.off + n ≤ c.length := Nat.le_of_ble_eq_true hc.1
        simp only [evOp, hs, hd, hx, he, cellsAt, h1, h2, Option.isSome_none, Bool.false_eq_true, if_false, hle, if_true]
        have hb : bytesOf ((c.drop a.off).take n) = some (((c.drop a.off).take n).map byteOf) := bytesOf_all hc.2
        rw [hb]
        exact h3
      · rename_i tt v hx
        split at h
        · rename_i z hz
          obtain ⟨hc, h⟩ := needB_spec h
          simp only [Bool.and_eq_true] at hc
          have h1 := Nat.eq_of_beq_eq_true hc.1
          simp only [evOp, hs, hd, hx, he, hz, h1, if_true, bytesOf_all hc.2]
          exact h
        · cases h
      · exact slowOp_spec h
    · cases hk
  · split at hk <;> cases hk
  · cases hk

theorem s_toBytes_spec {dst type pos after guard} {sT dT : TypeId} {x : Operand} (hk : cvK P sT dT = 2) (h : s_toBytes (elemQ P dT) x call s st kv kd = some r) :
    Hands call kv kd (evOp P (rdF s) ⟨dst, .convert sT dT x, type, pos, after, guard⟩ st) r := by
  unfold cvK at hk
  unfold elemQ at h
  rw [undQ_eq, undQ_eq] at hk
  split at hk
  · split at hk <;> cases hk
  · rename_i e hs hd
    rw [undQ_eq, sizeQ_eq] at hk
    split at hk
    · rename_i he hn
      rw [undQ_eq, hd] at h
      simp only at h
      unfold s_toBytes at h
      split at h
      · rename_i b hx
        obtain ⟨hc, h⟩ := needB_spec h
        have hc := Nat.le_of_ble_eq_true hc
        have h := newF_spec h
        have h1 : esz P e = 1 := by
          unfold sizeOfT at hn
          unfold esz
          rw [hn]; rfl
        simp only [evOp, hs, hd, hx, he, h1, newRow]
        rw [if_neg (by simp; omega)]
        exact h
      · cases h
    · cases hk
  · cases hk

theorem bin_of {dst type pos after guard} {op : BinOp} {t yt : TypeId} {x y : Operand} {vx vy v : Value} (hx : rdF s x = vx) (hy : rdF s y = vy) (f1 : flat vx = true) (f2 : flat vy = true) (f3 : flat v = true)
    (hp : pureRun P (do eqGuard op t x y vx vy; binOp op t vx vy) = some v) (h : kv v st = some r) : Hands call kv kd (evOp P (rdF s) ⟨dst, .binOp op t x y yt, type, pos, after, guard⟩ st) r := by
  simp only [evOp, hx, hy, f1, f2, Bool.and_self, if_true, hp, f3]
  exact h

theorem s_shl_spec {dst type pos after guard} {t yt : TypeId} {x y : Operand} (h : s_shl P ⟨dst, .binOp .shl t x y yt, type, pos, after, guard⟩ x y call s st kv kd = some r) :
    Hands call kv kd (evOp P (rdF s) ⟨dst, .binOp .shl t x y yt, type, pos, after, guard⟩ st) r := by
  unfold s_shl at h
  split at h
  · rename_i k a k' b hx hy
    obtain ⟨hc, h⟩ := needB_spec h
    simp only [posI, decide_eq_true_eq] at hc
    have hb : ¬ b < 0 := by omega
    refine bin_of hx hy rfl rfl rfl ?_ h
    simp only [binOp, Op.shift, if_neg hb]
    rfl
  · exact slowOp_spec h
theorem s_shr_spec {dst type pos after guard} {t yt : TypeId} {x y : Operand} (h : s_shr P ⟨dst, .binOp .shr t x y yt, type, pos, after, guard⟩ x y call s st kv kd = some r) :
    Hands call kv kd (evOp P (rdF s) ⟨dst, .binOp .shr t x y yt, type, pos, after, guard⟩ st) r := by
  unfold s_shr at h
  split at h
  · rename_i k a k' b hx hy
    obtain ⟨hc, h⟩ := needB_spec h
    simp only [posI, decide_eq_true_eq] at hc
    have hb : ¬ b < 0 := by omega
    refine bin_of hx hy rfl rfl rfl ?_ h
    simp only [binOp, Op.shift, if_neg hb]
    rfl
  · exact slowOp_spec h
theorem s_quo_spec {dst type pos after guard} {t yt : TypeId} {x y : Operand} (h : s_quo P ⟨dst, .binOp .quo t x y yt, type, pos, after, guard⟩ x y call s st kv kd = some r) :
    Hands call kv kd (evOp P (rdF s) ⟨dst, .binOp .quo t x y yt, type, pos, after, guard⟩ st) r := by
  unfold s_quo at h
  split at h
  · rename_i k a k' b hx hy
    obtain ⟨hc, h'⟩ := needB_spec h
    simp only [nonzI, Bool.and_eq_true, decide_eq_true_eq, Bool.not_eq_true', decide_eq_false_iff_not] at hc
    obtain ⟨rfl, hb⟩ := hc
    refine bin_of hx hy rfl rfl rfl ?_ h'
    simp only [binOp, Op.intDiv, if_neg hb, ne_eq, not_true_eq_false, if_false]
    rfl
  · exact slowOp_spec h
theorem s_rem_spec {dst type pos after guard} {t yt : TypeId} {x y : Operand} (h : s_rem P ⟨dst, .binOp .rem t x y yt, type, pos, after, guard⟩ x y call s st kv kd = some r) :
    Hands call kv kd (evOp P (rdF s) ⟨dst, .binOp .rem t x y yt, type, pos, after, guard⟩ st) r := by
  unfold s_rem at h
  split at h
  · rename_i k a k' b hx hy
    obtain ⟨hc, h'⟩ := needB_spec h
    simp only [nonzI, Bool.and_eq_true, decide_eq_true_eq, Bool.not_eq_true', decide_eq_false_iff_not] at hc
    obtain ⟨rfl, hb⟩ := hc
    refine bin_of hx hy rfl rfl rfl ?_ h'
    simp only [binOp, Op.intDiv, if_neg hb, ne_eq, not_true_eq_false, if_false]
    rfl
  · exact slowOp_spec h
theorem s_add_spec {dst type pos after guard} {t yt : TypeId} {x y : Operand} (h : s_add P ⟨dst, .binOp .add t x y yt, type, pos, after, guard⟩ x y call s st kv kd = some r) :
    Hands call kv kd (evOp P (rdF s) ⟨dst, .binOp .add t x y yt, type, pos, after, guard⟩ st) r := by
  unfold s_add at h
  split at h
  · rename_i a b hx hy
    obtain ⟨hc, h⟩ := needB_spec h
    have hc : a.size + b.size ≤ 9223372036854775807 := Nat.le_of_ble_eq_true hc
    refine bin_of hx hy rfl rfl rfl ?_ h
    simp only [binOp, Op.stringOp]
    rw [if_neg (by
      have : IntKind.i64.max = 9223372036854775807 := by decide
      rw [this]; omega)]
    rfl
  · rename_i k a k' b hx hy
    obtain ⟨hc, h'⟩ := needB_spec h
    simp only [decide_eq_true_eq] at hc
    subst hc
    refine bin_of hx hy rfl rfl rfl ?_ h'
    simp only [binOp, Op.intArith, ne_eq, not_true_eq_false, if_false]
    rfl
  · exact slowOp_spec h
theorem s_int_spec {dst type pos after guard} {op : BinOp} {t yt : TypeId} {x y : Operand} {f : IntKind → Int → Int → Int} (hf : ∀ k a b, pureRun P (do eqGuard op t x y (.int k a) (.int k b); binOp op t (.int k a) (.int k b)) = some (.int k (f k a b)))
    (h : s_int P ⟨dst, .binOp op t x y yt, type, pos, after, guard⟩ f x y call s st kv kd = some r) : Hands call kv kd (evOp P (rdF s) ⟨dst, .binOp op t x y yt, type, pos, after, guard⟩ st) r := by
  unfold s_int at h
  split at h
  · rename_i k a k' b hx hy
    obtain ⟨hc, h'⟩ := needB_spec h
    simp only [decide_eq_true_eq] at hc
    subst hc
    exact bin_of hx hy rfl rfl rfl (hf _ _ _) h'
  · exact slowOp_spec h
theorem s_cmp_spec {dst type pos after guard} {op : BinOp} {t yt : TypeId} {x y : Operand} {f : Int → Int → Bool} {g : ByteArray → ByteArray → Bool} {str : Bool}
    (hf : ∀ k a b, pureRun P (do eqGuard op t x y (.int k a) (.int k b); binOp op t (.int k a) (.int k b)) = some (.bool (f a b)))
    (hg : str = true → ∀ a b, pureRun P (do eqGuard op t x y (.string a) (.string b); binOp op t (.string a) (.string b)) = some (.bool (g a b)))
    (h : s_cmp P ⟨dst, .binOp op t x y yt, type, pos, after, guard⟩ f g str x y call s st kv kd = some r) : Hands call kv kd (evOp P (rdF s) ⟨dst, .binOp op t x y yt, type, pos, after, guard⟩ st) r := by
  unfold s_cmp at h
  split at h
  · rename_i k a k' b hx hy
    obtain ⟨hc, h'⟩ := needB_spec h
    simp only [decide_eq_true_eq] at hc
    subst hc
    exact bin_of hx hy rfl rfl rfl (hf _ _ _) h'
  · rename_i a b hx hy
    cases str with
    | true => exact bin_of hx hy rfl rfl rfl (hg rfl _ _) h
    | false => exact slowOp_spec h
  · exact slowOp_spec h
theorem pureRun_bind {α γ : Type} : ∀ (s : Sem α) (f : α → Sem γ), pureRun P (s >>= f) = (pureRun P s).bind fun a => pureRun P (f a)
  | .pure a, f => rfl
  | .program k, f => pureRun_bind (k P) f
  | .mark m k, f => pureRun_bind k f
  | .load .., _ => rfl
  | .store .., _ => rfl
  | .new .., _ => rfl
  | .shape .., _ => rfl
  | .freeze .., _ => rfl
  | .frozen .., _ => rfl
  | .getObj .., _ => rfl
  | .setObj .., _ => rfl
  | .choose .., _ => rfl
  | .sys .., _ => rfl
  | .halt .., _ => rfl
theorem pureRun_pure {α : Type} (a : α) : pureRun P (pure a) = some a := rfl
theorem pureRun_program : pureRun P program = some P := rfl
theorem pureRun_underlying {t : TypeId} {d : TypeDesc} (h : P.underlying t = some d) : pureRun P (underlying t) = some d := by
  unfold underlying
  rw [pureRun_bind, pureRun_program]
  simp only [Option.bind_some, h]
  rfl
theorem pureRun_part {t : TypeId} {e : Eta} (h : etaOf P t = some e) {xs : List Value} {i : Nat} {x : Value} (hx : xs[i]? = some x) : pureRun P (part t ⟨xs⟩ i) = some x := by
  unfold etaOf at h
  simp only [undQ_eq] at h
  have hd : ∃ d, P.underlying t = some d ∧ (∀ fs, d ≠ .struct fs) ∧ ∀ n e, d ≠ .array n e := by
    split at h
    · rename_i k hu; exact ⟨_, hu, fun _ h => (by cases h), fun _ _ h => (by cases h)⟩
    · rename_i hu; exact ⟨_, hu, fun _ h => (by cases h), fun _ _ h => (by cases h)⟩
    · rename_i hu; exact ⟨_, hu, fun _ h => (by cases h), fun _ _ h => (by cases h)⟩
    · rename_i e hu; exact ⟨_, hu, fun _ h => (by cases h), fun _ _ h => (by cases h)⟩
    · cases h
  obtain ⟨d, hu, h1, h2⟩ := hd
  have hagg : pureRun P (isAgg t) = some false := by
    unfold isAgg
    rw [pureRun_bind, pureRun_underlying hu]
    simp only [Option.bind_some]
    cases d <;> first
      | rfl
      | exact absurd rfl (h1 _)
      | exact absurd rfl (h2 _ _)
  unfold part
  rw [pureRun_bind, hagg]
  have hx' : (⟨xs⟩ : Array Value)[i]? = some x := by simpa using hx
  simp only [Option.bind_some, Bool.false_eq_true, if_false, hx']
  rfl
theorem eqE_spec {e : Eta} {x y : Value} {k : Bool → Res} {f : Field} {d : Nat} (hf : etaOf P f.type = some e) (h : eqE e x y k = some r) : ∃ b, pureRun P (Op.equalIn (d + 1) f.type x y) = some b ∧ k b = some r := by
  unfold etaOf at hf
  simp only [undQ_eq] at hf
  unfold eqE at h
  split at hf
  · rename_i kd hu
    obtain rfl := Option.some.inj hf
    simp only at h
    split at h
    · rename_i a m b n
      obtain ⟨hc, h'⟩ := needB_spec h
      simp only [decide_eq_true_eq] at hc
      subst hc
      refine ⟨_, ?_, h'⟩
      simp only [Op.equalIn, pureRun_bind, pureRun_underlying hu, Option.bind_some, if_true]
      rfl
    · cases h
  · rename_i hu
    obtain rfl := Option.some.inj hf
    simp only at h
    split at h
    · rename_i a b
      refine ⟨_, ?_, h⟩
      simp only [Op.equalIn, pureRun_bind, pureRun_underlying hu, Option.bind_some]
      rw [show eqS a b = (a == b) from (beq_toListBytes a b).symm]
      rfl
    · cases h
  · rename_i hu
    obtain rfl := Option.some.inj hf
    simp only at h
    split at h
    · rename_i a b
      refine ⟨_, ?_, h⟩
      simp only [Op.equalIn, pureRun_bind, pureRun_underlying hu, Option.bind_some]
      rfl
    · cases h
  · split at hf
    · obtain rfl := Option.some.inj hf
      cases h
    · cases hf
  · cases hf
theorem eqC_spec {d : Nat} : ∀ {fs : List Field} {i : Nat} {es : List Eta}, etaFs P fs i = some es → ∀ {xs ys : List Value} {k : Bool → Res} {r}, eqC es (xs.drop i) (ys.drop i) k = some r → ∃ b, pureRun P (Op.eqFields (d + 1) ⟨xs⟩ ⟨ys⟩ fs) = some b ∧ k b = some r
  | [], i, es, h, xs, ys, k, r, hk => by
    obtain rfl := Option.some.inj (h : some [] = some es)
    exact ⟨true, rfl, hk⟩
  | f :: fs, i, es, h, xs, ys, k, r, hk => by
    change (match and (Nat.beq f.offset i) (f.name != "_"), etaOf P f.type, etaFs P fs (i + 1) with
      | true, some (.slice _), _ => none
      | true, some e, some es => some (e :: es)
      | _, _, _ => none) = some es at h
    cases hb : and (Nat.beq f.offset i) (f.name != "_") with
    | false => rw [hb] at h; cases h
    | true =>
    cases he : etaOf P f.type with
    | none => rw [hb, he] at h; cases h
    | some e =>
    cases hes : etaFs P fs (i + 1) with
    | none => rw [hb, he, hes] at h; cases e <;> cases h
    | some es' =>
      rw [hb, he, hes] at h
      have h : e :: es' = es := by cases e <;> first | exact Option.some.inj h | cases h
      subst h
      simp only [Bool.and_eq_true, bne_iff_ne, ne_eq] at hb
      obtain ⟨hoff, hname⟩ := hb
      have hoff := Nat.eq_of_beq_eq_true hoff
      change (match xs.drop i with
        | x :: xs' => match ys.drop i with
          | y :: ys' => eqE e x y fun b => eqC es' xs' ys' fun r => k (and b r)
          | [] => none
        | [] => none) = some r at hk
      split at hk
      · rename_i x xs' hxs
        split at hk
        · rename_i y ys' hys
          have hx : xs[i]? = some x := by rw [← List.head?_drop, hxs]; rfl
          have hy : ys[i]? = some y := by rw [← List.head?_drop, hys]; rfl
          have hx' : xs' = xs.drop (i + 1) := by rw [← List.tail_drop, hxs]; rfl
          have hy' : ys' = ys.drop (i + 1) := by rw [← List.tail_drop, hys]; rfl
          obtain ⟨b, h1, h2⟩ := eqE_spec (d := d) he hk
          rw [hx', hy'] at h2
          obtain ⟨b', h3, h4⟩ := eqC_spec (d := d) hes h2
          refine ⟨b && b', ?_, h4⟩
          simp only [Op.eqFields, if_pos hname, pureRun_bind, hoff, pureRun_part he hx, pureRun_part he hy, Option.bind_some, h1]
          cases b with
          | false => rfl
          | true => exact h3
        · cases hk
      · cases hk
theorem pureRun_equalIn_struct {d : Nat} {t : TypeId} {xs ys : Array Value} {fs : Array Field} (ht : P.underlying t = some (.struct fs)) (hp : P.stoodInHeld t = false) :
    pureRun P (Op.equalIn (d + 1) t (.agg xs) (.agg ys)) = pureRun P (Op.eqFields d xs ys fs.toList) := by
  simp only [Op.equalIn, pureRun_bind, pureRun_underlying ht, pureRun_program, Option.bind_some, hp, Bool.false_eq_true, if_false]
  rw [← Array.forIn_toList]
  generalize fs.toList = l
  clear ht
  induction l with
  | nil => rfl
  | cons f l ih =>
    simp only [List.forIn_cons, Op.eqFields, pureRun_bind]
    split
    · simp only [pureRun_bind]
      cases pureRun P (part f.type xs f.offset) with
      | none => rfl
      | some a =>
        simp only [Option.bind_some]
        cases pureRun P (part f.type ys f.offset) with
        | none => rfl
        | some b =>
          simp only [Option.bind_some]
          cases pureRun P (Op.equalIn d f.type a b) with
          | none => rfl
          | some r =>
            simp only [Option.bind_some]
            cases r with
            | false => rfl
            | true => exact ih
    · exact ih
theorem pureRun_guard {op : BinOp} {t : TypeId} {x y : Operand} {xs ys : Array Value} {s : Sem Value} (hm : P.eqGuardType P.depth t = false) : pureRun P (do eqGuard op t x y (.agg xs) (.agg ys); s) = pureRun P s := by
  rw [pureRun_bind]
  have : pureRun P (eqGuard op t x y (.agg xs) (.agg ys)) = some () := by
    cases op <;> first
      | rfl
      | (unfold eqGuard; simp only [pureRun_bind, pureRun_program, Option.bind_some, hm, Bool.not_true, Bool.false_eq_true, if_false, Bool.not_false, if_true]; rfl)
  rw [this]; rfl
theorem eqK_spec {t : TypeId} {es : List Eta} (h : eqK P t = some es) : ∃ fs, P.underlying t = some (.struct fs) ∧ P.stoodInHeld t = false ∧ P.eqGuardType P.depth t = false ∧ etaFs P fs.toList 0 = some es := by
  unfold eqK at h
  simp only [undQ_eq] at h
  split at h
  · rename_i fs hu
    split at h
    · cases h
    · rename_i hg
      simp only [Bool.or_eq_false_iff] at hg
      exact ⟨fs, hu, hg.1, hg.2, h⟩
  · cases h
theorem struct_eq {t : TypeId} {es : List Eta} (h : eqK P t = some es) {xs ys : Array Value} {k : Bool → Res} {r} (hk : eqC es xs.toList ys.toList k = some r) : ∃ b, pureRun P (Op.equal t (.agg xs) (.agg ys)) = some b ∧ k b = some r := by
  obtain ⟨fs, h1, h2, h3, h4⟩ := eqK_spec h
  obtain ⟨b, g1, g2⟩ := eqC_spec (d := 9998) h4 (xs := xs.toList) (ys := ys.toList) hk
  exact ⟨b, by unfold Op.equal Op.maxDepth; rw [pureRun_equalIn_struct h1 h2]; exact g1, g2⟩
theorem equal_bool {t : TypeId} (hu : P.underlying t = some .bool) (a b : Bool) : pureRun P (Op.equal t (.bool a) (.bool b)) = some (a == b) := by
  unfold Op.equal Op.maxDepth
  show pureRun P (Op.equalIn (9999 + 1) t (.bool a) (.bool b)) = _
  unfold Op.equalIn
  rw [pureRun_bind, pureRun_underlying hu]
  rfl
theorem s_eql_spec {dst type pos after guard} {t yt : TypeId} {x y : Operand} (h : s_eql P ⟨dst, .binOp .eql t x y yt, type, pos, after, guard⟩ (isBoolT P t) (eqK P t) x y call s st kv kd = some r) :
    Hands call kv kd (evOp P (rdF s) ⟨dst, .binOp .eql t x y yt, type, pos, after, guard⟩ st) r := by
  unfold s_eql at h
  split at h
  · rename_i k a k' b hx hy
    obtain ⟨hc, h'⟩ := needB_spec h
    simp only [decide_eq_true_eq] at hc
    subst hc
    exact bin_of hx hy rfl rfl rfl (by simp only [binOp, Op.intCmp, ne_eq, not_true_eq_false, if_false]; rfl) h'
  · rename_i a b hx hy
    exact bin_of hx hy rfl rfl rfl (by simp only [binOp, Op.stringOp]; rfl) h
  · rename_i a b hx hy
    split at h
    · rename_i hb
      unfold isBoolT at hb
      rw [undQ_eq] at hb
      split at hb
      · rename_i hu
        refine bin_of hx hy rfl rfl rfl ?_ h
        rw [pureRun_bind]
        show pureRun P (binOp .eql t (.bool a) (.bool b)) = _
        simp only [binOp, pureRun_bind, equal_bool hu, Option.bind_some]
        rfl
      · cases hb
    · exact slowOp_spec h
  · rename_i a b hx hy
    split at h
    · rename_i es hes
      obtain ⟨hc, h'⟩ := needB_spec h
      simp only [Bool.and_eq_true] at hc
      obtain ⟨b', g1, g2⟩ := struct_eq hes h'
      obtain ⟨fs, h1, h2, h3, h4⟩ := eqK_spec hes
      refine bin_of hx hy (by simpa only [flat] using hc.1) (by simpa only [flat] using hc.2) rfl ?_ g2
      rw [pureRun_guard h3]
      simp only [binOp, pureRun_bind, g1, Option.bind_some]
      rfl
    · exact slowOp_spec h
  · exact slowOp_spec h
theorem s_neq_spec {dst type pos after guard} {t yt : TypeId} {x y : Operand} (h : s_neq P ⟨dst, .binOp .neq t x y yt, type, pos, after, guard⟩ (isBoolT P t) (eqK P t) x y call s st kv kd = some r) :
    Hands call kv kd (evOp P (rdF s) ⟨dst, .binOp .neq t x y yt, type, pos, after, guard⟩ st) r := by
  unfold s_neq at h
  split at h
  · rename_i k a k' b hx hy
    obtain ⟨hc, h'⟩ := needB_spec h
    simp only [decide_eq_true_eq] at hc
    subst hc
    exact bin_of hx hy rfl rfl rfl (by simp only [binOp, Op.intCmp, ne_eq, not_true_eq_false, if_false]; rfl) h'
  · rename_i a b hx hy
    exact bin_of hx hy rfl rfl rfl (by simp only [binOp, Op.stringOp]; rfl) h
  · rename_i a b hx hy
    split at h
    · rename_i hb
      unfold isBoolT at hb
      rw [undQ_eq] at hb
      split at hb
      · rename_i hu
        refine bin_of hx hy rfl rfl rfl ?_ h
        rw [pureRun_bind]
        show pureRun P (binOp .neq t (.bool a) (.bool b)) = _
        simp only [binOp, pureRun_bind, equal_bool hu, Option.bind_some]
        rfl
      · cases hb
    · exact slowOp_spec h
  · rename_i a b hx hy
    split at h
    · rename_i es hes
      obtain ⟨hc, h'⟩ := needB_spec h
      simp only [Bool.and_eq_true] at hc
      obtain ⟨b', g1, g2⟩ := struct_eq hes h'
      obtain ⟨fs, h1, h2, h3, h4⟩ := eqK_spec hes
      refine bin_of hx hy (by simpa only [flat] using hc.1) (by simpa only [flat] using hc.2) rfl ?_ g2
      rw [pureRun_guard h3]
      simp only [binOp, pureRun_bind, g1, Option.bind_some]
      rfl
    · exact slowOp_spec h
  · exact slowOp_spec h
theorem s_cvI_spec {dst type pos after guard} {sT dT : TypeId} {k : IntKind} {x : Operand} (hk : cvT P sT dT = some k) (h : s_cvI P ⟨dst, .convert sT dT x, type, pos, after, guard⟩ k x call s st kv kd = some r) :
    Hands call kv kd (evOp P (rdF s) ⟨dst, .convert sT dT x, type, pos, after, guard⟩ st) r := by
  unfold cvT at hk
  simp only [undQ_eq] at hk
  split at hk
  · rename_i k1 k2 h1 h2
    obtain rfl := Option.some.inj hk
    unfold s_cvI at h
    split at h
    · rename_i k3 n hx
      have hp : pureRun P (convert sT dT (.int k3 n)) = some (.int k2 (cvI k2 n)) := by
        unfold convert
        simp only [pureRun_bind, pureRun_underlying h1, pureRun_underlying h2, Option.bind_some]
        rfl
      simp only [evOp, h1, h2, hx, flat, if_true, hp]
      exact h
    · exact slowOp_spec h
  · cases hk
theorem s_min2_spec {dst type pos after guard} {c : Call} {g : Int → Int → Bool} {b : Builtin} {x y : Operand} (hc1 : c.callee = .builtin b) (hc2 : c.args.toList = [x, y])
    (hb : ∀ k k' m n, builtinS P b c.argTypes type (c.args.map constB) [.int k m, .int k' n] st = some (.val (.int k (if g n m = true then n else m)) st))
    (h : s_min2 P ⟨dst, .call c, type, pos, after, guard⟩ g x y call s st kv kd = some r) : Hands call kv kd (evOp P (rdF s) ⟨dst, .call c, type, pos, after, guard⟩ st) r := by
  unfold s_min2 at h
  split at h
  · rename_i k a k' b hx hy
    simp only [evOp, hc1, hc2, List.map_cons, List.map_nil, hx, hy, hb]
    cases hg : g b a with
    | true => rw [hg] at h; exact h
    | false => rw [hg] at h; exact h
  · exact slowOp_spec h
theorem s_not_spec {dst type pos after guard} {t : TypeId} {x : Operand} (h : s_not P ⟨dst, .unOp .not t x, type, pos, after, guard⟩ x call s st kv kd = some r) : Hands call kv kd (evOp P (rdF s) ⟨dst, .unOp .not t x, type, pos, after, guard⟩ st) r := by
  unfold s_not at h
  split at h
  · rename_i b hx
    simp only [evOp, hx, flat, if_true]
    exact h
  · exact slowOp_spec h
theorem s_com_spec {dst type pos after guard} {t : TypeId} {x : Operand} (h : s_com P ⟨dst, .unOp .xor t x, type, pos, after, guard⟩ x call s st kv kd = some r) : Hands call kv kd (evOp P (rdF s) ⟨dst, .unOp .xor t x, type, pos, after, guard⟩ st) r := by
  unfold s_com at h
  split at h
  · rename_i k n hx
    have e : pureRun P (Op.unary .xor (.int k n)) = some (.int k (comI k n)) := by
      simp only [Op.unary, Op.intBits, ne_eq, not_true_eq_false, if_false]; rfl
    simp only [evOp, hx, flat, if_true, e]
    exact h
  · exact slowOp_spec h
theorem s_len1_spec {dst type pos after guard} {c : Call} {x : Operand} (hc1 : c.callee = .builtin .len) (hc2 : c.args.toList = [x]) (hl : lenK P c.argTypes = 1) (h : s_len1 P ⟨dst, .call c, type, pos, after, guard⟩ x call s st kv kd = some r) :
    Hands call kv kd (evOp P (rdF s) ⟨dst, .call c, type, pos, after, guard⟩ st) r := by
  unfold lenK at hl
  simp only [undQ_eq] at hl
  split at hl
  · rename_i t ht
    split at hl
    · rename_i e hu
      unfold s_len1 at h
      split at h
      · rename_i a n cap hx
        simp only [evOp, hc1, hc2, List.map_cons, List.map_nil, hx, builtinS, ht, hu]
        exact h
      · rename_i tt v hx
        split at h
        · rename_i z hz
          simp only [evOp, hc1, hc2, List.map_cons, List.map_nil, hx, builtinS, ht, hu, hz]
          exact h
        · cases h
      · exact slowOp_spec h
    · cases hl
    · cases hl
  · cases hl
theorem s_cap1_spec {dst type pos after guard} {c : Call} {x : Operand} (hc1 : c.callee = .builtin .cap) (hc2 : c.args.toList = [x]) (hl : lenK P c.argTypes = 1) (h : s_cap1 P ⟨dst, .call c, type, pos, after, guard⟩ x call s st kv kd = some r) :
    Hands call kv kd (evOp P (rdF s) ⟨dst, .call c, type, pos, after, guard⟩ st) r := by
  unfold lenK at hl
  simp only [undQ_eq] at hl
  split at hl
  · rename_i t ht
    split at hl
    · rename_i e hu
      unfold s_cap1 at h
      split at h
      · rename_i a n cap hx
        obtain ⟨hb, h⟩ := needB_spec h
        have hb : Nat.ble (cap + 1) unk = true := hb
        simp only [evOp, hc1, hc2, List.map_cons, List.map_nil, hx, builtinS, ht, hu, hb]
        exact h
      · rename_i n cap hx
        simp only [evOp, hc1, hc2, List.map_cons, List.map_nil, hx, builtinS, ht, hu]
        exact h
      · exact slowOp_spec h
    · cases hl
    · cases hl
  · cases hl
theorem s_len2_spec {dst type pos after guard} {c : Call} {x : Operand} (hc1 : c.callee = .builtin .len) (hc2 : c.args.toList = [x]) (hl : lenK P c.argTypes = 2) (h : s_len2 P ⟨dst, .call c, type, pos, after, guard⟩ x call s st kv kd = some r) :
    Hands call kv kd (evOp P (rdF s) ⟨dst, .call c, type, pos, after, guard⟩ st) r := by
  unfold lenK at hl
  simp only [undQ_eq] at hl
  split at hl
  · rename_i t ht
    split at hl
    · cases hl
    · rename_i hu
      unfold s_len2 at h
      split at h
      · rename_i b hx
        simp only [evOp, hc1, hc2, List.map_cons, List.map_nil, hx, builtinS, ht, hu]
        exact h
      · exact slowOp_spec h
    · cases hl
  · cases hl

theorem s_tail_spec {size : Nat} {x : Value} {xt : TypeDesc} {str : Bool} (hxt : (match xt with | .slice _ => some false | .string => some true | _ => none) = some str) {k : Nat → List Value → Res} (h : s_tail str size st x k = some r) :
    ∃ n new, tailOf st size xt x = some (n, new) ∧ k n new = some r := by
  unfold s_tail at h
  cases str with
  | true =>
    have : xt = .string := by
      split at hxt
      · cases hxt
      · rfl
      · cases hxt
    subst this
    simp only at h
    split at h
    · obtain ⟨hc, h⟩ := needB_spec h
      exact ⟨_, _, by simp only [tailOf, Nat.eq_of_beq_eq_true hc, if_true], h⟩
    · cases h
  | false =>
    have : ∃ e, xt = .slice e := by
      split at hxt
      · exact ⟨_, rfl⟩
      · cases hxt
      · cases hxt
    obtain ⟨e, rfl⟩ := this
    simp only at h
    split at h
    · rename_i a n cap
      obtain ⟨c, e', ex, h1, h2, h3⟩ := cellsF_spec h
      obtain ⟨hc, h3⟩ := needB_spec h3
      have hle : a.off + n * size ≤ c.length := Nat.le_of_ble_eq_true hc
      exact ⟨n, (c.drop a.off).take (n * size), by simp only [tailOf, cellsAt, h1, h2, Option.isSome_none, Bool.false_eq_true, if_false, hle, if_true], h3⟩
    · rename_i n cap
      obtain ⟨hc, h⟩ := needB_spec h
      exact ⟨_, _, by simp only [tailOf, Nat.eq_of_beq_eq_true hc, if_true], h⟩
    · rename_i t v
      split at h
      · rename_i z hz
        obtain ⟨hc, h⟩ := needB_spec h
        exact ⟨_, _, by simp only [tailOf, hz, Nat.eq_of_beq_eq_true hc, if_true], h⟩
      · cases h
    · cases h

theorem s_appendTo_spec {slow : Res} {e : TypeId} {size n : Nat} {new : List Value} {sv : Value} (hall : new.all oneCell = true) (hsl : slow = some r → ∃ v st', appendTo P st e size n new sv = some (v, st') ∧ kv v st' = some r) (h : s_appendTo slow e size n new st sv kv = some r) :
    ∃ v st', appendTo P st e size n new sv = some (v, st') ∧ kv v st' = some r := by
  unfold s_appendTo at h
  split at h
  · rename_i len cap
    obtain ⟨hc, h'⟩ := needB_spec h
    clear h
    simp only [Bool.and_eq_true] at hc
    have h1 := Nat.eq_of_beq_eq_true hc.1
    have h2 := Nat.eq_of_beq_eq_true hc.2.1
    have h3 := Nat.le_of_ble_eq_true hc.2.2
    subst h1 h2
    simp only [appendTo]
    rw [if_neg (by simp; omega)]
    cases hb : Nat.beq n 0 with
    | true =>
      rw [hb] at h'
      rw [if_pos (Nat.eq_of_beq_eq_true hb)]
      exact ⟨_, _, rfl, h'⟩
    | false =>
      rw [hb] at h'
      rw [if_neg (Nat.ne_of_beq_eq_false hb)]
      exact ⟨_, _, rfl, newF_spec h'⟩
  · rename_i a len cap
    change @Bool.rec (fun _ => Res)
      (@Bool.rec (fun _ => Res) (@Bool.rec (fun _ => Res)
        (needB (Nat.ble (len + n) big) (cellsF st a fun b off c _ _ _ _ => needB (Nat.ble (Nat.add off (len * size)) c.length)
          (newF st (.cells ((c.drop off).take (len * size) ++ new) e false) fun a st => kv (.slice (some a) (len + n) unk) st)))
        (@Bool.rec (fun _ => Res)
          (cellsF st a fun b off c e' ex heap next => needB (and (Nat.ble (cap + 1) unk) (Nat.ble (off + len * size + new.length) c.length))
            (kv (.slice (some a) (len + n) cap) ⟨setP (path b) heap (.cells (putAt c (off + len * size) new) e' ex), next⟩))
          (needB (Nat.ble (cap + 1) unk) (kv (.slice (some a) len cap) st)) (Nat.beq n 0)) (Nat.ble (len + n) cap))
        (@Bool.rec (fun _ => Res)
          (needB (Nat.ble (len + n) big) (cellsF st a fun b off c _ _ _ _ => needB (Nat.ble (Nat.add off (len * size)) c.length)
            (newF st (.cells ((c.drop off).take (len * size) ++ new) e false) fun a st => kv (.slice (some a) (len + n) unk) st)))
          (needB (Nat.ble (cap + 1) unk) (kv (.slice (some a) len cap) st)) (Nat.beq n 0)) (Nat.beq cap len))
      (cellsF st a fun b off c e' ex heap next => needB (and (not ex) (and (Nat.beq e' e) (and (Nat.ble off c.length) (Nat.ble (len + n) big))))
        (@Bool.rec (fun _ => Res)
          (needB (Nat.beq (Nat.add off (len * size)) c.length)
            (newF ⟨setP (path b) heap .dead, next⟩ (.cells ((c.drop off).take (len * size) ++ new) e false) fun a st => kv (.slice (some a) (len + n) unk) st))
          (needB (Nat.ble (Nat.add off (len * size)) c.length) (kv (.slice (some a) len cap) st)) (Nat.beq n 0)))
      (Nat.beq cap unk) = some r at h
    cases hb : Nat.beq cap unk with
    | false =>
      rw [hb] at h
      have hne := Nat.ne_of_beq_eq_false hb
      have grow : ¬ len + n ≤ cap → (needB (Nat.ble (len + n) big) (cellsF st a fun b off c _ _ _ _ => needB (Nat.ble (Nat.add off (len * size)) c.length)
          (newF st (.cells ((c.drop off).take (len * size) ++ new) e false) fun a st => kv (.slice (some a) (len + n) unk) st))) = some r → ∃ v st', appendTo P st e size n new (.slice (some a) len cap) = some (v, st') ∧ kv v st' = some r := by
        intro hnle h
        obtain ⟨hc, h⟩ := needB_spec h
        have hc := Nat.le_of_ble_eq_true hc
        obtain ⟨c, e', ex, h1, h2, h3⟩ := cellsF_spec h
        obtain ⟨hd, h3⟩ := needB_spec h3
        have hd : a.off + len * size ≤ c.length := Nat.le_of_ble_eq_true hd
        have hcu : cap < unk := by unfold unk; unfold big at hc; omega
        refine ⟨_, _, ?_, newF_spec h3⟩
        simp only [appendTo]
        rw [if_neg (by omega), if_pos hcu, if_neg hnle]
        simp only [cellsAt, h1, h2, Option.isSome_none, Bool.false_eq_true, if_false, hd, if_true]
        rfl
      have same : len + n ≤ cap → Nat.beq n 0 = true → needB (Nat.ble (cap + 1) unk) (kv (.slice (some a) len cap) st) = some r → ∃ v st', appendTo P st e size n new (.slice (some a) len cap) = some (v, st') ∧ kv v st' = some r := by
        intro hle hb3 h
        have hn := Nat.eq_of_beq_eq_true hb3
        obtain ⟨hcu, h⟩ := needB_spec h
        have hcu : cap < unk := Nat.le_of_ble_eq_true hcu
        refine ⟨_, _, ?_, h⟩
        simp only [appendTo]
        rw [if_neg (by omega), if_pos hcu, if_pos hle, if_pos hn]
      cases hb0 : Nat.beq cap len with
      | true =>
        rw [hb0] at h
        have hcl := Nat.eq_of_beq_eq_true hb0
        cases hb3 : Nat.beq n 0 with
        | true =>
          rw [hb3] at h
          exact same (by have := Nat.eq_of_beq_eq_true hb3; omega) hb3 h
        | false =>
          rw [hb3] at h
          exact grow (by have := Nat.ne_of_beq_eq_false hb3; omega) h
      | false =>
        rw [hb0] at h
        cases hb2 : Nat.ble (len + n) cap with
        | true =>
          rw [hb2] at h
          have hle := Nat.le_of_ble_eq_true hb2
          cases hb3 : Nat.beq n 0 with
          | false =>
            rw [hb3] at h
            have hn := Nat.ne_of_beq_eq_false hb3
            obtain ⟨c, e', ex, h1, h2, h3⟩ := cellsF_spec h
            obtain ⟨hc, h4⟩ := needB_spec h3
            simp only [Bool.and_eq_true] at hc
            have hcu : cap < unk := Nat.le_of_ble_eq_true hc.1
            have hd : a.off + len * size + new.length ≤ c.length := Nat.le_of_ble_eq_true hc.2
            rw [setP_path] at h4
            refine ⟨_, _, ?_, h4⟩
            simp only [appendTo]
            rw [if_neg (by omega), if_pos hcu, if_pos hle, if_neg hn]
            have hset : setCells st (a.add (len * size)) new = some { st with heap := st.heap.set a.block (.cells (putAt c (a.off + len * size) new) e' ex) } := by
              obtain ⟨ab, ao, asp⟩ := a
              simp only at h1
              subst h1
              simp only [add_of, setCells, Option.isSome_none, Bool.false_eq_true, if_false, h2, hd, decide_true, hall, Bool.and_self, if_true]
            rw [hset]
          | true => rw [hb3] at h; exact same hle hb3 h
        | false =>
          rw [hb2] at h
          exact grow (fun k => by rw [Nat.ble_eq_true_of_le k] at hb2; cases hb2) h
    | true =>
      rw [hb] at h
      have hcap := Nat.eq_of_beq_eq_true hb
      obtain ⟨c, e', ex, h1, h2, h3⟩ := cellsF_spec h
      obtain ⟨hc, h4⟩ := needB_spec h3
      clear h3
      simp only [Bool.and_eq_true, Bool.not_eq_true'] at hc
      obtain ⟨hx, he, ho, hbg⟩ := hc
      have he := Nat.eq_of_beq_eq_true he
      have ho := Nat.le_of_ble_eq_true ho
      have hbg := Nat.le_of_ble_eq_true hbg
      subst hx he
      have hpre : appendTo P st e' size n new (.slice (some a) len cap) = 
        if n = 0 then (if a.off + len * size ≤ c.length then some (.slice (some a) len cap, st) else none) else
        if a.off + (len + (cap - unk)) * size = c.length then
          some (.slice (some (newRow (kill st a.block) ((c.drop a.off).take (len * size) ++ new) e' false).1) (len + n) unk, (newRow (kill st a.block) ((c.drop a.off).take (len * size) ++ new) e' false).2)
        else if cap = unk && a.off + len * size + new.length ≤ c.length then
          match setCells st (a.add (len * size)) new with
          | some st => some (.slice (some a) (len + n) cap, st)
          | none => none
        else if cap = unk && a.off + len * size ≤ c.length then
          some (.slice (some (newRow (kill st a.block) ((c.drop a.off).take (len * size) ++ new) e' false).1) (len + n) unk, (newRow (kill st a.block) ((c.drop a.off).take (len * size) ++ new) e' false).2)
        else none := by
        simp only [appendTo]
        rw [if_neg (by omega), if_neg (by omega), h2]
        simp only
        rw [if_neg (by simp [h1, hcap, ho])]
        rfl
      rw [hpre]
      cases hb3 : Nat.beq n 0 with
      | true =>
        rw [hb3] at h4
        obtain ⟨hd, h4⟩ := needB_spec h4
        have hd : a.off + len * size ≤ c.length := Nat.le_of_ble_eq_true hd
        rw [if_pos (Nat.eq_of_beq_eq_true hb3), if_pos hd]
        exact ⟨_, _, rfl, h4⟩
      | false =>
        rw [hb3] at h4
        obtain ⟨hd, h4⟩ := needB_spec h4
        have hd : a.off + len * size = c.length := Nat.eq_of_beq_eq_true hd
        rw [if_neg (Nat.ne_of_beq_eq_false hb3), if_pos (by rw [hcap, Nat.sub_self, Nat.add_zero]; exact hd)]
        refine ⟨_, _, rfl, ?_⟩
        have h4 := newF_spec h4
        rw [setP_path] at h4
        exact h4
  · exact hsl h

theorem s_store1_spec {dst type pos after guard} {t : TypeId} {x v : Operand} (ht : oneT P t = true) (h : s_store1 P t x v call s st kv kd = some r) :
    Hands call kv kd (evOp P (rdF s) ⟨dst, .store t x v, type, pos, after, guard⟩ st) r := by
  unfold oneT at ht
  rw [sizeQ_eq] at ht
  unfold s_store1 at h
  split at h
  · rename_i a hx
    obtain ⟨c, e, ex, h1, h2, h3⟩ := cellsF_spec h
    cases ex with
    | false =>
      obtain ⟨hc, h4⟩ := needB_spec h3
      simp only [Bool.and_eq_true] at hc
      have hd : a.off + 1 ≤ c.length := Nat.le_of_ble_eq_true hc.2
      rw [setP_path] at h4
      unfold sizeOfT at ht
      cases hi : P.info? t with
      | none => rw [hi] at ht; cases ht
      | some i =>
        rw [hi] at ht
        have his : i.size = 1 := Nat.eq_of_beq_eq_true ht
        have hst : storeV P st t a (rdF s v) = some { st with heap := st.heap.set a.block (.cells (putAt c a.off [rdF s v]) e false) } := by
          have hv : (rdF s v).cells = #[rdF s v] ∧ isAny (rdF s v) = false ∧ oneCell (rdF s v) = true := by
            have h2 := hc.1
            generalize rdF s v = y at h2
            cases y with
            | chan r => cases r with
              | none => exact ⟨rfl, rfl, rfl⟩
              | some _ => simp [scalarB] at h2
            | agg _ => simp [scalarB] at h2
            | tuple _ => simp [scalarB] at h2
            | _ => exact ⟨rfl, rfl, rfl⟩
          obtain ⟨v1, v2, v3⟩ := hv
          simp [storeV, hi, v1, v2, his, setCells, h1, h2, v3, hd]
        simp only [evOp, hx, hst]
        exact h4
    | true =>
      simp only at h3
      simp only [q_store, hx] at h3
      obtain ⟨st', g1, g2⟩ := storeF_spec h3
      simp only [evOp, hx, g1]
      exact g2
  · cases h
end
end Go.VS
end

section
namespace Go.VS
set_option linter.unusedSimpArgs false
set_option linter.unusedVariables false
section
variable {P : Program}
variable {call : Knot} {s : Trie Value} {o : Oper} {st : St} {kv : Value → St → Res} {kd : Deferred → St → Res} {r : Value × St}

theorem s_pick_spec {dst type pos after guard} {c a b : Operand} (h : s_pick c a b call s st kv kd = some r) : Hands call kv kd (evOp P (rdF s) ⟨dst, .pick c a b, type, pos, after, guard⟩ st) r := by
  unfold s_pick at h
  split at h
  · rename_i t ht
    simp only [evOp, ht]
    cases t <;> exact h
  · cases h

theorem s_append_spec {dst type pos after guard} {c : Call} {x y : Operand} {tx ty e : TypeId} {size : Nat} {str : Bool} (hc1 : c.callee = .builtin .append) (hc2 : c.args.toList = [x, y]) (hc3 : c.argTypes.toList = [tx, ty]) (hk : appK P tx ty = some (e, size, str))
    (h : s_append P ⟨dst, .call c, type, pos, after, guard⟩ e size str x y call s st kv kd = some r) : Hands call kv kd (evOp P (rdF s) ⟨dst, .call c, type, pos, after, guard⟩ st) r := by
  unfold appK at hk
  simp only [undQ_eq, infoQ_eq, zeroQ_eq] at hk
  split at hk
  · rename_i e' xt hs hx
    split at hk
    · rename_i str' ei z hxt hi hz
      split at hk
      · cases hk
      · rename_i hcond
        simp only [Option.some.injEq, Prod.mk.injEq] at hk
        obtain ⟨rfl, rfl, rfl⟩ := hk
        have ht0 : c.argTypes[0]? = some tx := by rw [← Array.getElem?_toList, hc3]; rfl
        have ht1 : c.argTypes[1]? = some ty := by rw [← Array.getElem?_toList, hc3]; rfl
        have hev : evOp P (rdF s) ⟨dst, .call c, type, pos, after, guard⟩ st = match appendS P st tx ty (rdF s x) (rdF s y) with
          | some (v, st) => some (.val v st)
          | none => none := by
          simp only [evOp, hc1, hc2, List.map_cons, List.map_nil, builtinS, ht0, ht1]
          cases appendS P st tx ty (rdF s x) (rdF s y) <;> rfl
        rw [hev]
        have happ : appendS P st tx ty (rdF s x) (rdF s y) = match tailOf st ei.size xt (rdF s y) with
            | some (n, new) => if new.all oneCell then appendTo P st e' ei.size n new (rdF s x) else none
            | none => none := by
          simp only [appendS, hs, hx, hi, hz]
          rw [if_neg hcond]
          cases tailOf st ei.size xt (rdF s y) <;> rfl
        have key : (∃ v st', appendS P st tx ty (rdF s x) (rdF s y) = some (v, st') ∧ kv v st' = some r) → Hands call kv kd (match appendS P st tx ty (rdF s x) (rdF s y) with
          | some (v, st) => some (.val v st)
          | none => none) r := by
          rintro ⟨v, st', h1, h2⟩
          rw [h1]; exact h2
        apply key
        unfold s_append at h
        obtain ⟨n, new, h1, h2⟩ := s_tail_spec hxt h
        obtain ⟨h3, h4⟩ := needB_spec h2
        rw [happ, h1]
        simp only [h3, if_true]
        refine s_appendTo_spec h3 (fun hsl => ?_) h4
        have := slowOp_spec hsl
        rw [hev, happ, h1] at this
        simp only [h3, if_true] at this
        cases hx : appendTo P st e' ei.size n new (rdF s x) with
        | none => rw [hx] at this; exact this.elim
        | some p => rw [hx] at this; exact ⟨p.1, p.2, rfl, this⟩
    · cases hk
  · cases hk

theorem compS_spec (h : (compS P o).run call s st kv kd = some r) : Hands call kv kd (evOp P (rdF s) o st) r := by
  obtain ⟨dst, op, type, pos, after, guard⟩ := o
  unfold compS at h
  simp only at h
  split at h
  · exact s_pick_spec h
  · split at h
    · rename_i hk
      split at h
      · exact s_load1_spec hk h
      · exact opF_spec h
    · exact opF_spec h
  · split at h
    · exact s_store1_spec ‹_› h
    · exact opF_spec h
  · rename_i t x ix
    split at h
    · rename_i hs
      unfold isStr at hs
      rw [undQ_eq] at hs
      split at hs
      · exact s_index_spec ‹_› h
      · cases hs
    · exact opF_spec h
  · split at h
    · exact s_indexAddr_spec ‹_› h
    · exact opF_spec h
  · split at h
    · rename_i hs
      unfold isStr at hs
      rw [undQ_eq] at hs
      split at hs
      · exact s_slice_string_spec ‹_› h
      · cases hs
    · split at h
      · exact s_slice_spec ‹_› h
      · exact opF_spec h
  · split at h
    · exact s_toString_spec ‹_› h
    · exact s_toBytes_spec ‹_› h
    · split at h
      · exact s_cvI_spec ‹_› h
      · exact slowOp_spec h
  · split at h
    · exact s_shl_spec h
    · exact s_shr_spec h
    · exact s_quo_spec h
    · exact s_rem_spec h
    · exact s_add_spec h
    · exact s_int_spec (f := subI) (hf := fun k a b => by simp only [binOp, Op.intArith, ne_eq, not_true_eq_false, if_false]; rfl) h
    · exact s_int_spec (f := mulI) (hf := fun k a b => by simp only [binOp, Op.intArith, ne_eq, not_true_eq_false, if_false]; rfl) h
    · exact s_int_spec (f := andI) (hf := fun k a b => by simp only [binOp, Op.intBits, ne_eq, not_true_eq_false, if_false]; rfl) h
    · exact s_int_spec (f := orI) (hf := fun k a b => by simp only [binOp, Op.intBits, ne_eq, not_true_eq_false, if_false]; rfl) h
    · exact s_int_spec (f := xorI) (hf := fun k a b => by simp only [binOp, Op.intBits, ne_eq, not_true_eq_false, if_false]; rfl) h
    · exact s_int_spec (f := clrI) (hf := fun k a b => by simp only [binOp, Op.intBits, ne_eq, not_true_eq_false, if_false]; rfl) h
    · exact s_eql_spec h
    · exact s_neq_spec h
    · exact s_cmp_spec (f := ltI) (g := ltS) (str := true) (hf := fun k a b => by simp only [binOp, Op.intCmp, ne_eq, not_true_eq_false, if_false]; rfl) (hg := fun _ a b => by simp only [binOp, Op.stringOp]; rfl) h
    · exact s_cmp_spec (f := leI) (g := leS) (str := true) (hf := fun k a b => by simp only [binOp, Op.intCmp, ne_eq, not_true_eq_false, if_false]; rfl) (hg := fun _ a b => by simp only [binOp, Op.stringOp]; rfl) h
    · exact s_cmp_spec (f := gtI) (g := gtS) (str := true) (hf := fun k a b => by simp only [binOp, Op.intCmp, ne_eq, not_true_eq_false, if_false]; rfl) (hg := fun _ a b => by simp only [binOp, Op.stringOp]; rfl) h
    · exact s_cmp_spec (f := geI) (g := geS) (str := true) (hf := fun k a b => by simp only [binOp, Op.intCmp, ne_eq, not_true_eq_false, if_false]; rfl) (hg := fun _ a b => by simp only [binOp, Op.stringOp]; rfl) h
  · exact s_not_spec h
  · exact s_com_spec h
  · rename_i c
    split at h
    · rename_i h1 h2 h3
      split at h
      · rename_i r' hr
        exact s_append_spec h1 h2 h3 hr h
      · exact opF_spec h
    · rename_i h1 h2
      split at h
      · exact s_len1_spec h1 h2 ‹_› h
      · exact s_len2_spec h1 h2 ‹_› h
      · exact slowOp_spec h
    · rename_i h1 h2
      split at h
      · exact s_cap1_spec h1 h2 ‹_› h
      · exact slowOp_spec h
    · rename_i h1 h2
      exact s_min2_spec h1 h2 (g := ltI) (fun k _ m n => by
        have e : (if ltI n m = true then n else m) = minI m n := by simp [minI, ltI]
        rw [e]; rfl) h
    · rename_i h1 h2
      exact s_min2_spec h1 h2 (g := gtI) (fun k _ m n => by
        have e : (if gtI n m = true then n else m) = maxI m n := by simp [maxI, gtI]
        rw [e]; rfl) h
    · exact opF_spec h
  · exact opF_spec h
end
end Go.VS
end

section
namespace Go.VS
noncomputable def engS (P : Program) : Eng := ⟨compS P, fun ct => drawM P (compS P) ct⟩
theorem engS_ok (P : Program) (ct : Ct) : EngOk P ct (engS P) where
  comp := fun h => compS_spec h
  draw := by
    intro call hc ops nt ro s d st k r h
    exact drawM_spec (fun h => compS_spec h) hc h
end Go.VS
end

section
namespace Go.VS
set_option linter.unusedSimpArgs false
set_option linter.unusedVariables false

theorem need_eq {b : Bool} {x y : Res} (h : b = true) (k : x = y) : needB b x = y := by subst h; exact k
theorem ite_t {b : Bool} {x y z : Res} (h : b = true) (k : x = z) : iteB b x y = z := by subst h; exact k
theorem ite_f {b : Bool} {x y z : Res} (h : b = false) (k : y = z) : iteB b x y = z := by subst h; exact k
theorem same_agg : ∀ {l : List Value}, (l.all fun v => match v with | .int _ _ | .bool _ | .string _ | .chan _ => true | _ => false) = true → beqV (.agg ⟨l⟩) (.agg ⟨l⟩) = true
  | l, h => by
    show beqVL l l = true
    induction l with
    | nil => rfl
    | cons v l ih =>
      simp only [List.all_cons, Bool.and_eq_true] at h
      simp only [beqVL, ih h.2, Bool.and_true]
      obtain ⟨h1, _⟩ := h
      cases v <;> first | (simp at h1; done) | simp [beqV]
theorem leaf_eq {v v' : Value} {bs bs' : List Blk} (h : v = v') (k : bs = bs') : (some (v, mkSt bs) : Res) = some (v', mkSt bs') := by rw [h, k]
theorem and_ok {a b : Bool} (h : a = true) (k : b = true) : Bool.and a b = true := by rw [h, k]; rfl
theorem ble_ok {a b : Nat} (h : a ≤ b) : Nat.ble a b = true := Nat.ble_eq_true_of_le h
theorem beq_ok {a b : Nat} (h : a = b) : Nat.beq a b = true := by rw [h]; exact Nat.beq_refl b
theorem inI_ok {i : Int} {n : Nat} (h : 0 ≤ i) (k : i < n) : inI i n = true := by simp [inI, h, k]
theorem cutI_ok {l h : Int} {n : Nat} (h1 : 0 ≤ l) (h2 : l ≤ h) (h3 : h ≤ n) : cutI l h n = true := by simp [cutI, h1, h2, h3]

/-- Bytes as cells. -/
def bc (l : List UInt8) : List Value := l.map fun b => .int .u8 b.toNat
theorem byteCells_bc (s : ByteArray) : byteCells s = bc s.data.toList := rfl
theorem bc_length (l : List UInt8) : (bc l).length = l.length := by simp [bc]
theorem bc_append (a b : List UInt8) : bc (a ++ b) = bc a ++ bc b := by simp [bc]
theorem bc_flat : ∀ (l : List UInt8), flatL (bc l) = true
  | [] => rfl
  | b :: l => by
    show (flat (.int .u8 b.toNat) && flatL (bc l)) = true
    rw [bc_flat l]; rfl
theorem bc_ren (z : Bool) (ρ : Nat → Option Nat) (l : List UInt8) : renL z ρ (bc l) = bc l := renL_flat (bc_flat l)
theorem bc_all (l : List UInt8) : allBytes (bc l) = true := by
  unfold allBytes bc
  rw [List.all_map, List.all_eq_true]
  intro b _
  rfl
theorem byteOf_of (b : UInt8) : byteOf (.int .u8 b.toNat) = b := by
  show UInt8.ofNat (Int.toNat (b.toNat : Int)) = b
  simp
theorem bc_back (l : List UInt8) : (bc l).map byteOf = l := by
  unfold bc
  rw [List.map_map]
  have : (byteOf ∘ fun b : UInt8 => Value.int .u8 b.toNat) = id := by funext b; exact byteOf_of b
  rw [this, List.map_id]
theorem bc_text (l : List UInt8) : bytesT (bc l) = ⟨⟨l⟩⟩ := by unfold bytesT; rw [bc_back]
theorem bc_nth {l : List UInt8} {i : Nat} (h : i < l.length) : nthD (bc l) i = .int .u8 (l[i].toNat) := by
  unfold nthD bc
  rw [List.getD_eq_getElem?_getD, List.getElem?_map, List.getElem?_eq_getElem h]
  rfl
theorem bc_one (l : List UInt8) : (bc l).all oneCell = true := by
  unfold bc
  rw [List.all_map, List.all_eq_true]
  intro b _
  rfl
theorem allBytes_bc : ∀ {c : List Value}, allBytes c = true → (∀ v ∈ c, ∃ b : UInt8, v = .int .u8 b.toNat) → c = bc (c.map byteOf)
  | [], _, _ => rfl
  | v :: c, h, k => by
    obtain ⟨b, rfl⟩ := k v (by simp)
    simp only [allBytes, List.all_cons, Bool.and_eq_true] at h
    have ih := allBytes_bc (c := c) h.2 fun v hv => k v (by simp [hv])
    show _ = Value.int .u8 (byteOf (.int .u8 b.toNat)).toNat :: bc (c.map byteOf)
    rw [byteOf_of, ← ih]
theorem take_all (c : List Value) : takeC (Nat.mul c.length 1) (dropC 0 c) = c := by
  show (c.drop 0).take (c.length * 1) = c
  simp
theorem take_all' (c : List Value) {n : Nat} (h : n = c.length) : takeC n (dropC 0 c) = c := by
  subst h
  show (c.drop 0).take c.length = c
  simp
/-- A cell is a byte. -/
def isByteV (v : Value) : Bool := match v with
  | .int .u8 n => decide (0 ≤ n ∧ n < 256)
  | _ => false
def bytesB (c : List Value) : Bool := c.all isByteV
theorem isByteV_int (n : Int) : isByteV (.int .u8 n) = decide (0 ≤ n ∧ n < 256) := rfl
theorem bytesB_bc : ∀ (l : List UInt8), bytesB (bc l) = true
  | [] => rfl
  | b :: l => by
    have h : bytesB (bc (b :: l)) = (isByteV (.int .u8 b.toNat) && bytesB (bc l)) := by simp only [bytesB, bc, List.map_cons, List.all_cons]
    have := b.toNat_lt
    rw [h, bytesB_bc l, isByteV_int]
    simp only [Bool.and_true, decide_eq_true_eq]
    omega
theorem bc_of : ∀ {c : List Value}, bytesB c = true → c = bc (c.map byteOf)
  | [], _ => rfl
  | v :: c, h => by
    simp only [bytesB, List.all_cons, Bool.and_eq_true] at h
    obtain ⟨h1, h2⟩ := h
    unfold isByteV at h1
    split at h1
    · rename_i n
      simp only [decide_eq_true_eq] at h1
      have ih := bc_of (c := c) h2
      show _ = Value.int .u8 (byteOf (.int .u8 n)).toNat :: bc (c.map byteOf)
      rw [← ih]
      congr 2
      show n = ((UInt8.ofNat n.toNat).toNat : Int)
      simp only [UInt8.toNat_ofNat']
      omega
    · cases h1
theorem wrap64 {n : Int} (h1 : -9223372036854775808 ≤ n) (h2 : n < 9223372036854775808) : IntKind.i64.wrap n = n := by
  have e : IntKind.i64.wrap n = if n % 18446744073709551616 ≥ 9223372036854775808 then n % 18446744073709551616 - 18446744073709551616 else n % 18446744073709551616 := by
    show (if (true && decide (n % (2 ^ 64 : Int) ≥ (2 ^ (64 - 1) : Int))) = true then n % (2 ^ 64 : Int) - (2 ^ 64 : Int) else n % (2 ^ 64 : Int)) = _
    have e1 : (2 : Int) ^ (64 - 1) = 9223372036854775808 := by decide
    have e2 : (2 : Int) ^ 64 = 18446744073709551616 := by decide
    rw [e1, e2]
    simp only [Bool.true_and, decide_eq_true_eq]
  rw [e]
  split <;> omega
theorem wrap8 {n : Int} (h1 : 0 ≤ n) (h2 : n < 256) : IntKind.u8.wrap n = n := by
  have e : IntKind.u8.wrap n = n % 256 := by
    show (if (false && decide (n % (2 ^ 8 : Int) ≥ (2 ^ (8 - 1) : Int))) = true then n % (2 ^ 8 : Int) - (2 ^ 8 : Int) else n % (2 ^ 8 : Int)) = _
    simp
  rw [e]; omega
theorem toList_data (b : ByteArray) : b.toList = b.data.toList := by
  first
    | exact ByteArray.toList_eq b
    | exact Go.ByteArray.toList_eq b
    | exact _root_.ByteArray.toList_eq b
theorem eqS_eq (a b : ByteArray) : eqS a b = (a.data.toList == b.data.toList) := by unfold eqS; rw [toList_data, toList_data]
theorem neS_eq (a b : ByteArray) : neS a b = !(a.data.toList == b.data.toList) := by unfold neS; rw [toList_data, toList_data]
end Go.VS
end

section
namespace Go.VS
set_option linter.unusedSimpArgs false
set_option linter.unusedVariables false
open Go.RowKit
section
variable {P : Program} {ct : Ct}

/-- A part of the memory is taken out and put back: the rest stays. -/
theorem Rel.part {K : Prot} {β : Env} {st st0 : St} {w : World} (h : Rel P K β st w) (hnx : st0.next = st.next) (hsub : ∀ i b, st0.heap.get i = some b → b.live = true → st.heap.get i = some b)
    (hno : ∀ i o, st0.heap.get i ≠ some (.obj o)) :
    ∃ K' : Prot, (∀ k, K k → K' k) ∧ K'.id = K.id ∧ Rel P K' β st0 w ∧ ∀ (β' : Env) (st1 st2 : St) (w' : World), β.le β' → Rel P K' β' st1 w' → Bel K' w w' → st.next ≤ st1.next → (∀ i o, st1.heap.get i ≠ some (.obj o)) →
      st2.next = st1.next → (∀ i b, st2.heap.get i = some b → b.live = true → st1.heap.get i = some b ∨ ((∀ c, st1.heap.get i = some c → c.live = false) ∧ (∀ c, st0.heap.get i = some c → c.live = false) ∧ st.heap.get i = some b)) →
      (∀ i o, st.heap.get i = some (.obj o) → (∀ c, st1.heap.get i = some c → c.live = false) → st2.heap.get i = some (.obj o)) → Rel P K β' st2 w' := by
  obtain ⟨fp, o1, o2⟩ := h.objs
  have hobjs := h.objs
  let gone : Nat → Prop := fun k => ∃ i b l, st.heap.get i = some b ∧ b.live = true ∧ (∀ c, st0.heap.get i = some c → c.live = false) ∧ β (i : Int) = some l ∧ l.virt = false ∧ l.blk = k
  let foot : Nat → Prop := fun k => ∃ i, fp i k
  let K' : Prot := ⟨fun k => K k ∨ gone k ∨ foot k, K.id, fun k => K.nofz k ∨ gone k ∨ foot k, K.obs⟩
  have hr0 : Rel P K' β st0 w := by
    refine ⟨fun k hk => ?_, fun i l hi => by rw [hnx]; exact h.dom i l hi, fun i b hi hb => ?_, fun i j bi bj li lj hi hbi hj hbj => h.inj i j bi bj li lj (hsub i bi hi hbi) hbi (hsub j bj hj hbj) hbj, fun i hi => by rw [hnx]; exact h.res i hi, fun k l hk => ?_, fun k l hk => ?_, ?_⟩
    · rcases hk with hk | ⟨i, b, l, a1, a2, a3, a4, a5, rfl⟩ | ⟨i, hk⟩
      · exact h.base k hk
      · exact (h.dom i l a4).2 a5
      · exact (o2 i k hk).2.1
    · obtain ⟨l, c1, c2, c3⟩ := h.blk i b (hsub i b hi hb) hb
      refine ⟨l, c1, fun hv hK => ?_, c3⟩
      rcases hK with hK | ⟨j, bj, lj, a1, a2, a3, a4, a5, a6⟩ | ⟨j, hK⟩
      · exact c2 hv hK
      · have := h.inj i j b bj l lj (hsub i b hi hb) hb a1 a2 c1 a4 hv a5 a6.symm
        subst this
        have := a3 b hi
        rw [hb] at this; cases this
      · have := (o2 j _ hK).2.2.2.2.2 i b l (hsub i b hi hb) hb c1 hv rfl
        subst this
        obtain ⟨⟨o, ho⟩, _⟩ := o2 i _ hK
        rw [hsub i b hi hb] at ho
        cases ho
        exact hno i o hi
    · rintro (hf | ⟨j, bj, lj, a1, a2, a3, a4, a5, a6⟩ | ⟨j, hK⟩)
      · exact h.nofz k l hk hf
      · exact (h.frz k l hk).2.2 j bj lj a1 a2 a4 a5 a6
      · have := (o2 j k hK).2.2.2.1
        rw [hk] at this; cases this
    · obtain ⟨f1, f2, f3⟩ := h.frz k l hk
      exact ⟨f1, f2, fun j bj lj hj hbj => f3 j bj lj (hsub j bj hj hbj) hbj⟩
    · exact ⟨fun _ _ => False, fun i o hi => absurd hi (hno i o), fun i k hk => hk.elim⟩
  refine ⟨K', fun k hk => Or.inl hk, rfl, hr0, fun β' st1 st2 w' hle h1 hb hnx1 hno1 hnx2 hget hobj => ?_⟩
  have hrest : ∀ (i : Nat) b, st.heap.get i = some b → b.live = true → (∀ c, st0.heap.get i = some c → c.live = false) → ∃ l, β i = some l ∧ β' i = some l ∧ (l.virt = false → ¬ K l.blk ∧ gone l.blk) ∧ BlkR P β' l b w'.heap[l.blk]? := by
    intro i b hi hl hn
    obtain ⟨l, c1, c2, c3⟩ := h.blk i b hi hl
    refine ⟨l, c1, hle _ _ c1, fun hv => ⟨c2 hv, ⟨i, b, l, hi, hl, hn, c1, hv, rfl⟩⟩, ?_⟩
    cases hv : l.virt with
    | true => exact (c3.mono hle).anywhere hv _
    | false => rw [hb.block l.blk (Or.inr (Or.inl ⟨i, b, l, hi, hl, hn, c1, hv, rfl⟩))]; exact c3.mono hle
  refine ⟨fun k hk => Nat.lt_of_lt_of_le (h.base k hk) hb.size, fun i l hi => by rw [hnx2]; exact h1.dom i l hi, fun i b hi hl => ?_, fun i j bi bj li lj hi hbi hj hbj hli hlj v1 v2 e => ?_, fun i hi => by rw [hnx2]; exact h1.res i hi, fun k l hk hf => h1.nofz k l hk (Or.inl hf), fun k l hk => ?_, ?_⟩
  · rcases hget i b hi hl with g | ⟨_, g2, g3⟩
    · obtain ⟨l, c1, c2, c3⟩ := h1.blk i b g hl
      exact ⟨l, c1, fun hv hK => c2 hv (Or.inl hK), c3⟩
    · obtain ⟨l, _, c1, c2, c3⟩ := hrest i b g3 hl g2
      exact ⟨l, c1, fun hv => (c2 hv).1, c3⟩
  · rcases hget i bi hi hbi with g | ⟨_, g2, g3⟩ <;> rcases hget j bj hj hbj with g' | ⟨_, g2', g3'⟩
    · exact h1.inj i j bi bj li lj g hbi g' hbj hli hlj v1 v2 e
    · obtain ⟨l, c0, c1, c2, _⟩ := hrest j bj g3' hbj g2'
      rw [c1] at hlj; obtain rfl := Option.some.inj hlj
      obtain ⟨l', d1, d2, _⟩ := h1.blk i bi g hbi
      rw [d1] at hli; obtain rfl := Option.some.inj hli
      exact absurd (Or.inr (Or.inl (e ▸ (c2 v2).2))) (d2 v1)
    · obtain ⟨l, c0, c1, c2, _⟩ := hrest i bi g3 hbi g2
      rw [c1] at hli; obtain rfl := Option.some.inj hli
      obtain ⟨l', d1, d2, _⟩ := h1.blk j bj g' hbj
      rw [d1] at hlj; obtain rfl := Option.some.inj hlj
      exact absurd (Or.inr (Or.inl (e ▸ (c2 v1).2))) (d2 v2)
    · obtain ⟨l, c0, c1, _⟩ := hrest i bi g3 hbi g2
      obtain ⟨l', c0', c1', _⟩ := hrest j bj g3' hbj g2'
      rw [c1] at hli; obtain rfl := Option.some.inj hli
      rw [c1'] at hlj; obtain rfl := Option.some.inj hlj
      exact h.inj i j bi bj _ _ g3 hbi g3' hbj c0 c0' v1 v2 e
  · obtain ⟨f1, f2, f3⟩ := h1.frz k l hk
    refine ⟨f1, f2, fun j bj lj hj hbj hlj hv => ?_⟩
    rcases hget j bj hj hbj with g | ⟨_, g2, g3⟩
    · exact f3 j bj lj g hbj hlj hv
    · obtain ⟨l', _, c1, c2, _⟩ := hrest j bj g3 hbj g2
      rw [c1] at hlj; obtain rfl := Option.some.inj hlj
      intro e
      exact h1.nofz k l hk (Or.inr (Or.inl (e ▸ (c2 hv).2)))
  · refine ⟨fp, fun i o hi => ?_, fun i k hk => ?_⟩
    · have hi' : st.heap.get i = some (.obj o) := by
        rcases hget i _ hi rfl with g | ⟨_, _, g⟩
        · exact absurd g (hno1 i o)
        · exact g
      obtain ⟨l, a, b, c⟩ := o1 i o hi'
      refine ⟨l, hle _ _ a, b, K.obs.mono _ _ _ _ _ _ _ c (negE_mono hle) hb.size (fun k hk => hb.block k (Or.inr (Or.inr ⟨i, hk⟩))) fun k l hk => ?_⟩
      obtain ⟨_, f2, _⟩ := h.frz k l hk
      obtain ⟨_, f2', _⟩ := h1.frz k l (hle _ _ hk)
      rw [f2, f2']
    · obtain ⟨⟨o, ho⟩, a1, a2, a3, a4, a5⟩ := o2 i k hk
      have hdead : ∀ c, st1.heap.get i = some c → c.live = false := by
        intro c hc
        cases hcl : c.live with
        | false => rfl
        | true =>
          obtain ⟨l', d1, d2, _⟩ := h1.blk i c hc hcl
          obtain ⟨l, e1, e2, e3⟩ := h.blk i _ ho rfl
          have e3 : l.virt = false := e3
          rw [hle _ _ e1] at d1
          obtain rfl := Option.some.inj d1
          refine absurd (Or.inr (Or.inl ⟨i, .obj o, l, ho, rfl, fun c hc => ?_, e1, e3, rfl⟩)) (d2 e3)
          cases hcl : c.live with
          | false => rfl
          | true =>
            have := hsub i c hc hcl
            rw [ho] at this
            obtain rfl := Option.some.inj this
            exact absurd hc (hno i o)
      refine ⟨⟨o, hobj i o ho hdead⟩, Nat.lt_of_lt_of_le a1 hb.size, a2, ?_, a4, fun j bj lj hj hbj hlj hv e => ?_⟩
      · cases hx : β' (Int.negSucc k) with
        | none => rfl
        | some l => exact absurd (Or.inr (Or.inr ⟨i, hk⟩)) (h1.nofz k l hx)
      · rcases hget j bj hj hbj with g | ⟨_, g2, g3⟩
        · obtain ⟨l', d1, d2, _⟩ := h1.blk j bj g hbj
          rw [d1] at hlj; obtain rfl := Option.some.inj hlj
          exact absurd (Or.inr (Or.inr ⟨i, e ▸ hk⟩)) (d2 hv)
        · obtain ⟨l', c0, c1, _⟩ := hrest j bj g3 hbj g2
          rw [c1] at hlj; obtain rfl := Option.some.inj hlj
          exact a5 j bj _ g3 hbj c0 hv e

/-! ### a call, its arguments, all that it reads; what it answers, and leaves -/
structure Memo where
  g : FuncId
  args : List Value
  next : Nat
  pre : List (Nat × Blk)
  v : Value
  next' : Nat
  post : List (Nat × Blk)

/-- Bytes as cells. -/
noncomputable def u8s (l : List Nat) : List Value := @List.rec Nat (fun _ => List Value) [] (fun n _ ih => .int .u8 (.ofNat n) :: ih) l
noncomputable def putM (l : List (Nat × Blk)) : Trie Blk → Trie Blk :=
  @List.rec (Nat × Blk) (fun _ => Trie Blk → Trie Blk) (fun t => t) (fun p _ ih t => ih (setP (path p.1) t p.2)) l
noncomputable def deadM (l : List (Nat × Blk)) : Trie Blk → Trie Blk :=
  @List.rec (Nat × Blk) (fun _ => Trie Blk → Trie Blk) (fun t => t) (fun p _ ih t => ih (setP (path p.1) t .dead)) l
noncomputable def stOf (l : List (Nat × Blk)) (next : Nat) : St := ⟨putM l .leaf, next⟩

def beqE : List MapEntry → List MapEntry → Bool
  | [], [] => true
  | x :: xs, y :: ys => beqV x.key y.key && beqV x.val y.val && Nat.beq x.born y.born && beqE xs ys
  | _, _ => false
def beqB : Blk → Blk → Bool
  | .cells c e x, .cells c' e' x' => Nat.beq e e' && (x == x') && beqVL c c'
  | .map es c, .map es' c' => Nat.beq c c' && beqE es es'
  | _, _ => false
theorem beqE_eq : ∀ {a b : List MapEntry}, beqE a b = true → a = b
  | [], [], _ => rfl
  | [], _ :: _, h => by cases h
  | _ :: _, [], h => by cases h
  | x :: xs, y :: ys, h => by
    simp only [beqE, Bool.and_eq_true] at h
    obtain ⟨⟨⟨h1, h2⟩, h3⟩, h4⟩ := h
    obtain ⟨k, v, b⟩ := x
    obtain ⟨k', v', b'⟩ := y
    simp only at h1 h2 h3
    rw [beqV_eq _ _ h1, beqV_eq _ _ h2, Nat.eq_of_beq_eq_true h3, beqE_eq h4]
theorem beqB_eq {a b : Blk} (h : beqB a b = true) : a = b := by
  unfold beqB at h
  split at h
  · simp only [Bool.and_eq_true, beq_iff_eq] at h
    rw [Nat.eq_of_beq_eq_true h.1.1, h.1.2, beqVL_eq _ _ h.2]
  · simp only [Bool.and_eq_true] at h
    rw [Nat.eq_of_beq_eq_true h.1, beqE_eq h.2]
  · cases h
theorem beqB_live {a b : Blk} (h : beqB a b = true) : a.live = true ∧ a.isObj = false := by
  unfold beqB at h
  split at h <;> first | exact ⟨rfl, rfl⟩ | cases h

noncomputable def hasM (t : Trie Blk) (l : List (Nat × Blk)) : Bool :=
  @List.rec (Nat × Blk) (fun _ => Bool) true (fun p _ ih => match getP (path p.1) t with
    | some b => @Bool.rec (fun _ => Bool) false ih (beqB p.2 b)
    | none => false) l

def lastM (l : List (Nat × Blk)) (i : Nat) (d : Option Blk) : Option Blk := match l with
  | [] => d
  | p :: l => lastM l i (if i = p.1 then some p.2 else d)
theorem putM_get : ∀ (l : List (Nat × Blk)) (t : Trie Blk) (i : Nat), (putM l t).get i = lastM l i (t.get i)
  | [], t, i => rfl
  | p :: l, t, i => by
    show (putM l (setP (path p.1) t p.2)).get i = _
    rw [putM_get l, setP_path, Trie.get_set]
    rfl
theorem deadM_get : ∀ (l : List (Nat × Blk)) (t : Trie Blk) (i : Nat), (deadM l t).get i = if i ∈ l.map (·.1) then some .dead else t.get i
  | [], t, i => by simp [deadM]
  | p :: l, t, i => by
    show (deadM l (setP (path p.1) t .dead)).get i = _
    rw [deadM_get l, setP_path, Trie.get_set]
    by_cases h : i ∈ l.map (·.1)
    · rw [if_pos h, if_pos (by simp only [List.map_cons, List.mem_cons]; exact Or.inr h)]
    · rw [if_neg h]
      by_cases h2 : i = p.1
      · rw [if_pos h2, if_pos (by simp [h2])]
      · rw [if_neg h2, if_neg (by simp only [List.map_cons, List.mem_cons, not_or]; exact ⟨h2, h⟩)]
theorem lastM_cases : ∀ (l : List (Nat × Blk)) (i : Nat) (d : Option Blk), (i ∉ l.map (·.1) ∧ lastM l i d = d) ∨ (i ∈ l.map (·.1) ∧ ∃ b, (i, b) ∈ l ∧ lastM l i d = some b)
  | [], i, d => Or.inl ⟨by simp, rfl⟩
  | p :: l, i, d => by
    simp only [lastM]
    rcases lastM_cases l i (if i = p.1 then some p.2 else d) with ⟨h1, h2⟩ | ⟨h1, b, h2, h3⟩
    · by_cases h : i = p.1
      · refine Or.inr ⟨by simp [h], p.2, by rw [h]; simp, ?_⟩
        rw [h2, if_pos h]
      · refine Or.inl ⟨by simp only [List.map_cons, List.mem_cons, not_or]; exact ⟨h, h1⟩, ?_⟩
        rw [h2, if_neg h]
    · exact Or.inr ⟨by simp only [List.map_cons, List.mem_cons]; exact Or.inr h1, b, List.mem_cons_of_mem _ h2, h3⟩
theorem lastM_any {i : Nat} : ∀ {l : List (Nat × Blk)}, i ∈ l.map (·.1) → ∀ (d d' : Option Blk), lastM l i d = lastM l i d'
  | [], h, _, _ => by cases h
  | p :: l, h, d, d' => by
    simp only [lastM]
    by_cases hp : i = p.1
    · rw [if_pos hp, if_pos hp]
    · rw [if_neg hp, if_neg hp]
      simp only [List.map_cons, List.mem_cons] at h
      exact lastM_any (h.resolve_left hp) d d'
theorem hasM_mem {t : Trie Blk} : ∀ {l : List (Nat × Blk)}, hasM t l = true → ∀ {i b}, (i, b) ∈ l → t.get i = some b ∧ b.live = true ∧ b.isObj = false
  | [], _, i, b, h => by cases h
  | p :: l, hm, i, b, h => by
    change (match getP (path p.1) t with
      | some b => @Bool.rec (fun _ => Bool) false (hasM t l) (beqB p.2 b)
      | none => false) = true at hm
    rw [getP_path] at hm
    split at hm
    · rename_i b' hb'
      cases hq : beqB p.2 b' with
      | false => rw [hq] at hm; cases hm
      | true =>
        rw [hq] at hm
        rcases List.mem_cons.1 h with h | h
        · subst h
          obtain rfl := beqB_eq hq
          exact ⟨hb', beqB_live hq⟩
        · exact hasM_mem hm h
    · cases hm

/-- Does what was reckoned ahead fit here? -/
noncomputable def fitsM (m : Memo) (g : FuncId) (args : List Value) (st : St) : Bool := and (Nat.beq m.next st.next) (and (beqVL m.args args) (hasM st.heap m.pre))
noncomputable def overM (m : Memo) (st : St) : St := ⟨putM m.post (deadM m.pre st.heap), m.next'⟩

def MemoOk (P : Program) (m : Memo) : Prop := ∀ K β w args' cs, VRL β m.args args'.toList → Rel P K β (stOf m.pre m.next) w → CallReach P K β m.g args' .normal cs w m.v (stOf m.post m.next') ∧ m.next ≤ m.next' ∧ ∀ i b, (i, b) ∈ m.post → b.live = true ∧ b.isObj = false

noncomputable def memoCt (l : List Memo) (g : FuncId) (args : List Value) (st : St) (other : Option (DT (Value × St))) : Option (DT (Value × St)) :=
  @List.rec Memo (fun _ => Option (DT (Value × St))) other (fun m _ ih => match and (Nat.beq m.g g) (Nat.beq m.next st.next) with
    | true => some (.ite (fitsM m g args st) (.leaf (m.v, overM m st)) .fail)
    | false => ih) l
noncomputable def addMemo (l : List Memo) (ct : Ct) : Ct where
  call := fun g args st => memoCt l g args st (ct.call g args st)
  loop := ct.loop
  op := ct.op

theorem memo_use {m : Memo} (hm : MemoOk P m) {K : Prot} {β : Env} {st : St} {w : World} {args : List Value} {args' : Array Value} {cs : List Frame} (hf : fitsM m m.g args st = true) (ha : VRL β args args'.toList) (hr : Rel P K β st w) :
    CallReach P K β m.g args' .normal cs w m.v (overM m st) := by
  unfold fitsM at hf
  simp only [Bool.and_eq_true] at hf
  obtain ⟨f1, f2, f3⟩ := hf
  have f1 := Nat.eq_of_beq_eq_true f1
  obtain rfl := beqVL_eq _ _ f2
  have h0 : ∀ i, (stOf m.pre m.next).heap.get i = lastM m.pre i none := by
    intro i
    show (putM m.pre .leaf).get i = _
    rw [putM_get]; rfl
  obtain ⟨K', k1, k2, k3, k4⟩ := hr.part (st0 := stOf m.pre m.next) f1 (fun i b hi _ => by
    rw [h0] at hi
    rcases lastM_cases m.pre i none with ⟨_, e⟩ | ⟨_, b', hb', e⟩
    · rw [e] at hi; cases hi
    · rw [e] at hi; obtain rfl := Option.some.inj hi
      exact (hasM_mem f3 hb').1) (fun i o hi => by
    rw [h0] at hi
    rcases lastM_cases m.pre i none with ⟨_, e⟩ | ⟨_, b', hb', e⟩
    · rw [e] at hi; cases hi
    · rw [e] at hi; obtain rfl := Option.some.inj hi
      have := (hasM_mem f3 hb').2.2
      cases this)
  obtain ⟨⟨β', fr, w', v', c1, c2, c3, c4, c5, c6⟩, hn, hob⟩ := hm K' β w args' cs ha k3
  have h1 : ∀ i, (stOf m.post m.next').heap.get i = lastM m.post i none := by
    intro i
    show (putM m.post .leaf).get i = _
    rw [putM_get]; rfl
  have h2 : ∀ i, (overM m st).heap.get i = lastM m.post i (if i ∈ m.pre.map (·.1) then some .dead else st.heap.get i) := by
    intro i
    show (putM m.post (deadM m.pre st.heap)).get i = _
    rw [putM_get, deadM_get]
  have hno1 : ∀ i o, (stOf m.post m.next').heap.get i ≠ some (.obj o) := by
    intro i o hi
    rw [h1] at hi
    rcases lastM_cases m.post i none with ⟨_, e⟩ | ⟨_, b', hb', e⟩
    · rw [e] at hi; cases hi
    · rw [e] at hi; obtain rfl := Option.some.inj hi
      have := (hob i _ hb').2
      cases this
  refine ⟨β', fr, w', v', c1, c2, k4 β' _ (overM m st) w' c2 c3 c4 (by rw [← f1]; exact hn) hno1 rfl (fun i b hi hl => ?_) (fun i o hi hdead => ?_), c4.mono k1, c5, c6⟩
  · rw [h2] at hi
    rw [h1, h0]
    rcases lastM_cases m.post i (if i ∈ m.pre.map (·.1) then some .dead else st.heap.get i) with ⟨n1, e⟩ | ⟨n1, b', hb', e⟩
    · rw [e] at hi
      have e1 : lastM m.post i none = none := by
        rcases lastM_cases m.post i none with ⟨_, e⟩ | ⟨n, _⟩
        · exact e
        · exact absurd n n1
      by_cases hp : i ∈ m.pre.map (·.1)
      · rw [if_pos hp] at hi
        obtain rfl := Option.some.inj hi
        cases hl
      · rw [if_neg hp] at hi
        refine Or.inr ⟨fun c hc => (by rw [e1] at hc; cases hc), fun c hc => ?_, hi⟩
        rcases lastM_cases m.pre i none with ⟨_, e⟩ | ⟨n, _⟩
        · rw [e] at hc; cases hc
        · exact absurd n hp
    · refine Or.inl ?_
      rw [e] at hi
      rw [← hi]
      rw [← e]; exact lastM_any n1 _ _
  · rw [h2]
    have hnp : i ∉ m.pre.map (·.1) := by
      intro hp
      obtain ⟨⟨j, b⟩, hq, rfl⟩ := List.mem_map.1 hp
      obtain ⟨q1, q2, q3⟩ := hasM_mem f3 hq
      rw [hi] at q1
      obtain rfl := Option.some.inj q1
      cases q3
    rcases lastM_cases m.post i (if i ∈ m.pre.map (·.1) then some .dead else st.heap.get i) with ⟨_, e⟩ | ⟨n1, b', hb', e⟩
    · rw [e, if_neg hnp]; exact hi
    · have := hdead b' (by rw [h1, lastM_any n1 none (if i ∈ m.pre.map (·.1) then some .dead else st.heap.get i)]; exact e)
      rw [(hob i b' hb').1] at this
      cases this

theorem addMemo_ok {l : List Memo} (hct : CtOk P ct) (h : ∀ m ∈ l, MemoOk P m) : CtOk P (addMemo l ct) where
  opc := hct.opc
  op := hct.op
  loop := hct.loop
  call := by
    intro K g args st v st' hl β w args' cs ha hr
    simp only [addMemo] at hl
    induction l with
    | nil => exact hct.call K g args st v st' hl β w args' cs ha hr
    | cons m l ih =>
      change (match and (Nat.beq m.g g) (Nat.beq m.next st.next) with
        | true => some (DT.ite (fitsM m g args st) (.leaf (m.v, overM m st)) .fail)
        | false => memoCt l g args st (ct.call g args st)).bind DT.eval = some (v, st') at hl
      split at hl
      · rename_i hb
        simp only [Bool.and_eq_true] at hb
        obtain rfl := Nat.eq_of_beq_eq_true hb.1
        simp only [Option.bind_some] at hl
        cases hf : fitsM m m.g args st with
        | false => rw [hf] at hl; cases hl
        | true =>
          rw [hf] at hl
          simp only [DT.eval, Option.some.injEq, Prod.mk.injEq] at hl
          obtain ⟨rfl, rfl⟩ := hl
          exact memo_use (h m (by simp)) hf ha hr
      · exact ih (fun m hm => h m (by simp [hm])) hl

/-! ### a call is reckoned -/
noncomputable def kontM (m : Memo) (v : Value) (st : St) : Res :=
  @Bool.rec (fun _ => Res) none (some (.bool true, st)) (and (beqV m.v v) (and (Nat.beq m.next' st.next) (and (hasM st.heap m.post) (Nat.ble m.next m.next'))))
noncomputable def memoQ (P : Program) (E : Eng) (ct : Ct) (n : Nat) (m : Memo) : Bool :=
  match (knotQ P E ct n n).call m.g m.args (stOf m.pre m.next) (kontM m) with
  | some _ => true
  | none => false
theorem MemoOk.of {E : Eng} (hE : EngOk P ct E) (hN : noNum P = true) (hct : CtOk P ct) {n : Nat} {m : Memo} (h : memoQ P E ct n m = true) : MemoOk P m := by
  intro K β w args' cs ha hr
  unfold memoQ at h
  split at h
  · rename_i r hk
    obtain ⟨i, v1, st1, h1, h2⟩ := (knotQ_ok hE n n).call _ _ _ _ _ hk
    obtain ⟨β1, fr, w1, v', a1, a2, a3, a4, a5, a6⟩ := (sound_all hN hct i K).call m.g m.args (stOf m.pre m.next) v1 st1 h1 β w args' .normal cs (Or.inl rfl) ha hr
    unfold kontM at h2
    cases hb : (and (beqV m.v v1) (and (Nat.beq m.next' st1.next) (and (hasM st1.heap m.post) (Nat.ble m.next m.next')))) with
    | false => rw [hb] at h2; cases h2
    | true =>
      simp only [Bool.and_eq_true] at hb
      obtain ⟨b1, b2, b3, b4⟩ := hb
      obtain rfl := beqV_eq _ _ b1
      have b2 := Nat.eq_of_beq_eq_true b2
      refine ⟨⟨β1, fr, w1, v', a1, a2, ?_, a4, a5, a6⟩, Nat.le_of_ble_eq_true b4, fun i b hi => (hasM_mem b3 hi).2⟩
      have hg : ∀ i b, (stOf m.post m.next').heap.get i = some b → st1.heap.get i = some b ∧ b.isObj = false := by
        intro i b hi
        have : (stOf m.post m.next').heap.get i = lastM m.post i none := by
          show (putM m.post .leaf).get i = _
          rw [putM_get]; rfl
        rw [this] at hi
        rcases lastM_cases m.post i none with ⟨_, e⟩ | ⟨_, b', hb', e⟩
        · rw [e] at hi; cases hi
        · rw [e] at hi; obtain rfl := Option.some.inj hi
          obtain ⟨q1, q2, q3⟩ := hasM_mem b3 hb'
          exact ⟨q1, q3⟩
      refine ⟨a3.base, fun i l hi => by show i < m.next' ∧ _; rw [b2]; exact a3.dom i l hi, fun i b hi hl => a3.blk i b (hg i b hi).1 hl, fun i j bi bj li lj hi hbi hj hbj => a3.inj i j bi bj li lj (hg i bi hi).1 hbi (hg j bj hj).1 hbj,
        fun i hi => by show i < m.next' ∧ _; rw [b2]; exact a3.res i hi, a3.nofz, fun k l hk => ?_, ?_⟩
      · obtain ⟨f1, f2, f3⟩ := a3.frz k l hk
        exact ⟨f1, f2, fun j bj lj hj hbj => f3 j bj lj (hg j bj hj).1 hbj⟩
      · exact ⟨fun _ _ => False, fun i o hi => (by have := (hg i _ hi).2; cases this), fun i k hk => hk.elim⟩
  · cases h
theorem memos_nil : ∀ m ∈ ([] : List Memo), MemoOk P m := by simp
theorem memos_cons {m : Memo} {l : List Memo} (h : MemoOk P m) (hl : ∀ m ∈ l, MemoOk P m) : ∀ x ∈ m :: l, MemoOk P x := by
  intro x hx
  rcases List.mem_cons.1 hx with rfl | hx
  · exact h
  · exact hl x hx
end
end Go.VS
end

section
namespace Go.VS
set_option linter.unusedSimpArgs false
set_option linter.unusedVariables false
open Go.RowKit
section
variable {P : Program} {ct : Ct}

/-- A block under other numbers. -/
def renC (ρ : Nat → Option Nat) : Blk → Blk
  | .cells c e x => .cells (renL true ρ c) e x
  | .map es c => .map (renE true ρ es) c
  | .siter s p => .siter s p
  | _ => .dead
theorem renC_rel {ρ : Nat → Option Nat} {β β' : Env} (h : RenOk true ρ β β') {l : Loc} {b : Blk} {o : Option Obj} (r : BlkR P β l b o) : BlkR P β' l (renC ρ b) o := by
  cases b with
  | cells c e x => exact renB_rel h (b := .cells c e x) r
  | map es c => exact renB_rel h (b := .map es c) r
  | siter s p => exact renB_rel h (b := .siter s p) r
  | _ => exact trivial
theorem renC_live {ρ : Nat → Option Nat} {b : Blk} (h : (renC ρ b).live = true) : b.live = true := by cases b <;> first | rfl | cases h
theorem renC_obj {ρ : Nat → Option Nat} {b : Blk} {o : Ob} : renC ρ b ≠ .obj o := by cases b <;> simp [renC]

noncomputable def placeT (st : St) (bs : List Blk) : St := ⟨putL (bs.map (renC (shiftN st.next))) st.next st.heap, st.next + bs.length⟩
noncomputable def killL (l : List Nat) : Trie Blk → Trie Blk := @List.rec Nat (fun _ => Trie Blk → Trie Blk) (fun t => t) (fun i _ ih t => ih (setP (path i) t .dead)) l
theorem killL_get : ∀ (l : List Nat) (t : Trie Blk) (i : Nat), (killL l t).get i = if i ∈ l then some .dead else t.get i
  | [], t, i => by simp [killL]
  | p :: l, t, i => by
    show (killL l (setP (path p) t .dead)).get i = _
    rw [killL_get l, setP_path, Trie.get_set]
    by_cases h : i ∈ l
    · rw [if_pos h, if_pos (List.mem_cons_of_mem _ h)]
    · rw [if_neg h]
      by_cases h2 : i = p
      · rw [if_pos h2, if_pos (by simp [h2])]
      · rw [if_neg h2, if_neg (by simp only [List.mem_cons, not_or]; exact ⟨h2, h⟩)]
theorem placeT_get (st : St) (bs : List Blk) (i : Nat) : (placeT st bs).heap.get i = if st.next ≤ i ∧ i < st.next + bs.length then (bs[i - st.next]?).map (renC (shiftN st.next)) else st.heap.get i := by
  simp only [placeT, putL_get, List.length_map, List.getElem?_map]

theorem swap_rel {K : Prot} {β : Env} {st : St} {w : World} (h : Rel P K β st w) {src : List Nat} (hnd : src.Nodup) (hcells : ∀ b ∈ src, ∃ c e x, st.heap.get b = some (.cells c e x)) :
    ∃ K' : Prot, (∀ k, K k → K' k) ∧ (∀ i, ¬ K'.id i) ∧ Rel P K' (reEnv 0 src β) (mkSt (src.map fun b => renB true (rhoO 0 src) (st.heap.get b))) w ∧
      ∀ (β1 : Env) (bs1 : List Blk) (w1 : World), leN 0 (reEnv 0 src β) β1 → Rel P K' β1 (mkSt bs1) w1 → Bel K' w w1 →
        β.le (placeE st.next β β1) ∧ Rel P K (placeE st.next β β1) (placeT ⟨killL src st.heap, st.next⟩ bs1) w1 ∧ RenOk true (shiftN st.next) β1 (placeE st.next β β1) := by
  let st0 : St := ⟨putM (src.map fun b => (b, (st.heap.get b).getD .dead)) .leaf, st.next⟩
  have h0 : ∀ i, st0.heap.get i = if i ∈ src then st.heap.get i else none := by
    intro i
    show (putM _ .leaf).get i = _
    rw [putM_get]
    rcases lastM_cases (src.map fun b => (b, (st.heap.get b).getD .dead)) i ((Trie.leaf : Trie Blk).get i) with ⟨n, e⟩ | ⟨n, b', hb', e⟩
    · rw [e]
      have : i ∉ src := fun hi => n (by simp only [List.map_map, List.mem_map]; exact ⟨i, hi, rfl⟩)
      rw [if_neg this]; rfl
    · rw [e]
      obtain ⟨j, hj, hje⟩ := List.mem_map.1 hb'
      simp only [Prod.mk.injEq] at hje
      obtain ⟨rfl, rfl⟩ := hje
      obtain ⟨c, e', x, hc⟩ := hcells j hj
      rw [if_pos hj, hc]; rfl
  obtain ⟨K1, k1, k2, k3, k4⟩ := h.part (st0 := st0) rfl (fun i b hi _ => by
    rw [h0] at hi
    split at hi
    · exact hi
    · cases hi) (fun i o hi => by
    rw [h0] at hi
    split at hi
    · rename_i hm
      obtain ⟨c, e', x, hc⟩ := hcells i hm
      rw [hc] at hi; cases hi
    · cases hi)
  let K' : Prot := ⟨K1.blk, fun _ => False, fun k => K1.nofz k ∨ β (Int.negSucc k) = none, K1.obs⟩
  have r0 : Rel P K' β st0 w := ⟨k3.base, k3.dom, k3.blk, k3.inj, fun i hi => hi.elim, fun k l hk hf => hf.elim (k3.nofz k l hk) (fun hf => by rw [hk] at hf; cases hf), k3.frz, k3.objs⟩
  have hmid := canon_mid (N := 0) (src := src) r0 (fun i hi => hi.elim) (Nat.zero_le _) hnd (fun b hb => by
    obtain ⟨c, e, x, hc⟩ := hcells b hb
    exact ⟨c, e, x, by rw [h0, if_pos hb]; exact hc⟩)
  have hms : (src.map fun b => renB true (rhoO 0 src) (st0.heap.get b)) = src.map fun b => renB true (rhoO 0 src) (st.heap.get b) := by
    apply List.map_congr_left
    intro b hb
    rw [h0, if_pos hb]
  refine ⟨K', k1, fun i hi => hi, by rw [← hms]; exact hmid, fun β1 bs1 w1 hle h1 hb => ?_⟩
  have hneg : ∀ k l, β (Int.negSucc k) = some l → β1 (Int.negSucc k) = some l := fun k l hk => hle (Int.negSucc k) l (Int.negSucc_lt_zero k) hk
  have hneg' : ∀ k l, β1 (Int.negSucc k) = some l → β (Int.negSucc k) = some l := by
    intro k l hk
    cases hx : β (Int.negSucc k) with
    | none => exact absurd (Or.inr hx) (h1.nofz k l hk)
    | some l' => rw [hneg k l' hx] at hk; exact hk
  have hple : β.le (placeE st.next β β1) := by
    intro i l hi
    cases i with
    | negSucc k => exact hi
    | ofNat i =>
      have := (h.dom i l hi).1
      show (if i < st.next then β (i : Int) else _) = _
      rw [if_pos this]; exact hi
  have hren : RenOk true (shiftN st.next) β1 (placeE st.next β β1) := by
    refine ⟨fun b b' l hb hl => ?_, fun _ k l hk => hneg' k l hk⟩
    obtain rfl := Option.some.inj hb
    show (if st.next + b < st.next then β ((st.next + b : Nat) : Int) else β1 ((st.next + b - st.next : Nat) : Int)) = _
    rw [if_neg (by omega), show st.next + b - st.next = b by omega]; exact hl
  have hbig : ∀ i, st.next ≤ i → placeE st.next β β1 (i : Int) = β1 ((i - st.next : Nat) : Int) := by
    intro i hi
    show (if i < st.next then β (i : Int) else β1 ((i - st.next : Nat) : Int)) = _
    rw [if_neg (by omega)]
  -- what is put back, by itself
  have hlone : ∀ i b, (placeT ⟨.leaf, st.next⟩ bs1).heap.get i = some b → st.next ≤ i ∧ ∃ b0, (mkSt bs1).heap.get (i - st.next) = some b0 ∧ b = renC (shiftN st.next) b0 := by
    intro i b hi
    rw [placeT_get] at hi
    split at hi
    · rename_i hr
      cases hx : bs1[i - st.next]? with
      | none => rw [hx] at hi; cases hi
      | some b0 =>
        rw [hx] at hi
        exact ⟨hr.1, b0, by rw [mkSt_get]; exact hx, (Option.some.inj hi).symm⟩
    · cases hi
  have rl : Rel P K1 (placeE st.next β β1) (placeT ⟨.leaf, st.next⟩ bs1) w1 := by
    refine ⟨h1.base, fun i l hi => ?_, fun i b hi hl => ?_, fun i j bi bj li lj hi hbi hj hbj hli hlj v1 v2 e => ?_, fun i hi => ?_, fun k l hk => k3.nofz k l hk, fun k l hk => ?_, fun _ _ => False, fun i o hi => ?_, fun i k hk => hk.elim⟩
    · by_cases hin : i < st.next
      · have hi' : β (i : Int) = some l := by
          change (if i < st.next then β (i : Int) else _) = some l at hi
          rwa [if_pos hin] at hi
        obtain ⟨a1, a2⟩ := h.dom i l hi'
        exact ⟨Nat.lt_of_lt_of_le a1 (Nat.le_add_right _ _), fun hv => Nat.lt_of_lt_of_le (a2 hv) hb.size⟩
      · rw [hbig i (by omega)] at hi
        obtain ⟨a1, a2⟩ := h1.dom _ l hi
        have : (mkSt bs1).next = bs1.length := rfl
        exact ⟨by show i < st.next + bs1.length; omega, a2⟩
    · obtain ⟨a1, b0, a2, rfl⟩ := hlone i b hi
      obtain ⟨l, c1, c2, c3⟩ := h1.blk _ b0 a2 (renC_live hl)
      exact ⟨l, by rw [hbig i a1]; exact c1, c2, renC_rel hren c3⟩
    · obtain ⟨a1, b0, a2, rfl⟩ := hlone i bi hi
      obtain ⟨c1, d0, c2, rfl⟩ := hlone j bj hj
      rw [hbig i a1] at hli
      rw [hbig j c1] at hlj
      have := h1.inj _ _ b0 d0 li lj a2 (renC_live hbi) c2 (renC_live hbj) hli hlj v1 v2 e
      omega
    · rw [k2] at hi
      obtain ⟨a1, a2⟩ := h.res i hi
      refine ⟨Nat.lt_of_lt_of_le a1 (Nat.le_add_right _ _), ?_⟩
      show (if i < st.next then β (i : Int) else _) = _
      rw [if_pos a1]; exact a2
    · obtain ⟨f1, f2, f3⟩ := h1.frz k l (hneg k l hk)
      refine ⟨f1, f2, fun j bj lj hj hbj hlj hv => ?_⟩
      obtain ⟨c1, d0, c2, rfl⟩ := hlone j bj hj
      rw [hbig j c1] at hlj
      exact f3 _ d0 lj c2 (renC_live hbj) hlj hv
    · obtain ⟨_, b0, _, e⟩ := hlone i _ hi
      exact (renC_obj e.symm).elim
  refine ⟨hple, k4 _ (placeT ⟨.leaf, st.next⟩ bs1) _ w1 hple rl ⟨hb.os, hb.tape, hb.output, hb.size, hb.block⟩ (Nat.le_add_right _ _) (fun i o hi => ?_) rfl (fun i b hi hl => ?_) (fun i o hi hdead => ?_), hren⟩
  · obtain ⟨_, b0, _, e⟩ := hlone i _ hi
    exact (renC_obj e.symm).elim
  · rw [placeT_get] at hi
    split at hi
    · rename_i hr
      refine Or.inl ?_
      rw [placeT_get, if_pos hr]; exact hi
    · rename_i hr
      have hi : (killL src st.heap).get i = some b := hi
      rw [killL_get] at hi
      split at hi
      · obtain rfl := Option.some.inj hi; cases hl
      · rename_i hns
        refine Or.inr ⟨fun c hc => ?_, fun c hc => ?_, hi⟩
        · rw [placeT_get, if_neg hr] at hc; cases hc
        · rw [h0, if_neg hns] at hc; cases hc
  · obtain ⟨l, hl, _⟩ := h.blk i _ hi rfl
    have hlt := (h.dom i l hl).1
    rw [placeT_get, if_neg (by show ¬ (st.next ≤ i ∧ _); omega)]
    show (killL src st.heap).get i = _
    rw [killL_get, if_neg]
    · exact hi
    · intro hm
      obtain ⟨c, e, x, hc⟩ := hcells i hm
      rw [hi] at hc; cases hc

/-! ### slots under other numbers -/
theorem putTs_ren {g : Value → Value} : ∀ (ts : List Tmp) (vs : List Value) (s s' : Trie Value), (∀ i, (s'.get i).getD undef = g ((s.get i).getD undef)) → ∀ i, ((putTs ts (vs.map g) s').get i).getD undef = g (((putTs ts vs s).get i).getD undef)
  | [], [], s, s', h, i => by simpa [putTs] using h i
  | [], v :: vs, s, s', h, i => by simpa [putTs] using h i
  | t :: ts, [], s, s', h, i => by simpa [putTs] using h i
  | t :: ts, v :: vs, s, s', h, i => by
    simp only [List.map_cons, putTs]
    refine putTs_ren ts vs _ _ (fun j => ?_) i
    rw [setP_path, setP_path, Trie.get_set, Trie.get_set]
    by_cases hj : j = t
    · rw [if_pos hj, if_pos hj]; rfl
    · rw [if_neg hj, if_neg hj]; exact h j
theorem mkS_ren {g : Value → Value} (h1 : g anyV = anyV) (h2 : g undef = undef) (nt : Nat) (L : List Tmp) (vs : List Value) (i : Nat) : ((mkS nt L (vs.map g)).get i).getD undef = g (((mkS nt L vs).get i).getD undef) := by
  unfold mkS
  refine putTs_ren L vs _ _ (fun j => ?_) i
  rw [putL_get]
  split
  · rename_i hj
    simp only [List.length_replicate] at hj
    rw [List.getElem?_replicate, if_pos (by omega)]
    exact h1.symm
  · show undef = g undef
    exact h2.symm
theorem undef_ren {z : Bool} {ρ : Nat → Option Nat} : renV z ρ undef = undef := by
  unfold undef; rfl

/-- The head of a loop that is known wherever it lies: slots that are looked at; lists. -/
noncomputable def canonF (H : Head) (s : Trie Value) (st : St) : Option (List Nat × St × List Value × List Blk) :=
  match virtO H.M s st with
  | none => none
  | some (src, s, st) => match movs 0 src (fun i => getP (path i) st.heap) src with
    | none => none
    | some ms => some (src, st, H.L.map (fun t => renV true (rhoO 0 src) (slotF s t)), ms)

noncomputable def loopCtF (H : Head) (R : LoopFn) (f : Fr) (st : St) : Option (DT (Ex × Trie Value × St)) :=
  match f.defers, f.roundOf, Nat.beq f.ntmps H.nt with
  | [], none, true => match canonF H f.slots st with
    | some r => match R r.2.2.1 r.2.2.2 with
      | some t => some (t.map fun x => (x.1, mkS H.nt H.L (x.2.1.map (renV true (shiftN r.2.1.next))), placeT ⟨killL r.1 r.2.1.heap, r.2.1.next⟩ x.2.2))
      | none => none
    | none => none
  | _, _, _ => none
noncomputable def addLoopF (fid id : Nat) (H : Head) (R : LoopFn) (ct : Ct) : Ct where
  call := ct.call
  loop := fun fid' id' f st => match and (Nat.beq fid' fid) (Nat.beq id' id) with
    | true => loopCtF H R f st
    | false => ct.loop fid' id' f st
  op := ct.op

theorem addLoopF_ok {fid id : Nat} {B : Code} {H : Head} {R : LoopFn} (hN0 : H.N = 0) (hct : CtOk P ct) (h : LoopOk P fid id B H R) : CtOk P (addLoopF fid id H R ct) where
  opc := hct.opc
  op := hct.op
  call := hct.call
  loop := by
    intro K fid' id' c f st e s' st' hl hocc β w fr cs k ht hfid hf hr
    simp only [addLoopF] at hl
    split at hl
    · rename_i hb
      simp only [Bool.and_eq_true] at hb
      obtain rfl := Nat.eq_of_beq_eq_true hb.1
      obtain rfl := Nat.eq_of_beq_eq_true hb.2
      obtain rfl := h.occ c hocc
      unfold loopCtF at hl
      split at hl
      · rename_i hd hro hnt
        have hnt := Nat.eq_of_beq_eq_true hnt
        split at hl
        · rename_i r hc
          obtain ⟨src, st1, vs, bs⟩ := r
          split at hl
          · rename_i t hR
            simp only [Option.bind_some] at hl
            obtain ⟨⟨e1, vs1, bs1⟩, hev, heq⟩ := DT.map_eval hl
            simp only [Prod.mk.injEq] at heq
            obtain ⟨rfl, rfl, rfl⟩ := heq
            have hL : ∀ t ∈ H.L, t < H.nt := fun t ht => by
              have := h.ok
              unfold okL at this
              exact Nat.le_of_ble_eq_true (List.all_eq_true.1 this t ht)
            unfold canonF at hc
            split at hc
            · cases hc
            · rename_i src0 s0 st0 hv
              split at hc
              · cases hc
              · rename_i ms hm
                simp only [Option.some.injEq, Prod.mk.injEq] at hc
                obtain ⟨rfl, rfl, rfl, rfl⟩ := hc
                obtain ⟨β0, b1, b2, b3, b4⟩ := virtO_rel (nt := H.nt) (tmps := fr.tmps) H.M f.slots st _ _ _ hv hr (by rw [← hnt]; exact hf.slots)
                obtain ⟨m1, m2, m3⟩ := movs_spec hm
                simp only [getP_path] at m2 m3
                obtain ⟨K', k1, k2, k3, k4⟩ := swap_rel b2 m1 m2
                have hren : RenOk true (rhoO 0 src0) β0 (reEnv 0 src0 β0) := by
                  refine ⟨fun b b' l hb hl => ?_, fun _ k l h => h⟩
                  unfold rhoO at hb
                  split at hb
                  · rename_i j hj
                    obtain rfl := Option.some.inj hb
                    obtain ⟨k, rfl, hk⟩ := posO_spec _ _ _ _ hj
                    show (if 0 + k < 0 then β0 ((0 + k : Nat) : Int) else match src0[0 + k - 0]? with | some b => β0 (b : Int) | none => none) = _
                    rw [if_neg (by omega), show 0 + k - 0 = k by omega, hk]; exact hl
                  · split at hb
                    · rename_i hle
                      exact absurd (Nat.le_of_ble_eq_true hle) (by omega)
                    · cases hb
                have hslots : SlotsR (reEnv 0 src0 β0) (mkS H.nt H.L (H.L.map fun t => renV true (rhoO 0 src0) (slotF s0 t))) H.nt fr.tmps := by
                  refine ⟨b3.1, fun i => ?_⟩
                  unfold mkS
                  rw [putTs_get _ _ _ (fun t => renV true (rhoO 0 src0) (slotF s0 t)) rfl]
                  split
                  · have := renV_rel hren _ _ (b3.2 i)
                    simpa [slotF_eq] using this
                  · rw [putL_get]
                    split
                    · rename_i hj
                      simp only [List.length_replicate] at hj
                      rw [List.getElem?_replicate, if_pos (by omega)]
                      exact trivial
                    · rename_i hj
                      simp only [List.length_replicate] at hj
                      have hge : fr.tmps.size ≤ i := by rw [b3.1]; omega
                      have : fr.tmps.getD i undef = undef := by simp [Array.getD, Nat.not_lt.2 hge]
                      rw [this]
                      exact VR.flat_refl undef rfl
                have s1 := s_block (P := P) (cs := cs) (w := w) hf.mode ht
                have s2 := s_loop (P := P) (fr := { fr with todo := .code (.loop B) :: .inBlock id' :: k }) (cs := cs) (w := w) hf.mode rfl
                have hdf : fr.defers = [] := by have := hf.defers; rw [hd] at this; exact this
                have hrf : fr.roundOf = none := by have := hf.round; rw [hro] at this; exact this
                obtain ⟨β1, fr1, w1, a1, a2, a3, a4, a5, a6, a7, a8, a9⟩ := h.run _ _ t hR _ _ _ hev K' (reEnv 0 src0 β0) w { fr with todo := .code B :: .inLoop B :: .inBlock id' :: k } cs k (fun i hi => (k2 i hi).elim) rfl hfid ⟨hslots, hdf, hrf, hf.mode⟩ (by rw [m3]; exact k3)
                rw [hN0] at a2
                obtain ⟨c1, c2, c3⟩ := k4 β1 bs1 w1 a2 a3 a4
                refine ⟨_, fr1, w1, .head s1 (.head s2 a1), b1.trans c1, c2, a4.mono k1, ⟨⟨by rw [a5.slots.1]; exact hnt.symm, fun i => ?_⟩, ?_, ?_, a5.mode⟩, a6, a7, a8, a9⟩
                · show VR _ (((mkS H.nt H.L (vs1.map (renV true (shiftN st0.next)))).get i).getD undef) _
                  rw [mkS_ren rfl undef_ren]
                  exact renV_rel c3 _ _ (a5.slots.2 i)
                · show DefsR _ f.defers _
                  rw [hd]; exact a5.defers
                · show RoundOfR _ f.roundOf _
                  rw [hro]; exact a5.round
          · cases hl
        · cases hl
      · cases hl
    · exact hct.loop K fid' id' c f st e s' st' hl hocc β w fr cs k ht hfid hf hr
end
end Go.VS
end

section
namespace Go.VS
set_option linter.unusedSimpArgs false
set_option linter.unusedVariables false
open Go.RowKit
section
variable {P : Program} {ct : Ct}

/-- Where a called function's numbers come back to: the first ones to those that were handed in, the others are new. -/
def backN : List Nat → Nat → Nat → Option Nat
  | [], n, j => some (n + j)
  | b :: l, n, j => match j with
    | 0 => some b
    | j + 1 => backN l n j
theorem backN_lt : ∀ (l : List Nat) (n j : Nat), j < l.length → backN l n j = l[j]?
  | [], n, j, h => by simp at h
  | b :: l, n, 0, h => rfl
  | b :: l, n, j + 1, h => by simpa [backN] using backN_lt l n j (by simpa using h)
theorem backN_ge : ∀ (l : List Nat) (n j : Nat), l.length ≤ j → backN l n j = some (n + (j - l.length))
  | [], n, j, h => rfl
  | b :: l, n, 0, h => by simp at h
  | b :: l, n, j + 1, h => by
    have := backN_ge l n j (by simpa using h)
    simpa [backN, Nat.add_sub_add_right] using this

/-- The first blocks under the old numbers, the others behind. -/
noncomputable def putB (ρ : Nat → Option Nat) (src : List Nat) : List Blk → Nat → Trie Blk → Trie Blk :=
  @List.rec Nat (fun _ => List Blk → Nat → Trie Blk → Trie Blk) (fun bs n t => putL (bs.map (renC ρ)) n t)
    (fun b _ ih bs n t => match bs with
      | x :: bs => ih bs n (setP (path b) t (renC ρ x))
      | [] => t) src
noncomputable def placeB (src : List Nat) (st : St) (bs : List Blk) : St := ⟨putB (backN src st.next) src bs st.next st.heap, st.next + (bs.length - src.length)⟩

theorem putB_get {ρ : Nat → Option Nat} : ∀ (src : List Nat) (bs : List Blk) (n : Nat) (t : Trie Blk) (i : Nat), src.Nodup → src.length ≤ bs.length → (∀ b ∈ src, b < n) →
    (∃ j : Nat, src[j]? = some i ∧ (putB ρ src bs n t).get i = (bs[j]?).map (renC ρ)) ∨ (i ∉ src ∧ (putB ρ src bs n t).get i = if n ≤ i ∧ i < n + (bs.length - src.length) then (bs[i - n + src.length]?).map (renC ρ) else t.get i)
  | [], bs, n, t, i, _, _, _ => by
    refine Or.inr ⟨by simp, ?_⟩
    show (putL (bs.map (renC ρ)) n t).get i = _
    rw [putL_get]
    simp only [List.length_map, List.getElem?_map, List.length_nil, Nat.sub_zero, Nat.add_zero]
  | b :: l, [], n, t, i, _, h, _ => by simp at h
  | b :: l, x :: bs, n, t, i, hnd, h, hlt => by
    obtain ⟨hb, hnd⟩ := List.nodup_cons.1 hnd
    have e : putB ρ (b :: l) (x :: bs) n t = putB ρ l bs n (setP (path b) t (renC ρ x)) := rfl
    rw [e]
    rcases putB_get l bs n (setP (path b) t (renC ρ x)) i hnd (by simpa using h) (fun c hc => hlt c (List.mem_cons_of_mem _ hc)) with ⟨j, h1, h2⟩ | ⟨h1, h2⟩
    · exact Or.inl ⟨j + 1, by simpa using h1, by simpa using h2⟩
    · by_cases hib : i = b
      · subst hib
        refine Or.inl ⟨0, rfl, ?_⟩
        have := hlt i (by simp)
        rw [h2, if_neg (by omega), setP_path, Trie.get_set, if_pos rfl]; rfl
      · refine Or.inr ⟨by simp only [List.mem_cons, not_or]; exact ⟨hib, h1⟩, ?_⟩
        rw [h2, setP_path, Trie.get_set, if_neg hib]
        simp only [List.length_cons, Nat.add_sub_add_right]
        rw [show i - n + (l.length + 1) = (i - n + l.length) + 1 by omega, List.getElem?_cons_succ]

theorem nodup_idx : ∀ {l : List Nat} {i j a : Nat}, l.Nodup → l[i]? = some a → l[j]? = some a → i = j
  | [], i, j, a, _, h, _ => by simp at h
  | x :: l, 0, 0, a, _, _, _ => rfl
  | x :: l, 0, j + 1, a, hnd, h1, h2 => by
    have h1 : x = a := by simpa using h1
    subst h1
    exact absurd (List.mem_of_getElem? (by simpa using h2)) (List.nodup_cons.1 hnd).1
  | x :: l, i + 1, 0, a, hnd, h1, h2 => by
    have h2 : x = a := by simpa using h2
    subst h2
    exact absurd (List.mem_of_getElem? (by simpa using h1)) (List.nodup_cons.1 hnd).1
  | x :: l, i + 1, j + 1, a, hnd, h1, h2 => by
    exact congrArg (· + 1) (nodup_idx (List.nodup_cons.1 hnd).2 (show l[i]? = some a by simpa using h1) (show l[j]? = some a by simpa using h2))

/-- What a call comes to in this memory. -/
def CRM (P : Program) (g : FuncId) (args : List Value) (bs : List Blk) (v : Value) (bs' : List Blk) : Prop :=
  ∀ (K : Prot) (β : Env) (w : World) (args' : Array Value) (cs : List Frame), (∀ i, ¬ K.id i) → VRL β args args'.toList → Rel P K β (mkSt bs) w → CallReach P K β g args' .normal cs w v (mkSt bs') ∧ bs.length ≤ bs'.length

def backE (src : List Nat) (n : Nat) (β β1 : Env) : Env
  | .ofNat i => if i < n then β (i : Int) else β1 ((i - n + src.length : Nat) : Int)
  | .negSucc k => β (.negSucc k)

theorem swapC_rel {K : Prot} {β : Env} {st : St} {w : World} (h : Rel P K β st w) {src : List Nat} (hnd : src.Nodup) (hcells : ∀ b ∈ src, ∃ c e x, st.heap.get b = some (.cells c e x)) :
    ∃ K' : Prot, (∀ k, K k → K' k) ∧ (∀ i, ¬ K'.id i) ∧ Rel P K' (reEnv 0 src β) (mkSt (src.map fun b => renB true (rhoO 0 src) (st.heap.get b))) w ∧
      ∀ (β1 : Env) (bs1 : List Blk) (w1 : World), (reEnv 0 src β).le β1 → src.length ≤ bs1.length → Rel P K' β1 (mkSt bs1) w1 → Bel K' w w1 →
        β.le (backE src st.next β β1) ∧ Rel P K (backE src st.next β β1) (placeB src st bs1) w1 ∧ RenOk true (backN src st.next) β1 (backE src st.next β β1) := by
  let st0 : St := ⟨putM (src.map fun b => (b, (st.heap.get b).getD .dead)) .leaf, st.next⟩
  have h0 : ∀ i, st0.heap.get i = if i ∈ src then st.heap.get i else none := by
    intro i
    show (putM _ .leaf).get i = _
    rw [putM_get]
    rcases lastM_cases (src.map fun b => (b, (st.heap.get b).getD .dead)) i ((Trie.leaf : Trie Blk).get i) with ⟨n, e⟩ | ⟨n, b', hb', e⟩
    · rw [e]
      have : i ∉ src := fun hi => n (by simp only [List.map_map, List.mem_map]; exact ⟨i, hi, rfl⟩)
      rw [if_neg this]; rfl
    · rw [e]
      obtain ⟨j, hj, hje⟩ := List.mem_map.1 hb'
      simp only [Prod.mk.injEq] at hje
      obtain ⟨rfl, rfl⟩ := hje
      obtain ⟨c, e', x, hc⟩ := hcells j hj
      rw [if_pos hj, hc]; rfl
  obtain ⟨K1, k1, k2, k3, k4⟩ := h.part (st0 := st0) rfl (fun i b hi _ => by
    rw [h0] at hi
    split at hi
    · exact hi
    · cases hi) (fun i o hi => by
    rw [h0] at hi
    split at hi
    · rename_i hm
      obtain ⟨c, e', x, hc⟩ := hcells i hm
      rw [hc] at hi; cases hi
    · cases hi)
  let K' : Prot := ⟨K1.blk, fun _ => False, fun k => K1.nofz k ∨ β (Int.negSucc k) = none, K1.obs⟩
  have r0 : Rel P K' β st0 w := ⟨k3.base, k3.dom, k3.blk, k3.inj, fun i hi => hi.elim, fun k l hk hf => hf.elim (k3.nofz k l hk) (fun hf => by rw [hk] at hf; cases hf), k3.frz, k3.objs⟩
  have hmid := canon_mid (N := 0) (src := src) r0 (fun i hi => hi.elim) (Nat.zero_le _) hnd (fun b hb => by
    obtain ⟨c, e, x, hc⟩ := hcells b hb
    exact ⟨c, e, x, by rw [h0, if_pos hb]; exact hc⟩)
  have hms : (src.map fun b => renB true (rhoO 0 src) (st0.heap.get b)) = src.map fun b => renB true (rhoO 0 src) (st.heap.get b) := by
    apply List.map_congr_left
    intro b hb
    rw [h0, if_pos hb]
  have hsrc : ∀ b ∈ src, ∃ l, β (b : Int) = some l ∧ b < st.next := by
    intro b hb
    obtain ⟨c, e, x, hc⟩ := hcells b hb
    obtain ⟨l, hl, _⟩ := h.blk b _ hc rfl
    exact ⟨l, hl, (h.dom b l hl).1⟩
  refine ⟨K', k1, fun i hi => hi, by rw [← hms]; exact hmid, fun β1 bs1 w1 hle hlen h1 hb => ?_⟩
  have hneg : ∀ k l, β (Int.negSucc k) = some l → β1 (Int.negSucc k) = some l := fun k l hk => hle (Int.negSucc k) l hk
  have hneg' : ∀ k l, β1 (Int.negSucc k) = some l → β (Int.negSucc k) = some l := by
    intro k l hk
    cases hx : β (Int.negSucc k) with
    | none => exact absurd (Or.inr hx) (h1.nofz k l hk)
    | some l' => rw [hneg k l' hx] at hk; exact hk
  have hre : ∀ (j b : Nat), src[j]? = some b → β1 (j : Int) = β (b : Int) := by
    intro j b hj
    obtain ⟨l, hl, _⟩ := hsrc b (List.mem_of_getElem? hj)
    rw [hl]
    refine hle j l ?_
    show (if j < 0 then β (j : Int) else match src[j - 0]? with | some b => β (b : Int) | none => none) = _
    rw [if_neg (by omega), Nat.sub_zero, hj]; exact hl
  have hple : β.le (backE src st.next β β1) := by
    intro i l hi
    cases i with
    | negSucc k => exact hi
    | ofNat i =>
      have := (h.dom i l hi).1
      show (if i < st.next then β (i : Int) else _) = _
      rw [if_pos this]; exact hi
  have hold : ∀ i, i < st.next → backE src st.next β β1 (i : Int) = β (i : Int) := by
    intro i hi
    show (if i < st.next then β (i : Int) else _) = _
    rw [if_pos hi]
  have hbig : ∀ i, st.next ≤ i → backE src st.next β β1 (i : Int) = β1 ((i - st.next + src.length : Nat) : Int) := by
    intro i hi
    show (if i < st.next then β (i : Int) else _) = _
    rw [if_neg (by omega)]
  have hren : RenOk true (backN src st.next) β1 (backE src st.next β β1) := by
    refine ⟨fun b b' l hb hl => ?_, fun _ k l hk => hneg' k l hk⟩
    by_cases hbl : b < src.length
    · rw [backN_lt _ _ _ hbl] at hb
      rw [hold b' (hsrc b' (List.mem_of_getElem? hb)).choose_spec.2, ← hre b b' hb]; exact hl
    · rw [backN_ge _ _ _ (by omega)] at hb
      obtain rfl := Option.some.inj hb
      rw [hbig _ (Nat.le_add_right _ _), show st.next + (b - src.length) - st.next + src.length = b by omega]; exact hl
  -- what is put back, by itself: each number stands for one of the call's
  have hfrom : ∀ (t : Trie Blk) (i : Nat) b, (putB (backN src st.next) src bs1 st.next t).get i = some b → (∃ (j : Nat) (b0 : Blk), bs1[j]? = some b0 ∧ b = renC (backN src st.next) b0 ∧ backE src st.next β β1 (i : Int) = β1 (j : Int) ∧ backN src st.next j = some i ∧ (i ∈ src ∨ st.next ≤ i ∧ i < st.next + (bs1.length - src.length))) ∨ (i ∉ src ∧ ¬ (st.next ≤ i ∧ i < st.next + (bs1.length - src.length)) ∧ t.get i = some b) := by
    intro t i b hi
    rcases putB_get src bs1 st.next t i hnd hlen (fun b hb => (hsrc b hb).choose_spec.2) with ⟨j, g1, g2⟩ | ⟨g1, g2⟩
    · rw [g2] at hi
      cases hx : bs1[j]? with
      | none => rw [hx] at hi; cases hi
      | some b0 =>
        rw [hx] at hi
        have hm := List.mem_of_getElem? g1
        refine Or.inl ⟨j, b0, hx, (Option.some.inj hi).symm, ?_, ?_, Or.inl hm⟩
        · rw [hold i (hsrc i hm).choose_spec.2, hre j i g1]
        · rw [backN_lt _ _ _ (List.getElem?_eq_some_iff.1 g1).1]; exact g1
    · rw [g2] at hi
      split at hi
      · rename_i hr
        cases hx : bs1[i - st.next + src.length]? with
        | none => rw [hx] at hi; cases hi
        | some b0 =>
          rw [hx] at hi
          refine Or.inl ⟨_, b0, hx, (Option.some.inj hi).symm, hbig i hr.1, ?_, Or.inr hr⟩
          rw [backN_ge _ _ _ (by omega)]
          congr 1
          omega
      · rename_i hr
        exact Or.inr ⟨g1, hr, hi⟩
  have hlone : ∀ (i : Nat) b, (placeB src ⟨.leaf, st.next⟩ bs1).heap.get i = some b → ∃ (j : Nat) (b0 : Blk), (mkSt bs1).heap.get j = some b0 ∧ b = renC (backN src st.next) b0 ∧ backE src st.next β β1 (i : Int) = β1 (j : Int) ∧ backN src st.next j = some i := by
    intro i b hi
    rcases hfrom .leaf i b hi with ⟨j, b0, g1, g2, g3, g4, _⟩ | ⟨_, _, g⟩
    · exact ⟨j, b0, by rw [mkSt_get]; exact g1, g2, g3, g4⟩
    · cases g
  have hnx : (mkSt bs1).next = bs1.length := rfl
  have rl : Rel P K1 (backE src st.next β β1) (placeB src ⟨.leaf, st.next⟩ bs1) w1 := by
    refine ⟨h1.base, fun i l hi => ?_, fun i b hi hl => ?_, fun i j bi bj li lj hi hbi hj hbj hli hlj v1 v2 e => ?_, fun i hi => ?_, fun k l hk => k3.nofz k l hk, fun k l hk => ?_, fun _ _ => False, fun i o hi => ?_, fun i k hk => hk.elim⟩
    · by_cases hin : i < st.next
      · rw [hold i hin] at hi
        obtain ⟨a1, a2⟩ := h.dom i l hi
        exact ⟨Nat.lt_of_lt_of_le a1 (Nat.le_add_right _ _), fun hv => Nat.lt_of_lt_of_le (a2 hv) hb.size⟩
      · rw [hbig i (by omega)] at hi
        obtain ⟨a1, a2⟩ := h1.dom _ l hi
        exact ⟨by show i < st.next + (bs1.length - src.length); omega, a2⟩
    · obtain ⟨j, b0, a2, rfl, a3, _⟩ := hlone i b hi
      obtain ⟨l, c1, c2, c3⟩ := h1.blk _ b0 a2 (renC_live hl)
      exact ⟨l, by rw [a3]; exact c1, c2, renC_rel hren c3⟩
    · obtain ⟨i', b0, a2, rfl, a3, a4⟩ := hlone i bi hi
      obtain ⟨j', d0, c2, rfl, c3, c4⟩ := hlone j bj hj
      rw [a3] at hli
      rw [c3] at hlj
      have := h1.inj _ _ b0 d0 li lj a2 (renC_live hbi) c2 (renC_live hbj) hli hlj v1 v2 e
      rw [this, c4] at a4
      exact (Option.some.inj a4).symm
    · rw [k2] at hi
      obtain ⟨a1, a2⟩ := h.res i hi
      exact ⟨Nat.lt_of_lt_of_le a1 (Nat.le_add_right _ _), by rw [hold i a1]; exact a2⟩
    · obtain ⟨f1, f2, f3⟩ := h1.frz k l (hneg k l hk)
      refine ⟨f1, f2, fun j bj lj hj hbj hlj hv => ?_⟩
      obtain ⟨j', d0, c2, rfl, c3, _⟩ := hlone j bj hj
      rw [c3] at hlj
      exact f3 _ d0 lj c2 (renC_live hbj) hlj hv
    · obtain ⟨_, b0, _, e, _⟩ := hlone i _ hi
      exact (renC_obj e.symm).elim
  refine ⟨hple, k4 _ (placeB src ⟨.leaf, st.next⟩ bs1) _ w1 hple rl ⟨hb.os, hb.tape, hb.output, hb.size, hb.block⟩ (Nat.le_add_right _ _) (fun i o hi => ?_) rfl (fun i b hi hl => ?_) (fun i o hi hdead => ?_), hren⟩
  · obtain ⟨_, b0, _, e, _⟩ := hlone i _ hi
    exact (renC_obj e.symm).elim
  · have hq := putB_get (ρ := backN src st.next) src bs1 st.next .leaf i hnd hlen (fun b hb => (hsrc b hb).choose_spec.2)
    have hq2 := putB_get (ρ := backN src st.next) src bs1 st.next st.heap i hnd hlen (fun b hb => (hsrc b hb).choose_spec.2)
    have hi : (putB (backN src st.next) src bs1 st.next st.heap).get i = some b := hi
    rcases hq2 with ⟨j, g1, g2⟩ | ⟨g1, g2⟩
    · refine Or.inl ?_
      rcases hq with ⟨j', g1', g2'⟩ | ⟨g1', _⟩
      · have : j' = j := nodup_idx hnd g1' g1
        subst this
        show (putB _ src bs1 st.next .leaf).get i = _
        rw [g2', ← g2]; exact hi
      · exact absurd (List.mem_of_getElem? g1) g1'
    · rcases hq with ⟨j', g1', g2'⟩ | ⟨g1', g2'⟩
      · exact absurd (List.mem_of_getElem? g1') g1
      · rw [g2] at hi
        split at hi
        · rename_i hr
          refine Or.inl ?_
          show (putB _ src bs1 st.next .leaf).get i = _
          rw [g2', if_pos hr]; exact hi
        · rename_i hr
          refine Or.inr ⟨fun c hc => ?_, fun c hc => ?_, hi⟩
          · have hc : (putB _ src bs1 st.next .leaf).get i = some c := hc
            rw [g2', if_neg hr] at hc; cases hc
          · rw [h0, if_neg g1] at hc; cases hc
  · obtain ⟨l, hl, _⟩ := h.blk i _ hi rfl
    have hlt := (h.dom i l hl).1
    show (putB _ src bs1 st.next st.heap).get i = _
    rcases putB_get (ρ := backN src st.next) src bs1 st.next st.heap i hnd hlen (fun b hb => (hsrc b hb).choose_spec.2) with ⟨j, g1, g2⟩ | ⟨g1, g2⟩
    · obtain ⟨c, e, x, hc⟩ := hcells i (List.mem_of_getElem? g1)
      rw [hi] at hc; cases hc
    · rw [g2, if_neg (by omega)]; exact hi

/-- The blocks that arguments point to. -/
noncomputable def numsA (l : List Value) : List Nat :=
  @List.rec Value (fun _ => List Nat) [] (fun v _ ih => match v with
    | .slice (some a) _ _ => @Bool.rec (fun _ => List Nat) (a.block :: ih) ih (hasN ih a.block)
    | .pointer (some a) => @Bool.rec (fun _ => List Nat) (a.block :: ih) ih (hasN ih a.block)
    | _ => ih) l
abbrev CallFnM := List Value → List Blk → Option (DT (Value × List Blk))
noncomputable def callCtM (R : CallFnM) (args : List Value) (st : St) : Option (DT (Value × St)) :=
  match movs 0 (numsA args) (fun i => getP (path i) st.heap) (numsA args) with
  | some ms => match R (args.map (renV true (rhoO 0 (numsA args)))) ms with
    | some t => some (t.map fun x => (renV true (backN (numsA args) st.next) x.1, placeB (numsA args) st x.2))
    | none => none
  | none => none
noncomputable def addCallM (g : FuncId) (R : CallFnM) (ct : Ct) : Ct where
  call := fun g' args st => match Nat.beq g' g with
    | true => match callCtM R args st with
      | some t => some t
      | none => ct.call g' args st
    | false => ct.call g' args st
  loop := ct.loop
  op := ct.op
structure CallOkM (P : Program) (g : FuncId) (R : CallFnM) : Prop where
  run : ∀ args bs t, R args bs = some t → ∀ v bs', t.eval = some (v, bs') → CRM P g args bs v bs'
theorem ren_ok (src : List Nat) (β : Env) : RenOk true (rhoO 0 src) β (reEnv 0 src β) := by
  refine ⟨fun b b' l hb hl => ?_, fun _ k l h => h⟩
  unfold rhoO at hb
  split at hb
  · rename_i j hj
    obtain rfl := Option.some.inj hb
    obtain ⟨k, rfl, hk⟩ := posO_spec _ _ _ _ hj
    show (if 0 + k < 0 then β ((0 + k : Nat) : Int) else match src[0 + k - 0]? with | some b => β (b : Int) | none => none) = _
    rw [if_neg (by omega), show 0 + k - 0 = k by omega, hk]; exact hl
  · split at hb
    · rename_i hle
      exact absurd (Nat.le_of_ble_eq_true hle) (by omega)
    · cases hb
theorem addCallM_ok {g : FuncId} {R : CallFnM} (hct : CtOk P ct) (h : CallOkM P g R) : CtOk P (addCallM g R ct) where
  opc := hct.opc
  op := hct.op
  loop := hct.loop
  call := by
    intro K g' args st v st' hl β w args' cs ha hr
    simp only [addCallM] at hl
    split at hl
    · rename_i hb
      obtain rfl := Nat.eq_of_beq_eq_true hb
      split at hl
      · rename_i t0 hcall
        unfold callCtM at hcall
        split at hcall
        · rename_i ms hm
          split at hcall
          · rename_i t hR
            obtain rfl := Option.some.inj hcall
            simp only [Option.bind_some] at hl
            obtain ⟨⟨v1, bs1⟩, hev, heq⟩ := DT.map_eval hl
            simp only [Prod.mk.injEq] at heq
            obtain ⟨rfl, rfl⟩ := heq
            obtain ⟨m1, m2, m3⟩ := movs_spec hm
            simp only [getP_path] at m2 m3
            obtain ⟨K', k1, k2, k3, k4⟩ := swapC_rel hr m1 m2
            have ha' : VRL (reEnv 0 (numsA args) β) (args.map (renV true (rhoO 0 (numsA args)))) args'.toList := ha.mapr fun v _ x hx => renV_rel (ren_ok _ _) v x hx
            obtain ⟨⟨β1, fr, w1, v', a1, a2, a3, a4, a5, a6⟩, a7⟩ := h.run _ _ t hR v1 bs1 hev K' _ w args' cs k2 ha' (by rw [m3]; exact k3)
            rw [m3, List.length_map] at a7
            obtain ⟨c1, c2, c3⟩ := k4 β1 bs1 w1 a2 a7 a3 a4
            exact ⟨_, fr, w1, v', a1, c1, c2, a4.mono k1, renV_rel c3 _ _ a5, a6⟩
          · cases hcall
        · cases hcall
      · exact hct.call K _ args st v st' hl β w args' cs ha hr
    · exact hct.call K g' args st v st' hl β w args' cs ha hr

/-! ### a call in a memory, by the evaluator -/
/-- 'new': the new blocks that are kept, in order. -/
noncomputable def callQM (P : Program) (E : Eng) (ct : Ct) (n : Nat) (g : FuncId) (args : List Value) (bs : List Blk) (new : List Nat) : Res :=
  (knotQ P E ct n n).call g args (mkSt bs) fun v st => match movs bs.length new (fun i => getP (path i) st.heap) new with
    | some ms => @Bool.rec (fun _ => Res) none (some (renV true (rhoO bs.length new) v, mkSt (rigid bs.length new (fun i => getP (path i) st.heap) bs.length 0 ++ ms))) (Nat.ble bs.length st.next)
    | none => none
theorem CRM.of {E : Eng} (hE : EngOk P ct E) (hN : noNum P = true) (hct : CtOk P ct) {n : Nat} {g : FuncId} {args : List Value} {bs : List Blk} {new : List Nat} {v : Value} {bs' : List Blk} (h : callQM P E ct n g args bs new = some (v, mkSt bs')) (hlen : bs.length ≤ bs'.length) : CRM P g args bs v bs' := by
  intro K β w args' cs hid ha hr
  refine ⟨?_, hlen⟩
  unfold callQM at h
  obtain ⟨m, v1, st1, h1, h2⟩ := (knotQ_ok hE n n).call _ _ _ _ _ h
  obtain ⟨β1, fr, w1, v', a1, a2, a3, a4, a5, a6⟩ := (sound_all hN hct m K).call g args (mkSt bs) v1 st1 h1 β w args' .normal cs (Or.inl rfl) ha hr
  split at h2
  · rename_i ms hm
    cases hb : Nat.ble bs.length st1.next with
    | false => rw [hb] at h2; cases h2
    | true =>
      rw [hb] at h2
      simp only [Option.some.injEq, Prod.mk.injEq] at h2
      obtain ⟨rfl, hst⟩ := h2
      obtain ⟨m1, m2, m3⟩ := movs_spec hm
      simp only [getP_path] at m2 m3 hst
      have hmid := canon_mid (N := bs.length) (src := new) a3 (fun i hi => (hid i hi).elim) (Nat.le_of_ble_eq_true hb) m1 m2
      have hren : RenOk true (rhoO bs.length new) β1 (reEnv bs.length new β1) := by
        refine ⟨fun b b' l hb hl => ?_, fun _ k l h => h⟩
        unfold rhoO at hb
        split at hb
        · rename_i j hj
          obtain rfl := Option.some.inj hb
          obtain ⟨k, rfl, hk⟩ := posO_spec _ _ _ _ hj
          show (if bs.length + k < bs.length then β1 ((bs.length + k : Nat) : Int) else match new[bs.length + k - bs.length]? with | some b => β1 (b : Int) | none => none) = _
          rw [if_neg (by omega), show bs.length + k - bs.length = k by omega, hk]; exact hl
        · split at hb
          · rename_i hle
            obtain rfl := Option.some.inj hb
            have : b < bs.length := Nat.le_of_ble_eq_true hle
            show (if b < bs.length then β1 (b : Int) else _) = _
            rw [if_pos this]; exact hl
          · cases hb
      refine ⟨reEnv bs.length new β1, fr, w1, v', a1, fun i l hi => ?_, ?_, a4, renV_rel hren _ _ a5, a6⟩
      · cases i with
        | negSucc k => exact a2 _ _ hi
        | ofNat i =>
          have : i < bs.length := (hr.dom i l hi).1
          show (if i < bs.length then β1 (i : Int) else _) = _
          rw [if_pos this]; exact a2 _ _ hi
      · rw [← hst, m3]; exact hmid
  · cases h2
end
end Go.VS
end

section
namespace Go.VS
set_option linter.unusedSimpArgs false
set_option linter.unusedVariables false
section
variable {P : Program} {K : Prot} {β : Env} {st : St} {w : World}

theorem shift_rel (hr : Rel P K β st w) {a : Addr} {c : List Value} {e : TypeId} {len : Nat} {v' : Value} (hg : st.heap.get a.block = some (.cells c e false)) (ho : a.off ≤ c.length) (hv : VR β (.slice (some a) len unk) v') :
    ∃ β', β.le β' ∧ Rel P K β' (newRow (kill st a.block) (c.drop a.off) e false).2 w ∧ VR β' (.slice (some (newRow (kill st a.block) (c.drop a.off) e false).1) len unk) v' := by
  simp only [VR] at hv
  obtain ⟨hs, l, hl, hsl⟩ := hv
  obtain ⟨l', k1, hbk⟩ := hr.get_cells hg
  obtain rfl : l' = l := by rw [k1] at hl; exact Option.some.inj hl
  rcases hbk with ⟨hvt, hc, _⟩ | ⟨hvt, k2, cc, f, k3, k4, k5, k6, k7, k8, k9⟩
  · subst hc
    have hk := hr.kill a.block (by intro o e; rw [hg] at e; cases e)
    have hv := hk.virt e 0 0
    refine ⟨_, hk.le_put _, by rw [List.drop_nil]; exact hv, ⟨rfl, _, put_same _ _ _, ?_⟩⟩
    unfold SliceR at hsl ⊢
    rw [if_pos hvt] at hsl
    rw [if_pos rfl]
    exact ⟨hsl.1, rfl, Or.inr rfl, hsl.2.2.2⟩
  · unfold SliceR at hsl
    rw [if_neg (by simp [hvt]), if_neg (by simp), if_pos rfl] at hsl
    refine ⟨β.put st.next ⟨l'.blk, l'.base + a.off, l'.total - a.off, l'.esize, none, false⟩, hr.le_put _, hr.move hg rfl rfl rfl k1 hvt rfl rfl rfl (fun _ _ => rfl) ?_, ⟨rfl, _, put_same _ _ _, ?_⟩⟩
    · refine BlkR.mono (hr.le_put _) (Or.inr ⟨rfl, cc, f, k3, k4, by show l'.base + a.off + (l'.total - a.off) ≤ _; omega, by rw [List.length_drop]; show _ ≤ l'.total - a.off; omega, fun h => (by cases h), ?_, k9.1, fun _ => by have := k9.2 rfl; show l'.total - a.off < 9223372036854775808 * l'.esize; omega⟩)
      have hh := k8.drop a.off
      rw [List.drop_take, List.drop_drop] at hh
      rw [List.length_drop]
      exact hh
    · unfold SliceR
      rw [if_neg (by simp), if_neg (by simp), if_pos rfl]
      refine ⟨?_, Nat.zero_le _⟩
      rw [hsl.1]
      show _ = Value.slice (some ⟨l'.blk, l'.base + a.off + 0, none⟩) len ((l'.total - a.off - 0) / l'.esize)
      rfl

/-! ### the operation -/
noncomputable def needT {α : Type} (b : Bool) (t : DT α) : DT α := .ite b t .fail
theorem needT_spec {α : Type} {b : Bool} {t : DT α} {r : α} (h : (needT b t).eval = some r) : b = true ∧ t.eval = some r := by
  cases b with
  | true => exact ⟨rfl, h⟩
  | false => cases h
noncomputable def tailT {α : Type} (str : Bool) (size : Nat) (st : St) (x : Value) (k : Nat → List Value → DT α) : DT α := match str with
  | false => match x with
    | .slice (some a) n _ => match a.spot, getP (path a.block) st.heap with
      | none, some (.cells c _ _) => needT (Nat.ble (Nat.add a.off (Nat.mul n size)) c.length) (k n (takeC (Nat.mul n size) (dropC a.off c)))
      | _, _ => .fail
    | .slice none n _ => needT (Nat.beq n 0) (k 0 [])
    | .iface t v => match fzOf (.iface t v) with
      | some z => needT (Nat.beq z.sz size) (k z.n z.cells)
      | none => .fail
    | _ => .fail
  | true => match x with
    | .string b => needT (Nat.beq size 1) (k b.size (byteCells b))
    | _ => .fail
theorem tailT_spec {α : Type} {str : Bool} {size : Nat} {x : Value} {k : Nat → List Value → DT α} {r : α} {xt : TypeDesc} (hxt : (match xt with | .slice _ => some false | .string => some true | _ => none) = some str) (h : (tailT str size st x k).eval = some r) :
    ∃ n new, tailOf st size xt x = some (n, new) ∧ (k n new).eval = some r := by
  unfold tailT at h
  split at h
  · have hx : ∃ e, xt = .slice e := by
      cases xt <;> simp at hxt ⊢
    obtain ⟨e, rfl⟩ := hx
    split at h
    · rename_i a n cap
      split at h
      · rename_i c e' ex hs hg
        rw [getP_path] at hg
        obtain ⟨hle, h3⟩ := needT_spec h
        have hle : a.off + n * size ≤ c.length := Nat.le_of_ble_eq_true hle
        exact ⟨n, (c.drop a.off).take (n * size), by simp only [tailOf, cellsAt, hs, hg, Option.isSome_none, Bool.false_eq_true, if_false, hle, if_true], h3⟩
      · cases h
    · rename_i n cap
      obtain ⟨hc, h⟩ := needT_spec h
      exact ⟨_, _, by simp only [tailOf, Nat.eq_of_beq_eq_true hc, if_true], h⟩
    · rename_i t v
      split at h
      · rename_i z hz
        obtain ⟨hc, h⟩ := needT_spec h
        exact ⟨_, _, by simp only [tailOf, hz, Nat.eq_of_beq_eq_true hc, if_true], h⟩
      · cases h
    · cases h
  · have hx : xt = .string := by
      cases xt <;> simp at hxt ⊢
    subst hx
    split at h
    · rename_i b
      obtain ⟨hc, h⟩ := needT_spec h
      exact ⟨_, _, by simp only [tailOf, Nat.eq_of_beq_eq_true hc, if_true], h⟩
    · cases h
noncomputable def oldC (off : Nat) (c : List Value) : List Value := match off with
  | 0 => c
  | k + 1 => dropC (k + 1) c
theorem oldC_eq (off : Nat) (c : List Value) : oldC off c = c.drop off := by cases off <;> rfl
noncomputable def appT (e : TypeId) (size n : Nat) (new : List Value) (st : St) (s : Value) : Option (DT (Value × St)) := match s with
  | .slice none len cap => some (needT (and (Nat.beq len 0) (and (Nat.beq cap 0) (Nat.ble n big))) (.leaf (.slice (some ⟨st.next, 0, none⟩) n unk, ⟨setP (path st.next) st.heap (.cells new e false), Nat.succ st.next⟩)))
  | .slice (some a) len cap => match Nat.beq cap unk with
    | true => match a.spot, getP (path a.block) st.heap with
      | none, some (.cells c e' ex) => some (needT (and (not ex) (Nat.beq e' e)) (needT (Nat.ble (Nat.add len n) big) (needT (Nat.beq (Nat.add a.off (Nat.mul len size)) c.length)
          (.leaf (.slice (some ⟨st.next, 0, none⟩) (Nat.add len n) unk, ⟨setP (path st.next) (setP (path a.block) st.heap .dead) (.cells (List.append (oldC a.off c) new) e false), Nat.succ st.next⟩)))))
      | _, _ => none
    | false => none
  | _ => none
noncomputable def symOp (P : Program) (o : Oper) (ρ : Operand → Value) (st : St) : Option (DT (Value × St)) := match o.op with
  | .call c => match c.callee, c.args.toList, c.argTypes.toList with
    | .builtin .append, [x, y], [tx, ty] => match appK P tx ty with
      | some r => match appT r.1 r.2.1 0 [] st (ρ x) with
        | some _ => some (tailT r.2.2 r.2.1 st (ρ y) fun n new => match appT r.1 r.2.1 n new st (ρ x) with
          | some t => needT (new.all oneCell) t
          | none => .fail)
        | none => none
      | none => none
    | _, _, _ => none
  | _ => none

theorem symOp_ok (hN : noNum P = true) (o : Oper) (ρ : Operand → Value) (st : St) (v : Value) (st' : St) (h : (symOp P o ρ st).bind DT.eval = some (v, st')) :
    isDefer o.op = false ∧ ∀ (K : Prot) (β : Env) (w : World) (ρ' : Operand → Value), (∀ x, VR β (ρ x) (ρ' x)) → Rel P K β st w → OutR P K β st w ((execOp ρ' o).run P w) (.val v st') := by
  obtain ⟨dst, op, type, pos, after, guard⟩ := o
  unfold symOp at h
  simp only at h
  split at h
  · rename_i c
    refine ⟨rfl, fun K β w ρ' hρ hr => ?_⟩
    split at h
    · rename_i x y tx ty hc1 hc2 hc3
      split at h
      · rename_i rr hk
        obtain ⟨e, size, str⟩ := rr
        simp only at h
        split at h
        · simp only [Option.bind_some] at h
          unfold appK at hk
          simp only [undQ_eq, infoQ_eq, zeroQ_eq] at hk
          split at hk
          · rename_i e' xt hs hx
            split at hk
            · rename_i str' ei z hxt hi hz
              split at hk
              · cases hk
              · rename_i hcond
                simp only [Option.some.injEq, Prod.mk.injEq] at hk
                obtain ⟨rfl, rfl, rfl⟩ := hk
                have ht0 : c.argTypes[0]? = some tx := by rw [← Array.getElem?_toList, hc3]; rfl
                have ht1 : c.argTypes[1]? = some ty := by rw [← Array.getElem?_toList, hc3]; rfl
                have hev : evOp P ρ ⟨dst, .call c, type, pos, after, guard⟩ st = match appendS P st tx ty (ρ x) (ρ y) with
                  | some (v, st) => some (.val v st)
                  | none => none := by
                  simp only [evOp, hc1, hc2, List.map_cons, List.map_nil, builtinS, ht0, ht1]
                  cases appendS P st tx ty (ρ x) (ρ y) <;> rfl
                have happ : appendS P st tx ty (ρ x) (ρ y) = match tailOf st ei.size xt (ρ y) with
                    | some (n, new) => if new.all oneCell then appendTo P st e' ei.size n new (ρ x) else none
                    | none => none := by
                  simp only [appendS, hs, hx, hi, hz]
                  rw [if_neg hcond]
                  cases tailOf st ei.size xt (ρ y) <;> rfl
                obtain ⟨n, new, h1, h2⟩ := tailT_spec hxt h
                split at h2
                · rename_i t happT
                  obtain ⟨hone, h3⟩ := needT_spec h2
                  obtain ⟨new', hsrc, hnew⟩ := tailOf_src hr (hρ y) hx h1 hone
                  have hlen : new.length = n * ei.size := by rw [hnew.length, hsrc.newsLen]
                  have hev2 : evOp P ρ ⟨dst, .call c, type, pos, after, guard⟩ st = match appendTo P st e' ei.size n new (ρ x) with
                      | some (v, st) => some (.val v st)
                      | none => none := by
                    rw [hev, happ, h1]
                    simp only [hone, if_true]
                  unfold appT at happT
                  split at happT
                  · rename_i len cap hsx
                    obtain rfl := Option.some.inj happT
                    obtain ⟨hc, h3⟩ := needT_spec h3
                    simp only [DT.eval, Option.some.injEq, Prod.mk.injEq] at h3
                    obtain ⟨rfl, rfl⟩ := h3
                    simp only [Bool.and_eq_true] at hc
                    have c1 := Nat.eq_of_beq_eq_true hc.1
                    have c2 := Nat.eq_of_beq_eq_true hc.2.1
                    have c3 := Nat.le_of_ble_eq_true hc.2.2
                    subst c1 c2
                    have hst : (⟨setP (path st.next) st.heap (.cells new e' false), Nat.succ st.next⟩ : St) = (newRow st new e' false).2 := by rw [setP_path]; rfl
                    rw [hst]
                    by_cases hn : n = 0
                    · subst hn
                      have : new = [] := List.eq_nil_of_length_eq_zero (by omega)
                      subst this
                      have hap : appendTo P st e' ei.size 0 [] (ρ x) = some (.slice none 0 0, st) := by
                        rw [hsx]; simp only [appendTo]
                        rw [if_neg (by simp)]; rfl
                      rw [hap] at hev2
                      obtain ⟨β', w', v', r1, r2, r3, r4, r5⟩ := evOp_sound hN hr hρ hev2
                      refine ⟨_, w', v', r1, r2.trans (r3.le_put _), r3.virt e' 0 0, ⟨rfl, _, put_same _ _ _, ?_⟩, r5⟩
                      unfold SliceR
                      rw [if_pos rfl]
                      exact ⟨rfl, rfl, Or.inr rfl, r4⟩
                    · have hap : appendTo P st e' ei.size n new (ρ x) = some (.slice (some (newRow st new e' false).1) n unk, (newRow st new e' false).2) := by
                        rw [hsx]; simp only [appendTo]
                        rw [if_neg (by simp; omega), if_neg hn]
                      rw [hap] at hev2
                      exact evOp_sound hN hr hρ hev2
                  · rename_i a len cap hsx
                    split at happT
                    · rename_i hcap
                      have hcap := Nat.eq_of_beq_eq_true hcap
                      subst hcap
                      split at happT
                      · rename_i c0 e0 ex hsp hg
                        rw [getP_path] at hg
                        obtain rfl := Option.some.inj happT
                        obtain ⟨d1, h3⟩ := needT_spec h3
                        obtain ⟨d2, h3⟩ := needT_spec h3
                        obtain ⟨d3, h3⟩ := needT_spec h3
                        simp only [DT.eval, Option.some.injEq, Prod.mk.injEq] at h3
                        obtain ⟨rfl, rfl⟩ := h3
                        simp only [Bool.and_eq_true, Bool.not_eq_true'] at d1
                        obtain ⟨rfl, d1⟩ := d1
                        have d1 := Nat.eq_of_beq_eq_true d1
                        have d2 : len + n ≤ big := Nat.le_of_ble_eq_true d2
                        have d3 : a.off + len * ei.size = c0.length := Nat.eq_of_beq_eq_true d3
                        subst d1
                        have hst : (⟨setP (path st.next) (setP (path a.block) st.heap .dead) (.cells (List.append (oldC a.off c0) new) e0 false), Nat.succ st.next⟩ : St) = (newRow (kill st a.block) (c0.drop a.off ++ new) e0 false).2 := by
                          rw [setP_path, setP_path, oldC_eq]; rfl
                        have htk : (c0.drop a.off).take (len * ei.size) = c0.drop a.off := List.take_of_length_le (by rw [List.length_drop]; omega)
                        rw [hst]
                        by_cases hn : n = 0
                        · subst hn
                          have : new = [] := List.eq_nil_of_length_eq_zero (by omega)
                          subst this
                          have hap : appendTo P st e0 ei.size 0 [] (ρ x) = some (.slice (some a) len unk, st) := by
                            rw [hsx]; simp only [appendTo]
                            rw [if_neg (by omega), if_neg (by omega), hg]
                            simp only
                            rw [if_neg (by simp [hsp]; omega), if_pos trivial, if_pos (by omega)]
                          rw [hap] at hev2
                          obtain ⟨β', w', v', r1, r2, r3, r4, r5⟩ := evOp_sound hN hr hρ hev2
                          obtain ⟨β2, q1, q2, q3⟩ := shift_rel r3 hg (by omega) r4
                          rw [List.append_nil]
                          exact ⟨β2, w', v', r1, r2.trans q1, q2, q3, r5⟩
                        · have hap : appendTo P st e0 ei.size n new (ρ x) = some (.slice (some (newRow (kill st a.block) (c0.drop a.off ++ new) e0 false).1) (len + n) unk, (newRow (kill st a.block) (c0.drop a.off ++ new) e0 false).2) := by
                            rw [hsx]; simp only [appendTo]
                            rw [if_neg (by omega), if_neg (by omega), hg]
                            simp only
                            rw [if_neg (by simp [hsp]; omega), if_neg hn, if_pos (by rw [Nat.sub_self, Nat.add_zero]; exact d3), htk]
                          rw [hap] at hev2
                          exact evOp_sound hN hr hρ hev2
                      · cases happT
                    · cases happT
                  · cases happT
                · cases h2
            · cases hk
          · cases hk
        · cases h
      · cases h
    · cases h
  · cases h
/-- Known operations. -/
noncomputable def symCt (P : Program) : Ct := ⟨fun _ _ _ => none, fun _ _ _ _ => none, symOp P⟩
theorem symOp_congr (o : Oper) (ρ ρ' : Operand → Value) (st : St) (h : ∀ x ∈ o.op.operands, ρ x = ρ' x) : symOp P o ρ st = symOp P o ρ' st := by
  obtain ⟨dst, op, type, pos, after, guard⟩ := o
  cases op <;> first | rfl | skip
  rename_i c
  have hargs : ∀ x ∈ c.args.toList, ρ x = ρ' x := fun x hx => h x (by simp [Op.operands, Call.operands]; exact (by first | exact Or.inr (by simpa using hx) | exact Or.inl (by simpa using hx)))
  unfold symOp
  simp only
  split
  · rename_i x y tx ty h1 h2 h3
    rw [h2] at hargs
    rw [hargs x (by simp), hargs y (by simp)]
  · rfl
theorem symCt_ok (hN : noNum P = true) : CtOk P (symCt P) := ⟨fun _ _ _ _ _ _ h => (by cases h), fun _ _ _ _ _ _ _ _ _ h => (by cases h), symOp_congr, fun K o ρ st v st' h => ⟨(symOp_ok hN o ρ st v st' h).1, (symOp_ok hN o ρ st v st' h).2 K⟩⟩
/-- An engine at which the first of min's two must be the less. -/
noncomputable def s_minF (o : Oper) (x y : Operand) : OpT := fun call s st kv kd => match rdF s x, rdF s y with
  | .int k a, .int _ b => needB (leI a b) (kv (.int k a) st)
  | _, _ => none
noncomputable def compMn (P : Program) (o : Oper) : OpFn := match o.op with
  | .call c => match c.callee, c.args.toList with
    | .builtin .min, [x, y] => ⟨s_minF o x y⟩
    | _, _ => compS P o
  | _ => compS P o
theorem compMn_spec {call : Knot} {s : Trie Value} {o : Oper} {kv : Value → St → Res} {kd : Deferred → St → Res} {r : Value × St} (h : (compMn P o).run call s st kv kd = some r) : Hands call kv kd (evOp P (rdF s) o st) r := by
  obtain ⟨dst, op, type, pos, after, guard⟩ := o
  unfold compMn at h
  simp only at h
  split at h
  · rename_i c
    split at h
    · rename_i x y h1 h2
      change s_minF ⟨dst, .call c, type, pos, after, guard⟩ x y call s st kv kd = some r at h
      unfold s_minF at h
      split at h
      · rename_i k a k' b hx hy
        obtain ⟨hle, h⟩ := needB_spec h
        have hle : a ≤ b := of_decide_eq_true hle
        have hb : builtinS P .min c.argTypes type (c.args.map constB) [.int k a, .int k' b] st = some (.val (.int k (minI a b)) st) := rfl
        have e : minI a b = a := by unfold minI; rw [if_neg (by omega)]
        rw [e] at hb
        simp only [evOp, h1, h2, List.map_cons, List.map_nil, hx, hy, hb]
        exact h
      · cases h
    · exact compS_spec h
  · exact compS_spec h
noncomputable def engMn (P : Program) : Eng := ⟨compMn P, fun ct => drawM P (compMn P) ct⟩
theorem engMn_ok (P : Program) (ct : Ct) : EngOk P ct (engMn P) where
  comp := fun h => compMn_spec h
  draw := by
    intro call hc ops nt ro s d st k r h
    exact drawM_spec (fun h => compMn_spec h) hc h
end
end Go.VS
end

section
namespace Go.VS.Try
set_option linter.unusedSimpArgs false
set_option linter.unusedVariables false
set_option maxRecDepth 1000000
open Go.VS
noncomputable abbrev P : Program := Go.Proofs.Try.prog
noncomputable abbrev E : Eng := engS P
theorem noNum : VS.noNum P = true := by kernel_rfl
theorem engOk (ct : Ct) : EngOk P ct E := engS_ok P ct
theorem ok_of {ct : Ct} (hct : CtOk P ct) {g n : Nat} {R : CallFn} (h : ∀ args t, R args = some t → ∀ v bs, t.eval = some (v, bs) → callQ P E ct n g args = some (v, mkSt bs)) : CallOkR P g R :=
  ⟨fun args t hR v bs hev => CR.of (engOk ct) noNum hct (h args t hR v bs hev)⟩

def sl (b n : Nat) : Value := .slice (some ⟨b, 0, none⟩) n unk
def atB (v : Value) (b n : Nat) : Bool := match v with
  | .slice (some a) n' c => a.block == b && a.off == 0 && a.spot.isNone && n' == n && c == unk
  | _ => false
theorem atB_eq {v : Value} {b n : Nat} (h : atB v b n = true) : v = sl b n := by
  unfold atB at h
  split at h
  · rename_i a n' c
    simp only [Bool.and_eq_true, beq_iff_eq, Option.isNone_iff_eq_none] at h
    obtain ⟨⟨⟨⟨h1, h2⟩, h3⟩, h4⟩, h5⟩ := h
    obtain ⟨bb, oo, ss⟩ := a
    simp only at h1 h2 h3
    subst h1 h2 h3 h4 h5
    rfl
  · cases h
theorem atB_sl (b n : Nat) : atB (sl b n) b n = true := by simp [atB, sl]
/-! ### a tree of cases is walked by simp: what is needed is found by the discharger -/
theorem need_true {b : Bool} {x : Res} (h : b = true) : needB b x = x := by subst h; rfl
theorem ite_true {b : Bool} {x y : Res} (h : b = true) : iteB b x y = x := by subst h; rfl
theorem ite_false {b : Bool} {x y : Res} (h : b = false) : iteB b x y = y := by subst h; rfl
theorem ite_tt {x y : Res} : iteB true x y = x := rfl
theorem ite_ff {x y : Res} : iteB false x y = y := rfl
theorem not_tt : notB true = false := rfl
theorem not_ff : notB false = true := rfl
theorem ble_iff {a b : Nat} : Nat.ble a b = true ↔ a ≤ b := by rw [Nat.ble_eq]
theorem beq_iff {a b : Nat} : Nat.beq a b = true ↔ a = b := by rw [Nat.beq_eq]
theorem bool_and {a b : Bool} : Bool.and a b = true ↔ a = true ∧ b = true := by cases a <;> cases b <;> simp
theorem in_iff {i : Int} {n : Nat} : inI i n = true ↔ 0 ≤ i ∧ i < n := by unfold inI; simp
theorem cut_iff {l h : Int} {n : Nat} : cutI l h n = true ↔ 0 ≤ l ∧ l ≤ h ∧ h ≤ n := by unfold cutI; simp
theorem beqS (s : ByteArray) : beqV (.string s) (.string s) = true := by simp [beqV]
theorem beqI (k : IntKind) (n : Int) : beqV (.int k n) (.int k n) = true := by simp [beqV]
theorem beqBo (b : Bool) : beqV (.bool b) (.bool b) = true := by simp [beqV]
theorem oldC_zero (c : List Value) : oldC 0 c = c := rfl
theorem take_bc {x : List UInt8} {n : Nat} (h : n = x.length) : takeC (Nat.mul n 1) (dropC 0 (bc x)) = bc x := by
  subst h
  have := take_all (bc x)
  rw [bc_length] at this
  exact this
theorem app_bc (a b : List UInt8) : List.append (bc a) (bc b) = bc (a ++ b) := (bc_append a b).symm
theorem one_bc : [Value.int .u8 (1 : Int)] = bc [1] := rfl
theorem zero_bc : [Value.int .u8 (0 : Int)] = bc [0] := rfl
theorem size_eq (s : ByteArray) : s.size = s.data.toList.length := by rw [Array.length_toList]; rfl
end Go.VS.Try
end

section
namespace Go.VS.Try
set_option linter.unusedSimpArgs false
set_option linter.unusedVariables false
set_option maxRecDepth 1000000
open Go.VS
/-! ### the loop of Append -/
noncomputable def Hva : Head := ⟨0, 23, [1, 5], [(5, 5)]⟩
noncomputable def Bva : Code := (loopAt P 61 0).getD .skip
theorem Bva_eq : loopAt P 61 0 = some Bva := by kernel_rfl
theorem Bva_occ : Occ P 61 (.block 0 (.loop Bva)) := loopAt_has Bva_eq
noncomputable def Hrva : Head := ⟨0, 25, [1, 5], [(5, 5)]⟩
noncomputable def Brva : Code := (loopAt P 62 0).getD .skip
theorem Brva_eq : loopAt P 62 0 = some Brva := by kernel_rfl
theorem Brva_occ : Occ P 62 (.block 0 (.loop Brva)) := loopAt_has Brva_eq
theorem dec_va (x : Int) (c : List Value) : roundQ P E noCt 50 61 Bva Hva [.int .u64 x, .slice (some ⟨0, 0, none⟩) c.length unk] [.cells c 5 false] =
  (iteB (Go.VS.ltI x (128 : Int))
   (some ((Go.Value.tuple (Array.mk [(Go.Value.int Go.IntKind.i64 (1 : Int)), (Go.Value.int Go.IntKind.u64 x), (Go.Value.slice (Option.some (Go.Addr.mk 0 0 none)) (List.length c) 18446744073709551616)])), (Go.VS.mkSt [(Go.VS.Blk.cells (Go.VS.renL Bool.true (Go.VS.rhoO 0 [0]) c) 5 Bool.false)])))
   (needB (Bool.and (Bool.not Bool.false) (Bool.and (Nat.beq 5 5) (Bool.and (Nat.ble 0 (List.length c)) (Nat.ble (Nat.add (List.length c) 1) 4194304))))
    (needB (Nat.beq (Nat.add 0 (Nat.mul (List.length c) 1)) (List.length c))
     (some ((Go.Value.tuple (Array.mk [(Go.Value.int Go.IntKind.i64 (0 : Int)), (Go.Value.int Go.IntKind.u64 (Go.VS.shrI Go.IntKind.u64 x (7 : Int))), (Go.Value.slice (Option.some (Go.Addr.mk 0 0 none)) (Nat.add (List.length c) 1) 18446744073709551616)])), (Go.VS.mkSt [(Go.VS.Blk.cells (Go.VS.renL Bool.true (Go.VS.rhoO 0 [2]) (List.append (Go.VS.takeC (Nat.mul (List.length c) 1) (Go.VS.dropC 0 c)) [(Go.Value.int Go.IntKind.u8 (Go.VS.orI Go.IntKind.u8 (Go.VS.cvI Go.IntKind.u8 x) (128 : Int)))])) 5 Bool.false)])))))) := by kernel_rfl
theorem dec_rva (x : Int) (c : List Value) : roundQ P E noCt 50 62 Brva Hrva [.int .u64 x, .slice (some ⟨0, 0, none⟩) c.length unk] [.cells c 5 false] =
  (iteB (Go.VS.geI x (128 : Int))
   (needB (Bool.and (Bool.not Bool.false) (Bool.and (Nat.beq 5 5) (Bool.and (Nat.ble 0 (List.length c)) (Nat.ble (Nat.add (List.length c) 1) 4194304))))
    (needB (Nat.beq (Nat.add 0 (Nat.mul (List.length c) 1)) (List.length c))
     (some ((Go.Value.tuple (Array.mk [(Go.Value.int Go.IntKind.i64 (0 : Int)), (Go.Value.int Go.IntKind.u64 (Go.VS.quoI Go.IntKind.u64 x (128 : Int))), (Go.Value.slice (Option.some (Go.Addr.mk 0 0 none)) (Nat.add (List.length c) 1) 18446744073709551616)])), (Go.VS.mkSt [(Go.VS.Blk.cells (Go.VS.renL Bool.true (Go.VS.rhoO 0 [2]) (List.append (Go.VS.takeC (Nat.mul (List.length c) 1) (Go.VS.dropC 0 c)) [(Go.Value.int Go.IntKind.u8 (Go.VS.addI Go.IntKind.u8 (Go.VS.cvI Go.IntKind.u8 (Go.VS.remI x (128 : Int))) (128 : Int)))])) 5 Bool.false)])))))
   (some ((Go.Value.tuple (Array.mk [(Go.Value.int Go.IntKind.i64 (1 : Int)), (Go.Value.int Go.IntKind.u64 x), (Go.Value.slice (Option.some (Go.Addr.mk 0 0 none)) (List.length c) 18446744073709551616)])), (Go.VS.mkSt [(Go.VS.Blk.cells (Go.VS.renL Bool.true (Go.VS.rhoO 0 [0]) c) 5 Bool.false)])))) := by kernel_rfl

/-! ### the model -/
/-- The bytes of a number, but the last one. -/
def hiM : Nat → Nat → List UInt8
  | 0, _ => []
  | k + 1, n => match Nat.ble 128 n with
    | true => UInt8.ofNat (n % 128 + 128) :: hiM k (n / 128)
    | false => []
def topM : Nat → Nat → Nat
  | 0, n => n
  | k + 1, n => match Nat.ble 128 n with
    | true => topM k (n / 128)
    | false => n
/-- The bytes of a number (of at most 70 bits). -/
def varM (n : Nat) : List UInt8 := hiM 10 n ++ [UInt8.ofNat (topM 10 n)]
theorem hiM_length : ∀ (k n : Nat), (hiM k n).length ≤ k
  | 0, _ => Nat.le_refl _
  | k + 1, n => by
    unfold hiM
    split
    · have := hiM_length k (n / 128); simp; omega
    · simp
theorem topM_lt : ∀ (k n : Nat), n < 128 ^ (k + 1) → topM k n < 128
  | 0, n, h => by simpa [topM] using h
  | k + 1, n, h => by
    unfold topM
    split
    · exact topM_lt k (n / 128) (by rw [Nat.div_lt_iff_lt_mul (by decide)]; rw [Nat.pow_succ] at h; exact h)
    · rename_i hb
      have := Nat.ble_eq (x := 128) (y := n)
      rw [hb] at this
      simp at this
      omega
theorem varM_small {n : Nat} (h : n < 128) : varM n = [UInt8.ofNat n] := by
  have hb : Nat.ble 128 n = false := by
    cases hb : Nat.ble 128 n with
    | false => rfl
    | true => have := Nat.le_of_ble_eq_true hb; omega
  simp only [varM, hiM, topM, hb, List.nil_append]
theorem varM_length (n : Nat) : (varM n).length ≤ 11 := by
  have := hiM_length 10 n
  simp [varM]; omega

theorem or128 : ∀ n : Fin 256, orI .u8 (n.val : Int) 128 = ((n.val % 128 + 128 : Nat) : Int) := by decide +kernel
theorem wrap8_nat (n : Nat) : IntKind.u8.wrap (n : Int) = ((n % 256 : Nat) : Int) := by
  have e : IntKind.u8.wrap (n : Int) = (n : Int) % 256 := by
    show (if (false && decide ((n : Int) % (2 ^ 8 : Int) ≥ (2 ^ (8 - 1) : Int))) = true then (n : Int) % (2 ^ 8 : Int) - (2 ^ 8 : Int) else (n : Int) % (2 ^ 8 : Int)) = _
    simp
  rw [e]; omega
theorem wrapU64_nat {n : Nat} (h : n < 18446744073709551616) : IntKind.u64.wrap (n : Int) = (n : Int) := by
  have e : IntKind.u64.wrap (n : Int) = (n : Int) % 18446744073709551616 := by
    show (if (false && decide ((n : Int) % (2 ^ 64 : Int) ≥ (2 ^ (64 - 1) : Int))) = true then (n : Int) % (2 ^ 64 : Int) - (2 ^ 64 : Int) else (n : Int) % (2 ^ 64 : Int)) = _
    simp
  rw [e]; omega
theorem byte_int {n : Nat} (h : n < 256) : ((UInt8.ofNat n).toNat : Int) = (n : Int) := by
  simp only [UInt8.toNat_ofNat']; omega
theorem byte_va (n : Nat) : orI .u8 (cvI .u8 (n : Int)) 128 = ((UInt8.ofNat (n % 128 + 128)).toNat : Int) := by
  rw [byte_int (by omega)]
  unfold cvI
  rw [wrap8_nat]
  have := or128 ⟨n % 256, by omega⟩
  simp only at this
  rw [this]
  congr 2
  omega
theorem shr7 (n : Nat) : shrI .u64 (n : Int) 7 = ((n / 128 : Nat) : Int) := by
  show (n : Int).fdiv (2 ^ 7) = _
  rw [show (2 : Int) ^ 7 = 128 from rfl, Int.fdiv_eq_ediv_of_nonneg _ (by decide)]
  omega
theorem byte_rva (n : Nat) : addI .u8 (cvI .u8 (remI (n : Int) 128)) 128 = ((UInt8.ofNat (n % 128 + 128)).toNat : Int) := by
  rw [byte_int (by omega)]
  unfold addI cvI remI
  have e : (n : Int).tmod 128 = ((n % 128 : Nat) : Int) := by
    rw [Int.tmod_eq_emod_of_nonneg (by omega)]; omega
  rw [e, wrap8_nat, show (((n % 128 % 256 : Nat) : Int) + 128) = ((n % 128 % 256 + 128 : Nat) : Int) by omega, wrap8_nat]
  congr 1
  omega
theorem quo128 {n : Nat} (h : n < 18446744073709551616) : quoI .u64 (n : Int) 128 = ((n / 128 : Nat) : Int) := by
  unfold quoI
  have e : (n : Int).tdiv 128 = ((n / 128 : Nat) : Int) := by
    rw [Int.tdiv_eq_ediv_of_nonneg (by omega)]; omega
  rw [e, wrapU64_nat (by omega)]

theorem app_ren {ρ : Nat → Option Nat} {c l : List Value} (hc : flatL c = true) (hl : flatL l = true) : renL true ρ (List.append (takeC (Nat.mul c.length 1) (dropC 0 c)) l) = c ++ l := by
  rw [take_all]
  show renL true ρ (c ++ l) = _
  rw [renL_append, renL_flat hc, renL_flat hl]
theorem atB_ok (b n : Nat) : Nat.beq b b = true := Nat.beq_refl b
theorem ble_128 {n : Nat} : Nat.ble 128 n = !decide (n < 128) := by
  cases h : Nat.ble 128 n with
  | true => have := Nat.le_of_ble_eq_true h; simp; omega
  | false =>
    by_cases h2 : n < 128
    · simp [h2]
    · rw [Nat.ble_eq_true_of_le (by omega)] at h; cases h
theorem flat_int (k : IntKind) (n : Int) : flatL [.int k n] = true := rfl

theorem va_again {n : Nat} {c : List Value} (h : 128 ≤ n) (hn : n < 18446744073709551616) (hc : flatL c = true) (hb : c.length + 1 ≤ 4194304) :
    roundQ P E noCt 50 61 Bva Hva [.int .u64 n, sl 0 c.length] [.cells c 5 false] =
      some (.tuple ⟨exV .normal :: [.int .u64 ((n / 128 : Nat) : Int), sl 0 (c ++ bc [UInt8.ofNat (n % 128 + 128)]).length]⟩, mkSt [.cells (c ++ bc [UInt8.ofNat (n % 128 + 128)]) 5 false]) := by
  unfold sl
  rw [dec_va]
  refine ite_f (by simp [ltI]; omega) ?_
  refine need_eq (and_ok rfl (and_ok rfl (and_ok (ble_ok (Nat.zero_le _)) (ble_ok (by show c.length + 1 ≤ 4194304; exact hb))))) ?_
  refine need_eq (beq_ok (by simp)) ?_
  refine leaf_eq ?_ ?_
  · rw [shr7]
    simp [exV, bc, unk]
  · rw [app_ren hc (flat_int _ _), byte_va]
    rfl
theorem va_stop {n : Nat} {c : List Value} (h : n < 128) (hc : flatL c = true) :
    roundQ P E noCt 50 61 Bva Hva [.int .u64 n, sl 0 c.length] [.cells c 5 false] =
      some (.tuple ⟨exV (.exit 0) :: [.int .u64 n, sl 0 c.length]⟩, mkSt [.cells c 5 false]) := by
  unfold sl
  rw [dec_va]
  refine ite_t (by simp [ltI]; omega) ?_
  refine leaf_eq rfl ?_
  rw [renL_flat hc]
theorem va_loop : ∀ (k n : Nat) (c : List Value), n < 128 ^ (k + 1) → n < 18446744073709551616 → flatL c = true → c.length + k ≤ 4194304 →
    LR P 61 0 Bva Hva [.int .u64 n, sl 0 c.length] [.cells c 5 false] .normal [.int .u64 (topM k n), sl 0 (c ++ bc (hiM k n)).length] [.cells (c ++ bc (hiM k n)) 5 false]
  | 0, n, c, h1, h2, hc, hb => by
    have e : c ++ bc (hiM 0 n) = c := by simp [hiM, bc]
    rw [e]
    exact LR.stop (engOk noCt) noNum (noCt_ok P) Bva_occ (by kernel_rfl) (e := .exit 0) (va_stop (by simpa using h1) hc) (by intro h; cases h)
  | k + 1, n, c, h1, h2, hc, hb => by
    by_cases hn : n < 128
    · have e1 : hiM (k + 1) n = [] := by simp only [hiM, ble_128, hn]; rfl
      have e2 : topM (k + 1) n = n := by simp only [topM, ble_128, hn]; rfl
      have e : c ++ bc (hiM (k + 1) n) = c := by rw [e1]; simp [bc]
      rw [e, e2]
      exact LR.stop (engOk noCt) noNum (noCt_ok P) Bva_occ (by kernel_rfl) (e := .exit 0) (va_stop hn hc) (by intro h; cases h)
    · have e1 : hiM (k + 1) n = UInt8.ofNat (n % 128 + 128) :: hiM k (n / 128) := by simp only [hiM, ble_128, hn]; rfl
      have e2 : topM (k + 1) n = topM k (n / 128) := by simp only [topM, ble_128, hn]; rfl
      have hr := va_again (n := n) (c := c) (by omega) h2 hc (by omega)
      have ih := va_loop k (n / 128) (c ++ bc [UInt8.ofNat (n % 128 + 128)]) (by rw [Nat.div_lt_iff_lt_mul (by decide)]; rw [Nat.pow_succ] at h1; exact h1) (by omega) (by rw [flatL_append, hc, bc_flat]; rfl) (by rw [List.length_append, bc_length]; simp; omega)
      have e : c ++ bc [UInt8.ofNat (n % 128 + 128)] ++ bc (hiM k (n / 128)) = c ++ bc (hiM (k + 1) n) := by
        rw [e1, List.append_assoc, ← bc_append]; rfl
      rw [e] at ih
      rw [e2]
      exact LR.again (engOk noCt) noNum (noCt_ok P) Bva_occ (by kernel_rfl) hr ih
def vaC (x : Int) (v1 : Value) (c : List Value) (e1 : TypeId) : Bool := inI x 18446744073709551616 && atB v1 0 c.length && flatL c && e1 == 5 && Nat.ble (c.length + 10) 4194304
def RvaL : LoopFn := fun vs bs => match vs, bs with
  | [.int .u64 x, v1], [.cells c e1 false] => some (.ite (vaC x v1 c e1)
      (.leaf (.normal, [.int .u64 (topM 10 x.toNat), sl 0 (c ++ bc (hiM 10 x.toNat)).length], [.cells (c ++ bc (hiM 10 x.toNat)) 5 false])) .fail)
  | _, _ => none
theorem va_loopOk : LoopOk P 61 0 Bva Hva RvaL where
  occ := loopAt_occ Bva_eq
  ok := by kernel_rfl
  run := by
    intro vs bs t hR e vs' bs' hev
    unfold RvaL at hR
    split at hR
    · rename_i x v1 c e1
      obtain rfl := Option.some.inj hR
      cases hc : vaC x v1 c e1 with
      | false => rw [hc] at hev; cases hev
      | true =>
        rw [hc] at hev
        simp only [DT.eval, Option.some.injEq, Prod.mk.injEq] at hev
        obtain ⟨rfl, rfl, rfl⟩ := hev
        simp only [vaC, Bool.and_eq_true, beq_iff_eq, inI, decide_eq_true_eq] at hc
        obtain ⟨⟨⟨⟨h1, h2⟩, h3⟩, h4⟩, h5⟩ := hc
        have h5 := Nat.le_of_ble_eq_true h5
        rw [atB_eq h2]
        subst h4
        obtain ⟨n, rfl⟩ := Int.eq_ofNat_of_zero_le h1.1
        exact va_loop 10 n c (Nat.lt_of_lt_of_le (by omega : n < 18446744073709551616) (by decide)) (by omega) h3 (by omega)
    · cases hR

theorem rva_again {n : Nat} {c : List Value} (h : 128 ≤ n) (hn : n < 18446744073709551616) (hc : flatL c = true) (hb : c.length + 1 ≤ 4194304) :
    roundQ P E noCt 50 62 Brva Hrva [.int .u64 n, sl 0 c.length] [.cells c 5 false] =
      some (.tuple ⟨exV .normal :: [.int .u64 ((n / 128 : Nat) : Int), sl 0 (c ++ bc [UInt8.ofNat (n % 128 + 128)]).length]⟩, mkSt [.cells (c ++ bc [UInt8.ofNat (n % 128 + 128)]) 5 false]) := by
  unfold sl
  rw [dec_rva]
  refine ite_t (by simp [geI]; omega) ?_
  refine need_eq (and_ok rfl (and_ok rfl (and_ok (ble_ok (Nat.zero_le _)) (ble_ok (by show c.length + 1 ≤ 4194304; exact hb))))) ?_
  refine need_eq (beq_ok (by simp)) ?_
  refine leaf_eq ?_ ?_
  · rw [quo128 hn]
    simp [exV, bc, unk]
  · rw [app_ren hc (flat_int _ _), byte_rva]
    rfl
theorem rva_stop {n : Nat} {c : List Value} (h : n < 128) (hc : flatL c = true) :
    roundQ P E noCt 50 62 Brva Hrva [.int .u64 n, sl 0 c.length] [.cells c 5 false] =
      some (.tuple ⟨exV (.exit 0) :: [.int .u64 n, sl 0 c.length]⟩, mkSt [.cells c 5 false]) := by
  unfold sl
  rw [dec_rva]
  refine ite_f (by simp [geI]; omega) ?_
  refine leaf_eq rfl ?_
  rw [renL_flat hc]
theorem rva_loop : ∀ (k n : Nat) (c : List Value), n < 128 ^ (k + 1) → n < 18446744073709551616 → flatL c = true → c.length + k ≤ 4194304 →
    LR P 62 0 Brva Hrva [.int .u64 n, sl 0 c.length] [.cells c 5 false] .normal [.int .u64 (topM k n), sl 0 (c ++ bc (hiM k n)).length] [.cells (c ++ bc (hiM k n)) 5 false]
  | 0, n, c, h1, h2, hc, hb => by
    have e : c ++ bc (hiM 0 n) = c := by simp [hiM, bc]
    rw [e]
    exact LR.stop (engOk noCt) noNum (noCt_ok P) Brva_occ (by kernel_rfl) (e := .exit 0) (rva_stop (by simpa using h1) hc) (by intro h; cases h)
  | k + 1, n, c, h1, h2, hc, hb => by
    by_cases hn : n < 128
    · have e1 : hiM (k + 1) n = [] := by simp only [hiM, ble_128, hn]; rfl
      have e2 : topM (k + 1) n = n := by simp only [topM, ble_128, hn]; rfl
      have e : c ++ bc (hiM (k + 1) n) = c := by rw [e1]; simp [bc]
      rw [e, e2]
      exact LR.stop (engOk noCt) noNum (noCt_ok P) Brva_occ (by kernel_rfl) (e := .exit 0) (rva_stop hn hc) (by intro h; cases h)
    · have e1 : hiM (k + 1) n = UInt8.ofNat (n % 128 + 128) :: hiM k (n / 128) := by simp only [hiM, ble_128, hn]; rfl
      have e2 : topM (k + 1) n = topM k (n / 128) := by simp only [topM, ble_128, hn]; rfl
      have hr := rva_again (n := n) (c := c) (by omega) h2 hc (by omega)
      have ih := rva_loop k (n / 128) (c ++ bc [UInt8.ofNat (n % 128 + 128)]) (by rw [Nat.div_lt_iff_lt_mul (by decide)]; rw [Nat.pow_succ] at h1; exact h1) (by omega) (by rw [flatL_append, hc, bc_flat]; rfl) (by rw [List.length_append, bc_length]; simp; omega)
      have e : c ++ bc [UInt8.ofNat (n % 128 + 128)] ++ bc (hiM k (n / 128)) = c ++ bc (hiM (k + 1) n) := by
        rw [e1, List.append_assoc, ← bc_append]; rfl
      rw [e] at ih
      rw [e2]
      exact LR.again (engOk noCt) noNum (noCt_ok P) Brva_occ (by kernel_rfl) hr ih
def rvaC (x : Int) (v1 : Value) (c : List Value) (e1 : TypeId) : Bool := inI x 18446744073709551616 && atB v1 0 c.length && flatL c && e1 == 5 && Nat.ble (c.length + 10) 4194304
def RrvaL : LoopFn := fun vs bs => match vs, bs with
  | [.int .u64 x, v1], [.cells c e1 false] => some (.ite (rvaC x v1 c e1)
      (.leaf (.normal, [.int .u64 (topM 10 x.toNat), sl 0 (c ++ bc (hiM 10 x.toNat)).length], [.cells (c ++ bc (hiM 10 x.toNat)) 5 false])) .fail)
  | _, _ => none
theorem rva_loopOk : LoopOk P 62 0 Brva Hrva RrvaL where
  occ := loopAt_occ Brva_eq
  ok := by kernel_rfl
  run := by
    intro vs bs t hR e vs' bs' hev
    unfold RrvaL at hR
    split at hR
    · rename_i x v1 c e1
      obtain rfl := Option.some.inj hR
      cases hc : rvaC x v1 c e1 with
      | false => rw [hc] at hev; cases hev
      | true =>
        rw [hc] at hev
        simp only [DT.eval, Option.some.injEq, Prod.mk.injEq] at hev
        obtain ⟨rfl, rfl, rfl⟩ := hev
        simp only [rvaC, Bool.and_eq_true, beq_iff_eq, inI, decide_eq_true_eq] at hc
        obtain ⟨⟨⟨⟨h1, h2⟩, h3⟩, h4⟩, h5⟩ := hc
        have h5 := Nat.le_of_ble_eq_true h5
        rw [atB_eq h2]
        subst h4
        obtain ⟨n, rfl⟩ := Int.eq_ofNat_of_zero_le h1.1
        exact rva_loop 10 n c (Nat.lt_of_lt_of_le (by omega : n < 18446744073709551616) (by decide)) (by omega) h3 (by omega)
    · cases hR

noncomputable def ctV1 : Ct := addLoopF 61 0 Hva RvaL (addLoopF 62 0 Hrva RrvaL noCt)
theorem ctV1_ok : CtOk P ctV1 := addLoopF_ok rfl (addLoopF_ok rfl (noCt_ok P) rva_loopOk) va_loopOk
theorem dec_vaA (n b : Nat) (c : List Value) (x : Int) : callQ P E ctV1 50 61 [mkFz 1 n b c, .int .u64 x] =
  (needB (List.all c Go.VS.oneCell)
   (needB (Bool.and (Nat.beq 0 0) (Bool.and (Nat.beq 0 0) (Nat.ble n 4194304)))
    (iteB (Nat.beq n 0)
     (needB (Go.VS.Try.vaC x (Go.Value.slice (Option.some (Go.Addr.mk 0 0 none)) 0 18446744073709551616) [] 5)
      (needB (Bool.and (Bool.not Bool.false) (Bool.and (Nat.beq 5 5) (Bool.and (Nat.ble 0 (List.length (Go.VS.renL Bool.true (Go.VS.shiftN 1) (HAppend.hAppend [] (Go.VS.bc (Go.VS.Try.hiM 10 (Int.toNat x))))))) (Nat.ble (Nat.add (List.length (HAppend.hAppend [] (Go.VS.bc (Go.VS.Try.hiM 10 (Int.toNat x))))) 1) 4194304))))
       (needB (Nat.beq (Nat.add 0 (Nat.mul (List.length (HAppend.hAppend [] (Go.VS.bc (Go.VS.Try.hiM 10 (Int.toNat x))))) 1)) (List.length (Go.VS.renL Bool.true (Go.VS.shiftN 1) (HAppend.hAppend [] (Go.VS.bc (Go.VS.Try.hiM 10 (Int.toNat x)))))))
        (some ((Go.Value.slice (Option.some (Go.Addr.mk 0 0 none)) (Nat.add (List.length (HAppend.hAppend [] (Go.VS.bc (Go.VS.Try.hiM 10 (Int.toNat x))))) 1) 18446744073709551616), (Go.VS.mkSt [(Go.VS.Blk.cells (Go.VS.renL Bool.true (Go.VS.rhoO 0 [3]) (List.append (Go.VS.takeC (Nat.mul (List.length (HAppend.hAppend [] (Go.VS.bc (Go.VS.Try.hiM 10 (Int.toNat x))))) 1) (Go.VS.dropC 0 (Go.VS.renL Bool.true (Go.VS.shiftN 1) (HAppend.hAppend [] (Go.VS.bc (Go.VS.Try.hiM 10 (Int.toNat x))))))) [(Go.Value.int Go.IntKind.u8 (Go.VS.cvI Go.IntKind.u8 (Nat.cast (Go.VS.Try.topM 10 (Int.toNat x)))))])) 5 Bool.false)]))))))
     (needB (Go.VS.Try.vaC x (Go.Value.slice (Option.some (Go.Addr.mk 0 0 none)) n 18446744073709551616) (Go.VS.renL Bool.true (Go.VS.rhoO 0 [0]) c) 5)
      (needB (Bool.and (Bool.not Bool.false) (Bool.and (Nat.beq 5 5) (Bool.and (Nat.ble 0 (List.length (Go.VS.renL Bool.true (Go.VS.shiftN 1) (HAppend.hAppend (Go.VS.renL Bool.true (Go.VS.rhoO 0 [0]) c) (Go.VS.bc (Go.VS.Try.hiM 10 (Int.toNat x))))))) (Nat.ble (Nat.add (List.length (HAppend.hAppend (Go.VS.renL Bool.true (Go.VS.rhoO 0 [0]) c) (Go.VS.bc (Go.VS.Try.hiM 10 (Int.toNat x))))) 1) 4194304))))
       (needB (Nat.beq (Nat.add 0 (Nat.mul (List.length (HAppend.hAppend (Go.VS.renL Bool.true (Go.VS.rhoO 0 [0]) c) (Go.VS.bc (Go.VS.Try.hiM 10 (Int.toNat x))))) 1)) (List.length (Go.VS.renL Bool.true (Go.VS.shiftN 1) (HAppend.hAppend (Go.VS.renL Bool.true (Go.VS.rhoO 0 [0]) c) (Go.VS.bc (Go.VS.Try.hiM 10 (Int.toNat x)))))))
        (some ((Go.Value.slice (Option.some (Go.Addr.mk 0 0 none)) (Nat.add (List.length (HAppend.hAppend (Go.VS.renL Bool.true (Go.VS.rhoO 0 [0]) c) (Go.VS.bc (Go.VS.Try.hiM 10 (Int.toNat x))))) 1) 18446744073709551616), (Go.VS.mkSt [(Go.VS.Blk.cells (Go.VS.renL Bool.true (Go.VS.rhoO 0 [3]) (List.append (Go.VS.takeC (Nat.mul (List.length (HAppend.hAppend (Go.VS.renL Bool.true (Go.VS.rhoO 0 [0]) c) (Go.VS.bc (Go.VS.Try.hiM 10 (Int.toNat x))))) 1) (Go.VS.dropC 0 (Go.VS.renL Bool.true (Go.VS.shiftN 1) (HAppend.hAppend (Go.VS.renL Bool.true (Go.VS.rhoO 0 [0]) c) (Go.VS.bc (Go.VS.Try.hiM 10 (Int.toNat x))))))) [(Go.Value.int Go.IntKind.u8 (Go.VS.cvI Go.IntKind.u8 (Nat.cast (Go.VS.Try.topM 10 (Int.toNat x)))))])) 5 Bool.false)]))))))))) := by kernel_rfl
theorem dec_vaN (x : Int) : callQ P E ctV1 50 61 [.slice none 0 0, .int .u64 x] =
  (needB (Go.VS.Try.vaC x (Go.Value.slice (Option.some (Go.Addr.mk 0 0 none)) 0 18446744073709551616) [] 5)
   (needB (Bool.and (Bool.not Bool.false) (Bool.and (Nat.beq 5 5) (Bool.and (Nat.ble 0 (List.length (Go.VS.renL Bool.true (Go.VS.shiftN 1) (HAppend.hAppend [] (Go.VS.bc (Go.VS.Try.hiM 10 (Int.toNat x))))))) (Nat.ble (Nat.add (List.length (HAppend.hAppend [] (Go.VS.bc (Go.VS.Try.hiM 10 (Int.toNat x))))) 1) 4194304))))
    (needB (Nat.beq (Nat.add 0 (Nat.mul (List.length (HAppend.hAppend [] (Go.VS.bc (Go.VS.Try.hiM 10 (Int.toNat x))))) 1)) (List.length (Go.VS.renL Bool.true (Go.VS.shiftN 1) (HAppend.hAppend [] (Go.VS.bc (Go.VS.Try.hiM 10 (Int.toNat x)))))))
     (some ((Go.Value.slice (Option.some (Go.Addr.mk 0 0 none)) (Nat.add (List.length (HAppend.hAppend [] (Go.VS.bc (Go.VS.Try.hiM 10 (Int.toNat x))))) 1) 18446744073709551616), (Go.VS.mkSt [(Go.VS.Blk.cells (Go.VS.renL Bool.true (Go.VS.rhoO 0 [3]) (List.append (Go.VS.takeC (Nat.mul (List.length (HAppend.hAppend [] (Go.VS.bc (Go.VS.Try.hiM 10 (Int.toNat x))))) 1) (Go.VS.dropC 0 (Go.VS.renL Bool.true (Go.VS.shiftN 1) (HAppend.hAppend [] (Go.VS.bc (Go.VS.Try.hiM 10 (Int.toNat x))))))) [(Go.Value.int Go.IntKind.u8 (Go.VS.cvI Go.IntKind.u8 (Nat.cast (Go.VS.Try.topM 10 (Int.toNat x)))))])) 5 Bool.false)])))))) := by kernel_rfl
theorem dec_rvaA (n b : Nat) (c : List Value) (x : Int) : callQ P E ctV1 50 62 [mkFz 1 n b c, .int .u64 x] =
  (needB (List.all c Go.VS.oneCell)
   (needB (Bool.and (Nat.beq 0 0) (Bool.and (Nat.beq 0 0) (Nat.ble n 4194304)))
    (iteB (Nat.beq n 0)
     (needB (Go.VS.Try.rvaC x (Go.Value.slice (Option.some (Go.Addr.mk 0 0 none)) 0 18446744073709551616) [] 5)
      (needB (Bool.and (Bool.not Bool.false) (Bool.and (Nat.beq 5 5) (Bool.and (Nat.ble 0 (List.length (Go.VS.renL Bool.true (Go.VS.shiftN 1) (HAppend.hAppend [] (Go.VS.bc (Go.VS.Try.hiM 10 (Int.toNat x))))))) (Nat.ble (Nat.add (List.length (HAppend.hAppend [] (Go.VS.bc (Go.VS.Try.hiM 10 (Int.toNat x))))) 1) 4194304))))
       (needB (Nat.beq (Nat.add 0 (Nat.mul (List.length (HAppend.hAppend [] (Go.VS.bc (Go.VS.Try.hiM 10 (Int.toNat x))))) 1)) (List.length (Go.VS.renL Bool.true (Go.VS.shiftN 1) (HAppend.hAppend [] (Go.VS.bc (Go.VS.Try.hiM 10 (Int.toNat x)))))))
        (some ((Go.Value.slice (Option.some (Go.Addr.mk 0 0 none)) (Nat.add (List.length (HAppend.hAppend [] (Go.VS.bc (Go.VS.Try.hiM 10 (Int.toNat x))))) 1) 18446744073709551616), (Go.VS.mkSt [(Go.VS.Blk.cells (Go.VS.renL Bool.true (Go.VS.rhoO 0 [3]) (List.append (Go.VS.takeC (Nat.mul (List.length (HAppend.hAppend [] (Go.VS.bc (Go.VS.Try.hiM 10 (Int.toNat x))))) 1) (Go.VS.dropC 0 (Go.VS.renL Bool.true (Go.VS.shiftN 1) (HAppend.hAppend [] (Go.VS.bc (Go.VS.Try.hiM 10 (Int.toNat x))))))) [(Go.Value.int Go.IntKind.u8 (Go.VS.cvI Go.IntKind.u8 (Nat.cast (Go.VS.Try.topM 10 (Int.toNat x)))))])) 5 Bool.false)]))))))
     (needB (Go.VS.Try.rvaC x (Go.Value.slice (Option.some (Go.Addr.mk 0 0 none)) n 18446744073709551616) (Go.VS.renL Bool.true (Go.VS.rhoO 0 [0]) c) 5)
      (needB (Bool.and (Bool.not Bool.false) (Bool.and (Nat.beq 5 5) (Bool.and (Nat.ble 0 (List.length (Go.VS.renL Bool.true (Go.VS.shiftN 1) (HAppend.hAppend (Go.VS.renL Bool.true (Go.VS.rhoO 0 [0]) c) (Go.VS.bc (Go.VS.Try.hiM 10 (Int.toNat x))))))) (Nat.ble (Nat.add (List.length (HAppend.hAppend (Go.VS.renL Bool.true (Go.VS.rhoO 0 [0]) c) (Go.VS.bc (Go.VS.Try.hiM 10 (Int.toNat x))))) 1) 4194304))))
       (needB (Nat.beq (Nat.add 0 (Nat.mul (List.length (HAppend.hAppend (Go.VS.renL Bool.true (Go.VS.rhoO 0 [0]) c) (Go.VS.bc (Go.VS.Try.hiM 10 (Int.toNat x))))) 1)) (List.length (Go.VS.renL Bool.true (Go.VS.shiftN 1) (HAppend.hAppend (Go.VS.renL Bool.true (Go.VS.rhoO 0 [0]) c) (Go.VS.bc (Go.VS.Try.hiM 10 (Int.toNat x)))))))
        (some ((Go.Value.slice (Option.some (Go.Addr.mk 0 0 none)) (Nat.add (List.length (HAppend.hAppend (Go.VS.renL Bool.true (Go.VS.rhoO 0 [0]) c) (Go.VS.bc (Go.VS.Try.hiM 10 (Int.toNat x))))) 1) 18446744073709551616), (Go.VS.mkSt [(Go.VS.Blk.cells (Go.VS.renL Bool.true (Go.VS.rhoO 0 [3]) (List.append (Go.VS.takeC (Nat.mul (List.length (HAppend.hAppend (Go.VS.renL Bool.true (Go.VS.rhoO 0 [0]) c) (Go.VS.bc (Go.VS.Try.hiM 10 (Int.toNat x))))) 1) (Go.VS.dropC 0 (Go.VS.renL Bool.true (Go.VS.shiftN 1) (HAppend.hAppend (Go.VS.renL Bool.true (Go.VS.rhoO 0 [0]) c) (Go.VS.bc (Go.VS.Try.hiM 10 (Int.toNat x))))))) [(Go.Value.int Go.IntKind.u8 (Go.VS.cvI Go.IntKind.u8 (Nat.cast (Go.VS.Try.topM 10 (Int.toNat x)))))])) 5 Bool.false)]))))))))) := by kernel_rfl
theorem dec_rvaN (x : Int) : callQ P E ctV1 50 62 [.slice none 0 0, .int .u64 x] =
  (needB (Go.VS.Try.rvaC x (Go.Value.slice (Option.some (Go.Addr.mk 0 0 none)) 0 18446744073709551616) [] 5)
   (needB (Bool.and (Bool.not Bool.false) (Bool.and (Nat.beq 5 5) (Bool.and (Nat.ble 0 (List.length (Go.VS.renL Bool.true (Go.VS.shiftN 1) (HAppend.hAppend [] (Go.VS.bc (Go.VS.Try.hiM 10 (Int.toNat x))))))) (Nat.ble (Nat.add (List.length (HAppend.hAppend [] (Go.VS.bc (Go.VS.Try.hiM 10 (Int.toNat x))))) 1) 4194304))))
    (needB (Nat.beq (Nat.add 0 (Nat.mul (List.length (HAppend.hAppend [] (Go.VS.bc (Go.VS.Try.hiM 10 (Int.toNat x))))) 1)) (List.length (Go.VS.renL Bool.true (Go.VS.shiftN 1) (HAppend.hAppend [] (Go.VS.bc (Go.VS.Try.hiM 10 (Int.toNat x)))))))
     (some ((Go.Value.slice (Option.some (Go.Addr.mk 0 0 none)) (Nat.add (List.length (HAppend.hAppend [] (Go.VS.bc (Go.VS.Try.hiM 10 (Int.toNat x))))) 1) 18446744073709551616), (Go.VS.mkSt [(Go.VS.Blk.cells (Go.VS.renL Bool.true (Go.VS.rhoO 0 [3]) (List.append (Go.VS.takeC (Nat.mul (List.length (HAppend.hAppend [] (Go.VS.bc (Go.VS.Try.hiM 10 (Int.toNat x))))) 1) (Go.VS.dropC 0 (Go.VS.renL Bool.true (Go.VS.shiftN 1) (HAppend.hAppend [] (Go.VS.bc (Go.VS.Try.hiM 10 (Int.toNat x))))))) [(Go.Value.int Go.IntKind.u8 (Go.VS.cvI Go.IntKind.u8 (Nat.cast (Go.VS.Try.topM 10 (Int.toNat x)))))])) 5 Bool.false)])))))) := by kernel_rfl
end Go.VS.Try
end

section
namespace Go.VS.Try
set_option linter.unusedSimpArgs false
set_option linter.unusedVariables false
set_option maxRecDepth 1000000
open Go.VS

/-- Frozen bytes. -/
def fzB (t n : Nat) (c : List Value) : Bool := Nat.beq t (FZ + 1) && Nat.beq n c.length && bytesB c && Nat.ble (c.length + 64) 4194304
theorem fzB_of {t n : Nat} {c : List Value} (h : fzB t n c = true) : t = FZ + 1 ∧ n = c.length ∧ (∃ l, c = bc l ∧ l = c.map byteOf) ∧ c.length + 64 ≤ 4194304 := by
  unfold fzB at h
  simp only [Bool.and_eq_true] at h
  obtain ⟨⟨⟨h1, h2⟩, h3⟩, h4⟩ := h
  exact ⟨Nat.eq_of_beq_eq_true h1, Nat.eq_of_beq_eq_true h2, ⟨_, bc_of h3, rfl⟩, Nat.le_of_ble_eq_true h4⟩
theorem fzB_bc {n : Nat} {l : List UInt8} (h : n = l.length) (h2 : l.length + 64 ≤ 4194304) : fzB (FZ + 1) n (bc l) = true := by
  unfold fzB
  rw [bytesB_bc, bc_length, beq_ok rfl, beq_ok h, ble_ok h2]; rfl
theorem bc_app (a b : List UInt8) : bc a ++ bc b = bc (a ++ b) := (bc_append a b).symm
theorem bc_nil : ([] : List Value) = bc [] := rfl
theorem int_bc (b : UInt8) : [Value.int .u8 (b.toNat : Int)] = bc [b] := rfl

def outB (l : List UInt8) : Value × List Blk := (sl 0 l.length, [.cells (bc l) 5 false])
/-- A number of 64 bits. -/
def u64B (x : Int) : Bool := inI x 18446744073709551616
def RappV (V : Nat → List UInt8) (C : Int → Bool) : CallFn
  | [.iface t (.agg ⟨.slice none n b :: c⟩), .int .u64 x] => some (.ite (fzB t n c && C x) (.leaf (outB (c.map byteOf ++ V x.toNat))) .fail)
  | [.slice none n b, .int .u64 x] => some (.ite (Nat.beq n 0 && Nat.beq b 0 && C x) (.leaf (outB (V x.toNat))) .fail)
  | _ => none
def Rapp : CallFn := RappV varM u64B

theorem vaC_ok {x : Nat} {l : List UInt8} (hx : x < 18446744073709551616) (hl : l.length + 10 ≤ 4194304) : vaC x (.slice (some ⟨0, 0, none⟩) l.length 18446744073709551616) (bc l) 5 = true := by
  unfold vaC
  have h1 : inI (x : Int) 18446744073709551616 = true := inI_ok (by omega) (by omega)
  have h2 : atB (.slice (some ⟨0, 0, none⟩) l.length 18446744073709551616) 0 (bc l).length = true := by rw [bc_length]; exact atB_sl 0 _
  rw [h1, h2, bc_flat, bc_length, ble_ok hl]; rfl
theorem rvaC_ok {x : Nat} {l : List UInt8} (hx : x < 18446744073709551616) (hl : l.length + 10 ≤ 4194304) : rvaC x (.slice (some ⟨0, 0, none⟩) l.length 18446744073709551616) (bc l) 5 = true := by
  unfold rvaC
  have h1 : inI (x : Int) 18446744073709551616 = true := inI_ok (by omega) (by omega)
  have h2 : atB (.slice (some ⟨0, 0, none⟩) l.length 18446744073709551616) 0 (bc l).length = true := by rw [bc_length]; exact atB_sl 0 _
  rw [h1, h2, bc_flat, bc_length, ble_ok hl]; rfl
theorem top_byte {n : Nat} (h : n < 18446744073709551616) : cvI .u8 ((topM 10 n : Nat) : Int) = ((UInt8.ofNat (topM 10 n)).toNat : Int) := by
  have := topM_lt 10 n (Nat.lt_of_lt_of_le h (by decide))
  rw [byte_int (by omega)]
  unfold cvI
  rw [wrap8_nat]
  congr 1
  omega
theorem tail_eq {a : List UInt8} {b : UInt8} {ρ : Nat → Option Nat} : renL true ρ (List.append (takeC (Nat.mul a.length 1) (dropC 0 (bc a))) [Value.int .u8 (b.toNat : Int)]) = bc (a ++ [b]) := by
  have := app_ren (ρ := ρ) (bc_flat a) (bc_flat [b])
  rw [bc_length] at this
  rw [bc_append]
  exact this
section
variable {l : List UInt8} {b n : Nat}
theorem app_run (hl : l.length + 64 ≤ 4194304) (hn : n < 18446744073709551616) : callQ P E ctV1 50 61 [mkFz 1 l.length b (bc l), .int .u64 n] = some ((outB (l ++ varM n)).1, mkSt (outB (l ++ varM n)).2) := by
  have hh := hiM_length 10 n
  rw [dec_vaA]
  simp only [Int.toNat_natCast, bc_ren, List.nil_append, bc_app, bc_length]
  refine need_eq (bc_one l) (need_eq (and_ok rfl (and_ok rfl (ble_ok (by omega)))) ?_)
  cases hz : Nat.beq l.length 0 with
  | true =>
    have hl0 : l = [] := List.eq_nil_of_length_eq_zero (Nat.eq_of_beq_eq_true hz)
    subst hl0
    refine ite_t rfl (need_eq (vaC_ok (l := []) hn (by simp)) (need_eq (and_ok rfl (and_ok rfl (and_ok (ble_ok (Nat.zero_le _)) (ble_ok (by show _ + 1 ≤ _; omega))))) (need_eq (beq_ok (by simp)) ?_)))
    rw [top_byte hn, tail_eq]
    simp [outB, varM, sl, unk]
  | false =>
    refine ite_f rfl (need_eq (vaC_ok hn (by omega)) (need_eq (and_ok rfl (and_ok rfl (and_ok (ble_ok (Nat.zero_le _)) (ble_ok (by show _ + 1 ≤ _; rw [List.length_append]; omega))))) (need_eq (beq_ok (by simp)) ?_)))
    rw [top_byte hn, tail_eq]
    simp [outB, varM, sl, unk, Nat.add_assoc]
theorem rapp_run (hl : l.length + 64 ≤ 4194304) (hn : n < 18446744073709551616) : callQ P E ctV1 50 62 [mkFz 1 l.length b (bc l), .int .u64 n] = some ((outB (l ++ varM n)).1, mkSt (outB (l ++ varM n)).2) := by
  have hh := hiM_length 10 n
  rw [dec_rvaA]
  simp only [Int.toNat_natCast, bc_ren, List.nil_append, bc_app, bc_length]
  refine need_eq (bc_one l) (need_eq (and_ok rfl (and_ok rfl (ble_ok (by omega)))) ?_)
  cases hz : Nat.beq l.length 0 with
  | true =>
    have hl0 : l = [] := List.eq_nil_of_length_eq_zero (Nat.eq_of_beq_eq_true hz)
    subst hl0
    refine ite_t rfl (need_eq (rvaC_ok (l := []) hn (by simp)) (need_eq (and_ok rfl (and_ok rfl (and_ok (ble_ok (Nat.zero_le _)) (ble_ok (by show _ + 1 ≤ _; omega))))) (need_eq (beq_ok (by simp)) ?_)))
    rw [top_byte hn, tail_eq]
    simp [outB, varM, sl, unk]
  | false =>
    refine ite_f rfl (need_eq (rvaC_ok hn (by omega)) (need_eq (and_ok rfl (and_ok rfl (and_ok (ble_ok (Nat.zero_le _)) (ble_ok (by show _ + 1 ≤ _; rw [List.length_append]; omega))))) (need_eq (beq_ok (by simp)) ?_)))
    rw [top_byte hn, tail_eq]
    simp [outB, varM, sl, unk, Nat.add_assoc]
theorem appN_run (hn : n < 18446744073709551616) : callQ P E ctV1 50 61 [.slice none 0 0, .int .u64 n] = some ((outB (varM n)).1, mkSt (outB (varM n)).2) := by
  have hh := hiM_length 10 n
  rw [dec_vaN]
  simp only [Int.toNat_natCast, bc_ren, List.nil_append, bc_app, bc_length]
  refine need_eq (vaC_ok (l := []) hn (by simp)) (need_eq (and_ok rfl (and_ok rfl (and_ok (ble_ok (Nat.zero_le _)) (ble_ok (by show _ + 1 ≤ _; omega))))) (need_eq (beq_ok (by simp)) ?_))
  rw [top_byte hn, tail_eq]
  simp [outB, varM, sl, unk]
theorem rappN_run (hn : n < 18446744073709551616) : callQ P E ctV1 50 62 [.slice none 0 0, .int .u64 n] = some ((outB (varM n)).1, mkSt (outB (varM n)).2) := by
  have hh := hiM_length 10 n
  rw [dec_rvaN]
  simp only [Int.toNat_natCast, bc_ren, List.nil_append, bc_app, bc_length]
  refine need_eq (rvaC_ok (l := []) hn (by simp)) (need_eq (and_ok rfl (and_ok rfl (and_ok (ble_ok (Nat.zero_le _)) (ble_ok (by show _ + 1 ≤ _; omega))))) (need_eq (beq_ok (by simp)) ?_))
  rw [top_byte hn, tail_eq]
  simp [outB, varM, sl, unk]
end
theorem app_any {F : Nat} (h1 : ∀ {l : List UInt8} {b n : Nat}, l.length + 64 ≤ 4194304 → n < 18446744073709551616 → callQ P E ctV1 50 F [mkFz 1 l.length b (bc l), .int .u64 n] = some ((outB (l ++ varM n)).1, mkSt (outB (l ++ varM n)).2))
    (h2 : ∀ {n : Nat}, n < 18446744073709551616 → callQ P E ctV1 50 F [.slice none 0 0, .int .u64 n] = some ((outB (varM n)).1, mkSt (outB (varM n)).2)) : CallOkR P F Rapp := by
  refine ok_of ctV1_ok (n := 50) fun args t hR v bs hev => ?_
  unfold Rapp RappV at hR
  split at hR
  · rename_i t n b c x
    obtain rfl := Option.some.inj hR
    cases hc : fzB t n c && u64B x with
    | false => rw [hc] at hev; cases hev
    | true =>
      rw [hc] at hev
      simp only [Bool.and_eq_true, u64B, inI, decide_eq_true_eq] at hc
      obtain ⟨h, hx⟩ := hc
      obtain ⟨rfl, rfl, ⟨l, rfl, hl⟩, h4⟩ := fzB_of h
      obtain ⟨n, rfl⟩ := Int.eq_ofNat_of_zero_le hx.1
      rw [← hl] at hev
      simp only [DT.eval, Option.some.injEq, Prod.mk.injEq, Int.toNat_natCast] at hev
      obtain ⟨rfl, rfl⟩ := hev
      rw [bc_length] at h4
      have := h1 (b := b) h4 (show n < 18446744073709551616 by omega)
      rw [bc_length]
      exact this
  · rename_i n b x
    obtain rfl := Option.some.inj hR
    cases hc : Nat.beq n 0 && Nat.beq b 0 && u64B x with
    | false => rw [hc] at hev; cases hev
    | true =>
      rw [hc] at hev
      simp only [Bool.and_eq_true, u64B, inI, decide_eq_true_eq] at hc
      obtain ⟨⟨hn, hb⟩, hx⟩ := hc
      obtain rfl := Nat.eq_of_beq_eq_true hn
      obtain rfl := Nat.eq_of_beq_eq_true hb
      obtain ⟨n, rfl⟩ := Int.eq_ofNat_of_zero_le hx.1
      simp only [DT.eval, Option.some.injEq, Prod.mk.injEq, Int.toNat_natCast] at hev
      obtain ⟨rfl, rfl⟩ := hev
      exact h2 (show n < 18446744073709551616 by omega)
  · cases hR
theorem app_ok : CallOkR P 61 Rapp := app_any app_run appN_run
theorem rapp_ok : CallOkR P 62 Rapp := app_any rapp_run rappN_run
noncomputable def ctV2v (V : Nat → List UInt8) (C : Int → Bool) : Ct := addCall P 61 (RappV V C) (addCall P 62 (RappV V C) ctV1)
noncomputable def ctV2 : Ct := ctV2v varM u64B
theorem ctV2_ok : CtOk P ctV2 := addCall_ok (addCall_ok ctV1_ok rapp_ok) app_ok

/-! ### reading -/
noncomputable def Hvr : Head := ⟨0, 40, [2, 3, 4, 7, 8, 9], []⟩
noncomputable def Bvr : Code := (loopAt P 72 0).getD .skip
theorem Bvr_eq : loopAt P 72 0 = some Bvr := by kernel_rfl
theorem Bvr_occ : Occ P 72 (.block 0 (.loop Bvr)) := loopAt_has Bvr_eq
noncomputable def Hrr : Head := ⟨0, 51, [0, 2, 3, 4, 5, 6], []⟩
noncomputable def Brr : Code := (loopAt P 80 0).getD .skip
theorem Brr_eq : loopAt P 80 0 = some Brr := by kernel_rfl
theorem Brr_occ : Occ P 80 (.block 0 (.loop Brr)) := loopAt_has Brr_eq
theorem dec_vr (V : Nat → List UInt8) (C : Int → Bool) (x i z : Int) (n b : Nat) (c : List Value) : roundQ P E (ctV2v V C) 50 72 Bvr Hvr [.int .u64 x, .int .i64 0, .int .i64 0, mkFz 1 n b c, .int .i64 z, .int .i64 i] [] =
  (iteB (Go.VS.ltI i z)
   (needB (Bool.and (Nat.beq 1 1) (Go.VS.inI i n))
    (needB (Bool.and (Nat.ble (Nat.add (Go.VS.atN i 1) 1) (List.length c)) (Go.VS.etaB (Go.VS.Eta.int Go.IntKind.u8) (Go.VS.nthD c (Go.VS.atN i 1))))
     (iteB (Go.VS.eqI i (9 : Int))
      (iteB (Go.VS.gtI (Go.VS.asI (Go.VS.nthD c (Go.VS.atN i 1))) (1 : Int))
       (some ((Go.Value.tuple (Array.mk [(Go.Value.int Go.IntKind.i64 (1 : Int)), (Go.Value.int Go.IntKind.u64 x), (Go.Value.int Go.IntKind.i64 (0 : Int)), (Go.Value.int Go.IntKind.i64 (0 : Int)), (Go.Value.iface 18446744073709551617 (Go.Value.agg (Array.mk ((Go.Value.slice none n b) :: c)))), (Go.Value.int Go.IntKind.i64 z), (Go.Value.int Go.IntKind.i64 i)])), (Go.VS.mkSt [])))
       (needB (Go.VS.posI (Go.VS.mulI Go.IntKind.i64 (7 : Int) i))
        (iteB (Go.VS.geI (Go.VS.asI (Go.VS.nthD c (Go.VS.atN i 1))) (128 : Int))
         (some ((Go.Value.tuple (Array.mk [(Go.Value.int Go.IntKind.i64 (0 : Int)), (Go.Value.int Go.IntKind.u64 (Go.VS.orI Go.IntKind.u64 x (Go.VS.shlI Go.IntKind.u64 (Go.VS.cvI Go.IntKind.u64 (Go.VS.andI Go.IntKind.u8 (Go.VS.asI (Go.VS.nthD c (Go.VS.atN i 1))) (127 : Int))) (Go.VS.mulI Go.IntKind.i64 (7 : Int) i)))), (Go.Value.int Go.IntKind.i64 (0 : Int)), (Go.Value.int Go.IntKind.i64 (0 : Int)), (Go.Value.iface 18446744073709551617 (Go.Value.agg (Array.mk ((Go.Value.slice none n b) :: c)))), (Go.Value.int Go.IntKind.i64 z), (Go.Value.int Go.IntKind.i64 (Go.VS.addI Go.IntKind.i64 i (1 : Int)))])), (Go.VS.mkSt [])))
         (iteB (Go.VS.eqI (Go.VS.asI (Go.VS.nthD c (Go.VS.atN i 1))) (0 : Int))
          (iteB (Go.VS.gtI i (0 : Int))
           (some ((Go.Value.tuple (Array.mk [(Go.Value.int Go.IntKind.i64 (1 : Int)), (Go.Value.int Go.IntKind.u64 (Go.VS.orI Go.IntKind.u64 x (Go.VS.shlI Go.IntKind.u64 (Go.VS.cvI Go.IntKind.u64 (Go.VS.andI Go.IntKind.u8 (Go.VS.asI (Go.VS.nthD c (Go.VS.atN i 1))) (127 : Int))) (Go.VS.mulI Go.IntKind.i64 (7 : Int) i)))), (Go.Value.int Go.IntKind.i64 (0 : Int)), (Go.Value.int Go.IntKind.i64 (0 : Int)), (Go.Value.iface 18446744073709551617 (Go.Value.agg (Array.mk ((Go.Value.slice none n b) :: c)))), (Go.Value.int Go.IntKind.i64 z), (Go.Value.int Go.IntKind.i64 i)])), (Go.VS.mkSt [])))
           (some ((Go.Value.tuple (Array.mk [(Go.Value.int Go.IntKind.i64 (-1 : Int)), (Go.Value.int Go.IntKind.u64 (Go.VS.orI Go.IntKind.u64 x (Go.VS.shlI Go.IntKind.u64 (Go.VS.cvI Go.IntKind.u64 (Go.VS.andI Go.IntKind.u8 (Go.VS.asI (Go.VS.nthD c (Go.VS.atN i 1))) (127 : Int))) (Go.VS.mulI Go.IntKind.i64 (7 : Int) i)))), (Go.Value.int Go.IntKind.i64 (Go.VS.addI Go.IntKind.i64 i (1 : Int))), (Go.Value.int Go.IntKind.i64 (0 : Int)), (Go.Value.iface 18446744073709551617 (Go.Value.agg (Array.mk ((Go.Value.slice none n b) :: c)))), (Go.Value.int Go.IntKind.i64 z), (Go.Value.int Go.IntKind.i64 i)])), (Go.VS.mkSt []))))
          (some ((Go.Value.tuple (Array.mk [(Go.Value.int Go.IntKind.i64 (-1 : Int)), (Go.Value.int Go.IntKind.u64 (Go.VS.orI Go.IntKind.u64 x (Go.VS.shlI Go.IntKind.u64 (Go.VS.cvI Go.IntKind.u64 (Go.VS.andI Go.IntKind.u8 (Go.VS.asI (Go.VS.nthD c (Go.VS.atN i 1))) (127 : Int))) (Go.VS.mulI Go.IntKind.i64 (7 : Int) i)))), (Go.Value.int Go.IntKind.i64 (Go.VS.addI Go.IntKind.i64 i (1 : Int))), (Go.Value.int Go.IntKind.i64 (0 : Int)), (Go.Value.iface 18446744073709551617 (Go.Value.agg (Array.mk ((Go.Value.slice none n b) :: c)))), (Go.Value.int Go.IntKind.i64 z), (Go.Value.int Go.IntKind.i64 i)])), (Go.VS.mkSt [])))))))
      (needB (Go.VS.posI (Go.VS.mulI Go.IntKind.i64 (7 : Int) i))
       (iteB (Go.VS.geI (Go.VS.asI (Go.VS.nthD c (Go.VS.atN i 1))) (128 : Int))
        (some ((Go.Value.tuple (Array.mk [(Go.Value.int Go.IntKind.i64 (0 : Int)), (Go.Value.int Go.IntKind.u64 (Go.VS.orI Go.IntKind.u64 x (Go.VS.shlI Go.IntKind.u64 (Go.VS.cvI Go.IntKind.u64 (Go.VS.andI Go.IntKind.u8 (Go.VS.asI (Go.VS.nthD c (Go.VS.atN i 1))) (127 : Int))) (Go.VS.mulI Go.IntKind.i64 (7 : Int) i)))), (Go.Value.int Go.IntKind.i64 (0 : Int)), (Go.Value.int Go.IntKind.i64 (0 : Int)), (Go.Value.iface 18446744073709551617 (Go.Value.agg (Array.mk ((Go.Value.slice none n b) :: c)))), (Go.Value.int Go.IntKind.i64 z), (Go.Value.int Go.IntKind.i64 (Go.VS.addI Go.IntKind.i64 i (1 : Int)))])), (Go.VS.mkSt [])))
        (iteB (Go.VS.eqI (Go.VS.asI (Go.VS.nthD c (Go.VS.atN i 1))) (0 : Int))
         (iteB (Go.VS.gtI i (0 : Int))
          (some ((Go.Value.tuple (Array.mk [(Go.Value.int Go.IntKind.i64 (1 : Int)), (Go.Value.int Go.IntKind.u64 (Go.VS.orI Go.IntKind.u64 x (Go.VS.shlI Go.IntKind.u64 (Go.VS.cvI Go.IntKind.u64 (Go.VS.andI Go.IntKind.u8 (Go.VS.asI (Go.VS.nthD c (Go.VS.atN i 1))) (127 : Int))) (Go.VS.mulI Go.IntKind.i64 (7 : Int) i)))), (Go.Value.int Go.IntKind.i64 (0 : Int)), (Go.Value.int Go.IntKind.i64 (0 : Int)), (Go.Value.iface 18446744073709551617 (Go.Value.agg (Array.mk ((Go.Value.slice none n b) :: c)))), (Go.Value.int Go.IntKind.i64 z), (Go.Value.int Go.IntKind.i64 i)])), (Go.VS.mkSt [])))
          (some ((Go.Value.tuple (Array.mk [(Go.Value.int Go.IntKind.i64 (-1 : Int)), (Go.Value.int Go.IntKind.u64 (Go.VS.orI Go.IntKind.u64 x (Go.VS.shlI Go.IntKind.u64 (Go.VS.cvI Go.IntKind.u64 (Go.VS.andI Go.IntKind.u8 (Go.VS.asI (Go.VS.nthD c (Go.VS.atN i 1))) (127 : Int))) (Go.VS.mulI Go.IntKind.i64 (7 : Int) i)))), (Go.Value.int Go.IntKind.i64 (Go.VS.addI Go.IntKind.i64 i (1 : Int))), (Go.Value.int Go.IntKind.i64 (0 : Int)), (Go.Value.iface 18446744073709551617 (Go.Value.agg (Array.mk ((Go.Value.slice none n b) :: c)))), (Go.Value.int Go.IntKind.i64 z), (Go.Value.int Go.IntKind.i64 i)])), (Go.VS.mkSt []))))
         (some ((Go.Value.tuple (Array.mk [(Go.Value.int Go.IntKind.i64 (-1 : Int)), (Go.Value.int Go.IntKind.u64 (Go.VS.orI Go.IntKind.u64 x (Go.VS.shlI Go.IntKind.u64 (Go.VS.cvI Go.IntKind.u64 (Go.VS.andI Go.IntKind.u8 (Go.VS.asI (Go.VS.nthD c (Go.VS.atN i 1))) (127 : Int))) (Go.VS.mulI Go.IntKind.i64 (7 : Int) i)))), (Go.Value.int Go.IntKind.i64 (Go.VS.addI Go.IntKind.i64 i (1 : Int))), (Go.Value.int Go.IntKind.i64 (0 : Int)), (Go.Value.iface 18446744073709551617 (Go.Value.agg (Array.mk ((Go.Value.slice none n b) :: c)))), (Go.Value.int Go.IntKind.i64 z), (Go.Value.int Go.IntKind.i64 i)])), (Go.VS.mkSt [])))))))))
   (some ((Go.Value.tuple (Array.mk [(Go.Value.int Go.IntKind.i64 (1 : Int)), (Go.Value.int Go.IntKind.u64 x), (Go.Value.int Go.IntKind.i64 (0 : Int)), (Go.Value.int Go.IntKind.i64 (0 : Int)), (Go.Value.iface 18446744073709551617 (Go.Value.agg (Array.mk ((Go.Value.slice none n b) :: c)))), (Go.Value.int Go.IntKind.i64 z), (Go.Value.int Go.IntKind.i64 i)])), (Go.VS.mkSt [])))) := by kernel_rfl
theorem dec_rr (V : Nat → List UInt8) (C : Int → Bool) (x i : Int) (n b : Nat) (c : List Value) : roundQ P E (ctV2v V C) 50 80 Brr Hrr [mkFz 1 n b c, .int .u64 0, .int .i64 0, .int .i64 0, .int .u64 x, .int .i64 i] [] =
  (iteB (Go.VS.ltI i (Go.VS.lenI n))
   (iteB (Go.VS.ltI i (10 : Int))
    (needB (Bool.and (Nat.beq 1 1) (Go.VS.inI i n))
     (needB (Bool.and (Nat.ble (Nat.add (Go.VS.atN i 1) 1) (List.length c)) (Go.VS.etaB (Go.VS.Eta.int Go.IntKind.u8) (Go.VS.nthD c (Go.VS.atN i 1))))
      (needB (Go.VS.posI (Go.VS.mulI Go.IntKind.u64 (7 : Int) (Go.VS.cvI Go.IntKind.u64 i)))
       (iteB (Go.VS.ltI (Go.VS.asI (Go.VS.nthD c (Go.VS.atN i 1))) (128 : Int))
        (needB (Bool.and (Bool.and (Nat.beq 0 0) (Nat.beq 0 0)) (C (Go.VS.orI Go.IntKind.u64 x (Go.VS.shlI Go.IntKind.u64 (Go.VS.cvI Go.IntKind.u64 (Go.VS.remI (Go.VS.asI (Go.VS.nthD c (Go.VS.atN i 1))) (128 : Int))) (Go.VS.mulI Go.IntKind.u64 (7 : Int) (Go.VS.cvI Go.IntKind.u64 i))))))
         (iteB (Go.VS.neI (Go.VS.lenI (List.length (V (Int.toNat (Go.VS.orI Go.IntKind.u64 x (Go.VS.shlI Go.IntKind.u64 (Go.VS.cvI Go.IntKind.u64 (Go.VS.remI (Go.VS.asI (Go.VS.nthD c (Go.VS.atN i 1))) (128 : Int))) (Go.VS.mulI Go.IntKind.u64 (7 : Int) (Go.VS.cvI Go.IntKind.u64 i)))))))) (Go.VS.addI Go.IntKind.i64 i (1 : Int)))
          (some ((Go.Value.tuple (Array.mk [(Go.Value.int Go.IntKind.i64 (-1 : Int)), (Go.Value.iface 18446744073709551617 (Go.Value.agg (Array.mk ((Go.Value.slice none n b) :: c)))), (Go.Value.int Go.IntKind.u64 (0 : Int)), (Go.Value.int Go.IntKind.i64 (0 : Int)), (Go.Value.int Go.IntKind.i64 (5 : Int)), (Go.Value.int Go.IntKind.u64 (Go.VS.orI Go.IntKind.u64 x (Go.VS.shlI Go.IntKind.u64 (Go.VS.cvI Go.IntKind.u64 (Go.VS.remI (Go.VS.asI (Go.VS.nthD c (Go.VS.atN i 1))) (128 : Int))) (Go.VS.mulI Go.IntKind.u64 (7 : Int) (Go.VS.cvI Go.IntKind.u64 i))))), (Go.Value.int Go.IntKind.i64 (Go.VS.addI Go.IntKind.i64 i (1 : Int)))])), (Go.VS.mkSt [])))
          (needB (Go.VS.inI (Go.VS.subI Go.IntKind.i64 (Go.VS.addI Go.IntKind.i64 i (1 : Int)) (1 : Int)) (List.length (V (Int.toNat (Go.VS.orI Go.IntKind.u64 x (Go.VS.shlI Go.IntKind.u64 (Go.VS.cvI Go.IntKind.u64 (Go.VS.remI (Go.VS.asI (Go.VS.nthD c (Go.VS.atN i 1))) (128 : Int))) (Go.VS.mulI Go.IntKind.u64 (7 : Int) (Go.VS.cvI Go.IntKind.u64 i))))))))
           (needB (Bool.and (Nat.ble (Nat.add (Nat.add 0 (Go.VS.atN (Go.VS.subI Go.IntKind.i64 (Go.VS.addI Go.IntKind.i64 i (1 : Int)) (1 : Int)) 1)) 1) (List.length (Go.VS.renL Bool.false (Go.VS.shiftN 0) (Go.VS.bc (V (Int.toNat (Go.VS.orI Go.IntKind.u64 x (Go.VS.shlI Go.IntKind.u64 (Go.VS.cvI Go.IntKind.u64 (Go.VS.remI (Go.VS.asI (Go.VS.nthD c (Go.VS.atN i 1))) (128 : Int))) (Go.VS.mulI Go.IntKind.u64 (7 : Int) (Go.VS.cvI Go.IntKind.u64 i)))))))))) (Go.VS.etaB (Go.VS.Eta.int Go.IntKind.u8) (Go.VS.nthD (Go.VS.renL Bool.false (Go.VS.shiftN 0) (Go.VS.bc (V (Int.toNat (Go.VS.orI Go.IntKind.u64 x (Go.VS.shlI Go.IntKind.u64 (Go.VS.cvI Go.IntKind.u64 (Go.VS.remI (Go.VS.asI (Go.VS.nthD c (Go.VS.atN i 1))) (128 : Int))) (Go.VS.mulI Go.IntKind.u64 (7 : Int) (Go.VS.cvI Go.IntKind.u64 i)))))))) (Nat.add 0 (Go.VS.atN (Go.VS.subI Go.IntKind.i64 (Go.VS.addI Go.IntKind.i64 i (1 : Int)) (1 : Int)) 1)))))
            (iteB (Go.VS.neI (Go.VS.asI (Go.VS.nthD (Go.VS.renL Bool.false (Go.VS.shiftN 0) (Go.VS.bc (V (Int.toNat (Go.VS.orI Go.IntKind.u64 x (Go.VS.shlI Go.IntKind.u64 (Go.VS.cvI Go.IntKind.u64 (Go.VS.remI (Go.VS.asI (Go.VS.nthD c (Go.VS.atN i 1))) (128 : Int))) (Go.VS.mulI Go.IntKind.u64 (7 : Int) (Go.VS.cvI Go.IntKind.u64 i)))))))) (Nat.add 0 (Go.VS.atN (Go.VS.subI Go.IntKind.i64 (Go.VS.addI Go.IntKind.i64 i (1 : Int)) (1 : Int)) 1)))) (Go.VS.asI (Go.VS.nthD c (Go.VS.atN i 1))))
             (some ((Go.Value.tuple (Array.mk [(Go.Value.int Go.IntKind.i64 (-1 : Int)), (Go.Value.iface 18446744073709551617 (Go.Value.agg (Array.mk ((Go.Value.slice none n b) :: c)))), (Go.Value.int Go.IntKind.u64 (0 : Int)), (Go.Value.int Go.IntKind.i64 (0 : Int)), (Go.Value.int Go.IntKind.i64 (5 : Int)), (Go.Value.int Go.IntKind.u64 (Go.VS.orI Go.IntKind.u64 x (Go.VS.shlI Go.IntKind.u64 (Go.VS.cvI Go.IntKind.u64 (Go.VS.remI (Go.VS.asI (Go.VS.nthD c (Go.VS.atN i 1))) (128 : Int))) (Go.VS.mulI Go.IntKind.u64 (7 : Int) (Go.VS.cvI Go.IntKind.u64 i))))), (Go.Value.int Go.IntKind.i64 (Go.VS.addI Go.IntKind.i64 i (1 : Int)))])), (Go.VS.mkSt [])))
             (some ((Go.Value.tuple (Array.mk [(Go.Value.int Go.IntKind.i64 (-1 : Int)), (Go.Value.iface 18446744073709551617 (Go.Value.agg (Array.mk ((Go.Value.slice none n b) :: c)))), (Go.Value.int Go.IntKind.u64 (Go.VS.orI Go.IntKind.u64 x (Go.VS.shlI Go.IntKind.u64 (Go.VS.cvI Go.IntKind.u64 (Go.VS.remI (Go.VS.asI (Go.VS.nthD c (Go.VS.atN i 1))) (128 : Int))) (Go.VS.mulI Go.IntKind.u64 (7 : Int) (Go.VS.cvI Go.IntKind.u64 i))))), (Go.Value.int Go.IntKind.i64 (Go.VS.addI Go.IntKind.i64 i (1 : Int))), (Go.Value.int Go.IntKind.i64 (0 : Int)), (Go.Value.int Go.IntKind.u64 (Go.VS.orI Go.IntKind.u64 x (Go.VS.shlI Go.IntKind.u64 (Go.VS.cvI Go.IntKind.u64 (Go.VS.remI (Go.VS.asI (Go.VS.nthD c (Go.VS.atN i 1))) (128 : Int))) (Go.VS.mulI Go.IntKind.u64 (7 : Int) (Go.VS.cvI Go.IntKind.u64 i))))), (Go.Value.int Go.IntKind.i64 (Go.VS.addI Go.IntKind.i64 i (1 : Int)))])), (Go.VS.mkSt []))))))))
        (some ((Go.Value.tuple (Array.mk [(Go.Value.int Go.IntKind.i64 (0 : Int)), (Go.Value.iface 18446744073709551617 (Go.Value.agg (Array.mk ((Go.Value.slice none n b) :: c)))), (Go.Value.int Go.IntKind.u64 (0 : Int)), (Go.Value.int Go.IntKind.i64 (0 : Int)), (Go.Value.int Go.IntKind.i64 (0 : Int)), (Go.Value.int Go.IntKind.u64 (Go.VS.orI Go.IntKind.u64 x (Go.VS.shlI Go.IntKind.u64 (Go.VS.cvI Go.IntKind.u64 (Go.VS.remI (Go.VS.asI (Go.VS.nthD c (Go.VS.atN i 1))) (128 : Int))) (Go.VS.mulI Go.IntKind.u64 (7 : Int) (Go.VS.cvI Go.IntKind.u64 i))))), (Go.Value.int Go.IntKind.i64 (Go.VS.addI Go.IntKind.i64 i (1 : Int)))])), (Go.VS.mkSt [])))))))
    (some ((Go.Value.tuple (Array.mk [(Go.Value.int Go.IntKind.i64 (1 : Int)), (Go.Value.iface 18446744073709551617 (Go.Value.agg (Array.mk ((Go.Value.slice none n b) :: c)))), (Go.Value.int Go.IntKind.u64 (0 : Int)), (Go.Value.int Go.IntKind.i64 (0 : Int)), (Go.Value.int Go.IntKind.i64 (0 : Int)), (Go.Value.int Go.IntKind.u64 x), (Go.Value.int Go.IntKind.i64 i)])), (Go.VS.mkSt []))))
   (some ((Go.Value.tuple (Array.mk [(Go.Value.int Go.IntKind.i64 (1 : Int)), (Go.Value.iface 18446744073709551617 (Go.Value.agg (Array.mk ((Go.Value.slice none n b) :: c)))), (Go.Value.int Go.IntKind.u64 (0 : Int)), (Go.Value.int Go.IntKind.i64 (0 : Int)), (Go.Value.int Go.IntKind.i64 (0 : Int)), (Go.Value.int Go.IntKind.u64 x), (Go.Value.int Go.IntKind.i64 i)])), (Go.VS.mkSt [])))) := by kernel_rfl
end Go.VS.Try
end

section
namespace Go.VS.Try
set_option linter.unusedSimpArgs false
set_option linter.unusedVariables false
set_option maxRecDepth 1000000
open Go.VS

theorem fz1 : FZ + 1 = 18446744073709551617 := by unfold FZ; rfl
/-! ### what is reckoned -/
theorem wrapU64_any (n : Nat) : IntKind.u64.wrap (n : Int) = ((n % 18446744073709551616 : Nat) : Int) := by
  have e : IntKind.u64.wrap (n : Int) = (n : Int) % 18446744073709551616 := by
    show (if (false && decide ((n : Int) % (2 ^ 64 : Int) ≥ (2 ^ (64 - 1) : Int))) = true then (n : Int) % (2 ^ 64 : Int) - (2 ^ 64 : Int) else (n : Int) % (2 ^ 64 : Int)) = _
    simp
  rw [e]; omega
theorem and127 : ∀ n : Fin 256, andI .u8 (n.val : Int) 127 = ((n.val % 128 : Nat) : Int) := by decide +kernel
theorem shl_nat (a b : Nat) (hb : b ≤ 64) : shlI .u64 (a : Int) (b : Int) = ((a * 2 ^ b % 18446744073709551616 : Nat) : Int) := by
  unfold shlI
  have e : min (b : Int).toNat IntKind.u64.bits = b := by
    have : IntKind.u64.bits = 64 := rfl
    rw [this, Int.toNat_natCast]; omega
  rw [e, show (a : Int) * 2 ^ b = ((a * 2 ^ b : Nat) : Int) by push_cast; rfl, wrapU64_any]
theorem or_nat (a b : Nat) (ha : a < 18446744073709551616) (hb : b < 18446744073709551616) : orI .u64 (a : Int) (b : Int) = ((a ||| b : Nat) : Int) := by
  unfold orI
  have hbits : IntKind.u64.bits = 64 := rfl
  rw [hbits]
  have e1 : (BitVec.ofInt 64 (a : Int) ||| BitVec.ofInt 64 (b : Int)).toNat = a ||| b := by
    rw [BitVec.toNat_or]
    have f : ∀ n : Nat, n < 18446744073709551616 → (BitVec.ofInt 64 (n : Int)).toNat = n := by
      intro n hn
      rw [BitVec.toNat_ofInt]
      have : ((2 ^ 64 : Nat) : Int) = 18446744073709551616 := by decide
      rw [this]
      omega
    rw [f a ha, f b hb]
  rw [e1]
  have : a ||| b < 2 ^ 64 := Nat.or_lt_two_pow (by simpa using ha) (by simpa using hb)
  exact wrapU64_nat (by simpa using this)
theorem or_add {X a i : Nat} (hX : X < 2 ^ i) : X ||| a * 2 ^ i = X + a * 2 ^ i := by
  have := Nat.shiftLeft_add_eq_or_of_lt hX a
  rw [Nat.shiftLeft_eq] at this
  rw [Nat.or_comm, ← this, Nat.add_comm]
/-- A number with seven bits more. -/
def stepN (X i c : Nat) : Nat := X + c % 128 * 2 ^ (7 * i) % 18446744073709551616
theorem pow_le {i : Nat} (h : i ≤ 9) : 2 ^ (7 * i) ≤ 9223372036854775808 := by
  have := Nat.pow_le_pow_right (n := 2) (by decide) (show 7 * i ≤ 63 by omega)
  simpa using this
theorem mul_mod {a i : Nat} (h : i ≤ 9) : ∃ a', a * 2 ^ (7 * i) % 18446744073709551616 = a' * 2 ^ (7 * i) ∧ a' * 2 ^ (7 * i) < 18446744073709551616 := by
  have hp := pow_le h
  have e : (18446744073709551616 : Nat) = 2 ^ (64 - 7 * i) * 2 ^ (7 * i) := by
    rw [← Nat.pow_add, show 64 - 7 * i + 7 * i = 64 by omega]
  refine ⟨a % 2 ^ (64 - 7 * i), ?_, ?_⟩
  · rw [e, Nat.mul_mod_mul_right]
  · rw [e]
    exact Nat.mul_lt_mul_of_pos_right (Nat.mod_lt _ (Nat.pow_pos (by decide))) (Nat.pow_pos (by decide))
theorem step_lt {X i c : Nat} (hi : i ≤ 9) (hX : X < 2 ^ (7 * i)) : stepN X i c < 18446744073709551616 := by
  obtain ⟨a', h1, h2⟩ := mul_mod (a := c % 128) hi
  unfold stepN
  rw [h1]
  have hp := pow_le hi
  have e : (18446744073709551616 : Nat) = 2 ^ (64 - 7 * i) * 2 ^ (7 * i) := by
    rw [← Nat.pow_add, show 64 - 7 * i + 7 * i = 64 by omega]
  rw [e] at h2 ⊢
  have : a' < 2 ^ (64 - 7 * i) := Nat.lt_of_mul_lt_mul_right h2
  calc X + a' * 2 ^ (7 * i) < 2 ^ (7 * i) + a' * 2 ^ (7 * i) := by omega
    _ = (a' + 1) * 2 ^ (7 * i) := by rw [Nat.add_mul]; omega
    _ ≤ 2 ^ (64 - 7 * i) * 2 ^ (7 * i) := Nat.mul_le_mul_right _ this
theorem step_or {X i c : Nat} (hi : i ≤ 9) (hX : X < 2 ^ (7 * i)) : orI .u64 (X : Int) (shlI .u64 ((c % 128 : Nat) : Int) ((7 * i : Nat) : Int)) = ((stepN X i c : Nat) : Int) := by
  rw [shl_nat _ _ (by omega)]
  obtain ⟨a', h1, h2⟩ := mul_mod (a := c % 128) hi
  have hp := pow_le hi
  unfold stepN
  rw [h1, or_nat _ _ (by omega) h2, or_add hX]
theorem mul7 {i : Nat} (hi : i ≤ 10) : mulI .i64 7 (i : Int) = ((7 * i : Nat) : Int) := by
  unfold mulI
  rw [wrap64 (by omega) (by omega)]; omega
theorem mul7u {i : Nat} (hi : i ≤ 10) : mulI .u64 7 (cvI .u64 (i : Int)) = ((7 * i : Nat) : Int) := by
  unfold mulI cvI
  rw [wrapU64_nat (by omega), show (7 : Int) * (i : Int) = ((7 * i : Nat) : Int) by omega, wrapU64_nat (by omega)]
theorem and_cv (c : UInt8) : cvI .u64 (andI .u8 (c.toNat : Int) 127) = ((c.toNat % 128 : Nat) : Int) := by
  have := and127 ⟨c.toNat, c.toNat_lt⟩
  simp only at this
  rw [this]
  unfold cvI
  exact wrapU64_nat (by omega)
theorem rem_cv (c : UInt8) : cvI .u64 (remI (c.toNat : Int) 128) = ((c.toNat % 128 : Nat) : Int) := by
  unfold cvI remI
  have e : ((c.toNat : Nat) : Int).tmod 128 = ((c.toNat % 128 : Nat) : Int) := by
    rw [Int.tmod_eq_emod_of_nonneg (by omega)]; omega
  rw [e]
  exact wrapU64_nat (by omega)
theorem add1 {i : Nat} (hi : i < 9223372036854775800) : addI .i64 (i : Int) 1 = ((i + 1 : Nat) : Int) := by
  unfold addI
  rw [wrap64 (by omega) (by omega)]; omega
theorem step_next {X i c : Nat} (hi : i ≤ 8) (hX : X < 2 ^ (7 * i)) : stepN X i c < 2 ^ (7 * (i + 1)) := by
  have h1 : 2 ^ (7 * (i + 1)) = 128 * 2 ^ (7 * i) := by rw [show 7 * (i + 1) = 7 * i + 7 by omega, Nat.pow_add]; omega
  have hp := Nat.pow_le_pow_right (n := 2) (by decide) (show 7 * i ≤ 56 by omega)
  have hp : 2 ^ (7 * i) ≤ 72057594037927936 := by simpa using hp
  have h2 : c % 128 * 2 ^ (7 * i) ≤ 127 * 2 ^ (7 * i) := Nat.mul_le_mul_right _ (by omega)
  unfold stepN
  rw [Nat.mod_eq_of_lt (by omega), h1]
  omega

theorem nth0 {l : List UInt8} {i : Nat} (h : i < l.length) : nthD (bc l) (atN (i : Int) 1) = .int .u8 (l[i].toNat) := by
  have e : atN (i : Int) 1 = i := by simp [atN]
  rw [e]; exact bc_nth h
theorem asI_int (k : IntKind) (n : Int) : asI (.int k n) = n := rfl
theorem etaB_u8 (n : Int) : etaB (.int .u8) (.int .u8 n) = true := rfl

/-! ### the program's loop -/
/-- What is read of bytes, i of which were read as X: is it a number; X, and how many bytes. -/
def readM : Nat → Nat → List UInt8 → Bool × Nat × Nat
  | i, X, [] => (false, X, i)
  | i, X, c :: r => match decide (i = 9 ∧ 1 < c.toNat), decide (128 ≤ c.toNat), decide (c.toNat = 0 ∧ 0 < i) with
    | true, _, _ => (false, X, i)
    | false, true, _ => readM (i + 1) (stepN X i c.toNat) r
    | false, false, true => (false, stepN X i c.toNat, i)
    | false, false, false => (true, stepN X i c.toNat, i + 1)
section
variable {l : List UInt8} {b : Nat} {i X : Nat}
def vrS (l : List UInt8) (b : Nat) (X : Nat) (n e : Int) (i : Nat) : List Value := [.int .u64 X, .int .i64 n, .int .i64 e, mkFz 1 l.length b (bc l), .int .i64 l.length, .int .i64 i]
theorem vr_end (h : i = l.length) : roundQ P E ctV2 50 72 Bvr Hvr (vrS l b X 0 0 i) [] = some (.tuple ⟨exV (.exit 0) :: vrS l b X 0 0 i⟩, mkSt []) := by
  unfold vrS ctV2
  rw [dec_vr]
  exact ite_f (by simp [ltI, h]) (leaf_eq (by simp only [mkFz, fz1]; rfl) rfl)
theorem vr_nine (h : i < l.length) (h9 : i = 9) (hc : 1 < l[i].toNat) : roundQ P E ctV2 50 72 Bvr Hvr (vrS l b X 0 0 i) [] = some (.tuple ⟨exV (.exit 0) :: vrS l b X 0 0 i⟩, mkSt []) := by
  unfold vrS ctV2
  rw [dec_vr]
  simp only [nth0 h, asI_int, etaB_u8, bc_length]
  refine ite_t (by simp [ltI, h]) (need_eq (and_ok rfl (inI_ok (by omega) (by show (i : Int) < (l.length : Int); omega))) (need_eq (and_ok (ble_ok (by show atN (i : Int) 1 + 1 ≤ _; simp [atN]; omega)) rfl) ?_))
  exact ite_t (by simp [eqI, h9]) (ite_t (by simp [gtI]; omega) (leaf_eq (by simp only [mkFz, fz1]; rfl) rfl))
theorem vr_step (h : i < l.length) (hi : i ≤ 9) (hX : X < 2 ^ (7 * i)) (h9 : ¬ (i = 9 ∧ 1 < l[i].toNat)) {r : Res}
    (k : iteB (geI (l[i].toNat : Int) 128) (some (.tuple ⟨exV .normal :: vrS l b (stepN X i l[i].toNat) 0 0 (i + 1)⟩, mkSt []))
      (iteB (eqI (l[i].toNat : Int) 0) (iteB (gtI (i : Int) 0) (some (.tuple ⟨exV (.exit 0) :: vrS l b (stepN X i l[i].toNat) 0 0 i⟩, mkSt [])) (some (.tuple ⟨exV .ret :: vrS l b (stepN X i l[i].toNat) ((i + 1 : Nat) : Int) 0 i⟩, mkSt [])))
        (some (.tuple ⟨exV .ret :: vrS l b (stepN X i l[i].toNat) ((i + 1 : Nat) : Int) 0 i⟩, mkSt []))) = r) :
    roundQ P E ctV2 50 72 Bvr Hvr (vrS l b X 0 0 i) [] = r := by
  rw [← k]
  clear k
  unfold vrS ctV2
  rw [dec_vr]
  simp only [nth0 h, asI_int, etaB_u8, bc_length, and_cv, mul7 (show i ≤ 10 by omega), step_or hi hX, add1 (show i < 9223372036854775800 by omega)]
  refine ite_t (by simp [ltI, h]) (need_eq (and_ok rfl (inI_ok (by omega) (by show (i : Int) < (l.length : Int); omega))) (need_eq (and_ok (ble_ok (by show atN (i : Int) 1 + 1 ≤ _; simp [atN]; omega)) rfl) ?_))
  have hpos : posI ((7 * i : Nat) : Int) = true := by simp [posI]; omega
  by_cases hh : i = 9
  · refine ite_t (by simp [eqI, hh]) (ite_f ?_ (need_eq hpos (by simp only [mkFz, fz1]; rfl)))
    simp only [gtI, decide_eq_false_iff_not]
    omega
  · refine ite_f (by simp [eqI]; omega) (need_eq hpos (by simp only [mkFz, fz1]; rfl))
end
/-- How the loop ends. -/
def vrE (l : List UInt8) (b : Nat) (q : Bool × Nat × Nat) : Ex × List Value := match q.1 with
  | true => (.ret, vrS l b q.2.1 (q.2.2 : Int) 0 (q.2.2 - 1))
  | false => (.normal, vrS l b q.2.1 0 0 q.2.2)
theorem vr_loop (l : List UInt8) (b : Nat) (hl : l.length < 9223372036854775800) : ∀ (k i X : Nat), i + k = l.length → i ≤ 9 → X < 2 ^ (7 * i) →
    LR P 72 0 Bvr Hvr (vrS l b X 0 0 i) [] (vrE l b (readM i X (l.drop i))).1 (vrE l b (readM i X (l.drop i))).2 []
  | 0, i, X, hi, h9, hX => by
    have e : l.drop i = [] := List.drop_of_length_le (by omega)
    rw [e]
    exact LR.stop (engOk ctV2) noNum ctV2_ok Bvr_occ (by kernel_rfl) (e := .exit 0) (vr_end (by omega)) (by intro h; cases h)
  | k + 1, i, X, hi, h9, hX => by
    have hlt : i < l.length := by omega
    rw [List.drop_eq_getElem_cons hlt]
    by_cases h1 : i = 9 ∧ 1 < l[i].toNat
    · have e : readM i X (l[i] :: l.drop (i + 1)) = (false, X, i) := by
        have d := decide_eq_true h1
        simp only [readM, d]
      rw [e]
      exact LR.stop (engOk ctV2) noNum ctV2_ok Bvr_occ (by kernel_rfl) (e := .exit 0) (vr_nine hlt h1.1 h1.2) (by intro h; cases h)
    · have hs := fun {r : Res} => vr_step (l := l) (b := b) (i := i) (X := X) hlt h9 hX h1 (r := r)
      by_cases h2 : 128 ≤ l[i].toNat
      · have e : readM i X (l[i] :: l.drop (i + 1)) = readM (i + 1) (stepN X i l[i].toNat) (l.drop (i + 1)) := by simp only [readM, h1, h2, decide_true, decide_false]
        rw [e]
        have h8 : i ≤ 8 := by
          have : i ≠ 9 := fun h => h1 ⟨h, by omega⟩
          omega
        have ih := vr_loop l b hl k (i + 1) (stepN X i l[i].toNat) (by omega) (by omega) (step_next h8 hX)
        exact LR.again (engOk ctV2) noNum ctV2_ok Bvr_occ (by kernel_rfl) (hs (ite_t (by simp [geI]; omega) rfl)) ih
      · by_cases h3 : l[i].toNat = 0 ∧ 0 < i
        · have e : readM i X (l[i] :: l.drop (i + 1)) = (false, stepN X i l[i].toNat, i) := by simp only [readM, h1, h2, h3, decide_true, decide_false]; simp
          rw [e]
          exact LR.stop (engOk ctV2) noNum ctV2_ok Bvr_occ (by kernel_rfl) (e := .exit 0) (hs (ite_f (by simp [geI]; omega) (ite_t (by simp [eqI]; omega) (ite_t (by simp [gtI]; omega) rfl)))) (by intro h; cases h)
        · have e : readM i X (l[i] :: l.drop (i + 1)) = (true, stepN X i l[i].toNat, i + 1) := by simp only [readM, h1, h2, h3, decide_true, decide_false]
          rw [e]
          refine LR.stop (engOk ctV2) noNum ctV2_ok Bvr_occ (by kernel_rfl) (e := .ret) (hs (ite_f (by simp [geI]; omega) ?_)) (by intro h; cases h)
          by_cases h0 : l[i].toNat = 0
          · exact ite_t (by simp [eqI, h0]) (ite_f (by simp [gtI]; omega) rfl)
          · exact ite_f (by simp [eqI]; omega) rfl
theorem readM_count : ∀ (r : List UInt8) (i X : Nat), (readM i X r).1 = true → i < (readM i X r).2.2 ∧ (readM i X r).2.2 ≤ i + r.length
  | [], i, X, h => by simp [readM] at h
  | c :: r, i, X, h => by
    simp only [readM] at h ⊢
    split at h
    · cases h
    · have := readM_count r (i + 1) _ h
      simp only [List.length_cons]
      omega
    · cases h
    · simp
def vrC (x e n : Int) (t n1 : Nat) (c : List Value) (z i : Int) : Bool := x == 0 && e == 0 && n == 0 && i == 0 && Nat.beq t (FZ + 1) && Nat.beq n1 c.length && z == (c.length : Int) && bytesB c && Nat.ble (c.length + 64) 4194304
def RvrV (Q : List UInt8 → Bool) (N : List UInt8 → Nat × Nat) : LoopFn := fun vs bs => match vs, bs with
  | [.int .u64 x, .int .i64 n, .int .i64 e, .iface t (.agg ⟨.slice none n1 b :: c⟩), .int .i64 z, .int .i64 i], [] => some (.ite (vrC x e n t n1 c z i)
      (.ite (Q (c.map byteOf)) (.leaf (.ret, (vrE (c.map byteOf) b (true, N (c.map byteOf))).2, [])) (.leaf (.normal, (vrE (c.map byteOf) b (false, N (c.map byteOf))).2, []))) .fail)
  | _, _ => none
def RvrL : LoopFn := RvrV (fun l => (readM 0 0 l).1) (fun l => (readM 0 0 l).2)
theorem vr_loopOk : LoopOk P 72 0 Bvr Hvr RvrL where
  occ := loopAt_occ Bvr_eq
  ok := by kernel_rfl
  run := by
    intro vs bs t hR e vs' bs' hev
    unfold RvrL RvrV at hR
    split at hR
    · rename_i x n e0 t n1 b c z i
      obtain rfl := Option.some.inj hR
      cases hc : vrC x e0 n t n1 c z i with
      | false => rw [hc] at hev; cases hev
      | true =>
        rw [hc] at hev
        simp only [vrC, Bool.and_eq_true, beq_iff_eq] at hc
        obtain ⟨⟨⟨⟨⟨⟨⟨⟨h1, h2⟩, h3⟩, h4⟩, h5⟩, h6⟩, h7⟩, h8⟩, h9⟩ := hc
        have h9 := Nat.le_of_ble_eq_true h9
        obtain rfl := Nat.eq_of_beq_eq_true h5
        obtain rfl := Nat.eq_of_beq_eq_true h6
        subst h1 h2 h3 h4 h7
        have hcb := bc_of h8
        generalize c.map byteOf = l at hcb hev
        subst hcb
        simp only [] at hev
        have := vr_loop l b (by rw [bc_length] at h9; omega) l.length 0 0 (by omega) (by omega) (by decide)
        rw [List.drop_zero] at this
        rw [bc_length]
        generalize hq : readM 0 0 l = q at this hev
        obtain ⟨ok, q⟩ := q
        cases ok with
        | true =>
          simp only [DT.eval, Option.some.injEq, Prod.mk.injEq] at hev
          obtain ⟨rfl, rfl, rfl⟩ := hev
          exact this
        | false =>
          simp only [DT.eval, Option.some.injEq, Prod.mk.injEq] at hev
          obtain ⟨rfl, rfl, rfl⟩ := hev
          exact this
    · cases hR
end Go.VS.Try
end
