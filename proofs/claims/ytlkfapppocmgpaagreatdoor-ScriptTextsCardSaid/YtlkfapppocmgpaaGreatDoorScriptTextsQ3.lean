/- Texts of the proof, merged: VsSym, VsSym2, VsSym3, VsSymDraw, VsLaws, VsMemo, VsSwap, VsCallM, VsApp, OpB, VsDeep, VsFrzC, VsCan, VsCanL, VsEnc, VsCon, VsX, VsShelf, Sc1, Ra0, Op1, Op2, Op3, Op4, Op5, Op6, Sc2, Sc3, Sc4, Sc5. No conditions. -/
import Derived.Test.YtlkfapppocmgpaaGreatDoorScriptTextsQ2
import Derived.Laws.Strings
import Derived.Test.YtlkfapppocmgpaaGreatDoorProg
import Derived.KernelRfl
import Derived.Laws.AppendOwn
import Derived.Test.YtlkfapppocmgpaaGreatDoorShelf
set_option linter.unusedSimpArgs false
set_option linter.unusedVariables false
noncomputable section
namespace Go.VS

def asI:Value->Int
 | .int _ n=>n
 |_=>0
def asS:Value->ByteArray
 | .string s=>s
 |_=> .empty
def asB:Value->Bool
 | .bool b=>b
 |_=>false
def zN(v:Value):Nat:=match jX v with
 |some z=>z.n
 |none=>0
def zB(v:Value):Nat:=match jX v with
 |some z=>z.cap
 |none=>0
def zC(v:Value):List Value:=match jX v with
 |some z=>z.cells
 |none=>[]
def isI(k:IntKind):Value->Bool
 | .int k' _=>decide (k'=k)
 |_=>false
def isS:Value->Bool
 | .string _=>true
 |_=>false
def isB:Value->Bool
 | .bool _=>true
 |_=>false
def isZ(sz:Nat)(v:Value):Bool:=match jX v with
 |some z=>Nat.beq z.sz sz
 |none=>false
def ah(c:List Value)(n:Nat):Value:=c.getD n undef
def bAt(s:ByteArray)(i:Int):Int:=((s.data.toList.getD i.toNat 0).toNat:Int)
def byteOf:Value->UInt8
 | .int .u8 n=>UInt8.ofNat n.toNat
 |_=>0
def isByte:Value->Bool
 | .int .u8 _=>true
 |_=>false
def qc(c:List Value):ByteArray:=⟨⟨c.map byteOf⟩⟩
def allBytes(c:List Value):Bool:=c.all isByte
theorem xg:∀ {c:List Value},allBytes c=true->bytesOf c=some (c.map byteOf)
 |[],_=>rfl
 |v::c,h=>by
  simp only[allBytes,List.all_cons,Bool.and_eq_true]at h;have ih:=xg (c:=c) h.2;unfold isByte at h;split at h
  ·simp only[bytesOf,ih,List.map_cons,byteOf]
  ·cases h.1
def aB(k:IntKind)(x y:Int):Int:=k.wrap (x+y)
def uZ(k:IntKind)(x y:Int):Int:=k.wrap (x-y)
def BQ(k:IntKind)(x y:Int):Int:=k.wrap (x*y)
def xq(k:IntKind)(x y:Int):Int:=k.wrap (x.tdiv y)
def xk(x y:Int):Int:=x.tmod y
def FU(k:IntKind)(x y:Int):Int:=k.wrap (x*2^(min y.toNat k.bits))
def kW(k:IntKind)(x y:Int):Int:=x.fdiv (2^(min y.toNat k.bits))
def kQ(k:IntKind)(x y:Int):Int:=k.wrap (BitVec.ofInt k.bits x&&& BitVec.ofInt k.bits y).toNat
def orI(k:IntKind)(x y:Int):Int:=k.wrap (BitVec.ofInt k.bits x ||| BitVec.ofInt k.bits y).toNat
def ZQ(k:IntKind)(x y:Int):Int:=k.wrap (BitVec.ofInt k.bits x ^^^ BitVec.ofInt k.bits y).toNat
def afu(k:IntKind)(x y:Int):Int:=k.wrap (BitVec.ofInt k.bits x&&& ~~~BitVec.ofInt k.bits y).toNat
def eqI(x y:Int):Bool:=x == y
def neI(x y:Int):Bool:=x != y
def ltI(x y:Int):Bool:=decide (x<y)
def leI(x y:Int):Bool:=decide (x<=y)
def gtI(x y:Int):Bool:=decide (x>y)
def geI(x y:Int):Bool:=decide (x>=y)
def eqS(a b:ByteArray):Bool:=a.toList == b.toList
def neS(a b:ByteArray):Bool:=!(a.toList == b.toList)
def eqB(a b:Bool):Bool:=a == b
def cvI(k:IntKind)(x:Int):Int:=k.wrap x
def ad_(x y:Int):Int:=if y<x then y else x
def aeb(x y:Int):Int:=if y>x then y else x
def ltS(a b:ByteArray):Bool:=Op.bytesLess a.toList b.toList
def leS(a b:ByteArray):Bool:=Op.bytesLess a.toList b.toList || a.toList == b.toList
def gtS(a b:ByteArray):Bool:=!(Op.bytesLess a.toList b.toList || a.toList == b.toList)
def geS(a b:ByteArray):Bool:=!(Op.bytesLess a.toList b.toList)
def aj(a b:ByteArray):ByteArray:=a++b
def iC(b:ByteArray)(l h:Int):ByteArray:=b.extract l.toNat h.toNat
def af(n:Nat):Int:=n
def inI(i:Int)(n:Nat):Bool:=decide (0<=i/\i<n)
def eP(l h:Int)(n:Nat):Bool:=decide (0<=l/\l<=h/\h<=n)
def SE(i:Int):Bool:=decide (0<=i)
def Lm(i:Int):Bool:=!decide (i=0)
def bI(a b:ByteArray):Bool:=Nat.ble (Nat.add a.size b.size) 9223372036854775807
def atN(i:Int)(n:Nat):Nat:=i.toNat*n
def aX(l h:Int):Nat:=h.toNat-l.toNat
def afd(k:IntKind)(x:Int):Int:=ZQ k (if k.signed then -1 else k.max) x
def dN(b:Bool):Bool:=!b
def Nv(a:Addr)(n:Nat):Addr:=@Addr.rec (fun _=>Addr) (fun b off spot=>@Option.rec Nat (fun _=>Addr) ⟨b,Nat.add off n,none⟩ (fun s=>Addr.add ⟨b,off,some s⟩ n) spot) a
theorem I_(a:Addr)(n:Nat):Nv a n=a.add n:=by
 obtain⟨b,off,spot⟩:=a;cases spot with
 |none=>exact(iI b off n).symm
 |some s=>rfl
section
variable(P:Program)
def I5(x ix:Operand):OpT:=fun _ s st kv _=>match rdF s x with
 | .string b=>match rdF s ix with
  | .int _ i=>ae (inI i b.size) (kv (.int .u8 (bAt b i)) st)
  |_=>none
 |_=>none
def wX(n:Nat)(x ix:Operand):OpT:=fun call s st kv kd=>match rdF s x with
 | .slice (some a) len _=>match rdF s ix with
  | .int _ i=>ae (inI i len) (kv (.pointer (some (Nv a (atN i n)))) st)
  |_=>none
 | .iface t v=>match jX (.iface t v)with
  |some z=>match rdF s ix with
   | .int _ i=>ae (and (Nat.beq z.sz n) (inI i z.n)) (kv (jl (atN i n) z.cells) st)
   |_=>none
  |none=>none
 |_=>none
/-- How a cell is seen that nothing is known of but its type. -/
inductive Eta where
 |int (k:IntKind)
 |string
 |bool
 |slice (sz:Nat)
def uz(t:TypeId):Option Eta:=match eH P t with
 |some (.int k)=>some (.int k)
 |some .string=>some .string
 |some .bool=>some .bool
 |some (.slice e)=>match lY P e with
  |some n=>some (.slice n)
  |none=>none
 |_=>none
def FO(e:Eta)(v:Value):Value:=match e with
 | .int k=> .int k (asI v)
 | .string=> .string (asS v)
 | .bool=> .bool (asB v)
 | .slice n=>ai n (zN v) (zB v) (zC v)
def dw(e:Eta)(v:Value):Bool:=match e with
 | .int k=>isI k v
 | .string=>isS v
 | .bool=>isB v
 | .slice n=>isZ n v
def Jk(e:Eta)(x:Operand):OpT:=fun _ s st kv _=>match rdF s x with
 | .pointer (some a)=>iR st a fun b off c _ ex _ _=>@Bool.rec (fun _=>Res)
   (ae (and (Nat.ble (Nat.add off 1) c.length) (dw e (ah c off))) (kv (FO e (ah c off)) st))
   (match Bf c off with
    |some v=>kv v st
    |none=>none) ex
 | .iface t v=>match xy (.iface t v)with
  |some (off,c)=>ae (and (Nat.ble (Nat.add off 1) c.length) (dw e (ah c off))) (kv (FO e (ah c off)) st)
  |none=>none
 |_=>none
def UU(i:Int)(k:Nat->Res)(len:Nat):Nat->Res:=
 @Nat.rec (fun _=>Nat->Res) (fun _=>none) (fun _ ih j=>@Bool.rec (fun _=>Res) (ih (Nat.succ j)) (k j) (eqI i (Int.ofNat j))) len
def y_(len n:Nat)(x ix:Operand):OpT:=fun _ s st kv _=>match rdF s x with
 | .pointer (some a)=>match rdF s ix with
  | .int _ i=>UU i (fun j=>kv (.pointer (some (Nv a (Nat.mul j n)))) st) len 0
  |_=>none
 |_=>none
def ZM(t:TypeId):Option (Nat×Nat):=match eH P t with
 |some (.array len e)=>match Nat.ble len 8,lY P e with
  |true,some n=>some (len,n)
  |_,_=>none
 |_=>none
def agm(n:Nat):TypeId->Option (List Eta):=
 @Nat.rec (fun _=>TypeId->Option (List Eta)) (fun _=>none) (fun _ ih t=>match eH P t with
  |some (.struct fs)=>@List.rec Field (fun _=>Option (List Eta)) (some []) (fun f _ r=>match ih f.type,r with
   |some a,some b=>some (a.append b)
   |_,_=>none) fs.toList
  |some (.array k e)=>match ih e with
   |some a=>some (List.flatten (List.replicate k a))
   |none=>none
  |_=>match uz P t with
   |some e=>some [e]
   |none=>none) n
def jP(es:List Eta):List Value->Nat->Bool:=
 @List.rec Eta (fun _=>List Value->Nat->Bool) (fun _ _=>true) (fun e _ ih c off=>and (dw e (ah c off)) (ih c (Nat.add off 1))) es
def Gy(es:List Eta):List Value->Nat->List Value:=
 @List.rec Eta (fun _=>List Value->Nat->List Value) (fun _ _=>[]) (fun e _ ih c off=>FO e (ah c off)::ih c (Nat.add off 1)) es
def Ij(es:List Eta)(n:Nat)(x:Operand):OpT:=fun _ s st kv _=>match rdF s x with
 | .pointer (some a)=>iR st a fun b off c _ ex _ _=>@Bool.rec (fun _=>Res)
   (ae (and (Nat.ble (Nat.add off n) c.length) (jP es c off)) (kv (.agg ⟨Gy es c off⟩) st))
   (@Bool.rec (fun _=>Res) none (kv (.agg ⟨(c.drop off).take n⟩) st) (Nat.ble (Nat.add off n) c.length)) ex
 | .iface t v=>match xy (.iface t v)with
  |some (off,c)=>ae (and (Nat.ble (Nat.add off n) c.length) (jP es c off)) (kv (.agg ⟨Gy es c off⟩) st)
  |none=>none
 |_=>none
def wY(n:Nat)(x:Operand):OpT:=fun _ s st kv _=>match rdF s x with
 | .pointer (some a)=>kv (.pointer (some (@Addr.rec (fun _=>Addr) (fun b off spot=>Io b off n spot) a))) st
 | .iface t v=>match xy (.iface t v)with
  |some (a,c)=>kv (jl (Nat.add a n) c) st
  |none=>none
 |_=>none
def w_(s:Trie Value)(o:Option Operand)(d:Int)(k:Int->Res):Res:=match o with
 |none=>k d
 |some x=>match rdF s x with
  | .int _ i=>k i
  |_=>none
def ul(b l:Nat):Nat:=if b=0 then 0 else b-l
def Fq(x:Operand)(lo hi:Option Operand):OpT:=fun _ s st kv _=>match rdF s x with
 | .string b=>w_ s hi (af b.size) fun h=>w_ s lo 0 fun l=>ae (eP l h b.size) (kv (.string (iC b l h)) st)
 |_=>none
def Ik(o:Oper)(n:Nat)(x:Operand)(lo hi:Option Operand):OpT:=fun call s st kv kd=>match rdF s x with
 | .iface t v=>match jX (.iface t v)with
  |some z=>w_ s hi (af z.n) fun h=>w_ s lo 0 fun l=>ae (and (Nat.beq z.sz n) (eP l h z.n))
    (kv (ai n (aX l h) (ul z.cap l.toNat) (takeC (Nat.mul (aX l h) n) (ak (atN l n) z.cells))) st)
  |none=>none
 | .slice (some a) len cap=>@Bool.rec (fun _=>Res) (dC P o call s st kv kd)
   (iR st a fun b off c e ex _ _=>ae (and (Nat.ble off c.length) (and (Nat.ble 1 n) (Nat.beq n (esz P e))))
    (w_ s hi (af len) fun h=>w_ s lo 0 fun l=>ae (eP l h (Nat.div (Nat.sub c.length off) n))
     (@Bool.rec (fun _=>Res) (@Bool.rec (fun _=>Res) (kv (.slice (some a) 0 (Nat.add unk l.toNat)) st) (kv (.slice (some a) 0 unk) st) (Nat.beq l.toNat 0))
      (kv (.slice (some (Nv a (atN l n))) (aX l h) unk) st) (Nat.ble (Nat.add l.toNat 1) (Nat.div (Nat.sub c.length off) n)))))
   (Nat.beq cap unk)
 |_=>dC P o call s st kv kd
def yU(o:Oper)(x:Operand):OpT:=fun call s st kv kd=>match rdF s x with
 | .slice (some a) n _=>iR st a fun b off c _ _ _ _=>ae (and (Nat.ble (Nat.add off n) c.length) (allBytes (takeC n (ak off c)))) (kv (.string (qc (takeC n (ak off c)))) st)
 | .iface t v=>match jX (.iface t v)with
  |some z=>ae (and (Nat.beq z.sz 1) (allBytes z.cells)) (kv (.string (qc z.cells)) st)
  |none=>none
 |_=>dC P o call s st kv kd
def Ar(e:TypeId)(x:Operand):OpT:=fun _ s st kv _=>match rdF s x with
 | .string b=>ae (Nat.ble b.size big) (rQ st (.cells (byteCells b) e false) fun a st=>kv (.slice (some a) b.size unk) st)
 |_=>none
def Vh(o:Oper)(x y:Operand):OpT:=fun call s st kv kd=>match rdF s x,rdF s y with
 | .int k a, .int _ b=>ae (SE b) (kv (.int k (FU k a b)) st)
 |_,_=>dC P o call s st kv kd
def Ux(o:Oper)(x y:Operand):OpT:=fun call s st kv kd=>match rdF s x,rdF s y with
 | .int k a, .int _ b=>ae (SE b) (kv (.int k (kW k a b)) st)
 |_,_=>dC P o call s st kv kd
def Sr(o:Oper)(x y:Operand):OpT:=fun call s st kv kd=>match rdF s x,rdF s y with
 | .int k a, .int k' b=>ae (and (decide (k=k')) (Lm b)) (kv (.int k (xq k a b)) st)
 |_,_=>dC P o call s st kv kd
def SK(o:Oper)(x y:Operand):OpT:=fun call s st kv kd=>match rdF s x,rdF s y with
 | .int k a, .int k' b=>ae (and (decide (k=k')) (Lm b)) (kv (.int k (xk a b)) st)
 |_,_=>dC P o call s st kv kd
def TQ(o:Oper)(x y:Operand):OpT:=fun call s st kv kd=>match rdF s x,rdF s y with
 | .string a, .string b=>ae (bI a b) (kv (.string (aj a b)) st)
 | .int k a, .int k' b=>ae (decide (k=k')) (kv (.int k (aB k a b)) st)
 |_,_=>dC P o call s st kv kd
def wJ(o:Oper)(f:IntKind->Int->Int->Int)(x y:Operand):OpT:=fun call s st kv kd=>match rdF s x,rdF s y with
 | .int k a, .int k' b=>ae (decide (k=k')) (kv (.int k (f k a b)) st)
 |_,_=>dC P o call s st kv kd
def CS(o:Oper)(f:Int->Int->Bool)(g:ByteArray->ByteArray->Bool)(str:Bool)(x y:Operand):OpT:=fun call s st kv kd=>match rdF s x,rdF s y with
 | .int k a, .int k' b=>ae (decide (k=k')) (kv (.bool (f a b)) st)
 | .string a, .string b=>match str with
  |true=>kv (.bool (g a b)) st
  |false=>dC P o call s st kv kd
 |_,_=>dC P o call s st kv kd
def eqE(e:Eta)(x y:Value)(k:Bool->Res):Res:=match e with
 | .int _=>match x,y with
  | .int a m, .int b n=>ae (decide (a=b)) (k (eqI m n))
  |_,_=>none
 | .string=>match x,y with
  | .string a, .string b=>k (eqS a b)
  |_,_=>none
 | .bool=>match x,y with
  | .bool a, .bool b=>k (eqB a b)
  |_,_=>none
 | .slice _=>none
def eqC(es:List Eta):List Value->List Value->(Bool->Res)->Res:=
 @List.rec Eta (fun _=>List Value->List Value->(Bool->Res)->Res) (fun _ _ k=>k true)
  (fun e _ ih xs ys k=>match xs with
   |x::xs=>match ys with
    |y::ys=>eqE e x y fun b=>ih xs ys fun r=>k (and b r)
    |[]=>none
   |[]=>none) es
def GV(fs:List Field):Nat->Option (List Eta):=
 @List.rec Field (fun _=>Nat->Option (List Eta)) (fun _=>some []) (fun f _ ih i=>match and (Nat.beq f.offset i) (f.name != "_"),uz P f.type,ih (Nat.add i 1)with
  |true,some (.slice _),_=>none
  |true,some e,some es=>some (e::es)
  |_,_,_=>none) fs
def eqK(t:TypeId):Option (List Eta):=match eH P t with
 |some (.struct fs)=>match P.stoodInHeld t || P.eqGuardType P.depth t with
  |true=>none
  |false=>GV P fs.toList 0
 |_=>none
def uV(t:TypeId):Bool:=match eH P t with
 |some .bool=>true
 |_=>false
def Tf(o:Oper)(bk:Bool)(es:Option (List Eta))(x y:Operand):OpT:=fun call s st kv kd=>match rdF s x,rdF s y with
 | .int k a, .int k' b=>ae (decide (k=k')) (kv (.bool (eqI a b)) st)
 | .string a, .string b=>kv (.bool (eqS a b)) st
 | .bool a, .bool b=>match bk with
  |true=>kv (.bool (eqB a b)) st
  |false=>dC P o call s st kv kd
 | .agg a, .agg b=>match es with
  |some es=>ae (and (kT a) (kT b)) (eqC es a.toList b.toList fun r=>kv (.bool r) st)
  |none=>dC P o call s st kv kd
 |_,_=>dC P o call s st kv kd
def Vp(o:Oper)(bk:Bool)(es:Option (List Eta))(x y:Operand):OpT:=fun call s st kv kd=>match rdF s x,rdF s y with
 | .int k a, .int k' b=>ae (decide (k=k')) (kv (.bool (neI a b)) st)
 | .string a, .string b=>kv (.bool (neS a b)) st
 | .bool a, .bool b=>match bk with
  |true=>kv (.bool (dN (eqB a b))) st
  |false=>dC P o call s st kv kd
 | .agg a, .agg b=>match es with
  |some es=>ae (and (kT a) (kT b)) (eqC es a.toList b.toList fun r=>kv (.bool (dN r)) st)
  |none=>dC P o call s st kv kd
 |_,_=>dC P o call s st kv kd
def TT(o:Oper)(k:IntKind)(x:Operand):OpT:=fun call s st kv kd=>match rdF s x with
 | .int _ n=>kv (.int k (cvI k n)) st
 |_=>dC P o call s st kv kd
def Gu(o:Oper)(g:Int->Int->Bool)(x y:Operand):OpT:=fun call s st kv kd=>match rdF s x,rdF s y with
 | .int k a, .int _ b=>@Bool.rec (fun _=>Res) (kv (.int k a) st) (kv (.int k b) st) (g b a)
 |_,_=>dC P o call s st kv kd
def TG(o:Oper)(x:Operand):OpT:=fun call s st kv kd=>match rdF s x with
 | .bool b=>kv (.bool (dN b)) st
 |_=>dC P o call s st kv kd
def TM(o:Oper)(x:Operand):OpT:=fun call s st kv kd=>match rdF s x with
 | .int k n=>kv (.int k (afd k n)) st
 |_=>dC P o call s st kv kd
def Ou(o:Oper)(x:Operand):OpT:=fun call s st kv kd=>match rdF s x with
 | .slice _ n _=>kv (.int .i64 (af n)) st
 | .iface t v=>match jX (.iface t v)with
  |some z=>kv (.int .i64 (af z.n)) st
  |none=>none
 |_=>dC P o call s st kv kd
def O5(o:Oper)(x:Operand):OpT:=fun call s st kv kd=>match rdF s x with
 | .slice (some _) _ c=>ae (Nat.ble (Nat.add c 1) unk) (kv (.int .i64 (af c)) st)
 | .slice none _ c=>kv (.int .i64 (af c)) st
 |_=>dC P o call s st kv kd
def NI(o:Oper)(x:Operand):OpT:=fun call s st kv kd=>match rdF s x with
 | .string b=>kv (.int .i64 (af b.size)) st
 |_=>dC P o call s st kv kd
def s_tail(str:Bool)(size:Nat)(st:St)(x:Value)(k:Nat->List Value->Res):Res:=match str with
 |false=>match x with
  | .slice (some a) n _=>iR st a fun b off c _ _ _ _=>ae (Nat.ble (Nat.add off (Nat.mul n size)) c.length) (k n (takeC (Nat.mul n size) (ak off c)))
  | .slice none n _=>ae (Nat.beq n 0) (k 0 [])
  | .iface t v=>match jX (.iface t v)with
   |some z=>ae (Nat.beq z.sz size) (k z.n z.cells)
   |none=>none
  |_=>none
 |true=>match x with
  | .string b=>ae (Nat.beq size 1) (k b.size (byteCells b))
  |_=>none
def zx(slow:Res)(e:TypeId)(size n:Nat)(new:List Value)(st:St)(s:Value)(kv:Value->St->Res):Res:=match s with
 | .slice none len cap=>ae (and (Nat.beq len 0) (and (Nat.beq cap 0) (Nat.ble n big)))
   (@Bool.rec (fun _=>Res) (rQ st (.cells new e false) fun a st=>kv (.slice (some a) n unk) st) (kv (.slice none 0 0) st) (Nat.beq n 0))
 | .slice (some a) len cap=>@Bool.rec (fun _=>Res)
   (@Bool.rec (fun _=>Res) (@Bool.rec (fun _=>Res)
    (ae (Nat.ble (Nat.add len n) big) (iR st a fun b off c _ _ _ _=>ae (Nat.ble (Nat.add off (Nat.mul len size)) c.length)
     (rQ st (.cells ((takeC (Nat.mul len size) (ak off c)).append new) e false) fun a st=>kv (.slice (some a) (Nat.add len n) unk) st)))
    (@Bool.rec (fun _=>Res)
     (iR st a fun b off c e' ex heap next=>ae (and (Nat.ble (Nat.add cap 1) unk) (Nat.ble (Nat.add (Nat.add off (Nat.mul len size)) new.length) c.length))
      (kv (.slice (some a) (Nat.add len n) cap) ⟨bW (path b) heap (.cells (putAt c (Nat.add off (Nat.mul len size)) new) e' ex),next⟩))
     (ae (Nat.ble (Nat.add cap 1) unk) (kv (.slice (some a) len cap) st)) (Nat.beq n 0)) (Nat.ble (Nat.add len n) cap))
    (@Bool.rec (fun _=>Res)
     (ae (Nat.ble (Nat.add len n) big) (iR st a fun b off c _ _ _ _=>ae (Nat.ble (Nat.add off (Nat.mul len size)) c.length)
      (rQ st (.cells ((takeC (Nat.mul len size) (ak off c)).append new) e false) fun a st=>kv (.slice (some a) (Nat.add len n) unk) st)))
     (ae (Nat.ble (Nat.add cap 1) unk) (kv (.slice (some a) len cap) st)) (Nat.beq n 0)) (Nat.beq cap len))
   (iR st a fun b off c e' ex heap next=>ae (and (not ex) (and (Nat.beq e' e) (and (Nat.ble off c.length) (Nat.ble (Nat.add len n) big))))
    (@Bool.rec (fun _=>Res)
     (ae (Nat.beq (Nat.add off (Nat.mul len size)) c.length)
      (rQ ⟨bW (path b) heap .dead,next⟩ (.cells ((takeC (Nat.mul len size) (ak off c)).append new) e false) fun a st=>kv (.slice (some a) (Nat.add len n) unk) st))
     (ae (Nat.ble (Nat.add off (Nat.mul len size)) c.length) (kv (.slice (some a) len cap) st)) (Nat.beq n 0)))
   (Nat.beq cap unk)
 |_=>slow
def Nk(sT xT:TypeId):Option (TypeId×Nat×Bool):=match eH P sT,eH P xT with
 |some (.slice e),some xt=>match(match xt with | .slice _=>some false | .string=>some true | _=>none),qy P e,pI P e with
  |some str,some ei,some z=>if ei.size=0 || big<ei.bytes || z.cells.size≠ei.size then none else some (e,ei.size,str)
  |_,_,_=>none
 |_,_=>none
def ES(o:Oper)(e:TypeId)(size:Nat)(str:Bool)(x y:Operand):OpT:=fun call s st kv kd=>
 s_tail str size st (rdF s y) fun n new=>ae (new.all oneCell) (zx (dC P o call s st kv kd) e size n new st (rdF s x) kv)
def EW(t:TypeId)(x v:Operand):OpT:=fun call s st kv kd=>match rdF s x with
 | .pointer (some a)=>iR st a fun b off c e ex heap next=>@Bool.rec (fun _=>Res)
   (ae (and (nV (rdF s v)) (Nat.ble (Nat.add off 1) c.length)) (kv undef ⟨bW (path b) heap (.cells (putAt c off [rdF s v]) e false),next⟩))
   (Di P t x v call s st kv kd) ex
 |_=>none
def L9(c a b:Operand):OpT:=fun _ s st kv _=>match rdF s c with
 | .bool t=>@Bool.rec (fun _=>Res) (kv (rdF s b) st) (kv (rdF s a) st) t
 |_=>none
def cvK(sT dT:TypeId):Nat:=match eH P sT,eH P dT with
 |some (.slice e),some .string=>match eH P e with
  |some (.int .u8)=>1
  |_=>0
 |some .string,some (.slice e)=>match eH P e,lY P e with
  |some (.int .u8),some 1=>2
  |_,_=>0
 |_,_=>0
def cvT(sT dT:TypeId):Option IntKind:=match eH P sT,eH P dT with
 |some (.int _),some (.int k)=>some k
 |_,_=>none
def SB(t:TypeId):TypeId:=match eH P t with
 |some (.slice e)=>e
 |_=>0
def Ze(t:TypeId):Bool:=match lY P t with
 |some n=>Nat.beq n 1
 |none=>false
def isStr(t:TypeId):Bool:=match eH P t with
 |some .string=>true
 |_=>false
def TA(t:TypeId):Option Value:=match eH P t with
 |some (.map kt e)=>match eH P kt with
  |some (.int _)=>pI P e
  |_=>none
 |_=>none
def UO(ik:IntKind)(i:Int)(f:Value->Res)(z:Res)(es:List MapEntry):Res:=
 @List.rec MapEntry (fun _=>Res) z (fun e _ ih=>match e.key with
  | .int k n=>ae (decide (ik=k)) (@Bool.rec (fun _=>Res) ih (f e.val) (eqI i n))
  |_=>none) es
def abP(ok:Bool)(v:Value)(b:Bool):Value:=match ok with
 |true=> .tuple ⟨[v, .bool b]⟩
 |false=>v
def IM(o:Oper)(z:Value)(x k:Operand)(ok:Bool):OpT:=fun call s st kv kd=>match rdF s x,rdF s k with
 | .map (some r), .int ik i=>match dF (path r) st.heap with
  |some (.map es _)=>UO ik i (fun v=>kv (abP ok v true) st) (kv (abP ok z false) st) es
  |_=>(lJ P o).run call s st kv kd
 |_,_=>(lJ P o).run call s st kv kd
def Lh(o:Oper):OpFn:=match o.op with
 | .pick c a b=>⟨L9 c a b⟩
 | .lookup t x k ok=>match TA P t with
  |some z=>⟨IM P o z x k ok⟩
  |none=>lJ P o
 | .load t x=>match tY P t with
  |some none=>match uz P t with
   |some e=>⟨Jk e x⟩
   |none=>lJ P o
  |some (some n)=>match agm P 6 t with
   |some es=>match Nat.beq es.length n with
    |true=>⟨Ij es n x⟩
    |false=>lJ P o
   |none=>lJ P o
  |none=>lJ P o
 | .fieldAddr t x i=>match Hf P t i with
  |some n=>⟨wY n x⟩
  |none=>lJ P o
 | .store t x v=>match Ze P t with
  |true=>⟨EW P t x v⟩
  |false=>lJ P o
 | .index t x ix=>match isStr P t with
  |true=>⟨I5 x ix⟩
  |false=>lJ P o
 | .indexAddr t x ix=>match mQ P t with
  |some n=>⟨wX n x ix⟩
  |none=>match ZM P t with
   |some q=>⟨y_ q.1 q.2 x ix⟩
   |none=>lJ P o
 | .slice t x lo hi none=>match isStr P t with
  |true=>⟨Fq x lo hi⟩
  |false=>match mQ P t with
   |some n=>⟨Ik P o n x lo hi⟩
   |none=>lJ P o
 | .convert sT dT x=>match cvK P sT dT with
  |1=>⟨yU P o x⟩
  |2=>⟨Ar (SB P dT) x⟩
  |_=>match cvT P sT dT with
   |some k=>⟨TT P o k x⟩
   |none=>⟨dC P o⟩
 | .binOp op t x y _=>match op with
  | .shl=>⟨Vh P o x y⟩
  | .shr=>⟨Ux P o x y⟩
  | .quo=>⟨Sr P o x y⟩
  | .rem=>⟨SK P o x y⟩
  | .add=>⟨TQ P o x y⟩
  | .sub=>⟨wJ P o uZ x y⟩
  | .mul=>⟨wJ P o BQ x y⟩
  | .and=>⟨wJ P o kQ x y⟩
  | .or=>⟨wJ P o orI x y⟩
  | .xor=>⟨wJ P o ZQ x y⟩
  | .andNot=>⟨wJ P o afu x y⟩
  | .eql=>⟨Tf P o (uV P t) (eqK P t) x y⟩
  | .neq=>⟨Vp P o (uV P t) (eqK P t) x y⟩
  | .lss=>⟨CS P o ltI ltS true x y⟩
  | .leq=>⟨CS P o leI leS true x y⟩
  | .gtr=>⟨CS P o gtI gtS true x y⟩
  | .geq=>⟨CS P o geI geS true x y⟩
 | .unOp .not _ x=>⟨TG P o x⟩
 | .unOp .xor _ x=>⟨TM P o x⟩
 | .call c=>match c.callee,c.args.toList,c.argTypes.toList with
  | .builtin .append,[x,y],[tx,ty]=>match Nk P tx ty with
   |some r=>⟨ES P o r.1 r.2.1 r.2.2 x y⟩
   |none=>lJ P o
  | .builtin .len,[x],_=>match vM P c.argTypes with
   |1=>⟨Ou P o x⟩
   |2=>⟨NI P o x⟩
   |_=>⟨dC P o⟩
  | .builtin .cap,[x],_=>match vM P c.argTypes with
   |1=>⟨O5 P o x⟩
   |_=>⟨dC P o⟩
  | .builtin .min,[x,y],_=>⟨Gu P o ltI x y⟩
  | .builtin .max,[x,y],_=>⟨Gu P o gtI x y⟩
  |_,_,_=>lJ P o
 |_=>lJ P o
end
section
variable{P:Program}
variable{call:Knot}{s:Trie Value}{st:St}{kv:Value->St->Res}{kd:Deferred->St->Res}{r:Value×St}
theorem byte_at(b:ByteArray)(n:Nat)(h:n<b.size):b[n]? = some (b.data.toList.getD n 0):=by
 have h1:b[n]? = some b[n]:=by simp[h]
 rw[h1];congr 1;have h2:n<b.data.toList.length:=by simpa using h
 rw[List.getD_eq_getElem?_getD,List.getElem?_eq_getElem h2]
 rfl
theorem Nq{dst type pos after guard}{t:TypeId}{x ix:Operand}(hu:P.underlying t=some .string)(h:I5 x ix call s st kv kd=some r) :
  Hands call kv kd (ay P (rdF s) ⟨dst, .index t x ix,type,pos,after,guard⟩ st) r:=by
 unfold I5 at h;split at h
 ·rename_i b hx;split at h
  ·rename_i k i hi;obtain⟨hc,h⟩:=aZ h;simp only[inI,eP,decide_eq_true_eq]at hc;have hlt:i.toNat<b.size:=by omega
   simp only[ay,hu,hx,hi,hc.1,if_true,byte_at b _ hlt];exact h
  ·cases h
 ·cases h
theorem Fp{dst type pos after guard}{t:TypeId}{x ix:Operand}{n:Nat}(hn:mQ P t=some n)(h:wX n x ix call s st kv kd=some r) :
  Hands call kv kd (ay P (rdF s) ⟨dst, .indexAddr t x ix,type,pos,after,guard⟩ st) r:=by
 unfold mQ at hn;rw[dB]at hn;split at hn
 ·rename_i e hu;rw[oN]at hn;unfold wX at h;split at h
  ·rename_i a len cap hx;split at h
   ·rename_i k i hi;obtain⟨hc,h⟩:=aZ h;simp only[inI,eP,decide_eq_true_eq]at hc;simp only[ay,hu,hx,hi,hn,hc,and_self,if_true];rw[I_]at h;exact h
   ·cases h
  ·rename_i tt v hx;split at h
   ·rename_i z hz;split at h
    ·rename_i k i hi;obtain⟨hc,h⟩:=aZ h;simp only[inI,eP,Bool.and_eq_true,decide_eq_true_eq]at hc;have h1:=Nat.eq_of_beq_eq_true hc.1;simp only[ay,hu,hx,hi,hn,hz,h1,hc.2,and_self,if_true];exact h
    ·cases h
   ·cases h
  ·cases h
 ·cases hn
theorem aee{e:Eta}{v:Value}(h:dw e v=true):∀ (hz:∀ n,e = .slice n->∃ z,jX v=some z),FO e v=v\/∃ n,e = .slice n:=by
 intro _;cases e with
 |int k=>
  simp only[dw,isI]at h;split at h
  ·simp only[decide_eq_true_eq]at h; subst h; exact Or.inl rfl
  ·cases h
 |string=>
  simp only[dw,isS]at h;split at h
  ·exact Or.inl rfl
  ·cases h
 |bool=>
  simp only[dw,isB]at h;split at h
  ·exact Or.inl rfl
  ·cases h
 |slice n=>exact Or.inr ⟨n,rfl⟩
theorem YW{v:Value}{z:FzV}(h:jX v=some z):v=ai z.sz z.n z.cap z.cells:=by
 unfold jX at h;split at h
 ·rename_i t n b c;split at h
  ·rename_i ht;have ht:FZ+1<=t:=Nat.le_of_ble_eq_true ht;obtain rfl:=Option.some.inj h;unfold ai;have:FZ+(t-FZ)=t:=Nat.add_sub_cancel' (Nat.le_of_succ_le ht);rw[this]
  ·cases h
 ·cases h
theorem Fa{e:Eta}{v:Value}(h:dw e v=true):FO e v=v:=by
 cases e with
 |slice n=>
  simp only[dw,isZ]at h;split at h
  ·rename_i z hz;have:=Nat.eq_of_beq_eq_true h;simp only[FO,zN,zB,zC,hz];rw[<-this];exact(YW hz).symm
  ·cases h
 |_=>
  rcases aee h (fun n e=>by cases e)with h | ⟨n,e⟩
  ·exact h
  ·cases e
theorem Fv{c:List Value}{n:Nat}(h:n+1<=c.length):c[n]? = some (ah c n):=by
 unfold ah;rw[List.getD_eq_getElem?_getD,List.getElem?_eq_getElem h]
 rfl
theorem aar{c:List Value}{n:Nat}{v:Value}(h:c[n]? = some v):(c.drop n).take 1=[v]:=by
 have:=(List.getElem?_eq_some_iff.1 h)
 obtain⟨hl,e⟩:=this;rw[List.drop_eq_getElem_cons hl,e]
 rfl
theorem Nl{dst type pos after guard}{t:TypeId}{x:Operand}{e:Eta}(hk:tY P t=some none)(h:Jk e x call s st kv kd=some r) :
  Hands call kv kd (ay P (rdF s) ⟨dst, .load t x,type,pos,after,guard⟩ st) r:=by
 unfold tY at hk;rw[dB,kM,wE]at hk;split at hk
 ·rename_i d i hu hi;have hag:jI P t=false:=by
   cases hb:jI P t with
   |false=>rfl
   |true=>rw[hb]at hk; cases hk
  unfold Jk at h;split at h
  ·rename_i a hx;obtain⟨c,e',ex,h1,h2,h3⟩:=iT h;have go:∀ v,c[a.off]? = some v->kv v st=some r->Hands call kv kd (ay P (rdF s) ⟨dst, .load t x,type,pos,after,guard⟩ st) r:=by
    intro v hv hk;have hl:a.off+1<=c.length:=(List.getElem?_eq_some_iff.1 hv).1;have:qw P st t a=some v:=by
     simp only[qw,hu,hi,hag,Bool.false_eq_true,if_false,cellsAt,h1,h2,Option.isSome_none,hl,if_true,aar hv]
    simp only[ay,hx,this];exact hk
   cases ex with
   |false=>
    obtain⟨hc,h3⟩:=aZ h3;simp only[Bool.and_eq_true]at hc;rw[Fa hc.2]at h3;exact go _ (Fv (Nat.le_of_ble_eq_true hc.1)) h3
   |true=>
    simp only at h3;rw[uT]at h3;split at h3
    ·rename_i v hv;exact go v hv h3
    ·cases h3
  ·rename_i tt v hx;split at h
   ·rename_i off c hfp;obtain⟨hc,h⟩:=aZ h;simp only[Bool.and_eq_true]at hc;rw[Fa hc.2]at h;simp only[ay,hx,hfp,Dz,hu,hi,hag,Bool.false_eq_true,if_false,Fv (Nat.le_of_ble_eq_true hc.1)];exact h
   ·cases h
  ·cases h
 ·cases hk
theorem Hl{i:Int}{k:Nat->Res}:∀ {len j:Nat},UU i k len j=some r->∃ m,j<=m/\m<j+len/\i=(m:Int)/\k m=some r
 |0,j,h=>by cases h
 |len+1,j,h=>by
  have h:@Bool.rec (fun _=>Res) (UU i k len (Nat.succ j)) (k j) (eqI i (Int.ofNat j))=some r:=h;cases hb:eqI i (Int.ofNat j)with
  |true=>
   rw[hb]at h;have:i=(j:Int):=by simpa [eqI]using hb
   exact⟨j,Nat.le_refl _,by omega,this,h⟩
  |false=>
   rw[hb]at h;obtain⟨m,h1,h2,h3,h4⟩:=Hl h;exact⟨m,by omega,by omega,h3,h4⟩
theorem G_{dst type pos after guard}{t:TypeId}{x ix:Operand}{q:Nat×Nat}(hk:ZM P t=some q)(h:y_ q.1 q.2 x ix call s st kv kd=some r) :
  Hands call kv kd (ay P (rdF s) ⟨dst, .indexAddr t x ix,type,pos,after,guard⟩ st) r:=by
 unfold ZM at hk;rw[dB]at hk;split at hk
 ·rename_i len e hu;split at hk
  ·rename_i n hb hn;obtain rfl:=Option.some.inj hk;rw[oN]at hn;unfold y_ at h;split at h
   ·rename_i a hx;split at h
    ·rename_i kk i hi;obtain⟨m,h1,h2,rfl,h4⟩:=Hl h;rw[I_]at h4;have hc:0<=(m:Int)/\(m:Int)<(len:Int):=by simp only[Nat.zero_add]at h2; omega
     simp only[ay,hu,hx,hi,hn,hc,and_self,if_true,Int.toNat_natCast];exact h4
    ·cases h
   ·cases h
  ·cases hk
 ·cases hk
theorem AU:∀ {es:List Eta} {c:List Value} {off:Nat},jP es c off=true->off+es.length<=c.length->Gy es c off=(c.drop off).take es.length
 |[],c,off,_,_=>by simp[Gy]
 |e::es,c,off,h,hl=>by
  have h:(dw e (ah c off)&&jP es c (off+1))=true:=h;simp only[Bool.and_eq_true]at h;rw[List.length_cons]at hl ⊢;show FO e (ah c off)::Gy es c (off+1)=_;rw[Fa h.1,AU h.2 (by omega)];have hn:=Fv (c:=c) (n:=off) (by omega);obtain⟨hlt,hv⟩:=List.getElem?_eq_some_iff.1 hn;rw[List.drop_eq_getElem_cons hlt,hv,List.take_succ_cons]
theorem LJ{dst type pos after guard}{t:TypeId}{x:Operand}{es:List Eta}{n:Nat}(hk:tY P t=some (some n))(hes:Nat.beq es.length n=true)(h:Ij es n x call s st kv kd=some r) :
  Hands call kv kd (ay P (rdF s) ⟨dst, .load t x,type,pos,after,guard⟩ st) r:=by
 have hes:=Nat.eq_of_beq_eq_true hes;unfold tY at hk;rw[dB,kM,wE]at hk;split at hk
 ·rename_i d i hu hi;have hag:jI P t=true/\i.size=n:=by
   cases hb:jI P t with
   |false=>rw[hb]at hk; cases hk
   |true=>rw[hb]at hk; exact⟨rfl,by simpa using hk⟩
  obtain⟨hag,hn⟩:=hag;unfold Ij at h;split at h
  ·rename_i a hx;obtain⟨c,e',ex,h1,h2,h3⟩:=iT h;have go:a.off+n<=c.length->kv (.agg ⟨(c.drop a.off).take n⟩) st=some r->Hands call kv kd (ay P (rdF s) ⟨dst, .load t x,type,pos,after,guard⟩ st) r:=by
    intro hl hk;have:qw P st t a=some (.agg ⟨(c.drop a.off).take n⟩):=by
     simp only[qw,hu,hi,hag,if_true,cellsAt,h1,h2,Option.isSome_none,Bool.false_eq_true,if_false,hn,hl,Option.map_some]
    simp only[ay,hx,this];exact hk
   cases ex with
   |false=>
    obtain⟨hc,h3⟩:=aZ h3;simp only[Bool.and_eq_true]at hc;have hl:a.off+n<=c.length:=Nat.le_of_ble_eq_true hc.1;rw[AU hc.2 (by omega),hes]at h3;exact go hl h3
   |true=>
    simp only at h3;cases hb:Nat.ble (Nat.add a.off n) c.length with
    |false=>rw[hb]at h3; cases h3
    |true=>rw[hb]at h3; exact go (Nat.le_of_ble_eq_true hb) h3
  ·rename_i tt v hx;split at h
   ·rename_i off c hfp;obtain⟨hc,h⟩:=aZ h;simp only[Bool.and_eq_true]at hc;have hl:off+n<=c.length:=Nat.le_of_ble_eq_true hc.1;rw[AU hc.2 (by omega),hes]at h;simp only[ay,hx,hfp,Dz,hu,hi,hag,if_true,hn,hl];exact h
   ·cases h
  ·cases h
 ·cases hk
theorem EE{dst type pos after guard}{t:TypeId}{x:Operand}{i n:Nat}(hn:Hf P t i=some n)(h:wY n x call s st kv kd=some r) :
  Hands call kv kd (ay P (rdF s) ⟨dst, .fieldAddr t x i,type,pos,after,guard⟩ st) r:=by
 unfold Hf at hn;rw[wO]at hn;split at hn
 ·rename_i f m hf;split at hn
  ·cases hn
  ·rename_i hm;obtain rfl:=Option.some.inj hn;unfold wY at h;split at h
   ·rename_i a hx;simp only[ay,hx,hf];rw[if_neg hm,<-MV];exact h
   ·rename_i tt v hx;split at h
    ·rename_i a c hfp;simp only[ay,hx,hf,hfp];rw[if_neg hm];exact h
    ·cases h
   ·cases h
 ·cases hn
theorem JU{o:Option Operand}{d:Int}{k:Int->Res}(h:w_ s o d k=some r):(o=none/\k d=some r)\/∃ x kk i,o=some x/\rdF s x = .int kk i/\k i=some r:=by
 unfold w_ at h;split at h
 ·exact Or.inl ⟨rfl,h⟩
 ·split at h
  ·exact Or.inr ⟨_,_,_,rfl,‹_›,h⟩
  ·cases h
theorem r_{o:Option Operand}{y d:Nat}{i:Int}(h:(o=none/\i=d)\/∃ x kk,o=some x/\rdF s x = .int kk i)(h1:0<=i)(h2:i<=y):aV (o.map (rdF s)) y d=some i.toNat:=by
 rcases h with⟨rfl,rfl⟩ | ⟨x,kk,rfl,hx⟩
 ·simp[aV]
 ·simp only[Option.map_some,aV,hx,kK,h1,h2,and_self,if_true]
theorem Fz{lo hi:Option Operand}{dh:Nat}{k:Int->Int->Res}(h:(w_ s hi dh fun h=>w_ s lo 0 fun l=>k h l)=some r) :
  ∃ h l:Int,((hi=none/\h=dh)\/∃ x kk,hi=some x/\rdF s x = .int kk h)/\((lo=none/\l=(0:Nat))\/∃ x kk,lo=some x/\rdF s x = .int kk l)/\k h l=some r:=by
 rcases JU h with⟨e,h⟩ | ⟨x,kk,i,e,hx,h⟩<;>rcases JU h with⟨e',h⟩ | ⟨x',kk',i',e',hx',h⟩
 ·exact⟨_,_,Or.inl ⟨e,rfl⟩,Or.inl ⟨e',rfl⟩,h⟩
 ·exact⟨_,_,Or.inl ⟨e,rfl⟩,Or.inr ⟨x',kk',e',hx'⟩,h⟩
 ·exact⟨_,_,Or.inr ⟨x,kk,e,hx⟩,Or.inl ⟨e',rfl⟩,h⟩
 ·exact⟨_,_,Or.inr ⟨x,kk,e,hx⟩,Or.inr ⟨x',kk',e',hx'⟩,h⟩
theorem zY{dst type pos after guard}{t:TypeId}{x:Operand}{lo hi:Option Operand}(hu:P.underlying t=some .string)
  (h:Fq x lo hi call s st kv kd=some r):Hands call kv kd (ay P (rdF s) ⟨dst, .slice t x lo hi none,type,pos,after,guard⟩ st) r:=by
 unfold Fq at h;split at h
 ·rename_i b hx;obtain⟨h0,l0,hh,hl,h⟩:=Fz h;obtain⟨hc,h⟩:=aZ h;simp only[inI,eP,decide_eq_true_eq]at hc;have e1:=r_ hh (y:=b.size) (by omega) (by omega);have e2:=r_ hl (y:=h0.toNat) (by omega) (by omega);simp only[ay,hu,hx,Option.map_none,Option.isSome_none,Bool.false_eq_true,if_false,e1,e2];exact h
 ·cases h
theorem Ot{dst type pos after guard}{t:TypeId}{x:Operand}{lo hi:Option Operand}{n:Nat}(hn:mQ P t=some n)
  (h:Ik P ⟨dst, .slice t x lo hi none,type,pos,after,guard⟩ n x lo hi call s st kv kd=some r):Hands call kv kd (ay P (rdF s) ⟨dst, .slice t x lo hi none,type,pos,after,guard⟩ st) r:=by
 unfold mQ at hn;rw[dB]at hn;split at hn
 ·rename_i e hu;rw[oN]at hn;unfold Ik at h;split at h
  ·rename_i tt v hx;split at h
   ·rename_i z hz;obtain⟨h0,l0,hh,hl,h⟩:=Fz h;obtain⟨hc,h⟩:=aZ h;simp only[inI,eP,Bool.and_eq_true,decide_eq_true_eq]at hc;have h1:=Nat.eq_of_beq_eq_true hc.1;have e1:=r_ hh (y:=z.n) (by omega) (by omega);have e2:=r_ hl (y:=h0.toNat) (by omega) (by omega);simp only[ay,hu,hx,hz,hn,h1,if_true,BO,Option.map_none,e1,e2];unfold ul at h;exact h
   ·cases h
  ·rename_i a len cap hx;cases hb:Nat.beq cap unk with
   |false=>rw[hb]at h; exact aY h
   |true=>
    rw[hb]at h;have hcap:=Nat.eq_of_beq_eq_true hb;obtain⟨c,e',ex,h1,h2,h3⟩:=iT h;obtain⟨hc,h3⟩:=aZ h3;simp only[Bool.and_eq_true]at hc;obtain⟨hc1,hc2,hc3⟩:=hc;have hc1:=Nat.le_of_ble_eq_true hc1;have hc2:=Nat.le_of_ble_eq_true hc2;have hc3:=Nat.eq_of_beq_eq_true hc3;obtain⟨h0,l0,hh,hl,h3⟩:=Fz h3;obtain⟨hd,h3⟩:=aZ h3;simp only[eP,decide_eq_true_eq]at hd;have hd:0<=l0/\l0<=h0/\h0<=(((c.length-a.off) / n:Nat):Int):=hd;change @Bool.rec (fun _=>Res) (@Bool.rec (fun _=>Res) (kv (.slice (some a) 0 (unk+l0.toNat)) st) (kv (.slice (some a) 0 unk) st) (Nat.beq l0.toNat 0)) (kv (.slice (some (Nv a (l0.toNat*n))) (h0.toNat-l0.toNat) unk) st) (Nat.ble (l0.toNat+1) ((c.length-a.off) / n))=some r at h3;have hroom:room P st a n=some ((c.length-a.off) / n):=by
     unfold room;rw[h2];simp only;rw[if_neg (by simp; omega),if_pos hc1]
    have e1:=r_ hh (y:=(c.length-a.off) / n) (by omega) (by omega);have e2:=r_ hl (y:=h0.toNat) (by omega) (by omega);have hs:vk P st n a len cap (lo.map (rdF s)) (hi.map (rdF s)) none=some (if l0.toNat<(c.length-a.off) / n then .slice (some (a.add (l0.toNat*n))) (h0.toNat-l0.toNat) unk else if l0.toNat=0 then .slice (some a) 0 unk else .slice (some a) 0 (unk+l0.toNat)):=by
     unfold vk;rw[if_neg (by omega),if_pos hcap,hroom];simp only[e1,e2];split
     ·rfl
     ·rename_i hlt;rw[if_neg (by simp; omega)];split<;>rfl
    simp only[ay,hu,hx,hn,Option.map_none,hs];cases hb1:Nat.ble (l0.toNat+1) ((c.length-a.off) / n)with
    |true=>
     rw[hb1]at h3;rw[if_pos (show l0.toNat<(c.length-a.off) / n from Nat.le_of_ble_eq_true hb1)];rw[I_]at h3;exact h3
    |false=>
     rw[hb1]at h3;have hnl:¬l0.toNat<(c.length-a.off) / n:=fun k=>by rw[Nat.ble_eq_true_of_le k]at hb1; cases hb1
     rw[if_neg hnl];cases hb2:Nat.beq l0.toNat 0 with
     |true=>rw[hb2]at h3; rw[if_pos (Nat.eq_of_beq_eq_true hb2)]; exact h3
     |false=>rw[hb2]at h3; rw[if_neg (Nat.ne_of_beq_eq_false hb2)]; exact h3
  ·exact aY h
 ·cases hn
theorem Gl{dst type pos after guard}{sT dT:TypeId}{x:Operand}(hk:cvK P sT dT=1)(h:yU P ⟨dst, .convert sT dT x,type,pos,after,guard⟩ x call s st kv kd=some r) :
  Hands call kv kd (ay P (rdF s) ⟨dst, .convert sT dT x,type,pos,after,guard⟩ st) r:=by
 unfold cvK at hk;rw[dB,dB]at hk;split at hk
 ·rename_i e hs hd;rw[dB]at hk;split at hk
  ·rename_i he;unfold yU at h;split at h
   ·rename_i a n cap hx;obtain⟨c,e',ex,h1,h2,h3⟩:=iT h;obtain⟨hc,h3⟩:=aZ h3;simp only[Bool.and_eq_true]at hc;have hle:a.off+n<=c.length:=Nat.le_of_ble_eq_true hc.1;simp only[ay,hs,hd,hx,he,cellsAt,h1,h2,Option.isSome_none,Bool.false_eq_true,if_false,hle,if_true];have hb:bytesOf ((c.drop a.off).take n)=some (((c.drop a.off).take n).map byteOf):=xg hc.2;rw[hb];exact h3
   ·rename_i tt v hx;split at h
    ·rename_i z hz;obtain⟨hc,h⟩:=aZ h;simp only[Bool.and_eq_true]at hc;have h1:=Nat.eq_of_beq_eq_true hc.1;simp only[ay,hs,hd,hx,he,hz,h1,if_true,xg hc.2];exact h
    ·cases h
   ·exact aY h
  ·cases hk
 ·split at hk<;>cases hk
 ·cases hk
theorem IB{dst type pos after guard}{sT dT:TypeId}{x:Operand}(hk:cvK P sT dT=2)(h:Ar (SB P dT) x call s st kv kd=some r) :
  Hands call kv kd (ay P (rdF s) ⟨dst, .convert sT dT x,type,pos,after,guard⟩ st) r:=by
 unfold cvK at hk;unfold SB at h;rw[dB,dB]at hk;split at hk
 ·split at hk<;>cases hk
 ·rename_i e hs hd;rw[dB,oN]at hk;split at hk
  ·rename_i he hn;rw[dB,hd]at h;simp only at h;unfold Ar at h;split at h
   ·rename_i b hx;obtain⟨hc,h⟩:=aZ h;have hc:=Nat.le_of_ble_eq_true hc;have h:=oQ h;have h1:esz P e=1:=by
     unfold iH at hn;unfold esz;rw[hn]; rfl
    simp only[ay,hs,hd,hx,he,h1,newRow];rw[if_neg (by simp; omega)];exact h
   ·cases h
  ·cases hk
 ·cases hk
theorem jT{dst type pos after guard}{op:BinOp}{t yt:TypeId}{x y:Operand}{vx vy v:Value}(hx:rdF s x=vx)(hy:rdF s y=vy)(f1:flat vx=true)(f2:flat vy=true)(f3:flat v=true)
  (hp:bC P (do eqGuard op t x y vx vy; binOp op t vx vy)=some v) (h:kv v st=some r):Hands call kv kd (ay P (rdF s) ⟨dst, .binOp op t x y yt,type,pos,after,guard⟩ st) r:=by
 simp only[ay,hx,hy,f1,f2,Bool.and_self,if_true,hp,f3];exact h
theorem U6{dst type pos after guard}{t yt:TypeId}{x y:Operand}(h:Vh P ⟨dst, .binOp .shl t x y yt,type,pos,after,guard⟩ x y call s st kv kd=some r) :
  Hands call kv kd (ay P (rdF s) ⟨dst, .binOp .shl t x y yt,type,pos,after,guard⟩ st) r:=by
 unfold Vh at h;split at h
 ·rename_i k a k' b hx hy;obtain⟨hc,h⟩:=aZ h;simp only[SE,decide_eq_true_eq]at hc;have hb:¬b<0:=by omega
  refine jT hx hy rfl rfl rfl ?_ h;simp only[binOp,Op.shift,if_neg hb]
  rfl
 ·exact aY h
theorem Vg{dst type pos after guard}{t yt:TypeId}{x y:Operand}(h:Ux P ⟨dst, .binOp .shr t x y yt,type,pos,after,guard⟩ x y call s st kv kd=some r) :
  Hands call kv kd (ay P (rdF s) ⟨dst, .binOp .shr t x y yt,type,pos,after,guard⟩ st) r:=by
 unfold Ux at h;split at h
 ·rename_i k a k' b hx hy;obtain⟨hc,h⟩:=aZ h;simp only[SE,decide_eq_true_eq]at hc;have hb:¬b<0:=by omega
  refine jT hx hy rfl rfl rfl ?_ h;simp only[binOp,Op.shift,if_neg hb]
  rfl
 ·exact aY h
theorem Tj{dst type pos after guard}{t yt:TypeId}{x y:Operand}(h:Sr P ⟨dst, .binOp .quo t x y yt,type,pos,after,guard⟩ x y call s st kv kd=some r) :
  Hands call kv kd (ay P (rdF s) ⟨dst, .binOp .quo t x y yt,type,pos,after,guard⟩ st) r:=by
 unfold Sr at h;split at h
 ·rename_i k a k' b hx hy;obtain⟨hc,h'⟩:=aZ h;simp only[Lm,Bool.and_eq_true,decide_eq_true_eq,Bool.not_eq_true',decide_eq_false_iff_not]at hc;obtain⟨rfl,hb⟩:=hc;refine jT hx hy rfl rfl rfl ?_ h';simp only[binOp,Op.intDiv,if_neg hb,ne_eq,not_true_eq_false,if_false]
  rfl
 ·exact aY h
theorem TN{dst type pos after guard}{t yt:TypeId}{x y:Operand}(h:SK P ⟨dst, .binOp .rem t x y yt,type,pos,after,guard⟩ x y call s st kv kd=some r) :
  Hands call kv kd (ay P (rdF s) ⟨dst, .binOp .rem t x y yt,type,pos,after,guard⟩ st) r:=by
 unfold SK at h;split at h
 ·rename_i k a k' b hx hy;obtain⟨hc,h'⟩:=aZ h;simp only[Lm,Bool.and_eq_true,decide_eq_true_eq,Bool.not_eq_true',decide_eq_false_iff_not]at hc;obtain⟨rfl,hb⟩:=hc;refine jT hx hy rfl rfl rfl ?_ h';simp only[binOp,Op.intDiv,if_neg hb,ne_eq,not_true_eq_false,if_false]
  rfl
 ·exact aY h
theorem Uu{dst type pos after guard}{t yt:TypeId}{x y:Operand}(h:TQ P ⟨dst, .binOp .add t x y yt,type,pos,after,guard⟩ x y call s st kv kd=some r) :
  Hands call kv kd (ay P (rdF s) ⟨dst, .binOp .add t x y yt,type,pos,after,guard⟩ st) r:=by
 unfold TQ at h;split at h
 ·rename_i a b hx hy;obtain⟨hc,h⟩:=aZ h;have hc:a.size+b.size<=9223372036854775807:=Nat.le_of_ble_eq_true hc;refine jT hx hy rfl rfl rfl ?_ h;simp only[binOp,Op.stringOp];rw[if_neg (by
   have:IntKind.i64.max=9223372036854775807:=by decide
   rw[this]; omega)]
  rfl
 ·rename_i k a k' b hx hy;obtain⟨hc,h'⟩:=aZ h;simp only[decide_eq_true_eq]at hc;subst hc;refine jT hx hy rfl rfl rfl ?_ h';simp only[binOp,Op.intArith,ne_eq,not_true_eq_false,if_false]
  rfl
 ·exact aY h
theorem pJ{dst type pos after guard}{op:BinOp}{t yt:TypeId}{x y:Operand}{f:IntKind->Int->Int->Int}(hf:∀ k a b,bC P (do eqGuard op t x y (.int k a) (.int k b); binOp op t (.int k a) (.int k b))=some (.int k (f k a b)))
  (h:wJ P ⟨dst, .binOp op t x y yt,type,pos,after,guard⟩ f x y call s st kv kd=some r):Hands call kv kd (ay P (rdF s) ⟨dst, .binOp op t x y yt,type,pos,after,guard⟩ st) r:=by
 unfold wJ at h;split at h
 ·rename_i k a k' b hx hy;obtain⟨hc,h'⟩:=aZ h;simp only[decide_eq_true_eq]at hc;subst hc;exact jT hx hy rfl rfl rfl (hf _ _ _) h'
 ·exact aY h
theorem uJ{dst type pos after guard}{op:BinOp}{t yt:TypeId}{x y:Operand}{f:Int->Int->Bool}{g:ByteArray->ByteArray->Bool}{str:Bool}
  (hf:∀ k a b,bC P (do eqGuard op t x y (.int k a) (.int k b); binOp op t (.int k a) (.int k b))=some (.bool (f a b)))
  (hg:str=true->∀ a b,bC P (do eqGuard op t x y (.string a) (.string b); binOp op t (.string a) (.string b))=some (.bool (g a b)))
  (h:CS P ⟨dst, .binOp op t x y yt,type,pos,after,guard⟩ f g str x y call s st kv kd=some r):Hands call kv kd (ay P (rdF s) ⟨dst, .binOp op t x y yt,type,pos,after,guard⟩ st) r:=by
 unfold CS at h;split at h
 ·rename_i k a k' b hx hy;obtain⟨hc,h'⟩:=aZ h;simp only[decide_eq_true_eq]at hc;subst hc;exact jT hx hy rfl rfl rfl (hf _ _ _) h'
 ·rename_i a b hx hy;cases str with
  |true=>exact jT hx hy rfl rfl rfl (hg rfl _ _) h
  |false=>exact aY h
 ·exact aY h
theorem di{J γ:Type}:∀ (s:Sem J) (f:J->Sem γ),bC P (s >>= f)=(bC P s).bind fun a=>bC P (f a)
 | .pure a,f=>rfl
 | .program k,f=>di (k P) f
 | .mark m k,f=>di k f
 | .load ..,_=>rfl
 | .store ..,_=>rfl
 | .new ..,_=>rfl
 | .shape ..,_=>rfl
 | .freeze ..,_=>rfl
 | .frozen ..,_=>rfl
 | .getObj ..,_=>rfl
 | .setObj ..,_=>rfl
 | .choose ..,_=>rfl
 | .sys ..,_=>rfl
 | .halt ..,_=>rfl
theorem rP:bC P program=some P:=rfl
theorem gu{t:TypeId}{d:TypeDesc}(h:P.underlying t=some d):bC P (underlying t)=some d:=by
 unfold underlying;rw[di,rP];simp only[Option.bind_some,h]
 rfl
theorem B_{t:TypeId}{e:Eta}(h:uz P t=some e){xs:List Value}{i:Nat}{x:Value}(hx:xs[i]? = some x):bC P (part t ⟨xs⟩ i)=some x:=by
 unfold uz at h;simp only[dB]at h;have hd:∃ d,P.underlying t=some d/\(∀ fs,d≠ .struct fs)/\∀ n e,d≠ .array n e:=by
  split at h
  ·rename_i k hu; exact⟨_,hu,fun _ h=>(by cases h),fun _ _ h=>(by cases h)⟩
  ·rename_i hu; exact⟨_,hu,fun _ h=>(by cases h),fun _ _ h=>(by cases h)⟩
  ·rename_i hu; exact⟨_,hu,fun _ h=>(by cases h),fun _ _ h=>(by cases h)⟩
  ·rename_i e hu; exact⟨_,hu,fun _ h=>(by cases h),fun _ _ h=>(by cases h)⟩
  ·cases h
 obtain⟨d,hu,h1,h2⟩:=hd;have hagg:bC P (isAgg t)=some false:=by
  unfold isAgg;rw[di,gu hu];simp only[Option.bind_some];cases d<;>first
   |rfl
   |exact absurd rfl (h1 _)
   |exact absurd rfl (h2 _ _)
 unfold part;rw[di,hagg];have hx':(⟨xs⟩:Array Value)[i]? = some x:=by simpa using hx
 simp only[Option.bind_some,Bool.false_eq_true,if_false,hx']
 rfl
theorem Y9{e:Eta}{x y:Value}{k:Bool->Res}{f:Field}{d:Nat}(hf:uz P f.type=some e)(h:eqE e x y k=some r):∃ b,bC P (Op.equalIn (d+1) f.type x y)=some b/\k b=some r:=by
 unfold uz at hf;simp only[dB]at hf;unfold eqE at h;split at hf
 ·rename_i kd hu;obtain rfl:=Option.some.inj hf;simp only at h;split at h
  ·rename_i a m b n;obtain⟨hc,h'⟩:=aZ h;simp only[decide_eq_true_eq]at hc;subst hc;refine⟨_,?_,h'⟩;simp only[Op.equalIn,di,gu hu,Option.bind_some,if_true]
   rfl
  ·cases h
 ·rename_i hu;obtain rfl:=Option.some.inj hf;simp only at h;split at h
  ·rename_i a b;refine⟨_,?_,h⟩;simp only[Op.equalIn,di,gu hu,Option.bind_some];rw[show eqS a b=(a == b) from(beq_toListBytes a b).symm]
   rfl
  ·cases h
 ·rename_i hu;obtain rfl:=Option.some.inj hf;simp only at h;split at h
  ·rename_i a b;refine⟨_,?_,h⟩;simp only[Op.equalIn,di,gu hu,Option.bind_some]
   rfl
  ·cases h
 ·split at hf
  ·obtain rfl:=Option.some.inj hf;cases h
  ·cases hf
 ·cases hf
theorem NZ{d:Nat}:∀ {fs:List Field} {i:Nat} {es:List Eta},GV P fs i=some es->∀ {xs ys:List Value} {k:Bool->Res} {r},eqC es (xs.drop i) (ys.drop i) k=some r->∃ b,bC P (Op.eqFields (d+1) ⟨xs⟩ ⟨ys⟩ fs)=some b/\k b=some r
 |[],i,es,h,xs,ys,k,r,hk=>by
  obtain rfl:=Option.some.inj (h:some []=some es);exact⟨true,rfl,hk⟩
 |f::fs,i,es,h,xs,ys,k,r,hk=>by
  change (match and (Nat.beq f.offset i) (f.name != "_"),uz P f.type,GV P fs (i+1)with
   |true,some (.slice _),_=>none
   |true,some e,some es=>some (e::es)
   |_,_,_=>none)=some es at h
  cases hb:and (Nat.beq f.offset i) (f.name != "_")with
  |false=>rw[hb]at h; cases h
  |true=>
  cases he:uz P f.type with
  |none=>rw[hb,he]at h; cases h
  |some e=>
  cases hes:GV P fs (i+1)with
  |none=>rw[hb,he,hes]at h; cases e<;>cases h
  |some es'=>
   rw[hb,he,hes]at h;have h:e::es'=es:=by cases e<;>first | exact Option.some.inj h | cases h
   subst h;simp only[Bool.and_eq_true,bne_iff_ne,ne_eq]at hb;obtain⟨hoff,hname⟩:=hb;have hoff:=Nat.eq_of_beq_eq_true hoff;change (match xs.drop i with
    |x::xs'=>match ys.drop i with
     |y::ys'=>eqE e x y fun b=>eqC es' xs' ys' fun r=>k (and b r)
     |[]=>none
    |[]=>none)=some r at hk
   split at hk
   ·rename_i x xs' hxs;split at hk
    ·rename_i y ys' hys;have hx:xs[i]? = some x:=by rw[<-List.head?_drop,hxs]; rfl
     have hy:ys[i]? = some y:=by rw[<-List.head?_drop,hys]; rfl
     have hx':xs'=xs.drop (i+1):=by rw[<-List.tail_drop,hxs]; rfl
     have hy':ys'=ys.drop (i+1):=by rw[<-List.tail_drop,hys]; rfl
     obtain⟨b,h1,h2⟩:=Y9 (d:=d) he hk;rw[hx',hy']at h2;obtain⟨b',h3,h4⟩:=NZ (d:=d) hes h2;refine⟨b&&b',?_,h4⟩;simp only[Op.eqFields,if_pos hname,di,hoff,B_ he hx,B_ he hy,Option.bind_some,h1];cases b with
     |false=>rfl
     |true=>exact h3
    ·cases hk
   ·cases hk
theorem wW{d:Nat}{t:TypeId}{xs ys:Array Value}{fs:Array Field}(ht:P.underlying t=some (.struct fs))(hp:P.stoodInHeld t=false) :
  bC P (Op.equalIn (d+1) t (.agg xs) (.agg ys))=bC P (Op.eqFields d xs ys fs.toList):=by
 simp only[Op.equalIn,di,gu ht,rP,Option.bind_some,hp,Bool.false_eq_true,if_false];rw[<-Array.forIn_toList];generalize fs.toList=l;clear ht
 induction l with
 |nil=>rfl
 |cons f l ih=>
  simp only[List.forIn_cons,Op.eqFields,di];split
  ·simp only[di];cases bC P (part f.type xs f.offset)with
   |none=>rfl
   |some a=>
    simp only[Option.bind_some];cases bC P (part f.type ys f.offset)with
    |none=>rfl
    |some b=>
     simp only[Option.bind_some];cases bC P (Op.equalIn d f.type a b)with
     |none=>rfl
     |some r=>
      simp only[Option.bind_some];cases r with
      |false=>rfl
      |true=>exact ih
  ·exact ih
theorem zS{op:BinOp}{t:TypeId}{x y:Operand}{xs ys:Array Value}{s:Sem Value}(hm:P.eqGuardType P.depth t=false):bC P (do eqGuard op t x y (.agg xs) (.agg ys); s)=bC P s:=by
 rw[di];have:bC P (eqGuard op t x y (.agg xs) (.agg ys))=some ():=by
  cases op<;>first
   |rfl
   |(unfold eqGuard; simp only[di,rP,Option.bind_some,hm,Bool.not_true,Bool.false_eq_true,if_false,Bool.not_false,if_true]; rfl)
 rw[this]; rfl
theorem FM{t:TypeId}{es:List Eta}(h:eqK P t=some es):∃ fs,P.underlying t=some (.struct fs)/\P.stoodInHeld t=false/\P.eqGuardType P.depth t=false/\GV P fs.toList 0=some es:=by
 unfold eqK at h;simp only[dB]at h;split at h
 ·rename_i fs hu;split at h
  ·cases h
  ·rename_i hg;simp only[Bool.or_eq_false_iff]at hg;exact⟨fs,hu,hg.1,hg.2,h⟩
 ·cases h
theorem Ky{t:TypeId}{es:List Eta}(h:eqK P t=some es){xs ys:Array Value}{k:Bool->Res}{r}(hk:eqC es xs.toList ys.toList k=some r):∃ b,bC P (Op.equal t (.agg xs) (.agg ys))=some b/\k b=some r:=by
 obtain⟨fs,h1,h2,h3,h4⟩:=FM h;obtain⟨b,g1,g2⟩:=NZ (d:=9998) h4 (xs:=xs.toList) (ys:=ys.toList) hk;exact⟨b,by unfold Op.equal Op.maxDepth; rw[wW h1 h2]; exact g1,g2⟩
theorem GY{t:TypeId}(hu:P.underlying t=some .bool)(a b:Bool):bC P (Op.equal t (.bool a) (.bool b))=some (a == b):=by
 unfold Op.equal Op.maxDepth;show bC P (Op.equalIn (9999+1) t (.bool a) (.bool b))=_;unfold Op.equalIn;rw[di,gu hu]
 rfl
theorem Ur{dst type pos after guard}{t yt:TypeId}{x y:Operand}(h:Tf P ⟨dst, .binOp .eql t x y yt,type,pos,after,guard⟩ (uV P t) (eqK P t) x y call s st kv kd=some r) :
  Hands call kv kd (ay P (rdF s) ⟨dst, .binOp .eql t x y yt,type,pos,after,guard⟩ st) r:=by
 unfold Tf at h;split at h
 ·rename_i k a k' b hx hy;obtain⟨hc,h'⟩:=aZ h;simp only[decide_eq_true_eq]at hc;subst hc;exact jT hx hy rfl rfl rfl (by simp only[binOp,Op.intCmp,ne_eq,not_true_eq_false,if_false]; rfl) h'
 ·rename_i a b hx hy;exact jT hx hy rfl rfl rfl (by simp only[binOp,Op.stringOp]; rfl) h
 ·rename_i a b hx hy;split at h
  ·rename_i hb;unfold uV at hb;rw[dB]at hb;split at hb
   ·rename_i hu;refine jT hx hy rfl rfl rfl ?_ h;rw[di];show bC P (binOp .eql t (.bool a) (.bool b))=_;simp only[binOp,di,GY hu,Option.bind_some]
    rfl
   ·cases hb
  ·exact aY h
 ·rename_i a b hx hy;split at h
  ·rename_i es hes;obtain⟨hc,h'⟩:=aZ h;simp only[Bool.and_eq_true]at hc;obtain⟨b',g1,g2⟩:=Ky hes h';obtain⟨fs,h1,h2,h3,h4⟩:=FM hes;refine jT hx hy (by simpa only[flat]using hc.1) (by simpa only[flat]using hc.2) rfl ?_ g2;rw[zS h3];simp only[binOp,di,g1,Option.bind_some]
   rfl
  ·exact aY h
 ·exact aY h
theorem TY{dst type pos after guard}{t yt:TypeId}{x y:Operand}(h:Vp P ⟨dst, .binOp .neq t x y yt,type,pos,after,guard⟩ (uV P t) (eqK P t) x y call s st kv kd=some r) :
  Hands call kv kd (ay P (rdF s) ⟨dst, .binOp .neq t x y yt,type,pos,after,guard⟩ st) r:=by
 unfold Vp at h;split at h
 ·rename_i k a k' b hx hy;obtain⟨hc,h'⟩:=aZ h;simp only[decide_eq_true_eq]at hc;subst hc;exact jT hx hy rfl rfl rfl (by simp only[binOp,Op.intCmp,ne_eq,not_true_eq_false,if_false]; rfl) h'
 ·rename_i a b hx hy;exact jT hx hy rfl rfl rfl (by simp only[binOp,Op.stringOp]; rfl) h
 ·rename_i a b hx hy;split at h
  ·rename_i hb;unfold uV at hb;rw[dB]at hb;split at hb
   ·rename_i hu;refine jT hx hy rfl rfl rfl ?_ h;rw[di];show bC P (binOp .neq t (.bool a) (.bool b))=_;simp only[binOp,di,GY hu,Option.bind_some]
    rfl
   ·cases hb
  ·exact aY h
 ·rename_i a b hx hy;split at h
  ·rename_i es hes;obtain⟨hc,h'⟩:=aZ h;simp only[Bool.and_eq_true]at hc;obtain⟨b',g1,g2⟩:=Ky hes h';obtain⟨fs,h1,h2,h3,h4⟩:=FM hes;refine jT hx hy (by simpa only[flat]using hc.1) (by simpa only[flat]using hc.2) rfl ?_ g2;rw[zS h3];simp only[binOp,di,g1,Option.bind_some]
   rfl
  ·exact aY h
 ·exact aY h
theorem TK{dst type pos after guard}{sT dT:TypeId}{k:IntKind}{x:Operand}(hk:cvT P sT dT=some k)(h:TT P ⟨dst, .convert sT dT x,type,pos,after,guard⟩ k x call s st kv kd=some r) :
  Hands call kv kd (ay P (rdF s) ⟨dst, .convert sT dT x,type,pos,after,guard⟩ st) r:=by
 unfold cvT at hk;simp only[dB]at hk;split at hk
 ·rename_i k1 k2 h1 h2;obtain rfl:=Option.some.inj hk;unfold TT at h;split at h
  ·rename_i k3 n hx;have hp:bC P (convert sT dT (.int k3 n))=some (.int k2 (cvI k2 n)):=by
    unfold convert;simp only[di,gu h1,gu h2,Option.bind_some]
    rfl
   simp only[ay,h1,h2,hx,flat,if_true,hp];exact h
  ·exact aY h
 ·cases hk
theorem Eo{dst type pos after guard}{c:Call}{g:Int->Int->Bool}{b:Builtin}{x y:Operand}(hc1:c.callee = .builtin b)(hc2:c.args.toList=[x,y])
  (hb:∀ k k' m n,gV P b c.argTypes type (c.args.map Cc) [.int k m, .int k' n] st=some (.val (.int k (if g n m=true then n else m)) st))
  (h:Gu P ⟨dst, .call c,type,pos,after,guard⟩ g x y call s st kv kd=some r):Hands call kv kd (ay P (rdF s) ⟨dst, .call c,type,pos,after,guard⟩ st) r:=by
 unfold Gu at h;split at h
 ·rename_i k a k' b hx hy;simp only[ay,hc1,hc2,List.map_cons,List.map_nil,hx,hy,hb];cases hg:g b a with
  |true=>rw[hg]at h; exact h
  |false=>rw[hg]at h; exact h
 ·exact aY h
theorem Va{dst type pos after guard}{t:TypeId}{x:Operand}(h:TG P ⟨dst, .unOp .not t x,type,pos,after,guard⟩ x call s st kv kd=some r):Hands call kv kd (ay P (rdF s) ⟨dst, .unOp .not t x,type,pos,after,guard⟩ st) r:=by
 unfold TG at h;split at h
 ·rename_i b hx;simp only[ay,hx,flat,if_true];exact h
 ·exact aY h
theorem TB{dst type pos after guard}{t:TypeId}{x:Operand}(h:TM P ⟨dst, .unOp .xor t x,type,pos,after,guard⟩ x call s st kv kd=some r):Hands call kv kd (ay P (rdF s) ⟨dst, .unOp .xor t x,type,pos,after,guard⟩ st) r:=by
 unfold TM at h;split at h
 ·rename_i k n hx;have e:bC P (Op.unary .xor (.int k n))=some (.int k (afd k n)):=by
   simp only[Op.unary,Op.intBits,ne_eq,not_true_eq_false,if_false]; rfl
  simp only[ay,hx,flat,if_true,e];exact h
 ·exact aY h
theorem Po{dst type pos after guard}{c:Call}{x:Operand}(hc1:c.callee = .builtin .len)(hc2:c.args.toList=[x])(hl:vM P c.argTypes=1)(h:Ou P ⟨dst, .call c,type,pos,after,guard⟩ x call s st kv kd=some r) :
  Hands call kv kd (ay P (rdF s) ⟨dst, .call c,type,pos,after,guard⟩ st) r:=by
 unfold vM at hl;simp only[dB]at hl;split at hl
 ·rename_i t ht;split at hl
  ·rename_i e hu;unfold Ou at h;split at h
   ·rename_i a n cap hx;simp only[ay,hc1,hc2,List.map_cons,List.map_nil,hx,gV,ht,hu];exact h
   ·rename_i tt v hx;split at h
    ·rename_i z hz;simp only[ay,hc1,hc2,List.map_cons,List.map_nil,hx,gV,ht,hu,hz];exact h
    ·cases h
   ·exact aY h
  ·cases hl
  ·cases hl
 ·cases hl
theorem P6{dst type pos after guard}{c:Call}{x:Operand}(hc1:c.callee = .builtin .cap)(hc2:c.args.toList=[x])(hl:vM P c.argTypes=1)(h:O5 P ⟨dst, .call c,type,pos,after,guard⟩ x call s st kv kd=some r) :
  Hands call kv kd (ay P (rdF s) ⟨dst, .call c,type,pos,after,guard⟩ st) r:=by
 unfold vM at hl;simp only[dB]at hl;split at hl
 ·rename_i t ht;split at hl
  ·rename_i e hu;unfold O5 at h;split at h
   ·rename_i a n cap hx;obtain⟨hb,h⟩:=aZ h;have hb:Nat.ble (cap+1) unk=true:=hb;simp only[ay,hc1,hc2,List.map_cons,List.map_nil,hx,gV,ht,hu,hb];exact h
   ·rename_i n cap hx;simp only[ay,hc1,hc2,List.map_cons,List.map_nil,hx,gV,ht,hu];exact h
   ·exact aY h
  ·cases hl
  ·cases hl
 ·cases hl
theorem PP{dst type pos after guard}{c:Call}{x:Operand}(hc1:c.callee = .builtin .len)(hc2:c.args.toList=[x])(hl:vM P c.argTypes=2)(h:NI P ⟨dst, .call c,type,pos,after,guard⟩ x call s st kv kd=some r) :
  Hands call kv kd (ay P (rdF s) ⟨dst, .call c,type,pos,after,guard⟩ st) r:=by
 unfold vM at hl;simp only[dB]at hl;split at hl
 ·rename_i t ht;split at hl
  ·cases hl
  ·rename_i hu;unfold NI at h;split at h
   ·rename_i b hx;simp only[ay,hc1,hc2,List.map_cons,List.map_nil,hx,gV,ht,hu];exact h
   ·exact aY h
  ·cases hl
 ·cases hl
theorem Pn{size:Nat}{x:Value}{xt:TypeDesc}{str:Bool}(hxt:(match xt with | .slice _=>some false | .string=>some true | _=>none)=some str){k:Nat->List Value->Res}(h:s_tail str size st x k=some r) :
  ∃ n new,jQ st size xt x=some (n,new)/\k n new=some r:=by
 unfold s_tail at h;cases str with
 |true=>
  have:xt = .string:=by
   split at hxt
   ·cases hxt
   ·rfl
   ·cases hxt
  subst this;simp only at h;split at h
  ·obtain⟨hc,h⟩:=aZ h;exact⟨_,_,by simp only[jQ,Nat.eq_of_beq_eq_true hc,if_true],h⟩
  ·cases h
 |false=>
  have:∃ e,xt = .slice e:=by
   split at hxt
   ·exact⟨_,rfl⟩
   ·cases hxt
   ·cases hxt
  obtain⟨e,rfl⟩:=this;simp only at h;split at h
  ·rename_i a n cap;obtain⟨c,e',ex,h1,h2,h3⟩:=iT h;obtain⟨hc,h3⟩:=aZ h3;have hle:a.off+n*size<=c.length:=Nat.le_of_ble_eq_true hc;exact⟨n,(c.drop a.off).take (n*size),by simp only[jQ,cellsAt,h1,h2,Option.isSome_none,Bool.false_eq_true,if_false,hle,if_true],h3⟩
  ·rename_i n cap;obtain⟨hc,h⟩:=aZ h;exact⟨_,_,by simp only[jQ,Nat.eq_of_beq_eq_true hc,if_true],h⟩
  ·rename_i t v;split at h
   ·rename_i z hz;obtain⟨hc,h⟩:=aZ h;exact⟨_,_,by simp only[jQ,hz,Nat.eq_of_beq_eq_true hc,if_true],h⟩
   ·cases h
  ·cases h
theorem Hr{slow:Res}{e:TypeId}{size n:Nat}{new:List Value}{sv:Value}(hall:new.all oneCell=true)(hsl:slow=some r->∃ v st',dW P st e size n new sv=some (v,st')/\kv v st'=some r)(h:zx slow e size n new st sv kv=some r) :
  ∃ v st',dW P st e size n new sv=some (v,st')/\kv v st'=some r:=by
 unfold zx at h;split at h
 ·rename_i len cap;obtain⟨hc,h'⟩:=aZ h;clear h;simp only[Bool.and_eq_true]at hc;have h1:=Nat.eq_of_beq_eq_true hc.1;have h2:=Nat.eq_of_beq_eq_true hc.2.1;have h3:=Nat.le_of_ble_eq_true hc.2.2;subst h1 h2;simp only[dW];rw[if_neg (by simp; omega)];cases hb:Nat.beq n 0 with
  |true=>
   rw[hb]at h';rw[if_pos (Nat.eq_of_beq_eq_true hb)];exact⟨_,_,rfl,h'⟩
  |false=>
   rw[hb]at h';rw[if_neg (Nat.ne_of_beq_eq_false hb)];exact⟨_,_,rfl,oQ h'⟩
 ·rename_i a len cap;change @Bool.rec (fun _=>Res)
   (@Bool.rec (fun _=>Res) (@Bool.rec (fun _=>Res)
    (ae (Nat.ble (len+n) big) (iR st a fun b off c _ _ _ _=>ae (Nat.ble (Nat.add off (len*size)) c.length)
     (rQ st (.cells ((c.drop off).take (len*size)++new) e false) fun a st=>kv (.slice (some a) (len+n) unk) st)))
    (@Bool.rec (fun _=>Res)
     (iR st a fun b off c e' ex heap next=>ae (and (Nat.ble (cap+1) unk) (Nat.ble (off+len*size+new.length) c.length))
      (kv (.slice (some a) (len+n) cap) ⟨bW (path b) heap (.cells (putAt c (off+len*size) new) e' ex),next⟩))
     (ae (Nat.ble (cap+1) unk) (kv (.slice (some a) len cap) st)) (Nat.beq n 0)) (Nat.ble (len+n) cap))
    (@Bool.rec (fun _=>Res)
     (ae (Nat.ble (len+n) big) (iR st a fun b off c _ _ _ _=>ae (Nat.ble (Nat.add off (len*size)) c.length)
      (rQ st (.cells ((c.drop off).take (len*size)++new) e false) fun a st=>kv (.slice (some a) (len+n) unk) st)))
     (ae (Nat.ble (cap+1) unk) (kv (.slice (some a) len cap) st)) (Nat.beq n 0)) (Nat.beq cap len))
   (iR st a fun b off c e' ex heap next=>ae (and (not ex) (and (Nat.beq e' e) (and (Nat.ble off c.length) (Nat.ble (len+n) big))))
    (@Bool.rec (fun _=>Res)
     (ae (Nat.beq (Nat.add off (len*size)) c.length)
      (rQ ⟨bW (path b) heap .dead,next⟩ (.cells ((c.drop off).take (len*size)++new) e false) fun a st=>kv (.slice (some a) (len+n) unk) st))
     (ae (Nat.ble (Nat.add off (len*size)) c.length) (kv (.slice (some a) len cap) st)) (Nat.beq n 0)))
   (Nat.beq cap unk)=some r at h
  cases hb:Nat.beq cap unk with
  |false=>
   rw[hb]at h;have hne:=Nat.ne_of_beq_eq_false hb;have grow:¬len+n<=cap->(ae (Nat.ble (len+n) big) (iR st a fun b off c _ _ _ _=>ae (Nat.ble (Nat.add off (len*size)) c.length)
     (rQ st (.cells ((c.drop off).take (len*size)++new) e false) fun a st=>kv (.slice (some a) (len+n) unk) st)))=some r->∃ v st',dW P st e size n new (.slice (some a) len cap)=some (v,st')/\kv v st'=some r:=by
    intro hnle h;obtain⟨hc,h⟩:=aZ h;have hc:=Nat.le_of_ble_eq_true hc;obtain⟨c,e',ex,h1,h2,h3⟩:=iT h;obtain⟨hd,h3⟩:=aZ h3;have hd:a.off+len*size<=c.length:=Nat.le_of_ble_eq_true hd;have hcu:cap<unk:=by unfold unk; unfold big at hc; omega
    refine⟨_,_,?_,oQ h3⟩;simp only[dW];rw[if_neg (by omega),if_pos hcu,if_neg hnle];simp only[cellsAt,h1,h2,Option.isSome_none,Bool.false_eq_true,if_false,hd,if_true]
    rfl
   have same:len+n<=cap->Nat.beq n 0=true->ae (Nat.ble (cap+1) unk) (kv (.slice (some a) len cap) st)=some r->∃ v st',dW P st e size n new (.slice (some a) len cap)=some (v,st')/\kv v st'=some r:=by
    intro hle hb3 h;have hn:=Nat.eq_of_beq_eq_true hb3;obtain⟨hcu,h⟩:=aZ h;have hcu:cap<unk:=Nat.le_of_ble_eq_true hcu;refine⟨_,_,?_,h⟩;simp only[dW];rw[if_neg (by omega),if_pos hcu,if_pos hle,if_pos hn]
   cases hb0:Nat.beq cap len with
   |true=>
    rw[hb0]at h;have hcl:=Nat.eq_of_beq_eq_true hb0;cases hb3:Nat.beq n 0 with
    |true=>
     rw[hb3]at h;exact same (by have:=Nat.eq_of_beq_eq_true hb3; omega) hb3 h
    |false=>
     rw[hb3]at h;exact grow (by have:=Nat.ne_of_beq_eq_false hb3; omega) h
   |false=>
    rw[hb0]at h;cases hb2:Nat.ble (len+n) cap with
    |true=>
     rw[hb2]at h;have hle:=Nat.le_of_ble_eq_true hb2;cases hb3:Nat.beq n 0 with
     |false=>
      rw[hb3]at h;have hn:=Nat.ne_of_beq_eq_false hb3;obtain⟨c,e',ex,h1,h2,h3⟩:=iT h;obtain⟨hc,h4⟩:=aZ h3;simp only[Bool.and_eq_true]at hc;have hcu:cap<unk:=Nat.le_of_ble_eq_true hc.1;have hd:a.off+len*size+new.length<=c.length:=Nat.le_of_ble_eq_true hc.2;rw[bU]at h4;refine⟨_,_,?_,h4⟩;simp only[dW];rw[if_neg (by omega),if_pos hcu,if_pos hle,if_neg hn];have hset:setCells st (a.add (len*size)) new=some { st with heap:=st.heap.set a.block (.cells (putAt c (a.off+len*size) new) e' ex) }:=by
       obtain⟨ab,ao,asp⟩:=a;simp only at h1;subst h1;simp only[iI,setCells,Option.isSome_none,Bool.false_eq_true,if_false,h2,hd,decide_true,hall,Bool.and_self,if_true]
      rw[hset]
     |true=>rw[hb3]at h; exact same hle hb3 h
    |false=>
     rw[hb2]at h;exact grow (fun k=>by rw[Nat.ble_eq_true_of_le k]at hb2; cases hb2) h
  |true=>
   rw[hb]at h;have hcap:=Nat.eq_of_beq_eq_true hb;obtain⟨c,e',ex,h1,h2,h3⟩:=iT h;obtain⟨hc,h4⟩:=aZ h3;clear h3;simp only[Bool.and_eq_true,Bool.not_eq_true']at hc;obtain⟨hx,he,ho,hbg⟩:=hc;have he:=Nat.eq_of_beq_eq_true he;have ho:=Nat.le_of_ble_eq_true ho;have hbg:=Nat.le_of_ble_eq_true hbg;subst hx he;have hpre:dW P st e' size n new (.slice (some a) len cap) =
    if n=0 then(if a.off+len*size<=c.length then some (.slice (some a) len cap,st)else none)else
    if a.off+(len+(cap-unk))*size=c.length then
     some (.slice (some (newRow (kill st a.block) ((c.drop a.off).take (len*size)++new) e' false).1) (len+n) unk,(newRow (kill st a.block) ((c.drop a.off).take (len*size)++new) e' false).2)
    else if cap=unk&&a.off+len*size+new.length<=c.length then
     match setCells st (a.add (len*size)) new with
     |some st=>some (.slice (some a) (len+n) cap,st)
     |none=>none
    else if cap=unk&&a.off+len*size<=c.length then
     some (.slice (some (newRow (kill st a.block) ((c.drop a.off).take (len*size)++new) e' false).1) (len+n) unk,(newRow (kill st a.block) ((c.drop a.off).take (len*size)++new) e' false).2)
    else none:=by
    simp only[dW];rw[if_neg (by omega),if_neg (by omega),h2];simp only;rw[if_neg (by simp[h1,hcap,ho])]
    rfl
   rw[hpre];cases hb3:Nat.beq n 0 with
   |true=>
    rw[hb3]at h4;obtain⟨hd,h4⟩:=aZ h4;have hd:a.off+len*size<=c.length:=Nat.le_of_ble_eq_true hd;rw[if_pos (Nat.eq_of_beq_eq_true hb3),if_pos hd];exact⟨_,_,rfl,h4⟩
   |false=>
    rw[hb3]at h4;obtain⟨hd,h4⟩:=aZ h4;have hd:a.off+len*size=c.length:=Nat.eq_of_beq_eq_true hd;rw[if_neg (Nat.ne_of_beq_eq_false hb3),if_pos (by rw[hcap,Nat.sub_self,Nat.add_zero]; exact hd)];refine⟨_,_,rfl,?_⟩;have h4:=oQ h4;rw[bU]at h4;exact h4
 ·exact hsl h
theorem KP{dst type pos after guard}{t:TypeId}{x v:Operand}(ht:Ze P t=true)(h:EW P t x v call s st kv kd=some r) :
  Hands call kv kd (ay P (rdF s) ⟨dst, .store t x v,type,pos,after,guard⟩ st) r:=by
 unfold Ze at ht;rw[oN]at ht;unfold EW at h;split at h
 ·rename_i a hx;obtain⟨c,e,ex,h1,h2,h3⟩:=iT h;cases ex with
  |false=>
   obtain⟨hc,h4⟩:=aZ h3;simp only[Bool.and_eq_true]at hc;have hd:a.off+1<=c.length:=Nat.le_of_ble_eq_true hc.2;rw[bU]at h4;unfold iH at ht;cases hi:P.info? t with
   |none=>rw[hi]at ht; cases ht
   |some i=>
    rw[hi]at ht;have his:i.size=1:=Nat.eq_of_beq_eq_true ht;have hst:nT P st t a (rdF s v)=some { st with heap:=st.heap.set a.block (.cells (putAt c a.off [rdF s v]) e false) }:=by
     have hv:(rdF s v).cells=#[rdF s v]/\kS (rdF s v)=false/\oneCell (rdF s v)=true:=by
      have h2:=hc.1;generalize rdF s v=y at h2;cases y with
      |chan r=>cases r with
       |none=>exact⟨rfl,rfl,rfl⟩
       |some _=>simp[nV]at h2
      |agg _=>simp[nV]at h2
      |tuple _=>simp[nV]at h2
      |_=>exact⟨rfl,rfl,rfl⟩
     obtain⟨v1,v2,v3⟩:=hv;simp[nT,hi,v1,v2,his,setCells,h1,h2,v3,hd]
    simp only[ay,hx,hst];exact h4
  |true=>
   simp only at h3;simp only[Di,hx]at h3;obtain⟨st',g1,g2⟩:=Ep h3;simp only[ay,hx,g1];exact g2
 ·cases h
end
section
variable{P:Program}
variable{call:Knot}{s:Trie Value}{o:Oper}{st:St}{kv:Value->St->Res}{kd:Deferred->St->Res}{r:Value×St}
theorem P_{dst type pos after guard}{c a b:Operand}(h:L9 c a b call s st kv kd=some r):Hands call kv kd (ay P (rdF s) ⟨dst, .pick c a b,type,pos,after,guard⟩ st) r:=by
 unfold L9 at h;split at h
 ·rename_i t ht;simp only[ay,ht];cases t<;>exact h
 ·cases h
theorem KX{dst type pos after guard}{c:Call}{x y:Operand}{tx ty e:TypeId}{size:Nat}{str:Bool}(hc1:c.callee = .builtin .append)(hc2:c.args.toList=[x,y])(hc3:c.argTypes.toList=[tx,ty])(hk:Nk P tx ty=some (e,size,str))
  (h:ES P ⟨dst, .call c,type,pos,after,guard⟩ e size str x y call s st kv kd=some r):Hands call kv kd (ay P (rdF s) ⟨dst, .call c,type,pos,after,guard⟩ st) r:=by
 unfold Nk at hk;simp only[dB,kM,vF]at hk;split at hk
 ·rename_i e' xt hs hx;split at hk
  ·rename_i str' ei z hxt hi hz;split at hk
   ·cases hk
   ·rename_i hcond;simp only[Option.some.injEq,Prod.mk.injEq]at hk;obtain⟨rfl,rfl,rfl⟩:=hk;have ht0:c.argTypes[0]? = some tx:=by rw[<-Array.getElem?_toList,hc3]; rfl
    have ht1:c.argTypes[1]? = some ty:=by rw[<-Array.getElem?_toList,hc3]; rfl
    have hev:ay P (rdF s) ⟨dst, .call c,type,pos,after,guard⟩ st=match lh P st tx ty (rdF s x) (rdF s y)with
     |some (v,st)=>some (.val v st)
     |none=>none:=by
     simp only[ay,hc1,hc2,List.map_cons,List.map_nil,gV,ht0,ht1];cases lh P st tx ty (rdF s x) (rdF s y)<;>rfl
    rw[hev];have happ:lh P st tx ty (rdF s x) (rdF s y)=match jQ st ei.size xt (rdF s y)with
      |some (n,new)=>if new.all oneCell then dW P st e' ei.size n new (rdF s x)else none
      |none=>none:=by
     simp only[lh,hs,hx,hi,hz];rw[if_neg hcond];cases jQ st ei.size xt (rdF s y)<;>rfl
    have key:(∃ v st',lh P st tx ty (rdF s x) (rdF s y)=some (v,st')/\kv v st'=some r)->Hands call kv kd (match lh P st tx ty (rdF s x) (rdF s y)with
     |some (v,st)=>some (.val v st)
     |none=>none) r:=by
     rintro ⟨v,st',h1,h2⟩;rw[h1]; exact h2
    apply key;unfold ES at h;obtain⟨n,new,h1,h2⟩:=Pn hxt h;obtain⟨h3,h4⟩:=aZ h2;rw[happ,h1];simp only[h3,if_true];refine Hr h3 (fun hsl=>?_) h4;have:=aY hsl;rw[hev,happ,h1]at this;simp only[h3,if_true]at this;cases hx:dW P st e' ei.size n new (rdF s x)with
    |none=>rw[hx]at this; exact this.elim
    |some p=>rw[hx]at this; exact⟨p.1,p.2,rfl,this⟩
  ·cases hk
 ·cases hk
theorem GH{ik kd':IntKind}{i:Int}{f:Value->Res}{z:Res}:∀ {es:List MapEntry} (j:Nat),UO ik i f z es=some r->
  (∃ m v,Instr.findNow (.int kd') (.int ik i) es j=some (some (m,v))/\f v=some r)\/(Instr.findNow (.int kd') (.int ik i) es j=some none/\z=some r)
 |[],j,h=>Or.inr ⟨rfl,h⟩
 |e::es,j,h=>by
  have h:(match e.key with
   | .int k n=>ae (decide (ik=k)) (@Bool.rec (fun _=>Res) (UO ik i f z es) (f e.val) (eqI i n))
   |_=>none)=some r:=h
  split at h
  ·rename_i k n hk;obtain⟨hc,h'⟩:=aZ h;simp only[decide_eq_true_eq]at hc;subst hc;have hs:Instr.sameNow (.int kd') (.int ik i) e.key=some (i == n):=by rw[hk]; simp[Instr.sameNow]
   cases hq:eqI i n with
   |true=>
    rw[hq]at h';have hb:(i == n)=true:=by
     have:i=n:=of_decide_eq_true hq;simp[this]
    left;refine⟨j,e.val,?_,h'⟩;simp only[Instr.findNow,hs,hb]
   |false=>
    rw[hq]at h';have hb:(i == n)=false:=by
     have:¬i=n:=of_decide_eq_false hq;simpa using this
    rcases GH (j+1) h' with⟨m,v,h1,h2⟩ | ⟨h1,h2⟩
    ·left;refine⟨m,v,?_,h2⟩;simp only[Instr.findNow,hs,hb];exact h1
    ·right;refine⟨?_,h2⟩;simp only[Instr.findNow,hs,hb];exact h1
  ·cases h
theorem Ph{dst type pos after guard}{t:TypeId}{x k:Operand}{ok:Bool}{z:Value}(hz:TA P t=some z)(h:IM P ⟨dst, .lookup t x k ok,type,pos,after,guard⟩ z x k ok call s st kv kd=some r) :
  Hands call kv kd (ay P (rdF s) ⟨dst, .lookup t x k ok,type,pos,after,guard⟩ st) r:=by
 unfold IM at h;split at h
 ·rename_i rr ik i hx hk;split at h
  ·rename_i es cl hg;rw[cu]at hg;unfold TA at hz;rw[dB]at hz;split at hz
   ·rename_i kt e hu;rw[dB]at hz;split at hz
    ·rename_i kd' huk;rw[vF]at hz;have hkk:sW P kt=some (.int kd'):=by unfold sW; rw[huk]
     rcases GH (kd':=kd') 0 h with⟨m,v,h1,h2⟩ | ⟨h1,h2⟩
     ·have hf:rC P es.isEmpty kt (.int ik i) es=some (some (m,v)):=by unfold rC; rw[hkk]; exact h1
      simp only[ay,hu,hz,hx,hk,hg,hf];cases ok<;>exact h2
     ·have hf:rC P es.isEmpty kt (.int ik i) es=some none:=by unfold rC; rw[hkk]; exact h1
      simp only[ay,hu,hz,hx,hk,hg,hf];cases ok<;>exact h2
    ·cases hz
   ·cases hz
  ·exact i_ h
 ·exact i_ h
theorem G7(h:(Lh P o).run call s st kv kd=some r):Hands call kv kd (ay P (rdF s) o st) r:=by
 obtain⟨dst,op,type,pos,after,guard⟩:=o;unfold Lh at h;simp only at h;split at h
 ·exact P_ h
 ·split at h
  ·exact Ph ‹_› h
  ·exact i_ h
 ·split at h
  ·rename_i hk;split at h
   ·exact Nl hk h
   ·exact i_ h
  ·rename_i hk;split at h
   ·split at h
    ·exact LJ hk ‹_› h
    ·exact i_ h
   ·exact i_ h
  ·exact i_ h
 ·split at h
  ·exact EE ‹_› h
  ·exact i_ h
 ·split at h
  ·exact KP ‹_› h
  ·exact i_ h
 ·rename_i t x ix;split at h
  ·rename_i hs;unfold isStr at hs;rw[dB]at hs;split at hs
   ·exact Nq ‹_› h
   ·cases hs
  ·exact i_ h
 ·split at h
  ·exact Fp ‹_› h
  ·split at h
   ·exact G_ ‹_› h
   ·exact i_ h
 ·split at h
  ·rename_i hs;unfold isStr at hs;rw[dB]at hs;split at hs
   ·exact zY ‹_› h
   ·cases hs
  ·split at h
   ·exact Ot ‹_› h
   ·exact i_ h
 ·split at h
  ·exact Gl ‹_› h
  ·exact IB ‹_› h
  ·split at h
   ·exact TK ‹_› h
   ·exact aY h
 ·split at h
  ·exact U6 h
  ·exact Vg h
  ·exact Tj h
  ·exact TN h
  ·exact Uu h
  ·exact pJ (f:=uZ) (hf:=fun k a b=>by simp only[binOp,Op.intArith,ne_eq,not_true_eq_false,if_false]; rfl) h
  ·exact pJ (f:=BQ) (hf:=fun k a b=>by simp only[binOp,Op.intArith,ne_eq,not_true_eq_false,if_false]; rfl) h
  ·exact pJ (f:=kQ) (hf:=fun k a b=>by simp only[binOp,Op.intBits,ne_eq,not_true_eq_false,if_false]; rfl) h
  ·exact pJ (f:=orI) (hf:=fun k a b=>by simp only[binOp,Op.intBits,ne_eq,not_true_eq_false,if_false]; rfl) h
  ·exact pJ (f:=ZQ) (hf:=fun k a b=>by simp only[binOp,Op.intBits,ne_eq,not_true_eq_false,if_false]; rfl) h
  ·exact pJ (f:=afu) (hf:=fun k a b=>by simp only[binOp,Op.intBits,ne_eq,not_true_eq_false,if_false]; rfl) h
  ·exact Ur h
  ·exact TY h
  ·exact uJ (f:=ltI) (g:=ltS) (str:=true) (hf:=fun k a b=>by simp only[binOp,Op.intCmp,ne_eq,not_true_eq_false,if_false]; rfl) (hg:=fun _ a b=>by simp only[binOp,Op.stringOp]; rfl) h
  ·exact uJ (f:=leI) (g:=leS) (str:=true) (hf:=fun k a b=>by simp only[binOp,Op.intCmp,ne_eq,not_true_eq_false,if_false]; rfl) (hg:=fun _ a b=>by simp only[binOp,Op.stringOp]; rfl) h
  ·exact uJ (f:=gtI) (g:=gtS) (str:=true) (hf:=fun k a b=>by simp only[binOp,Op.intCmp,ne_eq,not_true_eq_false,if_false]; rfl) (hg:=fun _ a b=>by simp only[binOp,Op.stringOp]; rfl) h
  ·exact uJ (f:=geI) (g:=geS) (str:=true) (hf:=fun k a b=>by simp only[binOp,Op.intCmp,ne_eq,not_true_eq_false,if_false]; rfl) (hg:=fun _ a b=>by simp only[binOp,Op.stringOp]; rfl) h
 ·exact Va h
 ·exact TB h
 ·rename_i c;split at h
  ·rename_i h1 h2 h3;split at h
   ·rename_i r' hr;exact KX h1 h2 h3 hr h
   ·exact i_ h
  ·rename_i h1 h2;split at h
   ·exact Po h1 h2 ‹_› h
   ·exact PP h1 h2 ‹_› h
   ·exact aY h
  ·rename_i h1 h2;split at h
   ·exact P6 h1 h2 ‹_› h
   ·exact aY h
  ·rename_i h1 h2;exact Eo h1 h2 (g:=ltI) (fun k _ m n=>by
    have e:(if ltI n m=true then n else m)=ad_ m n:=by simp[ad_,ltI]
    rw[e]; rfl) h
  ·rename_i h1 h2;exact Eo h1 h2 (g:=gtI) (fun k _ m n=>by
    have e:(if gtI n m=true then n else m)=aeb m n:=by simp[aeb,gtI]
    rw[e]; rfl) h
  ·exact i_ h
 ·exact i_ h
end
def afA(P:Program):Eng:=⟨Lh P,fun ct=>drawM P (Lh P) ct⟩
theorem ac1(P:Program)(ct:Ct):EngOk P ct (afA P) where
 comp:=fun h=>G7 h
 draw:=by
  intro call hc ops nt ro s d st k r h;exact S9 (fun h=>G7 h) hc h
theorem aT{b:Bool}{x y:Res}(h:b=true)(k:x=y):ae b x=y:=by subst h; exact k
theorem dY{b:Bool}{x y z:Res}(h:b=true)(k:x=z):ag b x y=z:=by subst h; exact k
theorem dD{b:Bool}{x y z:Res}(h:b=false)(k:y=z):ag b x y=z:=by subst h; exact k
theorem gz{v v':Value}{bs bs':List Blk}(h:v=v')(k:bs=bs'):(some (v,mkSt bs):Res)=some (v',mkSt bs'):=by rw[h,k]
theorem fB{a b:Bool}(h:a=true)(k:b=true):Bool.and a b=true:=by rw[h,k]; rfl
theorem bM{a b:Nat}(h:a<=b):Nat.ble a b=true:=Nat.ble_eq_true_of_le h
theorem t_{a b:Nat}(h:a=b):Nat.beq a b=true:=by rw[h]; exact Nat.beq_refl b
theorem mO{i:Int}{n:Nat}(h:0<=i)(k:i<n):inI i n=true:=by simp[inI,h,k]
theorem mi{l h:Int}{n:Nat}(h1:0<=l)(h2:l<=h)(h3:h<=n):eP l h n=true:=by simp[eP,h1,h2,h3]
def bc(l:List UInt8):List Value:=l.map fun b=> .int .u8 b.toNat
theorem AZ(s:ByteArray):byteCells s=bc s.data.toList:=rfl
theorem fK(l:List UInt8):(bc l).length=l.length:=by simp[bc]
theorem qQ(a b:List UInt8):bc (a++b)=bc a++bc b:=by simp[bc]
theorem qL:∀ (l:List UInt8),bT (bc l)=true
 |[]=>rfl
 |b::l=>by
  show(flat (.int .u8 b.toNat)&&bT (bc l))=true;rw[qL l]; rfl
theorem kz(z:Bool)(Z:Nat->Option Nat)(l:List UInt8):renL z Z (bc l)=bc l:=eU (qL l)
theorem BX(l:List UInt8):allBytes (bc l)=true:=by
 unfold allBytes bc;rw[List.all_map,List.all_eq_true];intro b _
 rfl
theorem VH(b:UInt8):byteOf (.int .u8 b.toNat)=b:=by
 show UInt8.ofNat (Int.toNat (b.toNat:Int))=b;simp
theorem DK(l:List UInt8):(bc l).map byteOf=l:=by
 unfold bc;rw[List.map_map];have:(byteOf∘fun b:UInt8=>Value.int .u8 b.toNat)=id:=by funext b; exact VH b
 rw[this,List.map_id]
theorem DD(l:List UInt8):qc (bc l)=⟨⟨l⟩⟩:=by unfold qc; rw[DK]
theorem aeA{l:List UInt8}{i:Nat}(h:i<l.length):ah (bc l) i = .int .u8 (l[i].toNat):=by
 unfold ah bc;rw[List.getD_eq_getElem?_getD,List.getElem?_map,List.getElem?_eq_getElem h]
 rfl
theorem ags(l:List UInt8):(bc l).all oneCell=true:=by
 unfold bc;rw[List.all_map,List.all_eq_true];intro b _
 rfl
theorem oO(c:List Value):takeC (Nat.mul c.length 1) (ak 0 c)=c:=by
 show(c.drop 0).take (c.length*1)=c;simp
theorem XZ(c:List Value){n:Nat}(h:n=c.length):takeC n (ak 0 c)=c:=by
 subst h;show(c.drop 0).take c.length=c;simp
def Dl(v:Value):Bool:=match v with
 | .int .u8 n=>decide (0<=n/\n<256)
 |_=>false
def vO(c:List Value):Bool:=c.all Dl
theorem Qb(n:Int):Dl (.int .u8 n)=decide (0<=n/\n<256):=rfl
theorem JS:∀ (l:List UInt8),vO (bc l)=true
 |[]=>rfl
 |b::l=>by
  have h:vO (bc (b::l))=(Dl (.int .u8 b.toNat)&&vO (bc l)):=by simp only[vO,bc,List.map_cons,List.all_cons]
  have:=b.toNat_lt;rw[h,JS l,Qb];simp only[Bool.and_true,decide_eq_true_eq];omega
theorem abh:∀ {c:List Value},vO c=true->c=bc (c.map byteOf)
 |[],_=>rfl
 |v::c,h=>by
  simp only[vO,List.all_cons,Bool.and_eq_true]at h;obtain⟨h1,h2⟩:=h;unfold Dl at h1;split at h1
  ·rename_i n;simp only[decide_eq_true_eq]at h1;have ih:=abh (c:=c) h2;show _=Value.int .u8 (byteOf (.int .u8 n)).toNat::bc (c.map byteOf);rw[<-ih];congr 2;show n=((UInt8.ofNat n.toNat).toNat:Int)
   simp only[UInt8.toNat_ofNat'];omega
  ·cases h1
theorem wrap64{n:Int}(h1:-9223372036854775808<=n)(h2:n<9223372036854775808):IntKind.i64.wrap n=n:=by
 have e:IntKind.i64.wrap n=if n % 18446744073709551616>=9223372036854775808 then n % 18446744073709551616-18446744073709551616 else n % 18446744073709551616:=by
  show(if(true&&decide (n % (2^64:Int)>=(2^(64-1):Int)))=true then n % (2^64:Int)-(2^64:Int)else n % (2^64:Int))=_;have e1:(2:Int)^(64-1)=9223372036854775808:=by decide
  have e2:(2:Int)^64=18446744073709551616:=by decide
  rw[e1,e2];simp only[Bool.true_and,decide_eq_true_eq]
 rw[e];split<;>omega
theorem toList_data(b:ByteArray):b.toList=b.data.toList:=by
 first
  |exact ByteArray.toList_eq b
  |exact Go.ByteArray.toList_eq b
  |exact _root_.ByteArray.toList_eq b
theorem p_(a b:ByteArray):eqS a b=(a.data.toList == b.data.toList):=by unfold eqS; rw[toList_data,toList_data]
theorem nJ(a b:ByteArray):neS a b=!(a.data.toList == b.data.toList):=by unfold neS; rw[toList_data,toList_data]
end Go.VS
end

noncomputable section
namespace Go.VS
open Go.RowKit
section
variable{P:Program}{ct:Ct}
theorem Rel.part{K:Prot}{Y:Env}{st st0:St}{w:World}(h:Rel P K Y st w)(hnx:st0.next=st.next)(hsub:∀ i b,st0.heap.get i=some b->b.live=true->st.heap.get i=some b)
  (hno:∀ i o,st0.heap.get i≠some (.obj o)) :
  ∃ K':Prot,(∀ k,K k->K' k)/\K'.id=K.id/\Rel P K' Y st0 w/\∀ (Y':Env) (st1 st2:St) (w':World),Y.le Y'->Rel P K' Y' st1 w'->Bel K' w w'->st.next<=st1.next->(∀ i o,st1.heap.get i≠some (.obj o))->
   st2.next=st1.next->(∀ i b,st2.heap.get i=some b->b.live=true->st1.heap.get i=some b\/((∀ c,st1.heap.get i=some c->c.live=false)/\(∀ c,st0.heap.get i=some c->c.live=false)/\st.heap.get i=some b))->
   (∀ i o,st.heap.get i=some (.obj o)->(∀ c,st1.heap.get i=some c->c.live=false)->st2.heap.get i=some (.obj o))->Rel P K Y' st2 w':=by
 obtain⟨hgi,fp,o1,o2⟩:=h.objs;have hobjs:=h.objs
 let gone:Nat->Prop:=fun k=>∃ i b l,st.heap.get i=some b/\b.live=true/\(∀ c,st0.heap.get i=some c->c.live=false)/\Y (i:Int)=some l/\l.virt=false/\l.blk=k
 let foot:Nat->Prop:=fun k=>∃ i,fp i k
 let K':Prot:=⟨fun k=>K k\/gone k\/foot k,K.id,fun k=>K.nofz k\/gone k\/foot k,K.obs,fun k h=>h.imp (K.sub k) fun h=>h⟩
 have hr0:Rel P K' Y st0 w:=by
  refine⟨fun k hk=>?_,fun i l hi=>by rw[hnx]; exact h.dom i l hi,fun i b hi hb=>?_,fun i j bi bj li lj hi hbi hj hbj=>h.inj i j bi bj li lj (hsub i bi hi hbi) hbi (hsub j bj hj hbj) hbj,fun i hi=>by rw[hnx]; exact h.res i hi,fun k l hk=>?_,fun k l hk=>?_,?_⟩
  ·rcases hk with hk | ⟨i,b,l,a1,a2,a3,a4,a5,rfl⟩ | ⟨i,hk⟩
   ·exact h.base k hk
   ·exact(h.dom i l a4).2 a5
   ·exact(o2 i k hk).2.1
  ·obtain⟨l,c1,c2,c3⟩:=h.blk i b (hsub i b hi hb) hb;refine⟨l,c1,fun hv hK=>?_,c3⟩;rcases hK with hK | ⟨j,bj,lj,a1,a2,a3,a4,a5,a6⟩ | ⟨j,hK⟩
   ·exact c2 hv hK
   ·have:=h.inj i j b bj l lj (hsub i b hi hb) hb a1 a2 c1 a4 hv a5 a6.symm;subst this;have:=a3 b hi;rw[hb]at this; cases this
   ·have:=(o2 j _ hK).2.2.2.2.2 i b l (hsub i b hi hb) hb c1 hv rfl;subst this;obtain⟨⟨o,ho⟩,_⟩:=o2 i _ hK;rw[hsub i b hi hb]at ho;cases ho;exact hno i o hi
  ·rintro (hf | ⟨j,bj,lj,a1,a2,a3,a4,a5,a6⟩ | ⟨j,hK⟩)
   ·exact h.nofz k l hk hf
   ·exact(h.frz k l hk).2.2 j bj lj a1 a2 a4 a5 a6
   ·have:=(o2 j k hK).2.2.2.1;rw[hk]at this; cases this
  ·obtain⟨f1,f2,f3⟩:=h.frz k l hk;exact⟨f1,f2,fun j bj lj hj hbj=>f3 j bj lj (hsub j bj hj hbj) hbj⟩
  ·exact⟨hgi,fun _ _=>False,fun i o hi=>absurd hi (hno i o),fun i k hk=>hk.elim⟩
 refine⟨K',fun k hk=>Or.inl hk,rfl,hr0,fun Y' st1 st2 w' hle h1 hb hnx1 hno1 hnx2 hget hobj=>?_⟩;have hrest:∀ (i:Nat) b,st.heap.get i=some b->b.live=true->(∀ c,st0.heap.get i=some c->c.live=false)->∃ l,Y i=some l/\Y' i=some l/\(l.virt=false->¬K l.blk/\gone l.blk)/\fH P Y' l b w'.heap[l.blk]?:=by
  intro i b hi hl hn;obtain⟨l,c1,c2,c3⟩:=h.blk i b hi hl;refine⟨l,c1,hle _ _ c1,fun hv=>⟨c2 hv,⟨i,b,l,hi,hl,hn,c1,hv,rfl⟩⟩,?_⟩;cases hv:l.virt with
  |true=>exact(c3.mono hle).anywhere hv _
  |false=>rw[hb.block l.blk (Or.inr (Or.inl ⟨i,b,l,hi,hl,hn,c1,hv,rfl⟩))]; exact c3.mono hle
 refine⟨fun k hk=>Nat.lt_of_lt_of_le (h.base k hk) hb.size,fun i l hi=>by rw[hnx2]; exact h1.dom i l hi,fun i b hi hl=>?_,fun i j bi bj li lj hi hbi hj hbj hli hlj v1 v2 e=>?_,fun i hi=>by rw[hnx2]; exact h1.res i hi,fun k l hk hf=>h1.nofz k l hk (Or.inl hf),fun k l hk=>?_,?_⟩
 ·rcases hget i b hi hl with g | ⟨_,g2,g3⟩
  ·obtain⟨l,c1,c2,c3⟩:=h1.blk i b g hl;exact⟨l,c1,fun hv hK=>c2 hv (Or.inl hK),c3⟩
  ·obtain⟨l,_,c1,c2,c3⟩:=hrest i b g3 hl g2;exact⟨l,c1,fun hv=>(c2 hv).1,c3⟩
 ·rcases hget i bi hi hbi with g | ⟨_,g2,g3⟩<;>rcases hget j bj hj hbj with g' | ⟨_,g2',g3'⟩
  ·exact h1.inj i j bi bj li lj g hbi g' hbj hli hlj v1 v2 e
  ·obtain⟨l,c0,c1,c2,_⟩:=hrest j bj g3' hbj g2';rw[c1]at hlj; obtain rfl:=Option.some.inj hlj;obtain⟨l',d1,d2,_⟩:=h1.blk i bi g hbi;rw[d1]at hli; obtain rfl:=Option.some.inj hli;exact absurd (Or.inr (Or.inl (e▸(c2 v2).2))) (d2 v1)
  ·obtain⟨l,c0,c1,c2,_⟩:=hrest i bi g3 hbi g2;rw[c1]at hli; obtain rfl:=Option.some.inj hli;obtain⟨l',d1,d2,_⟩:=h1.blk j bj g' hbj;rw[d1]at hlj; obtain rfl:=Option.some.inj hlj;exact absurd (Or.inr (Or.inl (e▸(c2 v1).2))) (d2 v2)
  ·obtain⟨l,c0,c1,_⟩:=hrest i bi g3 hbi g2;obtain⟨l',c0',c1',_⟩:=hrest j bj g3' hbj g2';rw[c1]at hli; obtain rfl:=Option.some.inj hli;rw[c1']at hlj; obtain rfl:=Option.some.inj hlj;exact h.inj i j bi bj _ _ g3 hbi g3' hbj c0 c0' v1 v2 e
 ·obtain⟨f1,f2,f3⟩:=h1.frz k l hk;refine⟨f1,f2,fun j bj lj hj hbj hlj hv=>?_⟩;rcases hget j bj hj hbj with g | ⟨_,g2,g3⟩
  ·exact f3 j bj lj g hbj hlj hv
  ·obtain⟨l',_,c1,c2,_⟩:=hrest j bj g3 hbj g2;rw[c1]at hlj; obtain rfl:=Option.some.inj hlj;intro e;exact h1.nofz k l hk (Or.inr (Or.inl (e▸(c2 hv).2)))
 ·refine⟨h1.objs.1,fp,fun i o hi=>?_,fun i k hk=>?_⟩
  ·have hi':st.heap.get i=some (.obj o):=by
    rcases hget i _ hi rfl with g | ⟨_,_,g⟩
    ·exact absurd g (hno1 i o)
    ·exact g
   obtain⟨l,a,b,c⟩:=o1 i o hi';refine⟨l,hle _ _ a,b,K.obs.mono _ _ _ _ _ _ _ c (vY hle) hb.size (fun k hk=>hb.block k (Or.inr (Or.inr ⟨i,hk⟩))) fun k l hk=>?_⟩;obtain⟨_,f2,_⟩:=h.frz k l hk;obtain⟨_,f2',_⟩:=h1.frz k l (hle _ _ hk);rw[f2,f2']
  ·obtain⟨⟨o,ho⟩,a1,a2,a3,a4,a5⟩:=o2 i k hk;have hdead:∀ c,st1.heap.get i=some c->c.live=false:=by
    intro c hc;cases hcl:c.live with
    |false=>rfl
    |true=>
     obtain⟨l',d1,d2,_⟩:=h1.blk i c hc hcl;obtain⟨l,e1,e2,e3⟩:=h.blk i _ ho rfl;have e3:l.virt=false:=e3;rw[hle _ _ e1]at d1;obtain rfl:=Option.some.inj d1;refine absurd (Or.inr (Or.inl ⟨i, .obj o,l,ho,rfl,fun c hc=>?_,e1,e3,rfl⟩)) (d2 e3);cases hcl:c.live with
     |false=>rfl
     |true=>
      have:=hsub i c hc hcl;rw[ho]at this;obtain rfl:=Option.some.inj this;exact absurd hc (hno i o)
   refine⟨⟨o,hobj i o ho hdead⟩,Nat.lt_of_lt_of_le a1 hb.size,a2,?_,a4,fun j bj lj hj hbj hlj hv e=>?_⟩
   ·cases hx:Y' (Int.negSucc k)with
    |none=>rfl
    |some l=>exact absurd (Or.inr (Or.inr ⟨i,hk⟩)) (h1.nofz k l hx)
   ·rcases hget j bj hj hbj with g | ⟨_,g2,g3⟩
    ·obtain⟨l',d1,d2,_⟩:=h1.blk j bj g hbj;rw[d1]at hlj; obtain rfl:=Option.some.inj hlj;exact absurd (Or.inr (Or.inr ⟨i,e▸hk⟩)) (d2 hv)
    ·obtain⟨l',c0,c1,_⟩:=hrest j bj g3 hbj g2;rw[c1]at hlj; obtain rfl:=Option.some.inj hlj;exact a5 j bj _ g3 hbj c0 hv e
structure Memo where
 g:FuncId
 args:List Value
 next:Nat
 pre:List (Nat×Blk)
 v:Value
 next':Nat
 post:List (Nat×Blk)
def Cb(l:List (Nat×Blk)):Trie Blk->Trie Blk:=
 @List.rec (Nat×Blk) (fun _=>Trie Blk->Trie Blk) (fun t=>t) (fun p _ ih t=>ih (bW (path p.1) t p.2)) l
def UB(l:List (Nat×Blk)):Trie Blk->Trie Blk:=
 @List.rec (Nat×Blk) (fun _=>Trie Blk->Trie Blk) (fun t=>t) (fun p _ ih t=>ih (bW (path p.1) t .dead)) l
def Jq(l:List (Nat×Blk))(next:Nat):St:=⟨Cb l .leaf,next⟩
def Vo:List MapEntry->List MapEntry->Bool
 |[],[]=>true
 |x::xs,y::ys=>dn x.key y.key&&dn x.val y.val&&Nat.beq x.born y.born&&Vo xs ys
 |_,_=>false
def EP:Blk->Blk->Bool
 | .cells c e x, .cells c' e' x'=>Nat.beq e e'&&(x == x')&&tV c c'
 | .map es c, .map es' c'=>Nat.beq c c'&&Vo es es'
 |_,_=>false
theorem Qw:∀ {a b:List MapEntry},Vo a b=true->a=b
 |[],[],_=>rfl
 |[],_::_,h=>by cases h
 |_::_,[],h=>by cases h
 |x::xs,y::ys,h=>by
  simp only[Vo,Bool.and_eq_true]at h;obtain⟨⟨⟨h1,h2⟩,h3⟩,h4⟩:=h;obtain⟨k,v,b⟩:=x;obtain⟨k',v',b'⟩:=y;simp only at h1 h2 h3;rw[sZ _ _ h1,sZ _ _ h2,Nat.eq_of_beq_eq_true h3,Qw h4]
theorem adf{a b:Blk}(h:EP a b=true):a=b:=by
 unfold EP at h;split at h
 ·simp only[Bool.and_eq_true,beq_iff_eq]at h;rw[Nat.eq_of_beq_eq_true h.1.1,h.1.2,E9 _ _ h.2]
 ·simp only[Bool.and_eq_true]at h;rw[Nat.eq_of_beq_eq_true h.1,Qw h.2]
 ·cases h
theorem VA{a b:Blk}(h:EP a b=true):a.live=true/\a.isObj=false:=by
 unfold EP at h;split at h<;>first | exact⟨rfl,rfl⟩ | cases h
def UZ(t:Trie Blk)(l:List (Nat×Blk)):Bool:=
 @List.rec (Nat×Blk) (fun _=>Bool) true (fun p _ ih=>match dF (path p.1) t with
  |some b=>@Bool.rec (fun _=>Bool) false ih (EP p.2 b)
  |none=>false) l
def Dx(l:List (Nat×Blk))(i:Nat)(d:Option Blk):Option Blk:=match l with
 |[]=>d
 |p::l=>Dx l i (if i=p.1 then some p.2 else d)
theorem y9:∀ (l:List (Nat×Blk)) (t:Trie Blk) (i:Nat),(Cb l t).get i=Dx l i (t.get i)
 |[],t,i=>rfl
 |p::l,t,i=>by
  show(Cb l (bW (path p.1) t p.2)).get i=_;rw[y9 l,bU,Trie.get_set]
  rfl
theorem YH:∀ (l:List (Nat×Blk)) (t:Trie Blk) (i:Nat),(UB l t).get i=if i∈l.map (·.1)then some .dead else t.get i
 |[],t,i=>by simp[UB]
 |p::l,t,i=>by
  show(UB l (bW (path p.1) t .dead)).get i=_;rw[YH l,bU,Trie.get_set];by_cases h:i∈l.map (·.1)
  ·rw[if_pos h,if_pos (by simp only[List.map_cons,List.mem_cons]; exact Or.inr h)]
  ·rw[if_neg h];by_cases h2:i=p.1
   ·rw[if_pos h2,if_pos (by simp[h2])]
   ·rw[if_neg h2,if_neg (by simp only[List.map_cons,List.mem_cons,not_or]; exact⟨h2,h⟩)]
theorem tq:∀ (l:List (Nat×Blk)) (i:Nat) (d:Option Blk),(i∉l.map (·.1)/\Dx l i d=d)\/(i∈l.map (·.1)/\∃ b,(i,b)∈l/\Dx l i d=some b)
 |[],i,d=>Or.inl ⟨by simp,rfl⟩
 |p::l,i,d=>by
  simp only[Dx];rcases tq l i (if i=p.1 then some p.2 else d)with⟨h1,h2⟩ | ⟨h1,b,h2,h3⟩
  ·by_cases h:i=p.1
   ·refine Or.inr ⟨by simp[h],p.2,by rw[h]; simp,?_⟩;rw[h2,if_pos h]
   ·refine Or.inl ⟨by simp only[List.map_cons,List.mem_cons,not_or]; exact⟨h,h1⟩,?_⟩;rw[h2,if_neg h]
  ·exact Or.inr ⟨by simp only[List.map_cons,List.mem_cons]; exact Or.inr h1,b,List.mem_cons_of_mem _ h2,h3⟩
theorem EU{t:Trie Blk}:∀ {l:List (Nat×Blk)},UZ t l=true->∀ {i b},(i,b)∈l->t.get i=some b/\b.live=true/\b.isObj=false
 |[],_,i,b,h=>by cases h
 |p::l,hm,i,b,h=>by
  change (match dF (path p.1) t with
   |some b=>@Bool.rec (fun _=>Bool) false (UZ t l) (EP p.2 b)
   |none=>false)=true at hm
  rw[cu]at hm;split at hm
  ·rename_i b' hb';cases hq:EP p.2 b' with
   |false=>rw[hq]at hm; cases hm
   |true=>
    rw[hq]at hm;rcases List.mem_cons.1 h with h | h
    ·subst h;obtain rfl:=adf hq;exact⟨hb',VA hq⟩
    ·exact EU hm h
  ·cases hm
def VD(P:Program)(m:Memo):Prop:=∀ K Y w args' cs,VRL Y m.args args'.toList->Rel P K Y (Jq m.pre m.next) w->lL P K Y m.g args' .normal cs w m.v (Jq m.post m.next')/\m.next<=m.next'/\∀ i b,(i,b)∈m.post->b.live=true/\b.isObj=false
def aa_(m:Memo)(v:Value)(st:St):Res:=
 @Bool.rec (fun _=>Res) none (some (.bool true,st)) (and (dn m.v v) (and (Nat.beq m.next' st.next) (and (UZ st.heap m.post) (Nat.ble m.next m.next'))))
def abX(P:Program)(E:Eng)(ct:Ct)(n:Nat)(m:Memo):Bool:=
 match(oI P E ct n n).call m.g m.args (Jq m.pre m.next) (aa_ m)with
 |some _=>true
 |none=>false
theorem VD.of{E:Eng}(hE:EngOk P ct E)(hN:noNum P=true)(hct:CtOk P ct){n:Nat}{m:Memo}(h:abX P E ct n m=true):VD P m:=by
 intro K Y w args' cs ha hr;unfold abX at h;split at h
 ·rename_i r hk;obtain⟨i,v1,st1,h1,h2⟩:=(jc hE n n).call _ _ _ _ _ hk;obtain⟨Y1,fr,w1,v',a1,a2,a3,a4,a5,a6⟩:=(eX hN hct i K).call m.g m.args (Jq m.pre m.next) v1 st1 h1 Y w args' .normal cs (Or.inl rfl) ha hr;unfold aa_ at h2;cases hb:(and (dn m.v v1) (and (Nat.beq m.next' st1.next) (and (UZ st1.heap m.post) (Nat.ble m.next m.next'))))with
  |false=>rw[hb]at h2; cases h2
  |true=>
   simp only[Bool.and_eq_true]at hb;obtain⟨b1,b2,b3,b4⟩:=hb;obtain rfl:=sZ _ _ b1;have b2:=Nat.eq_of_beq_eq_true b2;refine⟨⟨Y1,fr,w1,v',a1,a2,?_,a4,a5,a6⟩,Nat.le_of_ble_eq_true b4,fun i b hi=>(EU b3 hi).2⟩;have hg:∀ i b,(Jq m.post m.next').heap.get i=some b->st1.heap.get i=some b/\b.isObj=false:=by
    intro i b hi;have:(Jq m.post m.next').heap.get i=Dx m.post i none:=by
     show(Cb m.post .leaf).get i=_;rw[y9]; rfl
    rw[this]at hi;rcases tq m.post i none with⟨_,e⟩ | ⟨_,b',hb',e⟩
    ·rw[e]at hi; cases hi
    ·rw[e]at hi; obtain rfl:=Option.some.inj hi;obtain⟨q1,q2,q3⟩:=EU b3 hb';exact⟨q1,q3⟩
   refine⟨a3.base,fun i l hi=>by show i<m.next'/\_; rw[b2]; exact a3.dom i l hi,fun i b hi hl=>a3.blk i b (hg i b hi).1 hl,fun i j bi bj li lj hi hbi hj hbj=>a3.inj i j bi bj li lj (hg i bi hi).1 hbi (hg j bj hj).1 hbj,
    fun i hi=>by show i<m.next'/\_; rw[b2]; exact a3.res i hi,a3.nofz,fun k l hk=>?_,?_⟩
   ·obtain⟨f1,f2,f3⟩:=a3.frz k l hk;exact⟨f1,f2,fun j bj lj hj hbj=>f3 j bj lj (hg j bj hj).1 hbj⟩
   ·exact⟨a3.objs.1,fun _ _=>False,fun i o hi=>(by have:=(hg i _ hi).2; cases this),fun i k hk=>hk.elim⟩
 ·cases h
end
section
variable{P:Program}{ct:Ct}
def qE(Z:Nat->Option Nat):Blk->Blk
 | .cells c e x=> .cells (renL true Z c) e x
 | .map es c=> .map (UN true Z es) c
 | .siter s p=> .siter s p
 |_=> .dead
theorem OV{Z:Nat->Option Nat}{Y Y':Env}(h:RenOk true Z Y Y'){l:Loc}{b:Blk}{o:Option Obj}(r:fH P Y l b o):fH P Y' l (qE Z b) o:=by
 cases b with
 |cells c e x=>exact u_ h (b:= .cells c e x) r
 |map es c=>exact u_ h (b:= .map es c) r
 |siter s p=>exact u_ h (b:= .siter s p) r
 |_=>exact trivial
theorem mW{Z:Nat->Option Nat}{b:Blk}(h:(qE Z b).live=true):b.live=true:=by cases b<;>first | rfl | cases h
theorem zf{Z:Nat->Option Nat}{b:Blk}{o:Ob}:qE Z b≠ .obj o:=by cases b<;>simp[qE]
def wI(l:List Nat):Trie Blk->Trie Blk:=@List.rec Nat (fun _=>Trie Blk->Trie Blk) (fun t=>t) (fun i _ ih t=>ih (bW (path i) t .dead)) l
theorem BH:∀ (l:List Nat) (t:Trie Blk) (i:Nat),(wI l t).get i=if i∈l then some .dead else t.get i
 |[],t,i=>by simp[wI]
 |p::l,t,i=>by
  show(wI l (bW (path p) t .dead)).get i=_;rw[BH l,bU,Trie.get_set];by_cases h:i∈l
  ·rw[if_pos h,if_pos (List.mem_cons_of_mem _ h)]
  ·rw[if_neg h];by_cases h2:i=p
   ·rw[if_pos h2,if_pos (by simp[h2])]
   ·rw[if_neg h2,if_neg (by simp only[List.mem_cons,not_or]; exact⟨h2,h⟩)]
theorem KH{g:Value->Value}:∀ (ts:List Tmp) (vs:List Value) (s s':Trie Value),(∀ i,(s'.get i).getD undef=g ((s.get i).getD undef))->∀ i,((lW ts (vs.map g) s').get i).getD undef=g (((lW ts vs s).get i).getD undef)
 |[],[],s,s',h,i=>by simpa [lW]using h i
 |[],v::vs,s,s',h,i=>by simpa [lW]using h i
 |t::ts,[],s,s',h,i=>by simpa [lW]using h i
 |t::ts,v::vs,s,s',h,i=>by
  simp only[List.map_cons,lW];refine KH ts vs _ _ (fun j=>?_) i;rw[bU,bU,Trie.get_set,Trie.get_set];by_cases hj:j=t
  ·rw[if_pos hj,if_pos hj]; rfl
  ·rw[if_neg hj,if_neg hj]; exact h j
theorem acn{g:Value->Value}(h1:g qW=qW)(h2:g undef=undef)(nt:Nat)(L:List Tmp)(vs:List Value)(i:Nat):((mkS nt L (vs.map g)).get i).getD undef=g (((mkS nt L vs).get i).getD undef):=by
 unfold mkS;refine KH L vs _ _ (fun j=>?_) i;rw[qI];split
 ·rename_i hj;simp only[List.length_replicate]at hj;rw[List.getElem?_replicate,if_pos (by omega)];exact h1.symm
 ·show undef=g undef;exact h2.symm
theorem Yi{z:Bool}{Z:Nat->Option Nat}:fM z Z undef=undef:=by
 unfold undef; rfl
end
section
variable{P:Program}{ct:Ct}
def bZ:List Nat->Nat->Nat->Option Nat
 |[],n,j=>some (n+j)
 |b::l,n,j=>match j with
  |0=>some b
  |j+1=>bZ l n j
theorem vU:∀ (l:List Nat) (n j:Nat),j<l.length->bZ l n j=l[j]?
 |[],n,j,h=>by simp at h
 |b::l,n,0,h=>rfl
 |b::l,n,j+1,h=>by simpa [bZ]using vU l n j (by simpa using h)
theorem vT:∀ (l:List Nat) (n j:Nat),l.length<=j->bZ l n j=some (n+(j-l.length))
 |[],n,j,h=>rfl
 |b::l,n,0,h=>by simp at h
 |b::l,n,j+1,h=>by
  have:=vT l n j (by simpa using h);simpa [bZ,Nat.add_sub_add_right]using this
def og(Z:Nat->Option Nat)(src:List Nat):List Blk->Nat->Trie Blk->Trie Blk:=
 @List.rec Nat (fun _=>List Blk->Nat->Trie Blk->Trie Blk) (fun bs n t=>zk (bs.map (qE Z)) n t)
  (fun b _ ih bs n t=>match bs with
   |x::bs=>ih bs n (bW (path b) t (qE Z x))
   |[]=>t) src
def CB(src:List Nat)(st:St)(bs:List Blk):St:=⟨og (bZ src st.next) src bs st.next st.heap,st.next+(bs.length-src.length)⟩
theorem ng{Z:Nat->Option Nat}:∀ (src:List Nat) (bs:List Blk) (n:Nat) (t:Trie Blk) (i:Nat),src.Nodup->src.length<=bs.length->(∀ b∈src,b<n)->
  (∃ j:Nat,src[j]? = some i/\(og Z src bs n t).get i=(bs[j]?).map (qE Z))\/(i∉src/\(og Z src bs n t).get i=if n<=i/\i<n+(bs.length-src.length)then(bs[i-n+src.length]?).map (qE Z)else t.get i)
 |[],bs,n,t,i,_,_,_=>by
  refine Or.inr ⟨by simp,?_⟩;show(zk (bs.map (qE Z)) n t).get i=_;rw[qI];simp only[List.length_map,List.getElem?_map,List.length_nil,Nat.sub_zero,Nat.add_zero]
 |b::l,[],n,t,i,_,h,_=>by simp at h
 |b::l,x::bs,n,t,i,hnd,h,hlt=>by
  obtain⟨hb,hnd⟩:=List.nodup_cons.1 hnd;have e:og Z (b::l) (x::bs) n t=og Z l bs n (bW (path b) t (qE Z x)):=rfl;rw[e];rcases ng l bs n (bW (path b) t (qE Z x)) i hnd (by simpa using h) (fun c hc=>hlt c (List.mem_cons_of_mem _ hc))with⟨j,h1,h2⟩ | ⟨h1,h2⟩
  ·exact Or.inl ⟨j+1,by simpa using h1,by simpa using h2⟩
  ·by_cases hib:i=b
   ·subst hib;refine Or.inl ⟨0,rfl,?_⟩;have:=hlt i (by simp);rw[h2,if_neg (by omega),bU,Trie.get_set,if_pos rfl]; rfl
   ·refine Or.inr ⟨by simp only[List.mem_cons,not_or]; exact⟨hib,h1⟩,?_⟩;rw[h2,bU,Trie.get_set,if_neg hib];simp only[List.length_cons,Nat.add_sub_add_right];rw[show i-n+(l.length+1)=(i-n+l.length)+1 by omega,List.getElem?_cons_succ]
theorem Ad:∀ {l:List Nat} {i j a:Nat},l.Nodup->l[i]? = some a->l[j]? = some a->i=j
 |[],i,j,a,_,h,_=>by simp at h
 |x::l,0,0,a,_,_,_=>rfl
 |x::l,0,j+1,a,hnd,h1,h2=>by
  have h1:x=a:=by simpa using h1
  subst h1;exact absurd (List.mem_of_getElem? (by simpa using h2)) (List.nodup_cons.1 hnd).1
 |x::l,i+1,0,a,hnd,h1,h2=>by
  have h2:x=a:=by simpa using h2
  subst h2;exact absurd (List.mem_of_getElem? (by simpa using h1)) (List.nodup_cons.1 hnd).1
 |x::l,i+1,j+1,a,hnd,h1,h2=>by
  exact congrArg (·+1) (Ad (List.nodup_cons.1 hnd).2 (show l[i]? = some a by simpa using h1) (show l[j]? = some a by simpa using h2))
def CRM(P:Program)(g:FuncId)(args:List Value)(bs:List Blk)(v:Value)(bs':List Blk):Prop:=
 ∀ (K:Prot) (Y:Env) (w:World) (args':Array Value) (cs:List Frame),(∀ i,¬K.id i)->VRL Y args args'.toList->Rel P K Y (mkSt bs) w->lL P K Y g args' .normal cs w v (mkSt bs')/\bs.length<=bs'.length
def jU(src:List Nat)(n:Nat)(Y Y1:Env):Env
 | .ofNat i=>if i<n then Y (i:Int)else Y1 ((i-n+src.length:Nat):Int)
 | .negSucc k=>Y1 (.negSucc k)
theorem af5{K:Prot}{Y:Env}{st:St}{w:World}(h:Rel P K Y st w){src:List Nat}(hnd:src.Nodup)(hcells:∀ b∈src,∃ x,st.heap.get b=some x/\H_ x=true) :
  ∃ K':Prot,(∀ k,K k->K' k)/\(∀ i,¬K'.id i)/\Rel P K' (iM 0 src Y) (mkSt (src.map fun b=>jW true (rhoO 0 src) (st.heap.get b))) w/\
   ∀ (Y1:Env) (bs1:List Blk) (w1:World),(iM 0 src Y).le Y1->src.length<=bs1.length->Rel P K' Y1 (mkSt bs1) w1->Bel K' w w1->
    Y.le (jU src st.next Y Y1)/\Rel P K (jU src st.next Y Y1) (CB src st bs1) w1/\RenOk true (bZ src st.next) Y1 (jU src st.next Y Y1):=by
 let st0:St:=⟨Cb (src.map fun b=>(b,(st.heap.get b).getD .dead)) .leaf,st.next⟩
 have h0:∀ i,st0.heap.get i=if i∈src then st.heap.get i else none:=by
  intro i;show(Cb _ .leaf).get i=_;rw[y9];rcases tq (src.map fun b=>(b,(st.heap.get b).getD .dead)) i ((Trie.leaf:Trie Blk).get i)with⟨n,e⟩ | ⟨n,b',hb',e⟩
  ·rw[e];have:i∉src:=fun hi=>n (by simp only[List.map_map,List.mem_map]; exact⟨i,hi,rfl⟩);rw[if_neg this]; rfl
  ·rw[e];obtain⟨j,hj,hje⟩:=List.mem_map.1 hb';simp only[Prod.mk.injEq]at hje;obtain⟨rfl,rfl⟩:=hje;obtain⟨x,hc,hcm⟩:=hcells j hj;rw[if_pos hj,hc]; rfl
 obtain⟨K1,k1,k2,k3,k4⟩:=h.part (st0:=st0) rfl (fun i b hi _=>by
  rw[h0]at hi;split at hi
  ·exact hi
  ·cases hi) (fun i o hi=>by
  rw[h0]at hi;split at hi
  ·rename_i hm;obtain⟨x,hc,hcm⟩:=hcells i hm;rw[hc]at hi; cases hi; cases hcm
  ·cases hi)
 let K':Prot:=⟨K1.blk,fun _=>False,K1.nofz,K1.obs,K1.sub⟩
 have r0:Rel P K' Y st0 w:=⟨k3.base,k3.dom,k3.blk,k3.inj,fun i hi=>hi.elim,k3.nofz,k3.frz,k3.objs⟩
 have hmid:=kG (N:=0) (src:=src) r0 (fun i hi=>hi.elim) (Nat.zero_le _) hnd (fun b hb=>by
  obtain⟨x,hc,hcm⟩:=hcells b hb;exact⟨x,by rw[h0,if_pos hb]; exact hc,hcm⟩)
 have hms:(src.map fun b=>jW true (rhoO 0 src) (st0.heap.get b))=src.map fun b=>jW true (rhoO 0 src) (st.heap.get b):=by
  apply List.map_congr_left;intro b hb;rw[h0,if_pos hb]
 have hsrc:∀ b∈src,∃ l,Y (b:Int)=some l/\b<st.next:=by
  intro b hb;obtain⟨x,hc,hcm⟩:=hcells b hb;obtain⟨l,hl,_⟩:=h.blk b _ hc (J8 hcm);exact⟨l,hl,(h.dom b l hl).1⟩
 refine⟨K',k1,fun i hi=>hi,by rw[<-hms]; exact hmid,fun Y1 bs1 w1 hle hlen h1 hb=>?_⟩;have hneg:∀ k l,Y (Int.negSucc k)=some l->Y1 (Int.negSucc k)=some l:=fun k l hk=>hle (Int.negSucc k) l hk;have hre:∀ (j b:Nat),src[j]? = some b->Y1 (j:Int)=Y (b:Int):=by
  intro j b hj;obtain⟨l,hl,_⟩:=hsrc b (List.mem_of_getElem? hj);rw[hl];refine hle j l ?_;show(if j<0 then Y (j:Int)else match src[j-0]? with | some b=>Y (b:Int) | none=>none)=_;rw[if_neg (by omega),Nat.sub_zero,hj]; exact hl
 have hple:Y.le (jU src st.next Y Y1):=by
  intro i l hi;cases i with
  |negSucc k=>exact hneg k l hi
  |ofNat i=>
   have:=(h.dom i l hi).1;show(if i<st.next then Y (i:Int)else _)=_;rw[if_pos this]; exact hi
 have hold:∀ i,i<st.next->jU src st.next Y Y1 (i:Int)=Y (i:Int):=by
  intro i hi;show(if i<st.next then Y (i:Int)else _)=_;rw[if_pos hi]
 have hbig:∀ i,st.next<=i->jU src st.next Y Y1 (i:Int)=Y1 ((i-st.next+src.length:Nat):Int):=by
  intro i hi;show(if i<st.next then Y (i:Int)else _)=_;rw[if_neg (by omega)]
 have hren:RenOk true (bZ src st.next) Y1 (jU src st.next Y Y1):=by
  refine⟨fun b b' l hb hl=>?_,fun _ k l hk=>hk⟩;by_cases hbl:b<src.length
  ·rw[vU _ _ _ hbl]at hb;rw[hold b' (hsrc b' (List.mem_of_getElem? hb)).choose_spec.2,<-hre b b' hb]; exact hl
  ·rw[vT _ _ _ (by omega)]at hb;obtain rfl:=Option.some.inj hb;rw[hbig _ (Nat.le_add_right _ _),show st.next+(b-src.length)-st.next+src.length=b by omega]; exact hl
 have hfrom:∀ (t:Trie Blk) (i:Nat) b,(og (bZ src st.next) src bs1 st.next t).get i=some b->(∃ (j:Nat) (b0:Blk),bs1[j]? = some b0/\b=qE (bZ src st.next) b0/\jU src st.next Y Y1 (i:Int)=Y1 (j:Int)/\bZ src st.next j=some i/\(i∈src\/st.next<=i/\i<st.next+(bs1.length-src.length)))\/(i∉src/\¬(st.next<=i/\i<st.next+(bs1.length-src.length))/\t.get i=some b):=by
  intro t i b hi;rcases ng src bs1 st.next t i hnd hlen (fun b hb=>(hsrc b hb).choose_spec.2)with⟨j,g1,g2⟩ | ⟨g1,g2⟩
  ·rw[g2]at hi;cases hx:bs1[j]? with
   |none=>rw[hx]at hi; cases hi
   |some b0=>
    rw[hx]at hi;have hm:=List.mem_of_getElem? g1;refine Or.inl ⟨j,b0,hx,(Option.some.inj hi).symm,?_,?_,Or.inl hm⟩
    ·rw[hold i (hsrc i hm).choose_spec.2,hre j i g1]
    ·rw[vU _ _ _ (List.getElem?_eq_some_iff.1 g1).1]; exact g1
  ·rw[g2]at hi;split at hi
   ·rename_i hr;cases hx:bs1[i-st.next+src.length]? with
    |none=>rw[hx]at hi; cases hi
    |some b0=>
     rw[hx]at hi;refine Or.inl ⟨_,b0,hx,(Option.some.inj hi).symm,hbig i hr.1,?_,Or.inr hr⟩;rw[vT _ _ _ (by omega)];congr 1;omega
   ·rename_i hr;exact Or.inr ⟨g1,hr,hi⟩
 have hlone:∀ (i:Nat) b,(CB src ⟨.leaf,st.next⟩ bs1).heap.get i=some b->∃ (j:Nat) (b0:Blk),(mkSt bs1).heap.get j=some b0/\b=qE (bZ src st.next) b0/\jU src st.next Y Y1 (i:Int)=Y1 (j:Int)/\bZ src st.next j=some i:=by
  intro i b hi;rcases hfrom .leaf i b hi with⟨j,b0,g1,g2,g3,g4,_⟩ | ⟨_,_,g⟩
  ·exact⟨j,b0,by rw[dS]; exact g1,g2,g3,g4⟩
  ·cases g
 have hnx:(mkSt bs1).next=bs1.length:=rfl
 have rl:Rel P K1 (jU src st.next Y Y1) (CB src ⟨.leaf,st.next⟩ bs1) w1:=by
  refine⟨h1.base,fun i l hi=>?_,fun i b hi hl=>?_,fun i j bi bj li lj hi hbi hj hbj hli hlj v1 v2 e=>?_,fun i hi=>?_,fun k l hk=>h1.nofz k l hk,fun k l hk=>?_,h1.objs.1.neg fun _ _ h=>h,fun _ _=>False,fun i o hi=>?_,fun i k hk=>hk.elim⟩
  ·by_cases hin:i<st.next
   ·rw[hold i hin]at hi;obtain⟨a1,a2⟩:=h.dom i l hi;exact⟨Nat.lt_of_lt_of_le a1 (Nat.le_add_right _ _),fun hv=>Nat.lt_of_lt_of_le (a2 hv) hb.size⟩
   ·rw[hbig i (by omega)]at hi;obtain⟨a1,a2⟩:=h1.dom _ l hi;exact⟨by show i<st.next+(bs1.length-src.length); omega,a2⟩
  ·obtain⟨j,b0,a2,rfl,a3,_⟩:=hlone i b hi;obtain⟨l,c1,c2,c3⟩:=h1.blk _ b0 a2 (mW hl);exact⟨l,by rw[a3]; exact c1,c2,OV hren c3⟩
  ·obtain⟨i',b0,a2,rfl,a3,a4⟩:=hlone i bi hi;obtain⟨j',d0,c2,rfl,c3,c4⟩:=hlone j bj hj;rw[a3]at hli;rw[c3]at hlj;have:=h1.inj _ _ b0 d0 li lj a2 (mW hbi) c2 (mW hbj) hli hlj v1 v2 e;rw[this,c4]at a4;exact(Option.some.inj a4).symm
  ·rw[k2]at hi;obtain⟨a1,a2⟩:=h.res i hi;exact⟨Nat.lt_of_lt_of_le a1 (Nat.le_add_right _ _),by rw[hold i a1]; exact a2⟩
  ·obtain⟨f1,f2,f3⟩:=h1.frz k l hk;refine⟨f1,f2,fun j bj lj hj hbj hlj hv=>?_⟩;obtain⟨j',d0,c2,rfl,c3,_⟩:=hlone j bj hj;rw[c3]at hlj;exact f3 _ d0 lj c2 (mW hbj) hlj hv
  ·obtain⟨_,b0,_,e,_⟩:=hlone i _ hi;exact(zf e.symm).elim
 refine⟨hple,k4 _ (CB src ⟨.leaf,st.next⟩ bs1) _ w1 hple rl ⟨hb.os,hb.tape,hb.output,hb.size,hb.block⟩ (Nat.le_add_right _ _) (fun i o hi=>?_) rfl (fun i b hi hl=>?_) (fun i o hi hdead=>?_),hren⟩
 ·obtain⟨_,b0,_,e,_⟩:=hlone i _ hi;exact(zf e.symm).elim
 ·have hq:=ng (Z:=bZ src st.next) src bs1 st.next .leaf i hnd hlen (fun b hb=>(hsrc b hb).choose_spec.2)
  have hq2:=ng (Z:=bZ src st.next) src bs1 st.next st.heap i hnd hlen (fun b hb=>(hsrc b hb).choose_spec.2)
  have hi:(og (bZ src st.next) src bs1 st.next st.heap).get i=some b:=hi;rcases hq2 with⟨j,g1,g2⟩ | ⟨g1,g2⟩
  ·refine Or.inl ?_;rcases hq with⟨j',g1',g2'⟩ | ⟨g1',_⟩
   ·have:j'=j:=Ad hnd g1' g1;subst this;show(og _ src bs1 st.next .leaf).get i=_;rw[g2',<-g2]; exact hi
   ·exact absurd (List.mem_of_getElem? g1) g1'
  ·rcases hq with⟨j',g1',g2'⟩ | ⟨g1',g2'⟩
   ·exact absurd (List.mem_of_getElem? g1') g1
   ·rw[g2]at hi;split at hi
    ·rename_i hr;refine Or.inl ?_;show(og _ src bs1 st.next .leaf).get i=_;rw[g2',if_pos hr]; exact hi
    ·rename_i hr;refine Or.inr ⟨fun c hc=>?_,fun c hc=>?_,hi⟩
     ·have hc:(og _ src bs1 st.next .leaf).get i=some c:=hc;rw[g2',if_neg hr]at hc; cases hc
     ·rw[h0,if_neg g1]at hc; cases hc
 ·obtain⟨l,hl,_⟩:=h.blk i _ hi rfl;have hlt:=(h.dom i l hl).1;show(og _ src bs1 st.next st.heap).get i=_;rcases ng (Z:=bZ src st.next) src bs1 st.next st.heap i hnd hlen (fun b hb=>(hsrc b hb).choose_spec.2)with⟨j,g1,g2⟩ | ⟨g1,g2⟩
  ·obtain⟨x,hc,hcm⟩:=hcells i (List.mem_of_getElem? g1);rw[hi]at hc; cases hc; cases hcm
  ·rw[g2,if_neg (by omega)]; exact hi
abbrev iG:=List Value->List Blk->Option (DT (Value×List Blk))
structure CallOkM(P:Program)(g:FuncId)(R:iG):Prop where
 run:∀ args bs t,R args bs=some t->∀ v bs',t.eval=some (v,bs')->CRM P g args bs v bs'
theorem BF(src:List Nat)(Y:Env):RenOk true (rhoO 0 src) Y (iM 0 src Y):=by
 refine⟨fun b b' l hb hl=>?_,fun _ k l h=>h⟩;unfold rhoO at hb;split at hb
 ·rename_i j hj;obtain rfl:=Option.some.inj hb;obtain⟨k,rfl,hk⟩:=oP _ _ _ _ hj;show(if 0+k<0 then Y ((0+k:Nat):Int)else match src[0+k-0]? with | some b=>Y (b:Int) | none=>none)=_;rw[if_neg (by omega),show 0+k-0=k by omega,hk]; exact hl
 ·split at hb
  ·rename_i hle;exact absurd (Nat.le_of_ble_eq_true hle) (by omega)
  ·cases hb
def Yx(P:Program)(E:Eng)(ct:Ct)(n:Nat)(g:FuncId)(args:List Value)(bs:List Blk)(new:List Nat):Res:=
 (oI P E ct n n).call g args (mkSt bs) fun v st=>match oq bs.length new (fun i=>dF (path i) st.heap) new with
  |some ms=>@Bool.rec (fun _=>Res) none (some (fM true (rhoO bs.length new) v,mkSt (pF bs.length new (fun i=>dF (path i) st.heap) bs.length 0++ms))) (Nat.ble bs.length st.next)
  |none=>none
theorem CRM.of{E:Eng}(hE:EngOk P ct E)(hN:noNum P=true)(hct:CtOk P ct){n:Nat}{g:FuncId}{args:List Value}{bs:List Blk}{new:List Nat}{v:Value}{bs':List Blk}(h:Yx P E ct n g args bs new=some (v,mkSt bs'))(hlen:bs.length<=bs'.length):CRM P g args bs v bs':=by
 intro K Y w args' cs hid ha hr;refine⟨?_,hlen⟩;unfold Yx at h;obtain⟨m,v1,st1,h1,h2⟩:=(jc hE n n).call _ _ _ _ _ h;obtain⟨Y1,fr,w1,v',a1,a2,a3,a4,a5,a6⟩:=(eX hN hct m K).call g args (mkSt bs) v1 st1 h1 Y w args' .normal cs (Or.inl rfl) ha hr;split at h2
 ·rename_i ms hm;cases hb:Nat.ble bs.length st1.next with
  |false=>rw[hb]at h2; cases h2
  |true=>
   rw[hb]at h2;simp only[Option.some.injEq,Prod.mk.injEq]at h2;obtain⟨rfl,hst⟩:=h2;obtain⟨m1,m2,m3⟩:=kH hm;simp only[cu]at m2 m3 hst;have hmid:=kG (N:=bs.length) (src:=new) a3 (fun i hi=>(hid i hi).elim) (Nat.le_of_ble_eq_true hb) m1 m2;have hren:RenOk true (rhoO bs.length new) Y1 (iM bs.length new Y1):=by
    refine⟨fun b b' l hb hl=>?_,fun _ k l h=>h⟩;unfold rhoO at hb;split at hb
    ·rename_i j hj;obtain rfl:=Option.some.inj hb;obtain⟨k,rfl,hk⟩:=oP _ _ _ _ hj;show(if bs.length+k<bs.length then Y1 ((bs.length+k:Nat):Int)else match new[bs.length+k-bs.length]? with | some b=>Y1 (b:Int) | none=>none)=_;rw[if_neg (by omega),show bs.length+k-bs.length=k by omega,hk]; exact hl
    ·split at hb
     ·rename_i hle;obtain rfl:=Option.some.inj hb;have:b<bs.length:=Nat.le_of_ble_eq_true hle;show(if b<bs.length then Y1 (b:Int)else _)=_;rw[if_pos this]; exact hl
     ·cases hb
   refine⟨iM bs.length new Y1,fr,w1,v',a1,fun i l hi=>?_,?_,a4,iK hren _ _ a5,a6⟩
   ·cases i with
    |negSucc k=>exact a2 _ _ hi
    |ofNat i=>
     have:i<bs.length:=(hr.dom i l hi).1;show(if i<bs.length then Y1 (i:Int)else _)=_;rw[if_pos this]; exact a2 _ _ hi
   ·rw[<-hst,m3]; exact hmid
 ·cases h2
end
end Go.VS
end

noncomputable section
namespace Go.VS

section
variable{P:Program}{K:Prot}{Y:Env}{st:St}{w:World}
theorem V8(hr:Rel P K Y st w){a:Addr}{c:List Value}{e:TypeId}{len:Nat}{v':Value}(hg:st.heap.get a.block=some (.cells c e false))(ho:a.off<=c.length)(hv:VR Y (.slice (some a) len unk) v') :
  ∃ Y',Y.le Y'/\Rel P K Y' (newRow (kill st a.block) (c.drop a.off) e false).2 w/\VR Y' (.slice (some (newRow (kill st a.block) (c.drop a.off) e false).1) len unk) v':=by
 simp only[VR]at hv;obtain⟨hs,l,hl,hsl⟩:=hv;obtain⟨l',k1,hbk⟩:=hr.get_cells hg;obtain rfl:l'=l:=by rw[k1]at hl; exact Option.some.inj hl
 rcases hbk with⟨hvt,hc,_⟩ | ⟨hvt,k2,cc,f,k3,k4,k5,k6,k7,k8,k9⟩
 ·subst hc;have hk:=hr.kill a.block (by intro o e; rw[hg]at e; cases e);have hv:=hk.virt e 0 0;refine⟨_,hk.le_put _,by rw[List.drop_nil]; exact hv,⟨rfl,_,bV _ _ _,?_⟩⟩;unfold bP at hsl ⊢;rw[if_pos hvt]at hsl;rw[if_pos rfl];exact⟨hsl.1,rfl,Or.inr rfl,hsl.2.2.2⟩
 ·unfold bP at hsl;rw[if_neg (by simp[hvt]),if_neg (by simp),if_pos rfl]at hsl;refine⟨Y.put st.next ⟨l'.blk,l'.base+a.off,l'.total-a.off,l'.esize,none,false⟩,hr.le_put _,hr.move hg rfl rfl rfl k1 hvt rfl rfl rfl (fun _ _=>rfl) ?_,⟨rfl,_,bV _ _ _,?_⟩⟩
  ·refine fH.mono (hr.le_put _) (Or.inr ⟨rfl,cc,f,k3,k4,by show l'.base+a.off+(l'.total-a.off)<=_; omega,by rw[List.length_drop]; show _<=l'.total-a.off; omega,fun h=>(by cases h),?_,k9.1,fun _=>by have:=k9.2 rfl; show l'.total-a.off<9223372036854775808*l'.esize; omega⟩);have hh:=k8.drop a.off;rw[List.drop_take,List.drop_drop]at hh;rw[List.length_drop];exact hh
  ·unfold bP;rw[if_neg (by simp),if_neg (by simp),if_pos rfl];refine⟨?_,Nat.zero_le _⟩;rw[hsl.1];show _=Value.slice (some ⟨l'.blk,l'.base+a.off+0,none⟩) len ((l'.total-a.off-0) / l'.esize)
   rfl
def jG{J:Type}(b:Bool)(t:DT J):DT J:= .ite b t .fail
theorem gB{J:Type}{b:Bool}{t:DT J}{r:J}(h:(jG b t).eval=some r):b=true/\t.eval=some r:=by
 cases b with
 |true=>exact⟨rfl,h⟩
 |false=>cases h
def TW{J:Type}(str:Bool)(size:Nat)(st:St)(x:Value)(k:Nat->List Value->DT J):DT J:=match str with
 |false=>match x with
  | .slice (some a) n _=>match a.spot,dF (path a.block) st.heap with
   |none,some (.cells c _ _)=>jG (Nat.ble (Nat.add a.off (Nat.mul n size)) c.length) (k n (takeC (Nat.mul n size) (ak a.off c)))
   |_,_=> .fail
  | .slice none n _=>jG (Nat.beq n 0) (k 0 [])
  | .iface t v=>match jX (.iface t v)with
   |some z=>jG (Nat.beq z.sz size) (k z.n z.cells)
   |none=> .fail
  |_=> .fail
 |true=>match x with
  | .string b=>jG (Nat.beq size 1) (k b.size (byteCells b))
  |_=> .fail
theorem UX{J:Type}{str:Bool}{size:Nat}{x:Value}{k:Nat->List Value->DT J}{r:J}{xt:TypeDesc}(hxt:(match xt with | .slice _=>some false | .string=>some true | _=>none)=some str)(h:(TW str size st x k).eval=some r) :
  ∃ n new,jQ st size xt x=some (n,new)/\(k n new).eval=some r:=by
 unfold TW at h;split at h
 ·have hx:∃ e,xt = .slice e:=by
   cases xt<;>simp at hxt ⊢
  obtain⟨e,rfl⟩:=hx;split at h
  ·rename_i a n cap;split at h
   ·rename_i c e' ex hs hg;rw[cu]at hg;obtain⟨hle,h3⟩:=gB h;have hle:a.off+n*size<=c.length:=Nat.le_of_ble_eq_true hle;exact⟨n,(c.drop a.off).take (n*size),by simp only[jQ,cellsAt,hs,hg,Option.isSome_none,Bool.false_eq_true,if_false,hle,if_true],h3⟩
   ·cases h
  ·rename_i n cap;obtain⟨hc,h⟩:=gB h;exact⟨_,_,by simp only[jQ,Nat.eq_of_beq_eq_true hc,if_true],h⟩
  ·rename_i t v;split at h
   ·rename_i z hz;obtain⟨hc,h⟩:=gB h;exact⟨_,_,by simp only[jQ,hz,Nat.eq_of_beq_eq_true hc,if_true],h⟩
   ·cases h
  ·cases h
 ·have hx:xt = .string:=by
   cases xt<;>simp at hxt ⊢
  subst hx;split at h
  ·rename_i b;obtain⟨hc,h⟩:=gB h;exact⟨_,_,by simp only[jQ,Nat.eq_of_beq_eq_true hc,if_true],h⟩
  ·cases h
def gI(off:Nat)(c:List Value):List Value:=match off with
 |0=>c
 |k+1=>ak (k+1) c
theorem acK(off:Nat)(c:List Value):gI off c=c.drop off:=by cases off<;>rfl
def aa3(e:TypeId)(size n:Nat)(new:List Value)(st:St)(s:Value):Option (DT (Value×St)):=match s with
 | .slice none len cap=>some (jG (and (Nat.beq len 0) (and (Nat.beq cap 0) (Nat.ble n big))) (.leaf (.slice (some ⟨st.next,0,none⟩) n unk,⟨bW (path st.next) st.heap (.cells new e false),Nat.succ st.next⟩)))
 | .slice (some a) len cap=>match Nat.beq cap unk with
  |true=>match a.spot,dF (path a.block) st.heap with
   |none,some (.cells c e' ex)=>some (jG (and (not ex) (Nat.beq e' e)) (jG (Nat.ble (Nat.add len n) big) (jG (Nat.beq (Nat.add a.off (Nat.mul len size)) c.length)
     (.leaf (.slice (some ⟨st.next,0,none⟩) (Nat.add len n) unk,⟨bW (path st.next) (bW (path a.block) st.heap .dead) (.cells (List.append (gI a.off c) new) e false),Nat.succ st.next⟩)))))
   |_,_=>none
  |false=>none
 |_=>none
def oG(P:Program)(o:Oper)(Z:Operand->Value)(st:St):Option (DT (Value×St)):=match o.op with
 | .call c=>match c.callee,c.args.toList,c.argTypes.toList with
  | .builtin .append,[x,y],[tx,ty]=>match Nk P tx ty with
   |some r=>match aa3 r.1 r.2.1 0 [] st (Z x)with
    |some _=>some (TW r.2.2 r.2.1 st (Z y) fun n new=>match aa3 r.1 r.2.1 n new st (Z x)with
     |some t=>jG (new.all oneCell) t
     |none=> .fail)
    |none=>none
   |none=>none
  |_,_,_=>none
 |_=>none
theorem NG(hN:noNum P=true)(o:Oper)(Z:Operand->Value)(st:St)(v:Value)(st':St)(h:(oG P o Z st).bind DT.eval=some (v,st')) :
  eu o.op=false/\∀ (K:Prot) (Y:Env) (w:World) (Z':Operand->Value),(∀ x,VR Y (Z x) (Z' x))->Rel P K Y st w->bg P K Y st w ((execOp Z' o).run P w) (.val v st'):=by
 obtain⟨dst,op,type,pos,after,guard⟩:=o;unfold oG at h;simp only at h;split at h
 ·rename_i c;refine⟨rfl,fun K Y w Z' hZ hr=>?_⟩;split at h
  ·rename_i x y tx ty hc1 hc2 hc3;split at h
   ·rename_i rr hk;obtain⟨e,size,str⟩:=rr;simp only at h;split at h
    ·simp only[Option.bind_some]at h;unfold Nk at hk;simp only[dB,kM,vF]at hk;split at hk
     ·rename_i e' xt hs hx;split at hk
      ·rename_i str' ei z hxt hi hz;split at hk
       ·cases hk
       ·rename_i hcond;simp only[Option.some.injEq,Prod.mk.injEq]at hk;obtain⟨rfl,rfl,rfl⟩:=hk;have ht0:c.argTypes[0]? = some tx:=by rw[<-Array.getElem?_toList,hc3]; rfl
        have ht1:c.argTypes[1]? = some ty:=by rw[<-Array.getElem?_toList,hc3]; rfl
        have hev:ay P Z ⟨dst, .call c,type,pos,after,guard⟩ st=match lh P st tx ty (Z x) (Z y)with
         |some (v,st)=>some (.val v st)
         |none=>none:=by
         simp only[ay,hc1,hc2,List.map_cons,List.map_nil,gV,ht0,ht1];cases lh P st tx ty (Z x) (Z y)<;>rfl
        have happ:lh P st tx ty (Z x) (Z y)=match jQ st ei.size xt (Z y)with
          |some (n,new)=>if new.all oneCell then dW P st e' ei.size n new (Z x)else none
          |none=>none:=by
         simp only[lh,hs,hx,hi,hz];rw[if_neg hcond];cases jQ st ei.size xt (Z y)<;>rfl
        obtain⟨n,new,h1,h2⟩:=UX hxt h;split at h2
        ·rename_i t happT;obtain⟨hone,h3⟩:=gB h2;obtain⟨new',hsrc,hnew⟩:=H5 hr (hZ y) hx h1 hone;have hlen:new.length=n*ei.size:=by rw[hnew.length,hsrc.newsLen]
         have hev2:ay P Z ⟨dst, .call c,type,pos,after,guard⟩ st=match dW P st e' ei.size n new (Z x)with
           |some (v,st)=>some (.val v st)
           |none=>none:=by
          rw[hev,happ,h1];simp only[hone,if_true]
         unfold aa3 at happT;split at happT
         ·rename_i len cap hsx;obtain rfl:=Option.some.inj happT;obtain⟨hc,h3⟩:=gB h3;simp only[DT.eval,Option.some.injEq,Prod.mk.injEq]at h3;obtain⟨rfl,rfl⟩:=h3;simp only[Bool.and_eq_true]at hc;have c1:=Nat.eq_of_beq_eq_true hc.1;have c2:=Nat.eq_of_beq_eq_true hc.2.1;have c3:=Nat.le_of_ble_eq_true hc.2.2;subst c1 c2;have hst:(⟨bW (path st.next) st.heap (.cells new e' false),Nat.succ st.next⟩:St)=(newRow st new e' false).2:=by rw[bU]; rfl
          rw[hst];by_cases hn:n=0
          ·subst hn;have:new=[]:=List.eq_nil_of_length_eq_zero (by omega);subst this;have hap:dW P st e' ei.size 0 [] (Z x)=some (.slice none 0 0,st):=by
            rw[hsx]; simp only[dW];rw[if_neg (by simp)]; rfl
           rw[hap]at hev2;obtain⟨Y',w',v',r1,r2,r3,r4,r5⟩:=q_ hN hr hZ hev2;refine⟨_,w',v',r1,r2.trans (r3.le_put _),r3.virt e' 0 0,⟨rfl,_,bV _ _ _,?_⟩,r5⟩;unfold bP;rw[if_pos rfl];exact⟨rfl,rfl,Or.inr rfl,r4⟩
          ·have hap:dW P st e' ei.size n new (Z x)=some (.slice (some (newRow st new e' false).1) n unk,(newRow st new e' false).2):=by
            rw[hsx]; simp only[dW];rw[if_neg (by simp; omega),if_neg hn]
           rw[hap]at hev2;exact q_ hN hr hZ hev2
         ·rename_i a len cap hsx;split at happT
          ·rename_i hcap;have hcap:=Nat.eq_of_beq_eq_true hcap;subst hcap;split at happT
           ·rename_i c0 e0 ex hsp hg;rw[cu]at hg;obtain rfl:=Option.some.inj happT;obtain⟨d1,h3⟩:=gB h3;obtain⟨d2,h3⟩:=gB h3;obtain⟨d3,h3⟩:=gB h3;simp only[DT.eval,Option.some.injEq,Prod.mk.injEq]at h3;obtain⟨rfl,rfl⟩:=h3;simp only[Bool.and_eq_true,Bool.not_eq_true']at d1;obtain⟨rfl,d1⟩:=d1;have d1:=Nat.eq_of_beq_eq_true d1;have d2:len+n<=big:=Nat.le_of_ble_eq_true d2;have d3:a.off+len*ei.size=c0.length:=Nat.eq_of_beq_eq_true d3;subst d1;have hst:(⟨bW (path st.next) (bW (path a.block) st.heap .dead) (.cells (List.append (gI a.off c0) new) e0 false),Nat.succ st.next⟩:St)=(newRow (kill st a.block) (c0.drop a.off++new) e0 false).2:=by
             rw[bU,bU,acK]; rfl
            have htk:(c0.drop a.off).take (len*ei.size)=c0.drop a.off:=List.take_of_length_le (by rw[List.length_drop]; omega);rw[hst];by_cases hn:n=0
            ·subst hn;have:new=[]:=List.eq_nil_of_length_eq_zero (by omega);subst this;have hap:dW P st e0 ei.size 0 [] (Z x)=some (.slice (some a) len unk,st):=by
              rw[hsx]; simp only[dW];rw[if_neg (by omega),if_neg (by omega),hg];simp only;rw[if_neg (by simp[hsp]; omega),if_pos trivial,if_pos (by omega)]
             rw[hap]at hev2;obtain⟨Y',w',v',r1,r2,r3,r4,r5⟩:=q_ hN hr hZ hev2;obtain⟨Y2,q1,q2,q3⟩:=V8 r3 hg (by omega) r4;rw[List.append_nil];exact⟨Y2,w',v',r1,r2.trans q1,q2,q3,r5⟩
            ·have hap:dW P st e0 ei.size n new (Z x)=some (.slice (some (newRow (kill st a.block) (c0.drop a.off++new) e0 false).1) (len+n) unk,(newRow (kill st a.block) (c0.drop a.off++new) e0 false).2):=by
              rw[hsx]; simp only[dW];rw[if_neg (by omega),if_neg (by omega),hg];simp only;rw[if_neg (by simp[hsp]; omega),if_neg hn,if_pos (by rw[Nat.sub_self,Nat.add_zero]; exact d3),htk]
             rw[hap]at hev2;exact q_ hN hr hZ hev2
           ·cases happT
          ·cases happT
         ·cases happT
        ·cases h2
      ·cases hk
     ·cases hk
    ·cases h
   ·cases h
  ·cases h
 ·cases h
theorem PV(o:Oper)(Z Z':Operand->Value)(st:St)(h:∀ x∈o.op.operands,Z x=Z' x):oG P o Z st=oG P o Z' st:=by
 obtain⟨dst,op,type,pos,after,guard⟩:=o;cases op<;>first | rfl | skip
 rename_i c;have hargs:∀ x∈c.args.toList,Z x=Z' x:=fun x hx=>h x (by simp[Op.operands,Call.operands]; exact(by first | exact Or.inr (by simpa using hx) | exact Or.inl (by simpa using hx)));unfold oG;simp only;split
 ·rename_i x y tx ty h1 h2 h3;rw[h2]at hargs;rw[hargs x (by simp),hargs y (by simp)]
 ·rfl
end
end Go.VS
end

noncomputable section
namespace Go.VS.Tryz
open Go.VS
set_option maxRecDepth 1000000
abbrev P:Program:=Go.Proofs.Tryz.prog
abbrev E:Eng:=afA P
theorem au:VS.noNum P=true:=by kernel_rfl
theorem aF(ct:Ct):EngOk P ct E:=ac1 P ct
theorem mY{ct:Ct}(hct:CtOk P ct){g n:Nat}{R:fG}(h:∀ args t,R args=some t->∀ v bs,t.eval=some (v,bs)->iU P E ct n g args=some (v,mkSt bs)):CallOkR P g R:=
 ⟨fun args t hR v bs hev=>CR.of (aF ct) au hct (h args t hR v bs hev)⟩
def sl(b n:Nat):Value:= .slice (some ⟨b,0,none⟩) n unk
def atB(v:Value)(b n:Nat):Bool:=match v with
 | .slice (some a) n' c=>a.block == b&&a.off == 0&&a.spot.isNone&&n' == n&&c == unk
 |_=>false
theorem Ah{v:Value}{b n:Nat}(h:atB v b n=true):v=sl b n:=by
 unfold atB at h;split at h
 ·rename_i a n' c;simp only[Bool.and_eq_true,beq_iff_eq,Option.isNone_iff_eq_none]at h;obtain⟨⟨⟨⟨h1,h2⟩,h3⟩,h4⟩,h5⟩:=h;obtain⟨bb,oo,ss⟩:=a;simp only at h1 h2 h3;subst h1 h2 h3 h4 h5
  rfl
 ·cases h
theorem CE(b n:Nat):atB (sl b n) b n=true:=by simp[atB,sl]
theorem wC{b:Bool}{x:Res}(h:b=true):ae b x=x:=by subst h; rfl
theorem az{x y:Res}:ag true x y=x:=rfl
theorem ax{x y:Res}:ag false x y=y:=rfl
theorem WS:dN true=false:=rfl
theorem XK:dN false=true:=rfl
theorem Y8(s:ByteArray):dn (.string s) (.string s)=true:=by simp[dn]
theorem pU(k:IntKind)(n:Int):dn (.int k n) (.int k n)=true:=by simp[dn]
theorem ug(c:List Value):gI 0 c=c:=rfl
theorem size_eq(s:ByteArray):s.size=s.data.toList.length:=by rw[Array.length_toList]; rfl
end Go.VS.Tryz
end

noncomputable section
namespace Go.VS
open Go.RowKit
section
variable{P:Program}{ct:Ct}
def numsD(h:Nat->Option Blk)(n:Nat):List Value->List Nat->List Nat:=
 @Nat.rec (fun _=>List Value->List Nat->List Nat) (fun _ acc=>acc)
  (fun _ ih vs acc=>match vs with
   |[]=>acc
   |v::vs=>match(match v with
     | .slice (some a) _ _=>some a.block
     | .pointer (some a)=>some a.block
     | .map (some r)=>some r
     |_=>none)with
    |none=>ih vs acc
    |some b=>@Bool.rec (fun _=>List Nat)
      (match h b with
       |some (.cells c _ true)=>ih (c.append vs) (acc.append [b])
       |_=>ih vs (acc.append [b]))
      (ih vs acc) (nH acc b)) n
def rM(st:St)(i:Nat):Option Blk:=dF (path i) st.heap
def ac0(R:iG)(args:List Value)(st:St):Option (DT (Value×St)):=
 match oq 0 (numsD (rM st) 1000 args []) (fun i=>dF (path i) st.heap) (numsD (rM st) 1000 args [])with
 |some ms=>match R (args.map (fM true (rhoO 0 (numsD (rM st) 1000 args [])))) ms with
  |some t=>some (t.map fun x=>(fM true (bZ (numsD (rM st) 1000 args []) st.next) x.1,CB (numsD (rM st) 1000 args []) st x.2))
  |none=>none
 |none=>none
end
section
variable{P:Program}{ct:Ct}
def aeU(m c:Nat):Bool:=match Nat.ble unk c with
 |true=>true
 |false=>Nat.ble m c
def ny(P:Program)(off m c:Nat)(cs:List Value)(e:TypeId):Bool:=and (fA cs) (and (Nat.ble (Nat.add off (Nat.mul m (esz P e))) cs.length) (and (Nat.ble 1 (esz P e)) (aeU m c)))
def ND(P:Program)(off m c:Nat)(cs:List Value)(e:TypeId):Value:=ai (esz P e) m 0 (takeC (Nat.mul m (esz P e)) (ak off cs))
theorem acl{Y:Env}{s n b:Nat}{c:List Value}{v:Value}(hs:s≠0)(h:VR Y (ai s n b c) v):VR Y (ai s n 0 c) v:=by
 unfold ai at h;have e:FZ+s-FZ=s:=by omega
 simp only[VR,if_neg (Nat.not_lt.2 (Nat.le_add_right FZ s)),VZ,VZA,VZL,e]at h;obtain⟨a',b',he,r⟩:=h;cases he;refine tN hs ?_;unfold gW at r ⊢;rw[if_neg hs]at r ⊢;obtain⟨h1,⟨h2,h3,h4⟩ | ⟨h2,p,cap,h3,h4⟩ | ⟨h0,k,o,cap,cs,e1,f,l,h3,h4,h5⟩⟩:=r
 ·exact⟨h1,Or.inl ⟨h2,by omega,h4⟩⟩
 ·exact⟨h1,Or.inr (Or.inl ⟨h2,p,cap,h3,fun h=>absurd rfl h⟩)⟩
 ·exact⟨h1,Or.inr (Or.inr ⟨h0,k,o,cap,cs,e1,f,l,h3,fun h=>absurd rfl h,h5⟩)⟩
theorem adF{Y:Env}{s n c:Nat}{v:Value}(hs:s≠0)(hn:n=0)(hc:c=0)(h:VR Y (.slice none n c) v):VR Y (ai s 0 0 []) v:=by
 subst hn hc;have h:v = .slice none 0 0:=h;subst h;refine tN hs ?_;unfold gW;rw[if_neg hs];exact⟨by simp,Or.inl ⟨rfl,by omega,rfl⟩⟩
def Jy(P:Program)(n:Nat):TypeId->List TypeId:=
 @Nat.rec (fun _=>TypeId->List TypeId) (fun t=>[t]) (fun _ ih t=>match eH P t with
  |some (.struct fs)=>@List.rec Field (fun _=>List TypeId) [] (fun f _ r=>(ih f.type).append r) fs.toList
  |some (.array k e)=>List.flatten (List.replicate k (ih e))
  |_=>[t]) n
def MX(P:Program)(ts:List TypeId)(v:Value):Value:=match v with
 | .slice none 0 0=>match ts with
  |t::_=>match eH P t with
   |some (.slice e)=>match esz P e with
    |0=>v
    |s+1=>ai (s+1) 0 0 []
   |_=>v
  |[]=>v
 |_=>v
theorem Fg{Y:Env}{ts:List TypeId}{v x:Value}(h:VR Y v x):VR Y (MX P ts v) x:=by
 unfold MX;split
 ·split
  ·split
   ·split
    ·exact h
    ·exact adF (by omega) rfl rfl h
   ·exact h
  ·exact h
 ·exact h
def tlT(ts:List TypeId):List TypeId:=match ts with
 |[]=>[]
 |_::ts=>ts
def ve{J:Type}(P:Program)(n:Nat):List TypeId->List Value->St->(List Value->St->DT J)->DT J:=
 @Nat.rec (fun _=>List TypeId->List Value->St->(List Value->St->DT J)->DT J) (fun _ _ _ _=> .fail)
  (fun _ ih ts vs st k=>match vs with
   |[]=>k [] st
   |v::vs=>match v with
    | .slice (some a) m c=>match a.spot,dF (path a.block) st.heap with
     |none,some (.cells cs e ex)=>@Bool.rec (fun _=>DT J)
       (jG (ny P a.off m c cs e) (ih (tlT ts) vs ⟨bW (path a.block) st.heap .dead,st.next⟩ fun vs1 st1=>k (ND P a.off m c cs e::vs1) st1))
       (ih (List.flatten (List.replicate cs.length (Jy P 6 e))) cs st fun cs1 st1=>match dF (path a.block) st1.heap with
        |some (.cells c1 e1 _)=>jG (and (Nat.beq e1 e) (and (Nat.beq cs1.length c1.length) (ny P a.off m c cs1 e))) (ih (tlT ts) vs ⟨bW (path a.block) st1.heap .dead,st1.next⟩ fun vs1 st2=>k (ND P a.off m c cs1 e::vs1) st2)
        |_=> .fail) ex
     |_,_=>ih (tlT ts) vs st fun vs1 st1=>k (v::vs1) st1
    | .agg ⟨l⟩=>ih (match ts with | t::_=>Jy P 6 t | []=>[]) l st fun l1 st1=>ih (tlT ts) vs st1 fun vs1 st2=>k (.agg ⟨l1⟩::vs1) st2
    |v=>ih (tlT ts) vs st fun vs1 st1=>k (MX P ts v::vs1) st1) n
theorem NR{K:Prot}{Y:Env}{st:St}{w:World}(hr:Rel P K Y st w){a:Addr}{m c:Nat}{cs cs1:List Value}{e:TypeId}{ex:Bool}(hg:st.heap.get a.block=some (.cells cs e ex))(hlen:cs1.length=cs.length)(hc:ny P a.off m c cs1 e=true)
  (hc1:∀ l cc f,Y a.block=some l->l.virt=false->w.heap[l.blk]? = some (.cells cc e f)->VRL Y cs1 ((cc.toList.drop l.base).take cs1.length)) :
  ∃ Y',Y.le Y'/\Rel P K Y' ⟨bW (path a.block) st.heap .dead,st.next⟩ w/\∀ x,VR Y (.slice (some a) m c) x->VR Y' (ND P a.off m c cs1 e) x:=by
 unfold ny at hc;simp only[Bool.and_eq_true]at hc;obtain⟨c1,c2,c3,c4⟩:=hc;obtain⟨Y',h1,h2,h3⟩:=hr.freeze hg hlen c1 hc1;refine⟨Y',h1,?_,fun x hx=>?_⟩
 ·rw[bU]; exact h2
 ·have hs:a.spot=none:=by simp only[VR]at hx; exact hx.1
  have ea:a=⟨a.block,a.off,none⟩:=by cases a; simp_all
  have hcap:c<unk->m<=c:=fun hcu=>by
   unfold aeU at c4;have hb:Nat.ble unk c=false:=by
    cases hb:Nat.ble unk c with
    |false=>rfl
    |true=>have:=Nat.le_of_ble_eq_true hb; omega
   rw[hb]at c4;exact Nat.le_of_ble_eq_true c4
  have h0:esz P e≠0:=by have:=Nat.le_of_ble_eq_true c3; omega
  exact acl (b:=Jm c) h0 (h3 a.off m c x (by rw[<-ea]; exact hx) h0 (Nat.le_of_ble_eq_true c2) hcap)
theorem lK{J:Type}{r:J}:∀ (n:Nat) (ts:List TypeId) (vs:List Value) (st:St) (k:List Value->St->DT J),(ve P n ts vs st k).eval=some r->
  ∃ vs1 st1,(k vs1 st1).eval=some r/\st1.next=st.next/\vs1.length=vs.length/\∀ (K:Prot) (Y:Env) (w:World) (xs:List Value),Rel P K Y st w->VRL Y vs xs->∃ Y1,Y.le Y1/\Rel P K Y1 st1 w/\VRL Y1 vs1 xs
 |0,ts,vs,st,k,h=>by cases h
 |n+1,ts,vs,st,k,h=>by
  have keep:∀ (v v2:Value) (vs:List Value),(∀ (Y:Env) x,VR Y v x->VR Y v2 x)->(ve P n (tlT ts) vs st fun vs1 st1=>k (v2::vs1) st1).eval=some r->
    ∃ vs1 st1,(k vs1 st1).eval=some r/\st1.next=st.next/\vs1.length=(v::vs).length/\∀ (K:Prot) (Y:Env) (w:World) (xs:List Value),Rel P K Y st w->VRL Y (v::vs) xs->∃ Y1,Y.le Y1/\Rel P K Y1 st1 w/\VRL Y1 vs1 xs:=by
   intro v v2 vs hv2 h;obtain⟨vs1,st1,h1,h2,h3,h4⟩:=lK n _ vs st _ h;refine⟨_,_,h1,h2,by simp[h3],fun K Y w xs hr hx=>?_⟩;simp only[VRL]at hx;obtain⟨y,ys,rfl,hy,hys⟩:=hx;obtain⟨Y1,a1,a2,a3⟩:=h4 K Y w ys hr hys;exact⟨Y1,a1,a2,VRL.cons (hv2 _ _ (hy.mono a1)) a3⟩
  cases vs with
  |nil=>exact⟨[],st,h,rfl,rfl,fun K Y w xs hr hx=>⟨Y,Env.le.refl _,hr,hx⟩⟩
  |cons v vs=>
   cases v with
   |slice p m c=>
    cases p with
    |none=>exact keep _ _ vs (fun _ _ h=>Fg h) h
    |some a=>
     change (match a.spot,dF (path a.block) st.heap with
      |none,some (.cells cs e ex)=>@Bool.rec (fun _=>DT J)
        (jG (ny P a.off m c cs e) (ve P n (tlT ts) vs ⟨bW (path a.block) st.heap .dead,st.next⟩ fun vs1 st1=>k (ND P a.off m c cs e::vs1) st1))
        (ve P n (List.flatten (List.replicate cs.length (Jy P 6 e))) cs st fun cs1 st1=>match dF (path a.block) st1.heap with
         |some (.cells c1 e1 _)=>jG (and (Nat.beq e1 e) (and (Nat.beq cs1.length c1.length) (ny P a.off m c cs1 e))) (ve P n (tlT ts) vs ⟨bW (path a.block) st1.heap .dead,st1.next⟩ fun vs1 st2=>k (ND P a.off m c cs1 e::vs1) st2)
         |_=> .fail) ex
      |_,_=>ve P n (tlT ts) vs st fun vs1 st1=>k (.slice (some a) m c::vs1) st1).eval=some r at h
     split at h
     ·rename_i cs e ex hsp hg;rw[cu]at hg;cases ex with
      |false=>
       obtain⟨hc,h⟩:=gB h;obtain⟨vs1,st1,h1,h2,h3,h4⟩:=lK n _ vs _ _ h;refine⟨_,_,h1,h2,by simp[h3],fun K Y w xs hr hx=>?_⟩;simp only[VRL]at hx;obtain⟨y,ys,rfl,hy,hys⟩:=hx;obtain⟨l,hl,hbk⟩:=hr.get_cells hg;obtain⟨Y1,a1,a2,a3⟩:=NR hr hg rfl hc (fun l' cc f hl' hv hw=>by
        rw[hl]at hl';obtain rfl:=Option.some.inj hl';rcases hbk with⟨hv',_⟩ | ⟨_,_,cc',f',g1,_,_,_,_,g6,_⟩
        ·rw[hv]at hv'; cases hv'
        ·rw[g1]at hw;cases hw;exact g6)
       obtain⟨Y2,b1,b2,b3⟩:=h4 K Y1 w ys a2 (hys.mono a1);exact⟨Y2,a1.trans b1,b2,VRL.cons ((a3 y hy).mono b1) b3⟩
      |true=>
       obtain⟨cs1,st1,h1,h2,h3,h4⟩:=lK n _ cs st _ h;split at h1
       ·rename_i c1 e1 ex1 hg1;rw[cu]at hg1;obtain⟨hc,h1⟩:=gB h1;simp only[Bool.and_eq_true]at hc;obtain⟨hc0,hln,hc⟩:=hc;have hln:=Nat.eq_of_beq_eq_true hln;have hc0:=Nat.eq_of_beq_eq_true hc0;subst hc0;obtain⟨vs1,st2,k1,k2,k3,k4⟩:=lK n _ vs _ _ h1;refine⟨_,_,k1,by rw[k2]; exact h2,by simp[k3],fun K Y w xs hr hx=>?_⟩;simp only[VRL]at hx;obtain⟨y,ys,rfl,hy,hys⟩:=hx;obtain⟨l,hl,hbk⟩:=hr.get_cells hg;rcases hbk with⟨_,_,hx0⟩ | ⟨hv,hnK,cc,f,g1,g2,g3,g4,g5,g6,g7⟩
        ·cases hx0
        ·obtain⟨Y1,a1,a2,a3⟩:=h4 K Y w _ hr g6;obtain⟨l1,hl1,hbk1⟩:=a2.get_cells hg1;have hll:l1=l:=by rw[a1 _ _ hl]at hl1; exact(Option.some.inj hl1).symm
         subst hll;rcases hbk1 with⟨hv1,_⟩ | ⟨_,_,cc1,f1,q1,q2,q3,q4,q5,q6,q7⟩
         ·rw[hv]at hv1; cases hv1
         ·obtain⟨Y2,b1,b2,b3⟩:=NR a2 hg1 hln hc (fun l' cc' f' hl' hv' hw=>by
           rw[hl1]at hl';obtain rfl:=Option.some.inj hl';rw[g1]at hw;cases hw;rw[h3]; exact a3)
          obtain⟨Y3,d1,d2,d3⟩:=k4 K Y2 w ys b2 ((hys.mono a1).mono b1);exact⟨Y3,(a1.trans b1).trans d1,d2,VRL.cons ((b3 y (hy.mono a1)).mono d1) d3⟩
       ·cases h1
     ·exact keep _ _ vs (fun _ _ h=>h) h
   |agg l=>
    obtain⟨l⟩:=l;obtain⟨l1,st1,h1,h2,h3,h4⟩:=lK n _ l st _ h;obtain⟨vs1,st2,k1,k2,k3,k4⟩:=lK n _ vs st1 _ h1;refine⟨_,_,k1,by rw[k2,h2],by simp[k3],fun K Y w xs hr hx=>?_⟩;simp only[VRL]at hx;obtain⟨y,ys,rfl,hy,hys⟩:=hx;simp only[VR]at hy;obtain⟨⟨l'⟩,rfl,hl'⟩:=hy;simp only[VRA]at hl';obtain⟨Y1,a1,a2,a3⟩:=h4 K Y w l' hr hl';obtain⟨Y2,b1,b2,b3⟩:=k4 K Y1 w ys a2 (hys.mono a1);refine⟨Y2,a1.trans b1,b2,VRL.cons ?_ b3⟩;simp only[VR];exact⟨_,rfl,by simp only[VRA]; exact a3.mono b1⟩
   |_=>exact keep _ _ vs (fun _ _ h=>Fg h) h
def aet(P:Program)(g:FuncId):List TypeId:=match qi P g with
 |some fb=>fb.1.params.toList
 |none=>[]
def agr(P:Program)(g:FuncId)(R:iG)(args:List Value)(st:St):Option (DT (Value×St)):=
 some (ve P 100 (aet P g) args st fun args1 st1=>match ac0 R args1 st1 with
  |some t=>t
  |none=> .fail)
def Dt(P:Program)(o:Oper)(Z:Operand->Value)(st:St):Option (DT (Value×St)):=match o.op with
 | .call c=>match c.callee,c.args.toList with
  | .builtin .append,[_,y]=>match Z y with
   | .slice (some a) _ _=>match dF (path a.block) st.heap with
    |some (.cells cs e true)=>match oG P o Z st with
     |some _=>some (ve P 100 (List.flatten (List.replicate cs.length (Jy P 6 e))) cs st fun cs1 st1=>match dF (path a.block) st1.heap with
      |some (.cells c1 e1 _)=>jG (and (Nat.beq e1 e) (Nat.beq cs1.length c1.length)) (match oG P o Z ⟨bW (path a.block) st1.heap (.cells cs1 e true),st1.next⟩with
       |some t=>t
       |none=> .fail)
      |_=> .fail)
     |none=>none
    |_=>oG P o Z st
   |_=>oG P o Z st
  |_,_=>oG P o Z st
 |_=>oG P o Z st
theorem L8(hN:noNum P=true)(o:Oper)(Z:Operand->Value)(st:St)(v:Value)(st':St)(h:(Dt P o Z st).bind DT.eval=some (v,st')) :
  eu o.op=false/\∀ (K:Prot) (Y:Env) (w:World) (Z':Operand->Value),(∀ x,VR Y (Z x) (Z' x))->Rel P K Y st w->bg P K Y st w ((execOp Z' o).run P w) (.val v st'):=by
 have dflt:(oG P o Z st).bind DT.eval=some (v,st')->eu o.op=false/\∀ (K:Prot) (Y:Env) (w:World) (Z':Operand->Value),(∀ x,VR Y (Z x) (Z' x))->Rel P K Y st w->bg P K Y st w ((execOp Z' o).run P w) (.val v st'):=NG hN o Z st v st';unfold Dt at h;split at h
 ·rename_i c hop;split at h
  ·rename_i x y hc1 hc2;split at h
   ·rename_i a n cap hy;split at h
    ·rename_i cs e hg;rw[cu]at hg;split at h
     ·simp only[Option.bind_some]at h;obtain⟨cs1,st1,h1,h2,h3,h4⟩:=lK _ _ _ _ _ h;split at h1
      ·rename_i c1 e1 ex1 hg1;rw[cu]at hg1;obtain⟨hc,h1⟩:=gB h1;simp only[Bool.and_eq_true]at hc;have he:=Nat.eq_of_beq_eq_true hc.1;have hln:=Nat.eq_of_beq_eq_true hc.2;subst he;split at h1
       ·rename_i t ht;have hs:=NG hN o Z ⟨bW (path a.block) st1.heap (.cells cs1 e1 true),st1.next⟩ v st' (by rw[ht]; exact h1);refine⟨hs.1,fun K Y w Z' hZ hr=>?_⟩;obtain⟨l,hl,hbk⟩:=hr.get_cells hg;rcases hbk with⟨_,_,hx0⟩ | ⟨hv,hnK,cc,f,g1,g2,g3,g4,g5,g6,g7⟩
        ·cases hx0
        ·obtain⟨Y1,a1,a2,a3⟩:=h4 K Y w _ hr g6;have hl1:=a1 _ _ hl;have hrel:Rel P K Y1 ⟨bW (path a.block) st1.heap (.cells cs1 e1 true),st1.next⟩ w:=by
          rw[bU];refine a2.update (b':= .cells cs1 e1 true) hg1 rfl rfl rfl hl1 rfl (fun _ _=>rfl) (Or.inr ⟨hv,cc,f,g1,g2,g3,by omega,fun _=>by rw[h3]; exact g5 rfl,by rw[h3]; exact a3,g7.1,fun h=>by cases h⟩)
         obtain⟨Y2,w2,v2,b1,b2,b3,b4,b5⟩:=hs.2 K Y1 w Z' (fun z=>(hZ z).mono a1) hrel;exact⟨Y2,w2,v2,b1,a1.trans b2,b3,b4,b5⟩
       ·cases h1
      ·cases h1
     ·cases h
    ·exact dflt h
   ·exact dflt h
  ·exact dflt h
 ·exact dflt h
def abC(P:Program):Ct:=⟨fun _ _ _=>none,fun _ _ _ _=>none,Dt P⟩
theorem Qa(o:Oper)(Z Z':Operand->Value)(st:St)(h:∀ x∈o.op.operands,Z x=Z' x):Dt P o Z st=Dt P o Z' st:=by
 have hs:∀ st,oG P o Z st=oG P o Z' st:=fun st=>PV o Z Z' st h;unfold Dt;simp only[hs];split
 ·rename_i c hop;split
  ·rename_i x y hc1 hc2;have hargs:∀ x∈c.args.toList,Z x=Z' x:=fun x hx=>h x (by rw[hop]; simp[Op.operands,Call.operands]; exact(by first | exact Or.inr (by simpa using hx) | exact Or.inl (by simpa using hx)));rw[hargs y (by rw[hc2]; simp)]
  ·rfl
 ·rfl
theorem aas(hN:noNum P=true):CtOk P (abC P):=⟨fun _ _ _ _ _ _ h=>(by cases h),fun _ _ _ _ _ _ _ _ _ h=>(by cases h),Qa,fun K o Z st v st' h=>⟨(L8 hN o Z st v st' h).1,(L8 hN o Z st v st' h).2 K⟩⟩
end
section
variable{P:Program}{ct:Ct}
theorem Y_{K:Prot}{Y:Env}{st:St}{w:World}(hr:Rel P K Y st w){a:Addr}{c:List Value}{e:TypeId}{len m:Nat}{v':Value}(hg:st.heap.get a.block=some (.cells c e false))(ho:a.off+m<=c.length)(hv:VR Y (.slice (some a) len unk) v') :
  ∃ Y',Y.le Y'/\Rel P K Y' (newRow (kill st a.block) ((c.drop a.off).take m) e false).2 w/\VR Y' (.slice (some (newRow (kill st a.block) ((c.drop a.off).take m) e false).1) len unk) v':=by
 simp only[VR]at hv;obtain⟨hs,l,hl,hsl⟩:=hv;obtain⟨l',k1,hbk⟩:=hr.get_cells hg;obtain rfl:l'=l:=by rw[k1]at hl; exact Option.some.inj hl
 rcases hbk with⟨hvt,hc,_⟩ | ⟨hvt,k2,cc,f,k3,k4,k5,k6,k7,k8,k9⟩
 ·subst hc;have hk:=hr.kill a.block (by intro o e; rw[hg]at e; cases e);have hv:=hk.virt e 0 0;refine⟨_,hk.le_put _,by rw[List.drop_nil,List.take_nil]; exact hv,⟨rfl,_,bV _ _ _,?_⟩⟩;unfold bP at hsl ⊢;rw[if_pos hvt]at hsl;rw[if_pos rfl];exact⟨hsl.1,rfl,Or.inr rfl,hsl.2.2.2⟩
 ·unfold bP at hsl;rw[if_neg (by simp[hvt]),if_neg (by simp),if_pos rfl]at hsl;have hlen:((c.drop a.off).take m).length=m:=by rw[List.length_take,List.length_drop]; omega
  refine⟨Y.put st.next ⟨l'.blk,l'.base+a.off,l'.total-a.off,l'.esize,none,false⟩,hr.le_put _,hr.move hg rfl rfl rfl k1 hvt rfl rfl rfl (fun _ _=>rfl) ?_,⟨rfl,_,bV _ _ _,?_⟩⟩
  ·refine fH.mono (hr.le_put _) (Or.inr ⟨rfl,cc,f,k3,k4,by show l'.base+a.off+(l'.total-a.off)<=_; omega,by rw[hlen]; show _<=l'.total-a.off; omega,fun h=>(by cases h),?_,k9.1,fun _=>by have:=k9.2 rfl; show l'.total-a.off<9223372036854775808*l'.esize; omega⟩);have hh:=(k8.drop a.off).take m;rw[List.drop_take,List.drop_drop,List.take_take]at hh;rw[hlen];have:min m (c.length-a.off)=m:=by omega
   rw[this]at hh;exact hh
  ·unfold bP;rw[if_neg (by simp),if_neg (by simp),if_pos rfl];refine⟨?_,Nat.zero_le _⟩;rw[hsl.1];show _=Value.slice (some ⟨l'.blk,l'.base+a.off+0,none⟩) len ((l'.total-a.off-0) / l'.esize)
   rfl
theorem Xf{K:Prot}{Y:Env}{st:St}{w:World}(hr:Rel P K Y st w){a:Addr}{c:List Value}{e:TypeId}{len cp:Nat}{v':Value}(hg:st.heap.get a.block=some (.cells c e false))(h1:cp≠unk)(h2:unk<=cp)(hv:VR Y (.slice (some a) len cp) v') :
  ∃ Y',Y.le Y'/\Rel P K Y' (newRow (kill st a.block) [] e false).2 w/\VR Y' (.slice (some (newRow (kill st a.block) [] e false).1) 0 unk) v':=by
 simp only[VR]at hv;obtain⟨hs,l,hl,hsl⟩:=hv;obtain⟨l',k1,hbk⟩:=hr.get_cells hg;obtain rfl:l'=l:=by rw[k1]at hl; exact Option.some.inj hl
 have hu:unk≠0:=by unfold unk; omega
 rcases hbk with⟨hvt,hc,_⟩ | ⟨hvt,k2,cc,f,k3,k4,k5,k6,k7,k8,k9⟩
 ·unfold bP at hsl;rw[if_pos hvt]at hsl;rcases hsl.2.2.1 with h | h
  ·omega
  ·exact absurd h h1
 ·unfold bP at hsl;rw[if_neg (by simp[hvt]),if_neg (by omega),if_neg h1]at hsl;obtain⟨rfl,q2,q3,q4⟩:=hsl;have hpos:0<l'.esize:=by
   have:=k9.2 rfl;rcases Nat.eq_zero_or_pos l'.esize with h | h
   ·rw[h]at this; omega
   ·exact h
  have make:∀ (b t:Nat),l'.base<=b->b+t<=l'.base+l'.total->v' = .slice (some ⟨l'.blk,b,none⟩) 0 (t / l'.esize)->
    ∃ Y',Y.le Y'/\Rel P K Y' (newRow (kill st a.block) [] e false).2 w/\VR Y' (.slice (some (newRow (kill st a.block) [] e false).1) 0 unk) v':=by
   intro b t hb ht hv;refine⟨Y.put st.next ⟨l'.blk,b,t,l'.esize,none,false⟩,hr.le_put _,hr.move hg rfl rfl rfl k1 hvt rfl rfl rfl (fun _ _=>rfl) ?_,⟨rfl,_,bV _ _ _,?_⟩⟩
   ·refine fH.mono (hr.le_put _) (Or.inr ⟨rfl,cc,f,k3,k4,by show b+t<=_; omega,Nat.zero_le _,fun h=>(by cases h),?_,k9.1,fun _=>by have:=k9.2 rfl; show t<9223372036854775808*l'.esize; omega⟩);rw[List.length_nil,List.take_zero]; exact VRL.nil
   ·unfold bP;rw[if_neg (by simp),if_neg (by simp),if_pos rfl];refine⟨?_,Nat.zero_le _⟩;rw[hv]
    rfl
  split at q4
  ·rename_i hq;exact make (l'.base+a.off) 0 (by omega) (by omega) (by rw[q4,Nat.zero_div])
  ·have hm:(cp-unk)*l'.esize<=l'.total-a.off:=Nat.le_trans (Nat.mul_le_mul_right _ q2) (Nat.div_mul_le_self _ _);refine make (l'.base+(a.off+(cp-unk)*l'.esize)) (l'.total-a.off-(cp-unk)*l'.esize) (by omega) (by omega) ?_;rw[q4,Nat.mul_comm (cp-unk),Nat.sub_mul_div]
/-- Of a list: it is only read; it may grow; it is left where it lies (another one may point to the same). -/
inductive Fl where
 |val | own | keep
def pY{J:Type}(P:Program)(n:Nat):List Fl->List TypeId->List Value->St->(List Value->List Nat->St->DT J)->DT J:=
 @Nat.rec (fun _=>List Fl->List TypeId->List Value->St->(List Value->List Nat->St->DT J)->DT J) (fun _ _ _ _ _=> .fail)
  (fun _ ih fl ts vs st k=>match vs with
   |[]=>k [] [] st
   |v::vs=>match v with
    | .pointer (some a)=>ih (fl.drop 1) (tlT ts) vs st fun vs1 ps st1=>k (v::vs1) (a.block::ps) st1
    | .slice none m c=>match(match fl with | .own::_=>true | .keep::_=>true | _=>false)with
     |true=>match ts with
      |t::_=>match eH P t with
       |some (.slice e)=>jG (and (Nat.beq m 0) (Nat.beq c 0)) (ih (fl.drop 1) (tlT ts) vs ⟨bW (path st.next) st.heap (.cells [] e false),Nat.succ st.next⟩ fun vs1 ps st1=>k (.slice (some ⟨st.next,0,none⟩) 0 unk::vs1) ps st1)
       |_=> .fail
      |[]=> .fail
     |false=>ih (fl.drop 1) (tlT ts) vs st fun vs1 ps st1=>k (MX P ts v::vs1) ps st1
    | .slice (some a) m c=>match fl with
     | .keep::_=>ih (fl.drop 1) (tlT ts) vs st fun vs1 ps st1=>k (v::vs1) ps st1
     | .own::_=>match dF (path a.block) st.heap with
      |some (.cells cs e false)=> .ite (Nat.beq c unk)
        (jG (Nat.ble (Nat.add a.off (Nat.mul m (esz P e))) cs.length) (ih (fl.drop 1) (tlT ts) vs ⟨bW (path st.next) (bW (path a.block) st.heap .dead) (.cells (takeC (Nat.mul m (esz P e)) (ak a.off cs)) e false),Nat.succ st.next⟩ fun vs1 ps st1=>k (.slice (some ⟨st.next,0,none⟩) m unk::vs1) ps st1))
        (.ite (Nat.ble unk c)
         (ih (fl.drop 1) (tlT ts) vs ⟨bW (path st.next) (bW (path a.block) st.heap .dead) (.cells [] e false),Nat.succ st.next⟩ fun vs1 ps st1=>k (.slice (some ⟨st.next,0,none⟩) 0 unk::vs1) ps st1)
         (ih (fl.drop 1) (tlT ts) vs st fun vs1 ps st1=>k (v::vs1) ps st1))
      |_=>ih (fl.drop 1) (tlT ts) vs st fun vs1 ps st1=>k (v::vs1) ps st1
     |_=>ve P 20 ts [v] st fun l1 st1=>match l1 with
      |[v1]=>ih (fl.drop 1) (tlT ts) vs st1 fun vs1 ps st2=>k (v1::vs1) ps st2
      |_=> .fail
    |v=>ih (fl.drop 1) (tlT ts) vs st fun vs1 ps st1=>k (v::vs1) ps st1) n
theorem mX{J:Type}{r:J}:∀ (n:Nat) (fl:List Fl) (ts:List TypeId) (vs:List Value) (st:St) (k:List Value->List Nat->St->DT J),(pY P n fl ts vs st k).eval=some r->
  ∃ vs1 ps st1,(k vs1 ps st1).eval=some r/\vs1.length=vs.length/\∀ (K:Prot) (Y:Env) (w:World) (xs:List Value),Rel P K Y st w->VRL Y vs xs->∃ Y1,Y.le Y1/\Rel P K Y1 st1 w/\VRL Y1 vs1 xs
 |0,fl,ts,vs,st,k,h=>by cases h
 |n+1,fl,ts,vs,st,k,h=>by
  have keep:∀ (v v2:Value) (vs:List Value) (f:List Nat->List Nat),(∀ (Y:Env) x,VR Y v x->VR Y v2 x)->(pY P n (fl.drop 1) (tlT ts) vs st fun vs1 ps st1=>k (v2::vs1) (f ps) st1).eval=some r->
    ∃ vs1 ps st1,(k vs1 ps st1).eval=some r/\vs1.length=(v::vs).length/\∀ (K:Prot) (Y:Env) (w:World) (xs:List Value),Rel P K Y st w->VRL Y (v::vs) xs->∃ Y1,Y.le Y1/\Rel P K Y1 st1 w/\VRL Y1 vs1 xs:=by
   intro v v2 vs f hv2 h;obtain⟨vs1,ps,st1,h1,h3,h4⟩:=mX n _ _ vs st _ h;refine⟨_,_,_,h1,by simp[h3],fun K Y w xs hr hx=>?_⟩;simp only[VRL]at hx;obtain⟨y,ys,rfl,hy,hys⟩:=hx;obtain⟨Y1,a1,a2,a3⟩:=h4 K Y w ys hr hys;exact⟨Y1,a1,a2,VRL.cons (hv2 _ _ (hy.mono a1)) a3⟩
  cases vs with
  |nil=>exact⟨[],[],st,h,rfl,fun K Y w xs hr hx=>⟨Y,Env.le.refl _,hr,hx⟩⟩
  |cons v vs=>
   cases v with
   |pointer p=>
    cases p with
    |none=>exact keep _ _ vs id (fun _ _ h=>h) h
    |some a=>exact keep _ _ vs (a.block::·) (fun _ _ h=>h) h
   |slice p m c=>
    cases p with
    |none=>
     change (match(match fl with | .own::_=>true | .keep::_=>true | _=>false)with
      |true=>match ts with
       |t::_=>match eH P t with
        |some (.slice e)=>jG (and (Nat.beq m 0) (Nat.beq c 0)) (pY P n (fl.drop 1) (tlT ts) vs ⟨bW (path st.next) st.heap (.cells [] e false),Nat.succ st.next⟩ fun vs1 ps st1=>k (.slice (some ⟨st.next,0,none⟩) 0 unk::vs1) ps st1)
        |_=> .fail
       |[]=> .fail
      |false=>pY P n (fl.drop 1) (tlT ts) vs st fun vs1 ps st1=>k (MX P ts (.slice none m c)::vs1) ps st1).eval=some r at h
     split at h
     ·split at h
      ·split at h
       ·rename_i e _;obtain⟨hc,h⟩:=gB h;simp only[Bool.and_eq_true]at hc;obtain rfl:=Nat.eq_of_beq_eq_true hc.1;obtain rfl:=Nat.eq_of_beq_eq_true hc.2;obtain⟨vs1,ps,st1,h1,h3,h4⟩:=mX n _ _ vs _ _ h;refine⟨_,_,_,h1,by simp[h3],fun K Y w xs hr hx=>?_⟩;simp only[VRL]at hx;obtain⟨y,ys,rfl,hy,hys⟩:=hx;have hv:=hr.virt e 0 0;have hst:(st.new (.cells [] e false)).2=⟨bW (path st.next) st.heap (.cells [] e false),Nat.succ st.next⟩:=by rw[bU]; rfl
        rw[hst]at hv;obtain⟨Y1,a1,a2,a3⟩:=h4 K _ w ys hv (hys.mono (hr.le_put _));refine⟨Y1,(hr.le_put _).trans a1,a2,VRL.cons ?_ a3⟩;refine⟨rfl,_,a1 _ _ (bV _ _ _),?_⟩;unfold bP;rw[if_pos rfl];exact⟨rfl,rfl,Or.inr rfl,hy⟩
       ·cases h
      ·cases h
     ·exact keep _ _ vs id (fun _ _ h=>Fg h) h
    |some a=>
     change (match fl with
      | .keep::_=>pY P n (fl.drop 1) (tlT ts) vs st fun vs1 ps st1=>k (.slice (some a) m c::vs1) ps st1
      | .own::_=>match dF (path a.block) st.heap with
       |some (.cells cs e false)=> .ite (Nat.beq c unk)
         (jG (Nat.ble (Nat.add a.off (Nat.mul m (esz P e))) cs.length) (pY P n (fl.drop 1) (tlT ts) vs ⟨bW (path st.next) (bW (path a.block) st.heap .dead) (.cells (takeC (Nat.mul m (esz P e)) (ak a.off cs)) e false),Nat.succ st.next⟩ fun vs1 ps st1=>k (.slice (some ⟨st.next,0,none⟩) m unk::vs1) ps st1))
         (.ite (Nat.ble unk c)
          (pY P n (fl.drop 1) (tlT ts) vs ⟨bW (path st.next) (bW (path a.block) st.heap .dead) (.cells [] e false),Nat.succ st.next⟩ fun vs1 ps st1=>k (.slice (some ⟨st.next,0,none⟩) 0 unk::vs1) ps st1)
          (pY P n (fl.drop 1) (tlT ts) vs st fun vs1 ps st1=>k (.slice (some a) m c::vs1) ps st1))
       |_=>pY P n (fl.drop 1) (tlT ts) vs st fun vs1 ps st1=>k (.slice (some a) m c::vs1) ps st1
      |_=>ve P 20 ts [.slice (some a) m c] st fun l1 st1=>match l1 with
       |[v1]=>pY P n (fl.drop 1) (tlT ts) vs st1 fun vs1 ps st2=>k (v1::vs1) ps st2
       |_=> .fail).eval=some r at h
     split at h
     ·exact keep _ _ vs id (fun _ _ h=>h) h
     ·split at h
      ·rename_i cs e hg;rw[cu]at hg;cases hcu:Nat.beq c unk with
       |true=>
        rw[hcu]at h;have h:(jG (Nat.ble (Nat.add a.off (Nat.mul m (esz P e))) cs.length) (pY P n _ (tlT ts) vs ⟨bW (path st.next) (bW (path a.block) st.heap .dead) (.cells (takeC (Nat.mul m (esz P e)) (ak a.off cs)) e false),Nat.succ st.next⟩ fun vs1 ps st1=>k (.slice (some ⟨st.next,0,none⟩) m unk::vs1) ps st1)).eval=some r:=h;obtain rfl:=Nat.eq_of_beq_eq_true hcu;obtain⟨hc,h⟩:=gB h;have hc:a.off+m*esz P e<=cs.length:=Nat.le_of_ble_eq_true hc;obtain⟨vs1,ps,st1,h1,h3,h4⟩:=mX n _ _ vs _ _ h;refine⟨_,_,_,h1,by simp[h3],fun K Y w xs hr hx=>?_⟩;simp only[VRL]at hx;obtain⟨y,ys,rfl,hy,hys⟩:=hx;obtain⟨Y1,a1,a2,a3⟩:=Y_ hr hg hc hy;have hst:(newRow (kill st a.block) ((cs.drop a.off).take (m*esz P e)) e false).2=⟨bW (path st.next) (bW (path a.block) st.heap .dead) (.cells (takeC (Nat.mul m (esz P e)) (ak a.off cs)) e false),Nat.succ st.next⟩:=by
         rw[bU,bU]; rfl
        rw[hst]at a2;obtain⟨Y2,b1,b2,b3⟩:=h4 K Y1 w ys a2 (hys.mono a1);exact⟨Y2,a1.trans b1,b2,VRL.cons (a3.mono b1) b3⟩
       |false=>
        rw[hcu]at h;cases hcb:Nat.ble unk c with
        |true=>
         rw[hcb]at h;have h:(pY P n _ (tlT ts) vs ⟨bW (path st.next) (bW (path a.block) st.heap .dead) (.cells [] e false),Nat.succ st.next⟩ fun vs1 ps st1=>k (.slice (some ⟨st.next,0,none⟩) 0 unk::vs1) ps st1).eval=some r:=h;obtain⟨vs1,ps,st1,h1,h3,h4⟩:=mX n _ _ vs _ _ h;refine⟨_,_,_,h1,by simp[h3],fun K Y w xs hr hx=>?_⟩;simp only[VRL]at hx;obtain⟨y,ys,rfl,hy,hys⟩:=hx;obtain⟨Y1,a1,a2,a3⟩:=Xf hr hg (Nat.ne_of_beq_eq_false hcu) (Nat.le_of_ble_eq_true hcb) hy;have hst:(newRow (kill st a.block) [] e false).2=⟨bW (path st.next) (bW (path a.block) st.heap .dead) (.cells [] e false),Nat.succ st.next⟩:=by
          rw[bU,bU]; rfl
         rw[hst]at a2;obtain⟨Y2,b1,b2,b3⟩:=h4 K Y1 w ys a2 (hys.mono a1);exact⟨Y2,a1.trans b1,b2,VRL.cons (a3.mono b1) b3⟩
        |false=>
         rw[hcb]at h;exact keep _ _ vs id (fun _ _ h=>h) h
      ·exact keep _ _ vs id (fun _ _ h=>h) h
     ·obtain⟨l1,st1,h1,h2,h3,h4⟩:=lK _ _ _ _ _ h;split at h1
      ·rename_i v1;obtain⟨vs1,ps,st2,k1,k3,k4⟩:=mX n _ _ vs _ _ h1;refine⟨_,_,_,k1,by simp[k3],fun K Y w xs hr hx=>?_⟩;simp only[VRL]at hx;obtain⟨y,ys,rfl,hy,hys⟩:=hx;obtain⟨Y1,a1,a2,a3⟩:=h4 K Y w [y] hr (VRL.cons hy VRL.nil);obtain⟨Y2,b1,b2,b3⟩:=k4 K Y1 w ys a2 (hys.mono a1);simp only[VRL]at a3;obtain⟨y',ys',e',hy',_⟩:=a3;cases e';exact⟨Y2,a1.trans b1,b2,VRL.cons (hy'.mono b1) b3⟩
      ·cases h1
   |_=>exact keep _ _ vs id (fun _ _ h=>h) h
abbrev Pol:=TypeId->Option (List Fl)
def A7{J:Type}(P:Program)(pol:Pol)(n:Nat):List Nat->List Nat->St->(St->DT J)->DT J:=
 @Nat.rec (fun _=>List Nat->List Nat->St->(St->DT J)->DT J) (fun _ _ _ _=> .fail)
  (fun _ ih todo seen st k=>match todo with
   |[]=>k st
   |b::todo=>@Bool.rec (fun _=>DT J)
     (match dF (path b) st.heap with
      |some (.cells c e true)=>match pol e with
       |some fl=>pY P 60 fl (Jy P 6 e) c st fun c1 ps st1=>match dF (path b) st1.heap with
        |some (.cells c2 e2 x2)=>jG (and (Nat.beq e2 e) (and x2 (Nat.beq c1.length c2.length))) (ih (ps.append todo) (b::seen) ⟨bW (path b) st1.heap (.cells c1 e true),st1.next⟩ k)
        |_=> .fail
       |none=>ih todo (b::seen) st k
      |_=>ih todo (b::seen) st k)
     (ih todo seen st k) (nH seen b)) n
theorem oW{J:Type}{r:J}{pol:Pol}:∀ (n:Nat) (todo seen:List Nat) (st:St) (k:St->DT J),(A7 P pol n todo seen st k).eval=some r->
  ∃ st1,(k st1).eval=some r/\∀ (K:Prot) (Y:Env) (w:World),Rel P K Y st w->∃ Y1,Y.le Y1/\Rel P K Y1 st1 w
 |0,todo,seen,st,k,h=>by cases h
 |n+1,todo,seen,st,k,h=>by
  cases todo with
  |nil=>exact⟨st,h,fun K Y w hr=>⟨Y,Env.le.refl _,hr⟩⟩
  |cons b todo=>
   change (@Bool.rec (fun _=>DT J)
     (match dF (path b) st.heap with
      |some (.cells c e true)=>match pol e with
       |some fl=>pY P 60 fl (Jy P 6 e) c st fun c1 ps st1=>match dF (path b) st1.heap with
        |some (.cells c2 e2 x2)=>jG (and (Nat.beq e2 e) (and x2 (Nat.beq c1.length c2.length))) (A7 P pol n (ps.append todo) (b::seen) ⟨bW (path b) st1.heap (.cells c1 e true),st1.next⟩ k)
        |_=> .fail
       |none=>A7 P pol n todo (b::seen) st k
      |_=>A7 P pol n todo (b::seen) st k)
     (A7 P pol n todo seen st k) (nH seen b)).eval=some r at h
   cases hb:nH seen b with
   |true=>rw[hb]at h; exact oW n _ _ _ _ h
   |false=>
    rw[hb]at h;simp only at h;split at h
    ·rename_i c e hg;rw[cu]at hg;split at h
     ·obtain⟨c1,ps,st1,h1,h3,h4⟩:=mX _ _ _ _ _ _ h;split at h1
      ·rename_i c2 e2 x2 hg1;rw[cu]at hg1;obtain⟨hc,h5⟩:=gB h1;clear h1;simp only[Bool.and_eq_true]at hc;obtain⟨q1,q2,q3⟩:=hc;have q1:=Nat.eq_of_beq_eq_true q1;have q3:=Nat.eq_of_beq_eq_true q3;subst q1 q2;obtain⟨st2,k1,k2⟩:=oW n _ _ _ _ h5;refine⟨st2,k1,fun K Y w hr=>?_⟩;obtain⟨l,hl,hbk⟩:=hr.get_cells hg;rcases hbk with⟨_,_,hx0⟩ | ⟨hv,hnK,cc,f,g1,g2,g3,g4,g5,g6,g7⟩
       ·cases hx0
       ·obtain⟨Y1,a1,a2,a3⟩:=h4 K Y w _ hr g6;have hrel:Rel P K Y1 ⟨bW (path b) st1.heap (.cells c1 e2 true),st1.next⟩ w:=by
         rw[bU];exact a2.update (b':= .cells c1 e2 true) hg1 rfl rfl rfl (a1 _ _ hl) rfl (fun _ _=>rfl) (Or.inr ⟨hv,cc,f,g1,g2,g3,by omega,fun _=>by rw[h3]; exact g5 rfl,by rw[h3]; exact a3,g7.1,fun h=>by cases h⟩)
        obtain⟨Y2,b1,b2⟩:=k2 K Y1 w hrel;exact⟨Y2,a1.trans b1,b2⟩
      ·cases h1
     ·exact oW n _ _ _ _ h
    ·exact oW n _ _ _ _ h
def abJ(l:List Value):List Nat:=@List.rec Value (fun _=>List Nat) [] (fun v _ ih=>match v with
 | .pointer (some a)=>a.block::ih
 |_=>ih) l
end
/-- A loop's head: slots that are looked at; of what kind the lists are that they hold; their types; the objects' fields likewise. -/
structure HeadD where
 nt:Nat
 L:List Tmp
 fl:List Fl
 ts:List TypeId
 pol:Pol
def HeadD.head(D:HeadD):Head:=⟨0,D.nt,D.L,[]⟩
section
variable{P:Program}{ct:Ct}
theorem SL{Y:Env}{s:Trie Value}{n:Nat}{tmps:Array Value}(h:iQ Y s n tmps)(L:List Tmp):VRL Y (L.map (qx s)) (L.map fun t=>tmps.getD t undef):=
 VRL.map _ _ L fun t _=>by rw[oV]; exact h.2 t
theorem KF{Y:Env}{tmps:Array Value}:∀ (L:List Tmp) (vs:List Value) (s:Trie Value),(∀ i,VR Y ((s.get i).getD undef) (tmps.getD i undef))->VRL Y vs (L.map fun t=>tmps.getD t undef)->∀ i,VR Y (((lW L vs s).get i).getD undef) (tmps.getD i undef)
 |[],[],s,h,_,i=>by simpa [lW]using h i
 |[],v::vs,s,h,hv,i=>by simpa [lW]using h i
 |t::L,[],s,h,hv,i=>by simpa [lW]using h i
 |t::L,v::vs,s,h,hv,i=>by
  simp only[List.map_cons,VRL]at hv;obtain⟨y,ys,e,hy,hys⟩:=hv;cases e;simp only[lW];refine KF L vs _ (fun j=>?_) hys i;rw[bU,Trie.get_set];by_cases hj:j=t
  ·subst hj; rw[if_pos rfl]; exact hy
  ·rw[if_neg hj]; exact h j
theorem Qz{Y:Env}{tmps:Array Value}{nt:Nat}{L:List Tmp}{vs:List Value}(hsz:tmps.size=nt)(hv:VRL Y vs (L.map fun t=>tmps.getD t undef)):iQ Y (mkS nt L vs) nt tmps:=by
 refine⟨hsz,fun i=>?_⟩;unfold mkS;refine KF L vs _ (fun j=>?_) hv i;rw[qI];split
 ·rename_i hj;simp only[List.length_replicate]at hj;rw[List.getElem?_replicate,if_pos (by omega)];exact trivial
 ·rename_i hj;simp only[List.length_replicate]at hj;have hge:tmps.size<=j:=by omega
  have:tmps.getD j undef=undef:=by simp[Array.getD,Nat.not_lt.2 hge]
  rw[this];exact VR.flat_refl undef rfl
end
end Go.VS
end

noncomputable section
namespace Go.VS

section
/-- How a struct lies in cells. -/
structure Enc(J:Type) where
 sz:Nat
 f:J->List Value
 len:∀ a,(f a).length=sz
 pos:0<sz
 inj:∀ a b,f a=f b->a=b
 nr:∀ a,fA (f a)=true
variable{J:Type}(E:Enc J)
def Enc.all(l:List J):List Value:=l.flatMap E.f
theorem Enc.all_nil:E.all []=[]:=rfl
theorem Enc.all_cons(a:J)(l:List J):E.all (a::l)=E.f a++E.all l:=List.flatMap_cons
theorem Enc.all_append(a b:List J):E.all (a++b)=E.all a++E.all b:=List.flatMap_append
theorem Enc.all_one(a:J):E.all [a]=E.f a:=by rw[E.all_cons,E.all_nil,List.append_nil]
theorem Enc.all_length(l:List J):(E.all l).length=l.length*E.sz:=by
 induction l with
 |nil=>simp[Enc.all_nil]
 |cons a l ih=>rw[E.all_cons,List.length_append,E.len,ih,List.length_cons,Nat.add_mul]; omega
theorem Enc.all_nr(l:List J):fA (E.all l)=true:=by
 induction l with
 |nil=>rfl
 |cons a l ih=>rw[E.all_cons,zQ,E.nr,ih]; rfl
theorem Enc.all_ren(Z:Nat->Option Nat)(l:List J):renL true Z (E.all l)=E.all l:=Dn (E.all_nr l)
theorem Enc.all_inj(a b:List J)(h:E.all a=E.all b):a=b:=by
 induction a generalizing b with
 |nil=>
  cases b with
  |nil=>rfl
  |cons y b=>
   have:=congrArg List.length h;rw[E.all_length,E.all_length,List.length_nil,List.length_cons,Nat.zero_mul]at this;have:=Nat.mul_pos (Nat.succ_pos b.length) E.pos;simp only[Nat.succ_eq_add_one]at this;omega
 |cons x a ih=>
  cases b with
  |nil=>
   have:=congrArg List.length h;rw[E.all_length,E.all_length,List.length_nil,List.length_cons,Nat.zero_mul]at this;have:=Nat.mul_pos (Nat.succ_pos a.length) E.pos;simp only[Nat.succ_eq_add_one]at this;omega
  |cons y b=>
   rw[E.all_cons,E.all_cons]at h;obtain⟨h1,h2⟩:=List.append_inj h (by rw[E.len,E.len]);rw[E.inj _ _ h1,ih b h2]
theorem Enc.all_take(n:Nat):∀ l:List J,(E.all l).take (n*E.sz)=E.all (l.take n):=by
 induction n with
 |zero=>intro l; simp[Enc.all_nil]
 |succ n ih=>
  intro l;cases l with
  |nil=>simp[Enc.all_nil]
  |cons a l=>
   rw[E.all_cons,List.take_succ_cons,E.all_cons,List.take_append,E.len,List.take_of_length_le (by rw[E.len,Nat.add_mul]; omega)];have:(n+1)*E.sz-E.sz=n*E.sz:=by rw[Nat.add_mul]; omega
   rw[this,ih l]
theorem Enc.all_self(l:List J):(E.all l).take (l.length*E.sz)=E.all l:=by rw[E.all_take,List.take_length]
theorem Enc.nth{l:List J}{i j:Nat}(hi:i<l.length)(hj:j<E.sz):ah (E.all l) (i*E.sz+j)=(E.f l[i]).getD j undef:=by
 unfold ah;have h1:E.all l=E.all (l.take i)++(E.f l[i]++E.all (l.drop (i+1))):=by
  rw[<-E.all_cons,<-E.all_append];congr 1;rw[<-List.drop_eq_getElem_cons hi,List.take_append_drop]
 have h2:(E.all (l.take i)).length=i*E.sz:=by rw[E.all_length,List.length_take]; congr 1; omega
 rw[h1,List.getD_eq_getElem?_getD,List.getD_eq_getElem?_getD,List.getElem?_append_right (by omega),h2,List.getElem?_append_left (by rw[E.len]; omega)];congr 2;omega
open Classical in
def Enc.is(c:List Value):Bool:=decide (∃ l,E.all l=c)
open Classical in
def Enc.dec(c:List Value):List J:=if h:∃ l,E.all l=c then h.choose else []
open Classical in
theorem Enc.is_all(l:List J):E.is (E.all l)=true:=by unfold Enc.is; exact decide_eq_true ⟨l,rfl⟩
open Classical in
theorem Enc.all_dec{c:List Value}(h:E.is c=true):E.all (E.dec c)=c:=by
 unfold Enc.is at h;have h:=of_decide_eq_true h;unfold Enc.dec;rw[dif_pos h];exact h.choose_spec
def Enc.fz(m t n:Nat)(c:List Value):Bool:=Nat.beq t (FZ+E.sz)&&E.is c&&Nat.beq n (E.dec c).length&&Nat.ble (E.dec c).length m
end
section
/-- How a state lies in values and blocks. -/
structure Con(U:Type) where
 enc:U->List Value×List Blk
 ok:U->Prop
 inj:∀ a b,enc a=enc b->a=b
 dflt:U
variable{U:Type}(k:Con U)
open Classical in
def Con.C(vs:List Value)(bs:List Blk):Bool:=decide (∃ s,k.enc s=(vs,bs)/\k.ok s)
open Classical in
def Con.D(vs:List Value)(bs:List Blk):U:=if h:∃ s,k.enc s=(vs,bs)then h.choose else k.dflt
open Classical in
theorem Con.D_enc{s:U}{vs:List Value}{bs:List Blk}(h:k.enc s=(vs,bs)):k.D vs bs=s:=by
 have hx:∃ s,k.enc s=(vs,bs):=⟨s,h⟩
 unfold Con.D;rw[dif_pos hx];exact k.inj _ _ (hx.choose_spec.trans h.symm)
open Classical in
theorem Con.C_enc{s:U}{vs:List Value}{bs:List Blk}(h:k.enc s=(vs,bs))(ho:k.ok s):k.C vs bs=true:=by
 unfold Con.C; exact decide_eq_true ⟨s,h,ho⟩
open Classical in
theorem Con.of{vs:List Value}{bs:List Blk}(h:k.C vs bs=true):∃ s,k.enc s=(vs,bs)/\k.ok s/\k.D vs bs=s:=by
 unfold Con.C at h;obtain⟨s,h1,h2⟩:=of_decide_eq_true h;exact⟨s,h1,h2,k.D_enc h1⟩
def jS(C:List Value->List Blk->Bool)(D:List Value->List Blk->U)(res:U->DT (Value×List Blk)):iG:=fun args bs=>some (.ite (C args bs) (res (D args bs)) .fail)
def kP(C:List Value->List Blk->Bool)(D:List Value->List Blk->U)(res:U->DT (Ex×List Value×List Blk)):lC:=fun vs bs=>some (.ite (C vs bs) (res (D vs bs)) .fail)
end
end Go.VS
end

noncomputable section
namespace Go.VS
open Go.RowKit
section
variable{P:Program}{ct:Ct}
def vI(X L:List Nat)(st:St)(bs:List Blk):St:=⟨og (bZ X st.next) X bs st.next (wI L st.heap),st.next+(bs.length-X.length)⟩
theorem Kq{K:Prot}{Y:Env}{st:St}{w:World}(h:Rel P K Y st w){X L:List Nat}(hndS:(X++L).Nodup)(hcells:∀ b∈X++L,∃ x,st.heap.get b=some x/\H_ x=true) :
  ∃ K':Prot,(∀ k,K k->K' k)/\(∀ i,¬K'.id i)/\Rel P K' (iM 0 (X++L) Y) (mkSt ((X++L).map fun b=>jW true (rhoO 0 (X++L)) (st.heap.get b))) w/\
   ∀ (Y1:Env) (bs1:List Blk) (w1:World),leN X.length (iM 0 (X++L) Y) Y1->X.length<=bs1.length->Rel P K' Y1 (mkSt bs1) w1->Bel K' w w1->
    Y.le (jU X st.next Y Y1)/\Rel P K (jU X st.next Y Y1) (vI X L st bs1) w1/\RenOk true (bZ X st.next) Y1 (jU X st.next Y Y1):=by
 generalize hS:X++L=src at hndS hcells ⊢;have hnd:X.Nodup:=by rw[<-hS]at hndS; exact(List.nodup_append.1 hndS).1
 have hXs:∀ b∈X,b∈src:=fun b hb=>by rw[<-hS]; exact List.mem_append_left _ hb
 have hLs:∀ b∈L,b∈src:=fun b hb=>by rw[<-hS]; exact List.mem_append_right _ hb
 have hsX:∀ b,b∉X->b∉L->b∉src:=fun b h1 h2 h=>by rw[<-hS]at h; exact(List.mem_append.1 h).elim h1 h2
 let st0:St:=⟨Cb (src.map fun b=>(b,(st.heap.get b).getD .dead)) .leaf,st.next⟩
 have h0:∀ i,st0.heap.get i=if i∈src then st.heap.get i else none:=by
  intro i;show(Cb _ .leaf).get i=_;rw[y9];rcases tq (src.map fun b=>(b,(st.heap.get b).getD .dead)) i ((Trie.leaf:Trie Blk).get i)with⟨n,e⟩ | ⟨n,b',hb',e⟩
  ·rw[e];have:i∉src:=fun hi=>n (by simp only[List.map_map,List.mem_map]; exact⟨i,hi,rfl⟩);rw[if_neg this]; rfl
  ·rw[e];obtain⟨j,hj,hje⟩:=List.mem_map.1 hb';simp only[Prod.mk.injEq]at hje;obtain⟨rfl,rfl⟩:=hje;obtain⟨x,hc,hcm⟩:=hcells j hj;rw[if_pos hj,hc]; rfl
 obtain⟨K1,k1,k2,k3,k4⟩:=h.part (st0:=st0) rfl (fun i b hi _=>by
  rw[h0]at hi;split at hi
  ·exact hi
  ·cases hi) (fun i o hi=>by
  rw[h0]at hi;split at hi
  ·rename_i hm;obtain⟨x,hc,hcm⟩:=hcells i hm;rw[hc]at hi; cases hi; cases hcm
  ·cases hi)
 let K':Prot:=⟨K1.blk,fun _=>False,K1.nofz,K1.obs,K1.sub⟩
 have r0:Rel P K' Y st0 w:=⟨k3.base,k3.dom,k3.blk,k3.inj,fun i hi=>hi.elim,k3.nofz,k3.frz,k3.objs⟩
 have hmid:=kG (N:=0) (src:=src) r0 (fun i hi=>hi.elim) (Nat.zero_le _) hndS (fun b hb=>by
  obtain⟨x,hc,hcm⟩:=hcells b hb;exact⟨x,by rw[h0,if_pos hb]; exact hc,hcm⟩)
 have hms:(src.map fun b=>jW true (rhoO 0 src) (st0.heap.get b))=src.map fun b=>jW true (rhoO 0 src) (st.heap.get b):=by
  apply List.map_congr_left;intro b hb;rw[h0,if_pos hb]
 have hsrc:∀ b∈src,∃ l,Y (b:Int)=some l/\b<st.next:=by
  intro b hb;obtain⟨x,hc,hcm⟩:=hcells b hb;obtain⟨l,hl,_⟩:=h.blk b _ hc (J8 hcm);exact⟨l,hl,(h.dom b l hl).1⟩
 refine⟨K',k1,fun i hi=>hi,by rw[<-hms]; exact hmid,fun Y1 bs1 w1 hle hlen h1 hb=>?_⟩;have hneg:∀ k l,Y (Int.negSucc k)=some l->Y1 (Int.negSucc k)=some l:=fun k l hk=>hle (Int.negSucc k) l (by have:=Int.negSucc_lt_zero k; omega) hk;have hre:∀ (j b:Nat),X[j]? = some b->Y1 (j:Int)=Y (b:Int):=by
  intro j b hjX;have hjl:j<X.length:=(List.getElem?_eq_some_iff.1 hjX).1;have hj:src[j]? = some b:=by rw[<-hS,List.getElem?_append_left hjl]; exact hjX
  obtain⟨l,hl,_⟩:=hsrc b (List.mem_of_getElem? hj);rw[hl];refine hle j l (by omega) ?_;show(if j<0 then Y (j:Int)else match src[j-0]? with | some b=>Y (b:Int) | none=>none)=_;rw[if_neg (by omega),Nat.sub_zero,hj]; exact hl
 have hple:Y.le (jU X st.next Y Y1):=by
  intro i l hi;cases i with
  |negSucc k=>exact hneg k l hi
  |ofNat i=>
   have:=(h.dom i l hi).1;show(if i<st.next then Y (i:Int)else _)=_;rw[if_pos this]; exact hi
 have hold:∀ i,i<st.next->jU X st.next Y Y1 (i:Int)=Y (i:Int):=by
  intro i hi;show(if i<st.next then Y (i:Int)else _)=_;rw[if_pos hi]
 have hbig:∀ i,st.next<=i->jU X st.next Y Y1 (i:Int)=Y1 ((i-st.next+X.length:Nat):Int):=by
  intro i hi;show(if i<st.next then Y (i:Int)else _)=_;rw[if_neg (by omega)]
 have hren:RenOk true (bZ X st.next) Y1 (jU X st.next Y Y1):=by
  refine⟨fun b b' l hb hl=>?_,fun _ k l hk=>hk⟩;by_cases hbl:b<X.length
  ·rw[vU _ _ _ hbl]at hb;rw[hold b' (hsrc b' (hXs _ (List.mem_of_getElem? hb))).choose_spec.2,<-hre b b' hb]; exact hl
  ·rw[vT _ _ _ (by omega)]at hb;obtain rfl:=Option.some.inj hb;rw[hbig _ (Nat.le_add_right _ _),show st.next+(b-X.length)-st.next+X.length=b by omega]; exact hl
 have hfrom:∀ (t:Trie Blk) (i:Nat) b,(og (bZ X st.next) X bs1 st.next t).get i=some b->(∃ (j:Nat) (b0:Blk),bs1[j]? = some b0/\b=qE (bZ X st.next) b0/\jU X st.next Y Y1 (i:Int)=Y1 (j:Int)/\bZ X st.next j=some i/\(i∈X\/st.next<=i/\i<st.next+(bs1.length-X.length)))\/(i∉X/\¬(st.next<=i/\i<st.next+(bs1.length-X.length))/\t.get i=some b):=by
  intro t i b hi;rcases ng X bs1 st.next t i hnd hlen (fun b hb=>(hsrc b (hXs b hb)).choose_spec.2)with⟨j,g1,g2⟩ | ⟨g1,g2⟩
  ·rw[g2]at hi;cases hx:bs1[j]? with
   |none=>rw[hx]at hi; cases hi
   |some b0=>
    rw[hx]at hi;have hm:=List.mem_of_getElem? g1;refine Or.inl ⟨j,b0,hx,(Option.some.inj hi).symm,?_,?_,Or.inl hm⟩
    ·rw[hold i (hsrc i (hXs i hm)).choose_spec.2,hre j i g1]
    ·rw[vU _ _ _ (List.getElem?_eq_some_iff.1 g1).1]; exact g1
  ·rw[g2]at hi;split at hi
   ·rename_i hr;cases hx:bs1[i-st.next+X.length]? with
    |none=>rw[hx]at hi; cases hi
    |some b0=>
     rw[hx]at hi;refine Or.inl ⟨_,b0,hx,(Option.some.inj hi).symm,hbig i hr.1,?_,Or.inr hr⟩;rw[vT _ _ _ (by omega)];congr 1;omega
   ·rename_i hr;exact Or.inr ⟨g1,hr,hi⟩
 have hlone:∀ (i:Nat) b,(vI X [] ⟨.leaf,st.next⟩ bs1).heap.get i=some b->∃ (j:Nat) (b0:Blk),(mkSt bs1).heap.get j=some b0/\b=qE (bZ X st.next) b0/\jU X st.next Y Y1 (i:Int)=Y1 (j:Int)/\bZ X st.next j=some i:=by
  intro i b hi;rcases hfrom .leaf i b hi with⟨j,b0,g1,g2,g3,g4,_⟩ | ⟨_,_,g⟩
  ·exact⟨j,b0,by rw[dS]; exact g1,g2,g3,g4⟩
  ·cases g
 have hnx:(mkSt bs1).next=bs1.length:=rfl
 have rl:Rel P K1 (jU X st.next Y Y1) (vI X [] ⟨.leaf,st.next⟩ bs1) w1:=by
  refine⟨h1.base,fun i l hi=>?_,fun i b hi hl=>?_,fun i j bi bj li lj hi hbi hj hbj hli hlj v1 v2 e=>?_,fun i hi=>?_,fun k l hk=>h1.nofz k l hk,fun k l hk=>?_,h1.objs.1.neg fun _ _ h=>h,fun _ _=>False,fun i o hi=>?_,fun i k hk=>hk.elim⟩
  ·by_cases hin:i<st.next
   ·rw[hold i hin]at hi;obtain⟨a1,a2⟩:=h.dom i l hi;exact⟨Nat.lt_of_lt_of_le a1 (Nat.le_add_right _ _),fun hv=>Nat.lt_of_lt_of_le (a2 hv) hb.size⟩
   ·rw[hbig i (by omega)]at hi;obtain⟨a1,a2⟩:=h1.dom _ l hi;exact⟨by show i<st.next+(bs1.length-X.length); omega,a2⟩
  ·obtain⟨j,b0,a2,rfl,a3,_⟩:=hlone i b hi;obtain⟨l,c1,c2,c3⟩:=h1.blk _ b0 a2 (mW hl);exact⟨l,by rw[a3]; exact c1,c2,OV hren c3⟩
  ·obtain⟨i',b0,a2,rfl,a3,a4⟩:=hlone i bi hi;obtain⟨j',d0,c2,rfl,c3,c4⟩:=hlone j bj hj;rw[a3]at hli;rw[c3]at hlj;have:=h1.inj _ _ b0 d0 li lj a2 (mW hbi) c2 (mW hbj) hli hlj v1 v2 e;rw[this,c4]at a4;exact(Option.some.inj a4).symm
  ·rw[k2]at hi;obtain⟨a1,a2⟩:=h.res i hi;exact⟨Nat.lt_of_lt_of_le a1 (Nat.le_add_right _ _),by rw[hold i a1]; exact a2⟩
  ·obtain⟨f1,f2,f3⟩:=h1.frz k l hk;refine⟨f1,f2,fun j bj lj hj hbj hlj hv=>?_⟩;obtain⟨j',d0,c2,rfl,c3,_⟩:=hlone j bj hj;rw[c3]at hlj;exact f3 _ d0 lj c2 (mW hbj) hlj hv
  ·obtain⟨_,b0,_,e,_⟩:=hlone i _ hi;exact(zf e.symm).elim
 refine⟨hple,k4 _ (vI X [] ⟨.leaf,st.next⟩ bs1) _ w1 hple rl ⟨hb.os,hb.tape,hb.output,hb.size,hb.block⟩ (Nat.le_add_right _ _) (fun i o hi=>?_) rfl (fun i b hi hl=>?_) (fun i o hi hdead=>?_),hren⟩
 ·obtain⟨_,b0,_,e,_⟩:=hlone i _ hi;exact(zf e.symm).elim
 ·have hq:=ng (Z:=bZ X st.next) X bs1 st.next .leaf i hnd hlen (fun b hb=>(hsrc b (hXs b hb)).choose_spec.2)
  have hq2:=ng (Z:=bZ X st.next) X bs1 st.next (wI L st.heap) i hnd hlen (fun b hb=>(hsrc b (hXs b hb)).choose_spec.2)
  have hi:(og (bZ X st.next) X bs1 st.next (wI L st.heap)).get i=some b:=hi;rcases hq2 with⟨j,g1,g2⟩ | ⟨g1,g2⟩
  ·refine Or.inl ?_;rcases hq with⟨j',g1',g2'⟩ | ⟨g1',_⟩
   ·have:j'=j:=Ad hnd g1' g1;subst this;show(og _ X bs1 st.next .leaf).get i=_;rw[g2',<-g2]; exact hi
   ·exact absurd (List.mem_of_getElem? g1) g1'
  ·rcases hq with⟨j',g1',g2'⟩ | ⟨g1',g2'⟩
   ·exact absurd (List.mem_of_getElem? g1') g1
   ·rw[g2]at hi;split at hi
    ·rename_i hr;refine Or.inl ?_;show(og _ X bs1 st.next .leaf).get i=_;rw[g2',if_pos hr]; exact hi
    ·rename_i hr;rw[BH]at hi;split at hi
     ·obtain rfl:=Option.some.inj hi; cases hl
     ·rename_i hns;refine Or.inr ⟨fun c hc=>?_,fun c hc=>?_,hi⟩
      ·have hc:(og _ X bs1 st.next .leaf).get i=some c:=hc;rw[g2',if_neg hr]at hc; cases hc
      ·rw[h0,if_neg (hsX i g1 hns)]at hc; cases hc
 ·obtain⟨l,hl,_⟩:=h.blk i _ hi rfl;have hlt:=(h.dom i l hl).1;show(og _ X bs1 st.next (wI L st.heap)).get i=_;rcases ng (Z:=bZ X st.next) X bs1 st.next (wI L st.heap) i hnd hlen (fun b hb=>(hsrc b (hXs b hb)).choose_spec.2)with⟨j,g1,g2⟩ | ⟨g1,g2⟩
  ·obtain⟨x,hc,hcm⟩:=hcells i (hXs i (List.mem_of_getElem? g1));rw[hi]at hc; cases hc; cases hcm
  ·rw[g2,if_neg (by omega),BH,if_neg]
   ·exact hi
   ·intro hm;obtain⟨x,hc,hcm⟩:=hcells i (hLs i hm);rw[hi]at hc; cases hc; cases hcm
def uD{J:Type}(h:Nat->Option Blk)(n:Nat):List Value->List Nat->List Nat->(List Nat->List Nat->J)->J:=
 @Nat.rec (fun _=>List Value->List Nat->List Nat->(List Nat->List Nat->J)->J) (fun _ X L k=>k X L)
  (fun _ ih vs X L k=>match vs with
   |[]=>k X L
   |v::vs=>match(match v with
     | .slice (some a) _ _=>some a.block
     | .pointer (some a)=>some a.block
     | .map (some r)=>some r
     | .iface _ (.pointer (some a))=>some a.block
     |_=>none)with
    |none=>ih vs X L k
    |some b=>@Bool.rec (fun _=>J)
      (match h b with
       |some (.cells c _ true)=>ih (c.append vs) (X.append [b]) L k
       |some (.map _ _)=>ih vs (X.append [b]) L k
       |_=>ih vs X (L.append [b]) k)
      (ih vs X L k) (or (nH X b) (nH L b))) n
theorem qN{J:Type}(h:Nat->Option Blk):∀ (n:Nat) (vs:List Value) (X L:List Nat) (k:List Nat->List Nat->J),∃ X' L',uD h n vs X L k=k X' L'
 |0,vs,X,L,k=>⟨X,L,rfl⟩
 |n+1,[],X,L,k=>⟨X,L,rfl⟩
 |n+1,v::vs,X,L,k=>by
  show ∃ X' L',(match(match v with
     | .slice (some a) _ _=>some a.block
     | .pointer (some a)=>some a.block
     | .map (some r)=>some r
     | .iface _ (.pointer (some a))=>some a.block
     |_=>none)with
    |none=>uD h n vs X L k
    |some b=>@Bool.rec (fun _=>J)
      (match h b with
       |some (.cells c _ true)=>uD h n (c.append vs) (X.append [b]) L k
       |some (.map _ _)=>uD h n vs (X.append [b]) L k
       |_=>uD h n vs X (L.append [b]) k)
      (uD h n vs X L k) (or (nH X b) (nH L b)))=k X' L'
  split
  ·exact qN h n _ _ _ k
  ·rename_i b _;cases or (nH X b) (nH L b)with
   |true=>exact qN h n _ _ _ k
   |false=>
    simp only;split
    ·exact qN h n _ _ _ k
    ·exact qN h n _ _ _ k
    ·exact qN h n _ _ _ k
def upTo(n:Nat):List Nat->Nat->Bool:=@Nat.rec (fun _=>List Nat->Nat->Bool) (fun _ _=>true)
 (fun _ ih X i=>match X with
  |b::X=>match Nat.beq b i with
   |true=>ih X (Nat.succ i)
   |false=>false
  |[]=>false) n
theorem Ce:∀ (n:Nat) (X:List Nat) (i:Nat),upTo n X i=true->n<=X.length/\∀ j,j<n->X[j]? = some (i+j)
 |0,X,i,h=>⟨Nat.zero_le _,fun j hj=>by omega⟩
 |n+1,[],i,h=>by cases h
 |n+1,b::X,i,h=>by
  have h:(match Nat.beq b i with | true=>upTo n X (i+1) | false=>false)=true:=h;split at h
  ·rename_i hb;obtain rfl:=Nat.eq_of_beq_eq_true hb;obtain⟨h1,h2⟩:=Ce n X _ h;refine⟨by simpa using h1,fun j hj=>?_⟩;cases j with
   |zero=>rfl
   |succ j=>rw[List.getElem?_cons_succ,h2 j (by omega)]; congr 1; omega
  ·cases h
theorem RF{N:Nat}{X L:List Nat}{Y:Env}(h:upTo N X 0=true):leN N Y (iM 0 (X++L) Y):=by
 obtain⟨h1,h2⟩:=Ce _ _ _ h;intro i l hi hl;cases i with
 |negSucc k=>exact hl
 |ofNat i=>
  have hi:i<N:=by have:((i:Nat):Int)<(N:Nat):=hi; omega
  show(if i<0 then Y (i:Int)else match(X++L)[i-0]? with | some b=>Y (b:Int) | none=>none)=some l;rw[if_neg (by omega),Nat.sub_zero,List.getElem?_append_left (by omega),h2 i hi,Nat.zero_add]; exact hl
/-- A loop's head: how many objects,slots,of what kind the lists are that they hold; their types; the objects' fields likewise. -/
structure HeadX where
 N:Nat
 nt:Nat
 L:List Tmp
 fl:List Fl
 ts:List TypeId
 pol:Pol
def HeadX.head(D:HeadX):Head:=⟨D.N,D.nt,D.L,[]⟩
def zF{J:Type}(P:Program)(D:HeadX)(s:Trie Value)(st:St)(k:List Nat->List Nat->St->List Value->List Blk->DT J):DT J:=
 pY P 60 D.fl D.ts (D.L.map (qx s)) st fun vs1 ps st1=>A7 P D.pol 200 ps [] st1 fun st2=>
  uD (rM st2) 1000 vs1 [] [] fun X L=>match Nat.beq X.length D.N,oq 0 (X.append L) (fun i=>dF (path i) st2.heap) (X.append L)with
  |true,some ms=>k X L st2 (vs1.map (fM true (rhoO 0 (X.append L)))) ms
  |_,_=> .fail
theorem zT{J:Type}{r:J}{D:HeadX}{s:Trie Value}{st:St}{k:List Nat->List Nat->St->List Value->List Blk->DT J}(h:(zF P D s st k).eval=some r) :
  ∃ X L st2 vs1 ms,(k X L st2 (vs1.map (fM true (rhoO 0 (X++L)))) ms).eval=some r/\X.length=D.N/\oq 0 (X++L) (fun i=>st2.heap.get i) (X++L)=some ms/\
   ∀ (K:Prot) (Y:Env) (w:World) (n:Nat) (tmps:Array Value),Rel P K Y st w->iQ Y s n tmps->∃ Y1,Y.le Y1/\Rel P K Y1 st2 w/\VRL Y1 vs1 (D.L.map fun t=>tmps.getD t undef):=by
 unfold zF at h;obtain⟨vs1,ps,st1,h1,h3,h4⟩:=mX _ _ _ _ _ _ h;obtain⟨st2,k1,k2⟩:=oW _ _ _ _ _ h1;obtain⟨X,L,hX⟩:=qN (rM st2) 1000 vs1 [] [] fun X L=>match Nat.beq X.length D.N,oq 0 (X.append L) (fun i=>dF (path i) st2.heap) (X.append L)with
  |true,some ms=>k X L st2 (vs1.map (fM true (rhoO 0 (X.append L)))) ms
  |_,_=> .fail
 rw[hX]at k1;split at k1
 ·rename_i ms hn hm;refine⟨X,L,st2,vs1,ms,k1,Nat.eq_of_beq_eq_true hn,by simp only[cu]at hm; exact hm,fun K Y w n tmps hr hs=>?_⟩;obtain⟨Y1,a1,a2,a3⟩:=h4 K Y w _ hr (SL hs D.L);obtain⟨Y2,b1,b2⟩:=k2 K Y1 w a2;exact⟨Y2,a1.trans b1,b2,a3.mono b1⟩
 ·cases k1
def LRX(P:Program)(fid id:Nat)(B:Code)(H:Head)(vs:List Value)(bs:List Blk)(e:Ex)(vs':List Value)(bs':List Blk):Prop:=
 ∀ (K:Prot) (Y:Env) (w:World) (fr:Frame) (cs:List Frame) (k:List Item),(∀ i,¬K.id i)->fr.todo = .code B:: .inLoop B:: .inBlock id::k->fr.fn=fid->FrR Y (H.fr vs) fr->Rel P K Y (mkSt bs) w->
  yC H.N P K Y fr cs w e k (H.fr vs') (mkSt bs')/\H.N<=bs'.length
def XJ(P:Program)(D:HeadX):Ex->Trie Value->List Deferred->St->Res:=fun e s d st=>match d with
 |[]=>DT.run (zF P D s st fun X _ _ vs ms=>match upTo D.N X 0 with
  |true=> .leaf (vs,ms)
  |false=> .fail) fun r=>some (.tuple ⟨exV e::r.1⟩,mkSt r.2)
 |_=>none
def aQ(P:Program)(E:Eng)(ct:Ct)(n:Nat)(fid:Nat)(B:Code)(D:HeadX)(vs:List Value)(bs:List Blk):Res:=
 oC P E ct n (oI P E ct n n) fid D.nt none B (mkS D.nt D.L vs) [] (mkSt bs) (XJ P D)
theorem Bg{E:Eng}(hE:EngOk P ct E)(hN:noNum P=true)(hct:CtOk P ct){n fid id:Nat}{B:Code}{D:HeadX}(hocc:Occ P fid (.block id (.loop B))){vs vs1:List Value}{bs bs1:List Blk}{e:Ex}
  (h:aQ P E ct n fid B D vs bs=some (.tuple ⟨exV e::vs1⟩,mkSt bs1)) (K:Prot) (Y:Env) (w:World) (fr:Frame) (cs:List Frame) (k:List Item) (hid:∀ i,¬K.id i) (ht:fr.todo = .code B::k) (hfid:fr.fn=fid) (hf:FrR Y (D.head.fr vs) fr) (hr:Rel P K Y (mkSt bs) w) :
  yC D.head.N P K Y fr cs w e k (D.head.fr vs1) (mkSt bs1)/\D.head.N<=bs1.length:=by
 unfold aQ at h;obtain⟨m,e1,s1,d1,st1,h1,h2⟩:=iY hE (jc hE n n) n fid D.nt none B _ _ _ _ _ h;unfold XJ at h2;split at h2
 ·obtain⟨r,hc,h2⟩:=DT.run_spec h2;obtain⟨X,L,st2,vs2,ms,hc1,hlen,hm,hc2⟩:=zT hc;split at hc1
  ·rename_i hup;simp only[DT.eval,Option.some.injEq]at hc1;subst hc1;simp only[Option.some.injEq,Prod.mk.injEq,Value.tuple.injEq,Array.mk.injEq,List.cons.injEq]at h2;obtain⟨⟨he,rfl⟩,hst⟩:=h2;obtain rfl:=Df he;obtain⟨Y1,fr1,w1,a1,a2,a3,a4,a5,a6,a7,a8,a9⟩:=(eX hN hct m K).code fid B _ _ _ _ _ h1 (hocc.sub (.block (.loop (.refl _)))) Y w fr cs k ht hfid hf hr;obtain⟨Y2,b1,b2,b3⟩:=hc2 K Y1 w1 _ _ a3 a5.slots;obtain⟨m1,m2,m3⟩:=kH hm;have hmid:=kG (N:=0) (src:=X++L) b2 (fun i hi=>(hid i hi).elim) (Nat.zero_le _) m1 m2;have hren:=BF (X++L) Y2;have hms:(mkSt ms).next=bs1.length:=by rw[hst]; rfl
   have hmsl:ms.length=bs1.length:=hms;refine⟨⟨iM 0 (X++L) Y2,fr1,w1,a1,(a2.trans b1 |>.leN _).trans (RF hup),?_,a4,⟨Qz a5.slots.1 ?_,by have:=a5.defers; unfold oH at this; rw[this]; rfl,by have:=a5.round; exact this,a5.mode⟩,a6,a7,a8,a9⟩,?_⟩
   ·rw[<-hst,m3]; exact hmid
   ·exact b3.mapr fun v _ x hx=>iK hren v x hx
   ·rw[<-hmsl,m3,List.length_map,List.length_append];show D.N<=_;omega
  ·cases hc1
 ·cases h2
theorem LRX.again{E:Eng}(hE:EngOk P ct E)(hN:noNum P=true)(hct:CtOk P ct){n fid id:Nat}{B:Code}{D:HeadX}(hocc:Occ P fid (.block id (.loop B))){vs vs1 vs':List Value}{bs bs1 bs':List Blk}{e:Ex}
  (h:aQ P E ct n fid B D vs bs=some (.tuple ⟨exV .normal::vs1⟩,mkSt bs1)) (hl:LRX P fid id B D.head vs1 bs1 e vs' bs'):LRX P fid id B D.head vs bs e vs' bs':=by
 intro K Y w fr cs k hid ht hfid hf hr;obtain⟨⟨Y1,fr1,w1,a1,a2,a3,a4,a5,a6,a7,a8,a9⟩,_⟩:=Bg hE hN hct hocc h K Y w fr cs _ hid ht hfid hf hr;have a9:fr1.todo = .inLoop B:: .inBlock id::k:=a9;have hs:=yO (P:=P) (cs:=cs) (w:=w1) a5.mode a9;obtain⟨⟨Y2,fr2,w2,b1,b2,b3,b4,b5,b6,b7,b8,b9⟩,hb⟩:=hl K Y1 w1 { fr1 with todo:= .code B:: .inLoop B:: .inBlock id::k } cs k hid rfl (a7.trans hfid) ⟨a5.slots,a5.defers,a5.round,a5.mode⟩ a3;exact⟨⟨Y2,fr2,w2,a1.trans (.head hs b1),a2.trans b2,b3,a4.trans b4,b5,b6.trans a6,b7.trans a7,b8.trans a8,b9⟩,hb⟩
theorem LRX.stop{E:Eng}(hE:EngOk P ct E)(hN:noNum P=true)(hct:CtOk P ct){n fid id:Nat}{B:Code}{D:HeadX}(hocc:Occ P fid (.block id (.loop B))){vs vs1:List Value}{bs bs1:List Blk}{e:Ex}
  (h:aQ P E ct n fid B D vs bs=some (.tuple ⟨exV e::vs1⟩,mkSt bs1)) (he:e≠ .normal):LRX P fid id B D.head vs bs (lX id e) vs1 bs1:=by
 intro K Y w fr cs k hid ht hfid hf hr;obtain⟨⟨Y1,fr1,w1,a1,a2,a3,a4,a5,a6,a7,a8,a9⟩,hb⟩:=Bg hE hN hct hocc h K Y w fr cs _ hid ht hfid hf hr;refine⟨?_,hb⟩;have a9:=a9.under he (fun i e=>by cases e);cases e with
 |normal=>exact absurd rfl he
 |ret=>exact⟨Y1,fr1,w1,a1,a2,a3,a4,a5,a6,a7,a8,a9⟩
 |exit i=>
  obtain⟨k2,h1,h2⟩:=a9;cases hb:Nat.beq i id with
  |true=>
   have hx2:lX id (.exit i) = .normal:=by simp only[lX,hb]
   rw[hx2];have:=Nat.eq_of_beq_eq_true hb;subst this;have hx:exitTo i k2=some k:=by rw[h2]; simp[exitTo]
   exact⟨Y1,{ fr1 with todo:=k },w1,a1.trans (.one (s_exit a5.mode h1 hx)),a2,a3,a4,a5.todo k,a6,a7,a8,rfl⟩
  |false=>
   have hx2:lX id (.exit i) = .exit i:=by simp only[lX,hb]
   rw[hx2];have:=Nat.ne_of_beq_eq_false hb;refine⟨Y1,fr1,w1,a1,a2,a3,a4,a5,a6,a7,a8,k2,h1,?_⟩;rw[h2];have:(id == i)=false:=by simp; exact fun ee=>this ee.symm
   simp[exitTo,this]
structure LoopOkX(P:Program)(fid id:Nat)(B:Code)(H:Head)(R:lC):Prop where
 occ:∀ c,Occ P fid (.block id c)->c = .loop B
 run:∀ vs bs t,R vs bs=some t->∀ e vs' bs',t.eval=some (e,vs',bs')->LRX P fid id B H vs bs e vs' bs'
def Qn(P:Program)(D:HeadX)(R:lC)(f:Fr)(st:St):Option (DT (Ex×Trie Value×St)):=
 match f.defers,f.roundOf,Nat.beq f.ntmps D.nt with
 |[],none,true=>some (zF P D f.slots st fun X L st2 vs ms=>match R vs ms with
  |some t=>t.map fun x=>(x.1,mkS D.nt D.L (x.2.1.map (fM true (bZ X st2.next))),vI X L st2 x.2.2)
  |none=> .fail)
 |_,_,_=>none
def dR(P:Program)(fid id:Nat)(D:HeadX)(R:lC)(ct:Ct):Ct where
 call:=ct.call
 loop:=fun fid' id' f st=>match and (Nat.beq fid' fid) (Nat.beq id' id)with
  |true=>Qn P D R f st
  |false=>ct.loop fid' id' f st
 op:=ct.op
theorem bf{fid id:Nat}{B:Code}{D:HeadX}{R:lC}(hct:CtOk P ct)(h:LoopOkX P fid id B D.head R):CtOk P (dR P fid id D R ct) where
 opc:=hct.opc
 op:=hct.op
 call:=hct.call
 loop:=by
  intro K fid' id' c f st e s' st' hl hocc Y w fr cs k ht hfid hf hr;simp only[dR]at hl;split at hl
  ·rename_i hb;simp only[Bool.and_eq_true]at hb;obtain rfl:=Nat.eq_of_beq_eq_true hb.1;obtain rfl:=Nat.eq_of_beq_eq_true hb.2;obtain rfl:=h.occ c hocc;unfold Qn at hl;split at hl
   ·rename_i hd hro hnt;have hnt:=Nat.eq_of_beq_eq_true hnt;simp only[Option.bind_some]at hl;obtain⟨X,L,st2,vs1,ms,hk,hXN,hm,hrel⟩:=zT hl;split at hk
    ·rename_i t hR;obtain⟨⟨e1,vs2,bs2⟩,hev,heq⟩:=DT.map_eval hk;simp only[Prod.mk.injEq]at heq;obtain⟨rfl,rfl,rfl⟩:=heq;obtain⟨Y0,b1,b2,b3⟩:=hrel K Y w _ _ hr hf.slots;obtain⟨m1,m2,m3⟩:=kH hm;obtain⟨K',k1,k2,k3,k4⟩:=Kq b2 m1 m2;have hslots:iQ (iM 0 (X++L) Y0) (mkS D.nt D.L (vs1.map (fM true (rhoO 0 (X++L))))) D.nt fr.tmps:=
      Qz (by rw[hf.slots.1]; exact hnt) (b3.mapr fun v _ x hx=>iK (BF (X++L) Y0) v x hx)
     have s1:=II (P:=P) (cs:=cs) (w:=w) hf.mode ht;have s2:=OE (P:=P) (fr:={ fr with todo:= .code (.loop B):: .inBlock id'::k }) (cs:=cs) (w:=w) hf.mode rfl;have hdf:fr.defers=[]:=by have:=hf.defers; rw[hd]at this; exact this
     have hrf:fr.roundOf=none:=by have:=hf.round; rw[hro]at this; exact this
     obtain⟨⟨Y1,fr1,w1,a1,a2,a3,a4,a5,a6,a7,a8,a9⟩,a10⟩:=h.run _ _ t hR _ _ _ hev K' (iM 0 (X++L) Y0) w { fr with todo:= .code B:: .inLoop B:: .inBlock id'::k } cs k k2 rfl hfid ⟨hslots,hdf,hrf,hf.mode⟩ (by rw[m3]; exact k3);have a2:leN X.length (iM 0 (X++L) Y0) Y1:=by rw[hXN]; exact a2
     have a10:X.length<=bs2.length:=by rw[hXN]; exact a10
     obtain⟨c1,c2,c3⟩:=k4 Y1 bs2 w1 a2 a10 a3 a4;refine⟨_,fr1,w1, .head s1 (.head s2 a1),b1.trans c1,c2,a4.mono k1,⟨⟨by rw[a5.slots.1]; exact hnt.symm,fun i=>?_⟩,?_,?_,a5.mode⟩,a6,a7,a8,a9⟩
     ·show VR _ (((mkS D.nt D.L (vs2.map (fM true (bZ X st2.next)))).get i).getD undef) _;rw[acn rfl Yi];exact iK c3 _ _ (a5.slots.2 i)
     ·show oH _ f.defers _;rw[hd]; exact a5.defers
     ·show sF _ f.roundOf _;rw[hro]; exact a5.round
    ·cases hk
   ·cases hl
  ·exact hct.loop K fid' id' c f st e s' st' hl hocc Y w fr cs k ht hfid hf hr
def Vf(N:Nat)(P:Program)(K:Prot)(Y:Env)(g:FuncId)(args':Array Value)(kind:CallKind)(cs:List Frame)(w:World)(v:Value)(st':St):Prop:=
 ∃ Y' fr w' v',Steps P (lone (Frame.enter P g args' kind) cs w) (lone fr cs w')/\leN N Y Y'/\Rel P K Y' st' w'/\Bel K w w'/\VR Y' v v'/\Left P fr g kind v' w'
def CRX(P:Program)(N:Nat)(g:FuncId)(args:List Value)(bs:List Blk)(v:Value)(bs':List Blk):Prop:=
 ∀ (K:Prot) (Y:Env) (w:World) (args':Array Value) (cs:List Frame),(∀ i,¬K.id i)->VRL Y args args'.toList->Rel P K Y (mkSt bs) w->Vf N P K Y g args' .normal cs w v (mkSt bs')/\N<=bs'.length
structure CallOkX(P:Program)(N:Nat)(g:FuncId)(R:iG):Prop where
 run:∀ args bs t,R args bs=some t->∀ v bs',t.eval=some (v,bs')->CRX P N g args bs v bs'
def Rl(P:Program)(pol:Pol)(N:Nat)(g:FuncId)(R:iG)(args:List Value)(st:St):DT (Value×St):=
 A7 P pol 200 (abJ args) [] st fun st1=>ve P 100 (aet P g) args st1 fun args1 st2=>
  uD (rM st2) 1000 args1 [] [] fun X L=>match Nat.beq X.length N,oq 0 (X.append L) (fun i=>dF (path i) st2.heap) (X.append L)with
  |true,some ms=>match R (args1.map (fM true (rhoO 0 (X.append L)))) ms with
   |some t=>t.map fun x=>(fM true (bZ X st2.next) x.1,vI X L st2 x.2)
   |none=> .fail
  |_,_=> .fail
def bJ(P:Program)(pol:Pol)(N:Nat)(g:FuncId)(R:iG)(ct:Ct):Ct where
 call:=fun g' args st=>match Nat.beq g' g with
  |true=>some (Rl P pol N g R args st)
  |false=>ct.call g' args st
 loop:=ct.loop
 op:=ct.op
theorem aO{pol:Pol}{N:Nat}{g:FuncId}{R:iG}(hct:CtOk P ct)(h:CallOkX P N g R):CtOk P (bJ P pol N g R ct) where
 opc:=hct.opc
 op:=hct.op
 loop:=hct.loop
 call:=by
  intro K g' args st v st' hl Y w args' cs ha hr;simp only[bJ]at hl;split at hl
  ·rename_i hb;obtain rfl:=Nat.eq_of_beq_eq_true hb;simp only[Rl,Option.bind_some]at hl;obtain⟨st1,h1,h2⟩:=oW _ _ _ _ _ hl;obtain⟨args1,st2,k1,k2,k3,k4⟩:=lK _ _ _ _ _ h1;obtain⟨X,L,hX⟩:=qN (rM st2) 1000 args1 [] [] fun X L=>match Nat.beq X.length N,oq 0 (X.append L) (fun i=>dF (path i) st2.heap) (X.append L)with
    |true,some ms=>match R (args1.map (fM true (rhoO 0 (X.append L)))) ms with
     |some t=>t.map fun(x:Value×List Blk)=>(fM true (bZ X st2.next) x.1,vI X L st2 x.2)
     |none=> .fail
    |_,_=> .fail
   rw[hX]at k1;split at k1
   ·rename_i ms hn hm;have hm:oq 0 (X++L) (fun i=>dF (path i) st2.heap) (X++L)=some ms:=hm;have hXN:=Nat.eq_of_beq_eq_true hn;split at k1
    ·rename_i t hR;obtain⟨⟨v1,bs1⟩,hev,heq⟩:=DT.map_eval k1;simp only[Prod.mk.injEq]at heq;obtain⟨rfl,rfl⟩:=heq;obtain⟨Y1,a1,a2⟩:=h2 K Y w hr;obtain⟨Y2,b1,b2,b3⟩:=k4 K Y1 w args'.toList a2 (ha.mono a1);obtain⟨m1,m2,m3⟩:=kH hm;simp only[cu]at m2 m3;obtain⟨K',q1,q2,q3,q4⟩:=Kq b2 m1 m2;have ha':VRL (iM 0 (X++L) Y2) (args1.map (fM true (rhoO 0 (X++L)))) args'.toList:=b3.mapr fun v _ x hx=>iK (BF _ _) v x hx;obtain⟨⟨Y3,fr,w1,v',d1,d2,d3,d4,d5,d6⟩,d7⟩:=h.run _ _ t hR v1 bs1 hev K' _ w args' cs q2 ha' (by rw[m3]; exact q3);obtain⟨c1,c2,c3⟩:=q4 Y3 bs1 w1 (by rw[hXN]; exact d2) (by rw[hXN]; exact d7) d3 d4;exact⟨_,fr,w1,v',d1,(a1.trans b1).trans c1,c2,d4.mono q1,iK c3 _ _ d5,d6⟩
    ·cases k1
   ·cases k1
  ·exact hct.call K g' args st v st' hl Y w args' cs ha hr
def IA(v:Value):List Value:=match v with
 | .tuple ⟨a⟩=>a
 |v=>[v]
def Ny(v:Value)(l:List Value):Value:=match v with
 | .tuple _=> .tuple ⟨l⟩
 |_=>match l with
  |[x]=>x
  |l=> .tuple ⟨l⟩
def bn(P:Program)(E:Eng)(ct:Ct)(n:Nat)(pol:Pol)(fl:List Fl)(ts:List TypeId)(N:Nat)(g:FuncId)(args:List Value)(bs:List Blk):Res:=
 (oI P E ct n n).call g args (mkSt bs) fun v st=>DT.run (pY P 60 fl ts (IA v) st fun vs1 ps st1=>A7 P pol 200 (List.append (abJ args) ps) [] st1 fun st2=>
  uD (rM st2) 1000 (List.append args vs1) [] [] fun X L=>match upTo N X 0,Nat.beq vs1.length (IA v).length,oq 0 (X.append L) (fun i=>dF (path i) st2.heap) (X.append L)with
  |true,true,some ms=> .leaf (Ny v (vs1.map (fM true (rhoO 0 (X.append L)))),ms)
  |_,_,_=> .fail) fun r=>some (r.1,mkSt r.2)
theorem aaA{Y:Env}{v v':Value}(h:VR Y v v'):∃ xs,VRL Y (IA v) xs/\∀ (Y':Env) (vs:List Value),vs.length=(IA v).length->VRL Y' vs xs->VR Y' (Ny v vs) v':=by
 by_cases hn:∃ a,v = .tuple a
 ·obtain⟨⟨a⟩,rfl⟩:=hn;simp only[VR]at h;obtain⟨a',rfl,ha⟩:=h;refine⟨a'.toList,?_,fun Y' vs _ hv=>?_⟩
  ·simp only[VRA]at ha;exact ha
  ·simp only[Ny,VR];exact⟨a',rfl,by simp only[VRA]; exact hv⟩
 ·have h1:IA v=[v]:=by cases v<;>first | rfl | exact absurd ⟨_,rfl⟩ hn
  have h2:∀ x,Ny v [x]=x:=by intro x; cases v<;>first | rfl | exact absurd ⟨_,rfl⟩ hn
  rw[h1];refine⟨[v'],VRL.cons h VRL.nil,fun Y' vs hl hv=>?_⟩
  match vs,hl with
  |[x],_=>
   rw[h2];simp only[VRL]at hv;obtain⟨y,ys,e,hy,_⟩:=hv;cases e;exact hy
theorem CRX.of{E:Eng}(hE:EngOk P ct E)(hN:noNum P=true)(hct:CtOk P ct){n:Nat}{pol:Pol}{fl:List Fl}{ts:List TypeId}{N:Nat}{g:FuncId}{args:List Value}{bs:List Blk}{v:Value}{bs':List Blk}(h:bn P E ct n pol fl ts N g args bs=some (v,mkSt bs')):CRX P N g args bs v bs':=by
 intro K Y w args' cs hid ha hr;unfold bn at h;obtain⟨m,v1,st1,h1,h2⟩:=(jc hE n n).call _ _ _ _ _ h;obtain⟨Y1,fr,w1,v',a1,a2,a3,a4,a5,a6⟩:=(eX hN hct m K).call g args (mkSt bs) v1 st1 h1 Y w args' .normal cs (Or.inl rfl) ha hr;obtain⟨r,hc,h2⟩:=DT.run_spec h2;obtain⟨vs1,ps,st2,f1,f2,f3⟩:=mX _ _ _ _ _ _ hc;obtain⟨st3,g1,g2⟩:=oW _ _ _ _ _ f1;obtain⟨X,L,hX⟩:=qN (rM st3) 1000 (List.append args vs1) [] [] fun X L=>match upTo N X 0,Nat.beq vs1.length (IA v1).length,oq 0 (X.append L) (fun i=>dF (path i) st3.heap) (X.append L)with
  |true,true,some ms=>DT.leaf (Ny v1 (vs1.map (fM true (rhoO 0 (X.append L)))),ms)
  |_,_,_=> .fail
 rw[hX]at g1;split at g1
 ·rename_i ms hup hvl hm;have hm:oq 0 (X++L) (fun i=>dF (path i) st3.heap) (X++L)=some ms:=hm;simp only[DT.eval,Option.some.injEq]at g1;subst g1;simp only[Option.some.injEq,Prod.mk.injEq]at h2;obtain⟨rfl,hst⟩:=h2;obtain⟨m1,m2,m3⟩:=kH hm;simp only[cu]at m2 m3;have hvl:=Nat.eq_of_beq_eq_true hvl;obtain⟨xs,x1,x2⟩:=aaA a5;obtain⟨Y2,c1,c2,c3⟩:=f3 K Y1 w1 xs a3 x1;obtain⟨Y3,d1,d2⟩:=g2 K Y2 w1 c2;have hmid:=kG (N:=0) (src:=X++L) d2 (fun i hi=>(hid i hi).elim) (Nat.zero_le _) m1 m2;have hren:=BF (X++L) Y3;have hmsl:ms.length=bs'.length:=by have:=congrArg St.next hst; exact this
  refine⟨⟨iM 0 (X++L) Y3,fr,w1,v',a1,(((a2.trans c1).trans d1).leN _).trans (RF hup),?_,a4,?_,a6⟩,?_⟩
  ·rw[<-hst,m3]; exact hmid
  ·refine x2 _ _ (by rw[List.length_map]; exact hvl) ((c3.mono d1).mapr fun v _ x hx=>iK hren v x hx)
  ·rw[<-hmsl,m3,List.length_map,List.length_append];have:=(Ce _ _ _ hup).1;omega
 ·cases g1
theorem f_{U:Type}(k:Con U){N:Nat}{g:FuncId}{res:U->DT (Value×List Blk)}(h:∀ s,k.ok s->∀ v bs',(res s).eval=some (v,bs')->CRX P N g (k.enc s).1 (k.enc s).2 v bs'):CallOkX P N g (jS k.C k.D res):=by
 refine⟨fun args bs t hR v bs' hev=>?_⟩;unfold jS at hR;obtain rfl:=Option.some.inj hR;cases hc:k.C args bs with
 |false=>rw[hc]at hev; cases hev
 |true=>
  rw[hc]at hev;obtain⟨s,h1,h2,h3⟩:=k.of hc;have hev:(res (k.D args bs)).eval=some (v,bs'):=hev;rw[h3]at hev;have:=h s h2 v bs' hev;rwa [h1]at this
theorem fQ{U:Type}(k:Con U){fid id:Nat}{B:Code}{H:Head}{res:U->DT (Ex×List Value×List Blk)}(hocc:∀ c,Occ P fid (.block id c)->c = .loop B)
  (h:∀ s,k.ok s->∀ e vs' bs',(res s).eval=some (e,vs',bs')->LRX P fid id B H (k.enc s).1 (k.enc s).2 e vs' bs'):LoopOkX P fid id B H (kP k.C k.D res) where
 occ:=hocc
 run:=by
  intro vs bs t hR e vs' bs' hev;unfold kP at hR;obtain rfl:=Option.some.inj hR;cases hc:k.C vs bs with
  |false=>rw[hc]at hev; cases hev
  |true=>
   rw[hc]at hev;obtain⟨s,h1,h2,h3⟩:=k.of hc;have hev:(res (k.D vs bs)).eval=some (e,vs',bs'):=hev;rw[h3]at hev;have:=h s h2 e vs' bs' hev;rwa [h1]at this
open Classical in
def Con.at{U:Type}(k:Con U)(s:U):List Value->List Blk->Bool:=fun vs bs=>decide (k.enc s=(vs,bs))
open Classical in
theorem Con.at_true{U:Type}(k:Con U){s:U}{vs:List Value}{bs:List Blk}(h1:(k.enc s).1=vs)(h2:(k.enc s).2=bs):k.at s vs bs=true:=by
 unfold Con.at; exact decide_eq_true (by rw[<-h1,<-h2])
open Classical in
theorem Con.at_of{U:Type}(k:Con U){s:U}{vs:List Value}{bs:List Blk}(h:k.at s vs bs=true):k.enc s=(vs,bs):=by
 unfold Con.at at h; exact of_decide_eq_true h
def iL(C:List Value->List Blk->Bool)(t:DT (Value×List Blk)):iG:=fun args bs=>some (.ite (C args bs) t .fail)
def iD(C:List Value->List Blk->Bool)(t:DT (Ex×List Value×List Blk)):lC:=fun vs bs=>some (.ite (C vs bs) t .fail)
theorem eF{U:Type}(k:Con U){N:Nat}{g:FuncId}{res:U->DT (Value×List Blk)}(h:CallOkX P N g (jS k.C k.D res)){s:U}(ho:k.ok s):CallOkX P N g (iL (k.at s) (res s)):=by
 refine⟨fun args bs t hR v bs' hev=>?_⟩;unfold iL at hR;obtain rfl:=Option.some.inj hR;cases hc:k.at s args bs with
 |false=>rw[hc]at hev; cases hev
 |true=>
  rw[hc]at hev;have he:=k.at_of hc;refine h.run args bs _ rfl v bs' ?_;rw[k.C_enc he ho,k.D_enc he];exact hev
theorem gU{U:Type}(k:Con U){fid id:Nat}{B:Code}{H:Head}{res:U->DT (Ex×List Value×List Blk)}(h:LoopOkX P fid id B H (kP k.C k.D res)){s:U}(ho:k.ok s):LoopOkX P fid id B H (iD (k.at s) (res s)) where
 occ:=h.occ
 run:=by
  intro vs bs t hR e vs' bs' hev;unfold iD at hR;obtain rfl:=Option.some.inj hR;cases hc:k.at s vs bs with
  |false=>rw[hc]at hev; cases hev
  |true=>
   rw[hc]at hev;have he:=k.at_of hc;refine h.run vs bs _ rfl e vs' bs' ?_;rw[k.C_enc he ho,k.D_enc he];exact hev
end
section
variable{P:Program}{ct:Ct}
theorem Rel.below{K:Prot}{Y:Env}{st:St}{w w':World}(hr:Rel P K Y st w)(hb:Below w.heap.size w w'):Rel P K Y st w'/\Bel K w w':=
 ⟨hr.more hb.size hb.block,⟨hb.os,hb.tape,hb.output,hb.size,fun k hk=>hb.block k (hr.base k hk)⟩⟩
def xK(Y:Env)(A:Nat)(o:Obj):Env
 | .ofNat i=>Y (.ofNat i)
 | .negSucc k=>if k=A then some ⟨A,0,0,0,some o,false⟩else Y (.negSucc k)
theorem xn(Y:Env)(A:Nat)(o:Obj):xK Y A o (Int.negSucc A)=some ⟨A,0,0,0,some o,false⟩:=if_pos rfl
theorem rO(Y:Env){A k:Nat}(o:Obj)(h:k≠A):xK Y A o (Int.negSucc k)=Y (Int.negSucc k):=if_neg h
theorem Rel.freezeNew{K:Prot}{Y:Env}{st:St}{w w':World}(hr:Rel P K Y st w)(hb:Below w.heap.size w w'){A:Nat}(hA:w.heap.size<=A){cs:Array Value}{e:TypeId}{f:Nat×Nat}(hc:w'.heap[A]? = some (.cells cs e f)) :
  Y.le (xK Y A (.cells cs e f))/\Rel P K (xK Y A (.cells cs e f)) st w':=by
 have hr':=(hr.below hb).1;have hn:Y (Int.negSucc A)=none:=by
  cases hx:Y (Int.negSucc A)with
  |none=>rfl
  |some l=>have:=ru hr hx; omega
 have hle:Y.le (xK Y A (.cells cs e f)):=by
  intro i l hi;cases i with
  |ofNat i=>exact hi
  |negSucc k=>
   have hk:k≠A:=by rintro rfl; rw[hn]at hi; cases hi
   rw[rO _ _ hk]; exact hi
 refine⟨hle,hr'.base,fun i l hi=>hr'.dom i l hi,fun i b hi hl=>?_,fun i j bi bj li lj hi hbi hj hbj hli hlj=>hr'.inj i j bi bj li lj hi hbi hj hbj hli hlj,fun i hi=>hr'.res i hi,fun k l hk=>?_,fun k l hk=>?_,?_⟩
 ·obtain⟨l,a,b,c⟩:=hr'.blk i b hi hl;exact⟨l,hle _ _ a,b,c.mono hle⟩
 ·by_cases e:k=A
  ·subst e;intro hz;have:=hr.base k (K.sub k hz);omega
  ·rw[rO _ _ e]at hk;exact hr'.nofz k l hk
 ·by_cases e:k=A
  ·subst e;rw[xn]at hk;obtain rfl:=Option.some.inj hk;refine⟨⟨rfl,rfl⟩,hc,fun j bj lj hj hbj hlj hv hk=>?_⟩;have:=(hr.dom j lj hlj).2 hv;omega
  ·rw[rO _ _ e]at hk;obtain⟨f1,f2,f3⟩:=hr'.frz k l hk;exact⟨f1,f2,fun j bj lj hj hbj hlj=>f3 j bj lj hj hbj hlj⟩
 ·refine hr.objs.step rfl hle hb.size (fun k l hk=>hb.block k (ru hr hk)) (fun i o=>Iff.rfl) (fun i k o l h1 h2 hk hK hf hj=>⟨hb.block k hk,hK,?_,fun j bj lj hj1 hj2 hj3=>hj j bj lj hj1 hj2 hj3⟩);rw[rO _ _ (by omega)]; exact hf
theorem ad4{Y:Env}{A n cap sz:Nat}{cs:Array Value}{e:TypeId}{f:Nat×Nat}{c:List Value}(hsz:sz≠0)(h:Y (Int.negSucc A)=some ⟨A,0,0,0,some (.cells cs e f),false⟩)(hl:c.length=n*sz)(hc:VRL (mF Y) c (cs.toList.take (n*sz)))(hcap:n<=cap) :
  VR Y (ai sz n 0 c) (.slice (some ⟨A,0,none⟩) n cap):=by
 unfold ai;simp only[VR];rw[if_neg (Nat.not_lt_of_le (Nat.le_add_right FZ sz))];simp only[VZ,VZA,VZL];refine⟨n,0,rfl,?_⟩;have e1:FZ+sz-FZ=sz:=by omega
 rw[e1];unfold gW;rw[if_neg hsz];refine⟨hl,?_⟩;cases n with
 |zero=>exact Or.inr (Or.inl ⟨rfl,⟨A,0,none⟩,cap,rfl,fun h=>absurd rfl h⟩)
 |succ n=>
  refine Or.inr (Or.inr ⟨Nat.succ_pos n,A,0,cap,cs,e,f,_,rfl,fun h=>absurd rfl h,h,rfl,?_,?_,hcap⟩)
  ·have:=hc.length;rw[List.length_take,Array.length_toList]at this;have h2:c.length=_:=this;rw[h2,Nat.zero_add];exact Nat.min_le_right _ _
  ·rw[List.drop_zero,hl]; exact hc
theorem uC{Y:Env}:∀ {c:List Value},bT c=true->VRL Y c c
 |[],_=>VRL.nil
 |v::l,h=>by
  simp only[bT,Bool.and_eq_true]at h;exact VRL.cons (VR.flat_refl _ h.1) (uC h.2)
theorem CR.ofCallsV{g:FuncId}{args:List Value}{v:Value}(h:∀ (w:World) (args':Array Value),GW w->VRL (envOf w) args args'.toList->Calls P g args' w fun e w'=>(∃ v',e = .returned v'/\∀ Y,VR Y v v')/\Below w.heap.size w w'):CR P g args v []:=by
 intro w args' cs obs hG ha;obtain⟨e,w',fr,⟨⟨v',rfl,hv⟩,hb⟩,hc,h1,l1,l2,l3,fn,l4,l5⟩:=h w args' hG ha cs;exact⟨envOf w,fr,w',v',hc,fun _ _ h=>h,(oZ w obs hG).more hb.size hb.block,⟨hb.os,hb.tape,hb.output,hb.size,hb.block⟩,hv _,l1,l2,l3,h1,fn,by rw[<-h1]; exact l4,l5⟩
theorem CRX.weak{N:Nat}{g:FuncId}{args:List Value}{bs bs':List Blk}{v v':Value}(hv:∀ Y x,VR Y v x->VR Y v' x)(h:CRX P N g args bs v bs'):CRX P N g args bs v' bs':=by
 intro K Y w args' cs hid ha hr;obtain⟨⟨Y',fr,w',x,h1,h2,h3,h4,h5,h6⟩,h7⟩:=h K Y w args' cs hid ha hr;exact⟨⟨Y',fr,w',x,h1,h2,h3,h4,hv _ _ h5,h6⟩,h7⟩
theorem CR.ofX{g:FuncId}{args:List Value}{v:Value}{bs:List Blk}{N:Nat}(h:CRX P N g args [] v bs):CR P g args v bs:=by
 intro w args' cs obs hG ha;obtain⟨⟨Y',fr,w',v',h1,h2,h3,h4,h5,h6⟩,_⟩:=h (K0 w obs) (envOf w) w args' cs (fun _ h=>h) ha (oZ w obs hG);refine⟨Y',fr,w',v',h1,fun i l hi=>?_,h3,h4,h5,h6⟩;cases i with
 |ofNat i=>cases hi
 |negSucc k=>exact h2 _ _ (by show Int.negSucc k<(N:Int); omega) hi
theorem CallOkR.ofX{g:FuncId}{N:Nat}{R:iG}(h:CallOkX P N g R):CallOkR P g (fun args=>R args []):=⟨fun args t hR v bs hev=>CR.ofX (h.run args [] t hR v bs hev)⟩
theorem CR.calls{g:FuncId}{args:List Value}{v:Value}{bs:List Blk}(hv:flat v=true)(h:CR P g args v bs){w:World}{args':Array Value}(hG:GW w)(ha:VRL (envOf w) args args'.toList) :
  Calls P g args' w fun e w'=>e = .returned v/\Below w.heap.size w w':=by
 intro cs;obtain⟨Y',fr,w',v',h1,h2,h3,h4,h5,h6⟩:=h w args' cs Sz hG ha;exact⟨.returned v',w',fr,⟨by rw[VR.of_flat _ _ hv h5],h4.below⟩,h1,h6.2.2.2.1,h6.1,h6.2.1,h6.2.2.1,by rw[h6.2.2.2.1]; exact h6.2.2.2.2⟩
theorem CRX.ofRow{g:FuncId}{args:List Value}{sz n:Nat}{t:TypeId}{c:List Value}(hsz:sz≠0)(hf:bT c=true)(h:∀ (w:World) (args':Array Value),GW w->(∃ Y,VRL Y args args'.toList)->
   Calls P g args' w fun e w'=>∃ A,e = .returned (.slice (some ⟨A,0,none⟩) n n)/\w.heap.size<=A/\w'.ownsRow w.heap.size t sz (.slice (some ⟨A,0,none⟩) n n) n c/\Below w.heap.size w w'):CRX P 0 g args [] (ai sz n 0 c) []:=by
 intro K Y w args' cs hid ha hr;obtain⟨e,w',fr,⟨A,rfl,hA,hown,hb⟩,hc,h1,l1,l2,l3,fn,l4,l5⟩:=h w args' hr.gw ⟨Y,ha⟩ cs;obtain⟨hl,⟨e1,_⟩ | ⟨g',cap,cur,e1,hge,hcell,hn,_,hsize,htake⟩⟩:=hown
 ·cases e1
 ·simp only[Value.slice.injEq,Option.some.injEq,Addr.mk.injEq,true_and,and_true]at e1;obtain⟨rfl,rfl⟩:=e1;obtain⟨b1,b2⟩:=hr.freezeNew hb hA hcell;exact⟨⟨_,fr,w',_,hc,b1.leN _,b2,(hr.below hb).2,ad4 hsz (xn _ _ _) hl (by rw[htake]; exact uC hf) (Nat.le_refl _),l1,l2,l3,h1,fn,by rw[<-h1]; exact l4,l5⟩,Nat.zero_le _⟩
theorem aeg{Y:Env}{A o a:Nat}{cs:Array Value}{e:TypeId}{f:Nat×Nat}{c:List Value}(h:Y (Int.negSucc A)=some ⟨A,0,0,0,some (.cells cs e f),false⟩)(hl:o+c.length<=cs.size)(hc:VRL (mF Y) c ((cs.toList.drop o).take c.length)) :
  VR Y (jl a c) (.pointer (some ⟨A,o+a,none⟩)):=by
 unfold jl;simp only[VR];rw[if_neg (Nat.lt_irrefl FZ)];simp only[VZ,VZA,VZL];refine⟨a,0,rfl,?_⟩;rw[Nat.sub_self];unfold gW;rw[if_pos rfl];exact⟨A,o,cs,e,f,_,rfl,h,rfl,hl,hc⟩
theorem rY{Y:Env}:∀ {c l:List Value},bT c=true->VRL Y c l->l=c
 |[],_,_,h=>h
 |v::c,_,h,⟨y,ys,e,h1,h2⟩=>by
  simp only[bT,Bool.and_eq_true]at h;rw[e,VR.of_flat _ _ h.1 h1,rY h.2 h2]
theorem CRX.ofNew{g:FuncId}{args:List Value}{t:TypeId}{c:List Value}{e:TypeId}(ht:t<2^64)(ha:bT args=true)(hf:bT c=true)(h:CR P g args (.iface t (.pointer (some ⟨0,0,none⟩))) [.cells c e true]):CRX P 0 g args [] (.iface t (jl 0 c)) []:=by
 intro K Y w args' cs hid hva hr;have hva':VRL (envOf w) args args'.toList:=by rw[rY ha hva]; exact uC ha
 obtain⟨Y1,fr,w',v',hc,h1,h2,h3,h4,h5⟩:=h w args' cs Sz hr.gw hva';have htf:t<FZ:=by unfold FZ; exact ht
 simp only[VR]at h4;rw[if_pos htf]at h4;obtain⟨x',rfl,_,l,hl,rfl⟩:=h4;obtain⟨l0,a1,a2,a3⟩:=h2.blk 0 (.cells c e true) rfl rfl;obtain rfl:l0=l:=by rw[a1]at hl; exact Option.some.inj hl
 have hb:Below w.heap.size w w':=h3.below;rcases a3 with⟨q1,q2,q3⟩ | ⟨q0,cc,f,q1,q2,q3,q4,q5,q6,q7⟩
 ·cases q3
 ·have hA:w.heap.size<=l0.blk:=by
   have:=a2 q0;exact Nat.le_of_not_lt this
  have q8:=(q5 rfl).1;obtain⟨b1,b2⟩:=hr.freezeNew hb hA q1;refine⟨⟨_,fr,w',_,hc,b1.leN _,b2,(hr.below hb).2,?_,h5⟩,Nat.zero_le _⟩;simp only[VR];rw[if_pos htf];refine⟨_,rfl,?_⟩;have:=aeg (Y:=xK Y l0.blk (.cells cc e f)) (a:=0) (xn _ _ _) (o:=l0.base) (by omega) (c:=c) (by rw[rY hf q6]; exact uC hf);exact this
def MJ(P:Program)(E:Eng)(ct:Ct)(n:Nat)(g:FuncId)(args:List Value):Res:=
 (oI P E ct n n).call g args (start 0) fun v st=>match v with
  | .iface t (.pointer (some a))=>match oq 0 [a.block] (fun i=>dF (path i) st.heap) [a.block]with
   |some ms=>some (fM true (rhoO 0 [a.block]) (.iface t (.pointer (some a))),mkSt ms)
   |none=>none
  |_=>none
theorem CR.ofN{E:Eng}(hE:EngOk P ct E)(hN:noNum P=true)(hct:CtOk P ct){n:Nat}{g:FuncId}{args:List Value}{v:Value}{bs:List Blk}(h:MJ P E ct n g args=some (v,mkSt bs)):CR P g args v bs:=by
 intro w args' cs obs hG ha;unfold MJ at h;obtain⟨m,v1,st1,h1,h2⟩:=(jc hE n n).call _ _ _ _ _ h;obtain⟨Y1,fr,w1,v',a1,a2,a3,a4,a5,a6⟩:=(eX hN hct m (K0 w obs)).call g args (start 0) v1 st1 h1 (envOf w) w args' .normal cs (Or.inl rfl) ha (oZ w obs hG);split at h2
 ·rename_i t a;split at h2
  ·rename_i ms hm;simp only[Option.some.injEq,Prod.mk.injEq]at h2;obtain⟨rfl,hst⟩:=h2;obtain⟨m1,m2,m3⟩:=kH hm;simp only[cu]at m2 m3;have hren:RenOk true (rhoO 0 [a.block]) Y1 (iM 0 [a.block] Y1):=BF _ _;have hmid:=kG (N:=0) (src:=[a.block]) a3 (fun i hi=>hi.elim) (Nat.zero_le _) m1 m2;refine⟨iM 0 [a.block] Y1,fr,w1,v',a1,?_,?_,a4,iK hren _ _ a5,a6⟩
   ·intro i l hi;cases i with
    |ofNat i=>cases hi
    |negSucc k=>exact a2 _ _ hi
   ·rw[<-hst,m3]; exact hmid
  ·cases h2
 ·cases h2
end
end Go.VS
end

noncomputable section
namespace Go.VS.Tryz
open Go.VS Go.RowKit Go.Sort
set_option maxRecDepth 1000000
theorem aeV{w:World}(h:GW w):Lib.TabIs P w "internal/strconv.uint64pow10" .u64 Lib.pow10Tab:=by
 obtain⟨o,h1,e,f,rfl⟩:=h (4,_) (by simp only[globs]; exact List.mem_cons_of_mem _ (List.mem_cons_self ..));have e1:P.globalNamed "internal/strconv.uint64pow10" =some 4:=by kernel_rfl
 have e2:Lib.pow10Tab=pow10L:=by decide
 unfold Lib.TabIs World.var?;rw[e1,e2];simp only[Option.bind_some,h1]
theorem adG{w:World}(h:GW w):∃ t p,w.var? P "strconv.ErrSyntax" =some #[.iface t p]:=by
 obtain⟨o,h1,t,p,e,f,rfl⟩:=h (2,_) (by simp only[globs]; exact List.mem_cons_of_mem _ (List.mem_cons_of_mem _ (List.mem_cons_self ..)));have e1:P.globalNamed "strconv.ErrSyntax" =some 2:=by kernel_rfl
 refine⟨t,p,?_⟩;unfold World.var?;rw[e1];simp only[Option.bind_some,h1]
theorem aed{w:World}(h:GW w):∃ t p,w.var? P "strconv.ErrRange" =some #[.iface t p]:=by
 obtain⟨o,h1,t,p,e,f,rfl⟩:=h (3,_) (by simp only[globs]; exact List.mem_cons_of_mem _ (List.mem_cons_of_mem _ (List.mem_cons_of_mem _ (List.mem_cons_self ..))));have e1:P.globalNamed "strconv.ErrRange" =some 3:=by kernel_rfl
 refine⟨t,p,?_⟩;unfold World.var?;rw[e1];simp only[Option.bind_some,h1]
theorem Ul{Y:Env}{s:ByteArray}{args':Array Value}(h:VRL Y [.string s] args'.toList):args'=#[.string s]:=by
 obtain⟨l⟩:=args';simp only[VRL]at h;obtain⟨y,ys,e,hy,rfl⟩:=h;have hy:y = .string s:=hy;subst hy;rw[e]
theorem afB{Y:Env}{s t:ByteArray}{args':Array Value}(h:VRL Y [.string s, .string t] args'.toList):args'=#[.string s, .string t]:=by
 obtain⟨l⟩:=args';simp only[VRL]at h;obtain⟨y,ys,e,hy,z,zs,rfl,hz,rfl⟩:=h;have hy:y = .string s:=hy;have hz:z = .string t:=hz;subst hy hz;rw[e]
theorem aex{Y:Env}{s:ByteArray}{k:IntKind}{c:Int}{args':Array Value}(h:VRL Y [.string s, .int k c] args'.toList):args'=#[.string s, .int k c]:=by
 obtain⟨l⟩:=args';simp only[VRL]at h;obtain⟨y,ys,e,hy,z,zs,rfl,hz,rfl⟩:=h;have hy:y = .string s:=hy;have hz:z = .int k c:=hz;subst hy hz;rw[e]
theorem afD{Y:Env}{k:IntKind}{c:Int}{args':Array Value}(h:VRL Y [.int k c] args'.toList):args'=#[.int k c]:=by
 obtain⟨l⟩:=args';simp only[VRL]at h;obtain⟨y,ys,e,hy,rfl⟩:=h;have hy:y = .int k c:=hy;subst hy;rw[e]
theorem Ie{w w':World}{t:TypeId}(h:w'=w\/∃ n,w'=Lib.bytesWorld w t n):Below w.heap.size w w':=by
 rcases h with rfl | ⟨n,rfl⟩
 ·exact Below.refl _ _
 ·exact⟨rfl,rfl,rfl,by rw[Lib.bytesWorld_size]; omega,fun k hk=>Lib.bytesWorld_at_old w t n k hk⟩
theorem KQ{w w':World}(h:∃ k os,w'=grow (w.drewN k) os):Below w.heap.size w w':=by
 obtain⟨k,os,rfl⟩:=h;exact⟨rfl,rfl,rfl,by simp[grow],fun i hi=>by
  show((w.drewN k).heap++os)[i]? = _;rw[Array.getElem?_append_left (by show i<w.heap.size; omega)]
  rfl⟩
def inB(s:ByteArray)(c:UInt8):Bool:=decide (0<=Lib.indexByte s.data.toList c)
def UI(Q:ByteArray->UInt8->Bool):fG
 |[.string s, .string ⟨⟨[c]⟩⟩]=>some (.leaf (.bool (Q s c),[]))
 |_=>none
theorem afK:CallOkR P 16 (UI inB):=by
 refine⟨fun args t hR v bs hev=>?_⟩;unfold UI at hR;split at hR
 ·rename_i s c;obtain rfl:=Option.some.inj hR;simp only[DT.eval,Option.some.injEq,Prod.mk.injEq]at hev;obtain⟨rfl,rfl⟩:=hev;refine CR.ofCalls rfl fun w args' _ ha=>?_;obtain rfl:=afB ha;exact(Go.Proofs.Tryz.strings_Contains_one s c w).mono fun e w' ⟨h1,h2⟩=>⟨h1,by rw[h2]; exact Below.refl _ _⟩
 ·cases hR
def ixB(s:ByteArray)(c:Int):Int:=Lib.indexByte s.data.toList c.toNat.toUInt8
def Zb(I:ByteArray->Int->Int):fG
 |[.string s, .int .u8 c]=>some (.leaf (.int .i64 (I s c),[]))
 |_=>none
theorem afE:CallOkR P 85 (Zb ixB):=by
 refine⟨fun args t hR v bs hev=>?_⟩;unfold Zb at hR;split at hR
 ·rename_i s c;obtain rfl:=Option.some.inj hR;simp only[DT.eval,Option.some.injEq,Prod.mk.injEq]at hev;obtain⟨rfl,rfl⟩:=hev;refine CR.ofCalls rfl fun w args' _ ha=>?_;obtain rfl:=aex ha;exact(Go.Proofs.Tryz.stringslite_IndexByte s c w).mono fun e w' ⟨h1,h2⟩=>⟨h1,by rw[h2]; exact Below.refl _ _⟩
 ·cases hR
theorem Nj{Y:Env}{t:Nat}{p:Option Addr}(h:t<2^64):VR Y (.iface t (.chan (some 0))) (.iface t (.pointer p)):=by
 simp only[VR];rw[if_pos (by unfold FZ; exact h)];exact⟨_,rfl,rfl⟩
def szS(s:ByteArray):Bool:=Nat.ble s.size 4194304
def Fb(s:ByteArray):Bool:=match Lib.atoiAll s.data.toList with
 | .ok _=>true
 |_=>false
def dE(s:ByteArray):Int:=match Lib.atoiAll s.data.toList with
 | .ok v=>v
 | .range=>Lib.atoiSat s.data.toList
 | _ =>0
def U9(C K:ByteArray->Bool)(V:ByteArray->Int):fG
 |[.string s]=>some (.ite (C s) (.ite (K s) (.leaf (.tuple ⟨[.int .i64 (V s), .nilIface]⟩,[])) (.leaf (.tuple ⟨[.int .i64 (V s), .iface 157 (.chan (some 0))]⟩,[]))) .fail)
 |_=>none
theorem adU:CallOkR P 72 (U9 szS Fb dE):=by
 refine⟨fun args t hR v bs hev=>?_⟩;unfold U9 at hR;split at hR
 ·rename_i s;obtain rfl:=Option.some.inj hR;cases hc:szS s with
  |false=>rw[hc]at hev; cases hev
  |true=>
   rw[hc]at hev;have hsz:=Nat.le_of_ble_eq_true hc;unfold Fb dE at hev;cases hq:Lib.atoiAll s.data.toList with
   |ok n=>
    rw[hq]at hev;simp only[DT.eval,Option.some.injEq,Prod.mk.injEq]at hev;obtain⟨rfl,rfl⟩:=hev;refine CR.ofCalls rfl fun w args' _ ha=>?_;obtain rfl:=Ul ha;exact(Go.Proofs.Tryz.strconv_Atoi_ok s (by omega) n hq w).mono fun e w' ⟨h1,h2⟩=>⟨h1,Ie h2⟩
   |range=>
    rw[hq]at hev;simp only[DT.eval,Option.some.injEq,Prod.mk.injEq]at hev;obtain⟨rfl,rfl⟩:=hev;refine CR.ofCallsV fun w args' hG ha=>?_;obtain rfl:=Ul ha;obtain⟨t,p,hv⟩:=aed hG;exact(Go.Proofs.Tryz.strconv_Atoi_range_var s (by omega) hq t p w hv).mono fun e w' ⟨N,h1,h2,h3,h4⟩=>⟨⟨_,h1,fun Y=>⟨_,rfl,VRL.cons rfl (VRL.cons (Nj (by decide)) VRL.nil)⟩⟩,h4⟩
   | _ =>
    rw[hq]at hev;simp only[DT.eval,Option.some.injEq,Prod.mk.injEq]at hev;obtain⟨rfl,rfl⟩:=hev;refine CR.ofCallsV fun w args' hG ha=>?_;obtain rfl:=Ul ha;obtain⟨t,p,hv⟩:=adG hG;exact(Go.Proofs.Tryz.strconv_Atoi_syntax_var s (by omega) (fun v e=>by rw[hq] at e; cases e) (fun e=>by rw[hq] at e; cases e) t p w hv).mono fun e w' ⟨N,h1,h2,h3,h4⟩=>⟨⟨_,h1,fun Y=>⟨_,rfl,VRL.cons rfl (VRL.cons (Nj (by decide)) VRL.nil)⟩⟩,h4⟩
 ·cases hR
def bF(n:Int):ByteArray:=⟨(Lib.itoa n).toArray⟩
def inR(n:Int):Bool:=and (leI (-9223372036854775808) n) (leI n 9223372036854775807)
def nI(C:Int->Bool)(F:Int->ByteArray):fG
 |[.int .i64 n]=>some (.ite (C n) (.leaf (.string (F n),[])) .fail)
 |_=>none
theorem W_:CallOkR P 47 (nI inR bF):=by
 refine⟨fun args t hR v bs hev=>?_⟩;unfold nI at hR;split at hR
 ·rename_i n;obtain rfl:=Option.some.inj hR;cases hc:inR n with
  |false=>rw[hc]at hev; cases hev
  |true=>
   rw[hc]at hev;simp only[DT.eval,Option.some.injEq,Prod.mk.injEq]at hev;obtain⟨rfl,rfl⟩:=hev;unfold inR leI at hc;simp only[Bool.and_eq_true,decide_eq_true_eq]at hc;refine CR.ofCalls rfl fun w args' hG ha=>?_;obtain rfl:=afD ha;exact(Go.Proofs.Tryz.strconv_Itoa n hc.1 hc.2 w (aeV hG)).mono fun e w' ⟨h1,h2⟩=>⟨h1,KQ h2⟩
 ·cases hR
theorem WE(x:Int):iU P E jR 50 39 [.int .i32 x] =
 (some ((.bool (eqI x 32)),(mkSt []))):=by kernel_rfl
theorem ZI(x:Int):CR P 39 [.int .i32 x] (.bool (eqI x 32)) []:=CR.of (aF jR) au (je P) (n:=50) (WE x)
def ed(s:ByteArray):List ByteArray:=Lib.goFieldsP (fun x=>eqI x 32) s
def fzS(l:List ByteArray):Value:=ai 1 l.length 0 (l.map Value.string)
theorem VG(l:List ByteArray):bT (l.map Value.string)=true:=by
 induction l with
 |nil=>rfl
 |cons a l ih=>simp only[List.map_cons,bT,ih]; rfl
def kWo:Con ByteArray where
 enc s:=([.string s, .func (.func 39) #[] #[]],[])
 ok s:=s.size<=4194304
 inj a b h:=by simp only[Prod.mk.injEq,List.cons.injEq,Value.string.injEq,and_true]at h; exact h
 dflt:=default
theorem XH:CallOkX P 0 38 (jS kWo.C kWo.D fun s=> .leaf (fzS (ed s),[])):=f_ kWo fun s ho v bs' hev=>by
 simp only[DT.eval,Option.some.injEq,Prod.mk.injEq]at hev;obtain⟨rfl,rfl⟩:=hev;have ho:s.size<=4194304:=ho;refine CRX.ofRow (t:=9) (by decide) (VG _) fun w args' hG ⟨Y,ha⟩=>?_;have ea:args'=#[.string s, .func (.func 39) #[] #[]]:=by
  obtain⟨l⟩:=args';simp only[VRL]at ha;obtain⟨y,ys,e,hy,z,zs,rfl,hz,rfl⟩:=ha;have hy:y = .string s:=hy;subst hy;obtain⟨f',a',b',rfl,hf,h1,h2⟩:=hz;have hf:f' = .func 39:=hf;subst hf;simp only[VRA,VRL]at h1 h2;have h1:a'=#[]:=by apply Array.ext'; exact h1
  have h2:b'=#[]:=by apply Array.ext'; exact h2
  subst h1 h2;rw[e]
 subst ea;have hw:=Go.Proofs.Tryz.strings_FieldsFunc_grows 39 #[] (Go.Proofs.enters_of Go.Proofs.Tryz.func39 (by kernel_rfl) rfl) (fun x=>eqI x 32) s w (by omega) (fun W x hx hb=>by
  have:=(ZI (x:Int)).calls (w:=W) (args':=#[.int .i32 x]) rfl (by
   intro p hp;obtain⟨o,h1,h2⟩:=hG p hp;refine⟨o,?_,h2⟩;rw[hb.block p.1 (Array.getElem?_eq_some_iff.1 h1).1]; exact h1) (VRL.cons rfl VRL.nil)
  exact this)
 refine hw.mono fun e w' ⟨A,h1,h2,h3,h4⟩=>⟨A,?_,h2,?_,h4⟩
 ·rw[h1]; rfl
 ·exact h3
end Go.VS.Tryz
end

noncomputable section
namespace Go.VS.Tryz
open Go.VS
set_option maxRecDepth 1000000
theorem ry{s n m:Nat}{a b:List Value}(h:ai s n 0 a=ai s m 0 b):a=b:=by
 unfold ai at h;simp only[Value.iface.injEq,Value.agg.injEq,Array.mk.injEq,List.cons.injEq]at h;exact h.2.2
theorem aaM(s n b:Nat)(c:List Value):jH (ai s n b c)=true:=by
 unfold ai;simp only[jH];rw[Nat.ble_eq_true_of_le (Nat.le_add_right FZ s)]
structure OpM where
 p:Bool
 k:ByteArray
 v:ByteArray
def EOp:Enc OpM where
 sz:=3
 f o:=[.bool o.p, .string o.k, .string o.v]
 len _:=rfl
 pos:=by decide
 inj a b h:=by
  obtain⟨p,k,v⟩:=a;obtain⟨p',k',v'⟩:=b;simp only[List.cons.injEq,Value.bool.injEq,Value.string.injEq,and_true]at h;obtain⟨rfl,rfl,rfl⟩:=h
  rfl
 nr _:=rfl
structure CmM where
 e:Int
 n:Int
 ops:List OpM
structure RunM where
 a:Int
 b:Int
 ops:List OpM
theorem VL:∀ {a b:List UInt8},bc a=bc b->a=b:=by
 intro a b h;have:=congrArg (List.map byteOf) h;rwa [DK,DK]at this
/-- A raw step of a disk: its kind,its file,bytes,a length. -/
structure StM where
 kind:Int
 file:Int
 bytes:List UInt8
 len:Int
theorem zi{l:List OpM}{i:Nat}(h:i<l.length):ah (EOp.all l) (atN (i:Int) 3) = .bool l[i].p:=by
 have e:atN (i:Int) 3=i*EOp.sz+0:=by simp[atN]; rfl
 rw[e,EOp.nth h (by decide)]; rfl
theorem yI{l:List OpM}{i:Nat}(h:i<l.length):ah (EOp.all l) (Nat.add (atN (i:Int) 3) 1) = .string l[i].k:=by
 have e:Nat.add (atN (i:Int) 3) 1=i*EOp.sz+1:=by simp[atN]; rfl
 rw[e,EOp.nth h (by decide)]; rfl
theorem zy{l:List OpM}{i:Nat}(h:i<l.length):ah (EOp.all l) (Nat.add (Nat.add (atN (i:Int) 3) 1) 1) = .string l[i].v:=by
 have e:Nat.add (Nat.add (atN (i:Int) 3) 1) 1=i*EOp.sz+2:=by simp[atN]; rfl
 rw[e,EOp.nth h (by decide)]; rfl
theorem fzU:FZ+1=18446744073709551617:=by unfold FZ; rfl
theorem ja:FZ+3=18446744073709551619:=by unfold FZ; rfl
theorem lq(n:Nat):Nat.mul n 1=n:=Nat.mul_one n
theorem iP(n:Nat):Nat.add 0 n=n:=Nat.zero_add n
theorem cap0(n:Nat):ul 0 n=0:=by simp[ul]
theorem XP(x:Int):iU P E jR 50 77 [.int .u8 x] =
 (ag (gtI x 32)
 (ag (ltI x 127)
 (ag (neI x 34)
 (some ((.bool (neI x 92)),(mkSt [])))
 (some ((.bool false),(mkSt []))))
 (some ((.bool false),(mkSt []))))
 (some ((.bool false),(mkSt [])))):=by kernel_rfl
def gy(x:Int):Bool:=gtI x 32&&ltI x 127&&neI x 34&&neI x 92
def Pe:fG
 |[.int .u8 x]=>some (.leaf (.bool (gy x),[]))
 |_=>none
theorem aaT:CallOkR P 77 Pe:=by
 refine mY (je P) (n:=50) fun args t hR v bs hev=>?_;unfold Pe at hR;split at hR
 ·rename_i x;obtain rfl:=Option.some.inj hR;simp only[DT.eval,Option.some.injEq,Prod.mk.injEq]at hev;obtain⟨rfl,rfl⟩:=hev;rw[XP];unfold gy;cases gtI x 32<;>cases ltI x 127<;>cases neI x 34<;>rfl
 ·cases hR
theorem Sl(x:Int):iU P E jR 50 83 [.int .u8 x] =
 (ag (geI x 33)
 (ag (leI x 126)
 (ag (neI x 34)
 (some ((.bool (neI x 92)),(mkSt [])))
 (some ((.bool false),(mkSt []))))
 (some ((.bool false),(mkSt []))))
 (some ((.bool false),(mkSt [])))):=by kernel_rfl
def yx(x:Int):Bool:=geI x 33&&leI x 126&&neI x 34&&neI x 92
def Jd:fG
 |[.int .u8 x]=>some (.leaf (.bool (yx x),[]))
 |_=>none
theorem Xd:CallOkR P 83 Jd:=by
 refine mY (je P) (n:=50) fun args t hR v bs hev=>?_;unfold Jd at hR;split at hR
 ·rename_i x;obtain rfl:=Option.some.inj hR;simp only[DT.eval,Option.some.injEq,Prod.mk.injEq]at hev;obtain⟨rfl,rfl⟩:=hev;rw[Sl];unfold yx;cases geI x 33<;>cases leI x 126<;>cases neI x 34<;>rfl
 ·cases hR
theorem Yu(x:Int):iU P E jR 50 91 [.int .u8 x] =
 (ag (geI x 48)
 (ag (leI x 57)
 (some ((.tuple ⟨[.int .u8 (uZ .u8 x 48),.bool true]⟩),(mkSt [])))
 (ag (geI x 97)
 (ag (leI x 102)
 (some ((.tuple ⟨[.int .u8 (aB .u8 (uZ .u8 x 97) 10),.bool true]⟩),(mkSt [])))
 (some ((.tuple ⟨[.int .u8 0,.bool false]⟩),(mkSt []))))
 (some ((.tuple ⟨[.int .u8 0,.bool false]⟩),(mkSt [])))))
 (ag (geI x 97)
 (ag (leI x 102)
 (some ((.tuple ⟨[.int .u8 (aB .u8 (uZ .u8 x 97) 10),.bool true]⟩),(mkSt [])))
 (some ((.tuple ⟨[.int .u8 0,.bool false]⟩),(mkSt []))))
 (some ((.tuple ⟨[.int .u8 0,.bool false]⟩),(mkSt []))))):=by kernel_rfl
def lS(x:Int):Int:=bif geI x 48&&leI x 57 then uZ .u8 x 48 else bif geI x 97&&leI x 102 then aB .u8 (uZ .u8 x 97) 10 else 0
def iJ(x:Int):Bool:=(geI x 48&&leI x 57) || (geI x 97&&leI x 102)
def yw:fG
 |[.int .u8 x]=>some (.leaf (.tuple ⟨[.int .u8 (lS x), .bool (iJ x)]⟩,[]))
 |_=>none
theorem digit_ok:CallOkR P 91 yw:=by
 refine mY (je P) (n:=50) fun args t hR v bs hev=>?_;unfold yw at hR;split at hR
 ·rename_i x;obtain rfl:=Option.some.inj hR;simp only[DT.eval,Option.some.injEq,Prod.mk.injEq]at hev;obtain⟨rfl,rfl⟩:=hev;rw[Yu];unfold lS iJ;cases geI x 48<;>cases leI x 57<;>cases geI x 97<;>cases leI x 102<;>rfl
 ·cases hR
def hexD:ByteArray:=⟨#[48,49,50,51,52,53,54,55,56,57,97,98,99,100,101,102]⟩
theorem adw(x:Int):iU P E jR 50 84 [.int .u8 x] =
 (ae (inI x 16)
 (some ((.int .u8 (bAt ⟨#[48,49,50,51,52,53,54,55,56,57,97,98,99,100,101,102]⟩ x)),(mkSt [])))):=by kernel_rfl
def ZR:fG
 |[.int .u8 x]=>some (.ite (inI x 16) (.leaf (.int .u8 (bAt hexD x),[])) .fail)
 |_=>none
theorem afq:CallOkR P 84 ZR:=by
 refine mY (je P) (n:=50) fun args t hR v bs hev=>?_;unfold ZR at hR;split at hR
 ·rename_i x;obtain rfl:=Option.some.inj hR;cases hb:inI x 16 with
  |false=>rw[hb]at hev; cases hev
  |true=>
   rw[hb]at hev;simp only[DT.eval,Option.some.injEq,Prod.mk.injEq]at hev;obtain⟨rfl,rfl⟩:=hev;rw[adw,hb]
   rfl
 ·cases hR
def ct1:Ct:=bH P 77 Pe (bH P 83 Jd (bH P 91 yw (bH P 84 ZR jR)))
theorem rV:CtOk P ct1:=aU (aU (aU (aU (je P) afq) digit_ok) Xd) aaT
def CQ:Head:=⟨1,33,[3,9,10,11],[(3,5)]⟩
def zG:Code:=(bK P 48 0).getD .skip
theorem OO:bK P 48 0=some zG:=by kernel_rfl
theorem JI:Occ P 48 (.block 0 (.loop zG)):=dA OO
theorem MG(cb c:List Value)(m:Nat)(z i:Int):gJ P E ct1 50 48 zG CQ [.slice (some ⟨1,0,none⟩) c.length unk, .slice (some ⟨0,0,none⟩) m unk, .int .i64 z, .int .i64 i] [.cells cb 5 false, .cells c 5 false] =
 (ag (ltI i z)
 (ae (inI i m)
 (ae (Bool.and (Nat.ble (Nat.add (Nat.add 0 (atN i 1)) 1) cb.length) (dw (.int .u8) (ah cb (Nat.add 0 (atN i 1)))))
 (ag (gy (asI (ah cb (Nat.add 0 (atN i 1)))))
 (ae (Bool.and (Bool.not false) (Bool.and (Nat.beq 5 5) (Bool.and (Nat.ble 0 c.length) (Nat.ble (Nat.add c.length 1) 4194304))))
 (ae (Nat.beq (Nat.add 0 (Nat.mul c.length 1)) c.length)
 (some ((.tuple ⟨[.int .i64 0,.slice (Option.some (Addr.mk 1 0 none)) (Nat.add c.length 1) 18446744073709551616,.slice (Option.some (Addr.mk 0 0 none)) m 18446744073709551616,.int .i64 z,.int .i64 (aB .i64 i 1)]⟩),(mkSt [Blk.cells (renL true (rhoO 1 [3]) cb) 5 false,Blk.cells (renL true (rhoO 1 [3]) (List.append (takeC (Nat.mul c.length 1) (ak 0 c)) [.int .u8 (asI (ah cb (Nat.add 0 (atN i 1))))])) 5 false])))))
 (ae (inI (kW .u8 (asI (ah cb (Nat.add 0 (atN i 1)))) 4) 16)
 (ae (inI (kQ .u8 (asI (ah cb (Nat.add 0 (atN i 1)))) 15) 16)
 (ae (Bool.and (Bool.not false) (Bool.and (Nat.beq 5 5) (Bool.and (Nat.ble 0 c.length) (Nat.ble (Nat.add c.length 3) 4194304))))
 (ae (Nat.beq (Nat.add 0 (Nat.mul c.length 1)) c.length)
 (some ((.tuple ⟨[.int .i64 0,.slice (Option.some (Addr.mk 1 0 none)) (Nat.add c.length 3) 18446744073709551616,.slice (Option.some (Addr.mk 0 0 none)) m 18446744073709551616,.int .i64 z,.int .i64 (aB .i64 i 1)]⟩),(mkSt [Blk.cells (renL true (rhoO 1 [12]) cb) 5 false,Blk.cells (renL true (rhoO 1 [12]) (List.append (takeC (Nat.mul c.length 1) (ak 0 c)) [.int .u8 92,.int .u8 (bAt ⟨#[48,49,50,51,52,53,54,55,56,57,97,98,99,100,101,102]⟩ (kW .u8 (asI (ah cb (Nat.add 0 (atN i 1)))) 4)),.int .u8 (bAt ⟨#[48,49,50,51,52,53,54,55,56,57,97,98,99,100,101,102]⟩ (kQ .u8 (asI (ah cb (Nat.add 0 (atN i 1)))) 15))])) 5 false]))))))))))
 (some ((.tuple ⟨[.int .i64 1,.slice (Option.some (Addr.mk 1 0 none)) c.length 18446744073709551616,.slice (Option.some (Addr.mk 0 0 none)) m 18446744073709551616,.int .i64 z,.int .i64 i]⟩),(mkSt [Blk.cells (renL true (rhoO 1 [1]) cb) 5 false,Blk.cells (renL true (rhoO 1 [1]) c) 5 false])))):=by kernel_rfl
def hxU(i:Int):UInt8:=hexD.data.toList.getD i.toNat 0
def enc(b:UInt8):List UInt8:=match gy b.toNat with
 |true=>[b]
 |false=>[92,hxU (kW .u8 b.toNat 4),hxU (kQ .u8 b.toNat 15)]
def fD(l:List UInt8):List UInt8:=l.flatMap enc
theorem mV(b:UInt8)(l:List UInt8):fD (b::l)=enc b++fD l:=List.flatMap_cons
theorem ae4:∀ n:Fin 256,inI (kW .u8 (n.val:Int) 4) 16=true:=by decide +kernel
theorem aeq:∀ n:Fin 256,inI (kQ .u8 (n.val:Int) 15) 16=true:=by decide +kernel
theorem VT(b:UInt8):inI (kW .u8 (b.toNat:Int) 4) 16=true:=ae4 ⟨b.toNat,b.toNat_lt⟩
theorem RS(b:UInt8):inI (kQ .u8 (b.toNat:Int) 15) 16=true:=aeq ⟨b.toNat,b.toNat_lt⟩
theorem zt(b:UInt8):(enc b).length<=3:=by unfold enc; split<;>simp
theorem WO{l:List UInt8}{i:Nat}(h:i<l.length):ah (bc l) (Nat.add 0 (atN (i:Int) 1)) = .int .u8 (l[i].toNat):=by
 have e:Nat.add 0 (atN (i:Int) 1)=i:=by simp[atN]
 rw[e]; exact aeA h
theorem Uz{l:List UInt8}{i:Nat}{c:List Value}(h:i<l.length)(hc:bT c=true)(hb:c.length+3<=4194304)(hl:l.length<9223372036854775807) :
  gJ P E ct1 50 48 zG CQ [sl 1 c.length,sl 0 l.length, .int .i64 l.length, .int .i64 i] [.cells (bc l) 5 false, .cells c 5 false] =
   some (.tuple ⟨exV .normal::[sl 1 (c++bc (enc l[i])).length,sl 0 l.length, .int .i64 l.length, .int .i64 ((i+1:Nat):Int)]⟩,mkSt [.cells (bc l) 5 false, .cells (c++bc (enc l[i])) 5 false]):=by
 unfold sl;rw[MG];have hw:aB .i64 (i:Int) 1=((i+1:Nat):Int):=by
  unfold aB;rw[wrap64 (by omega) (by omega)]; omega
 refine dY (by simp[ltI,h]) ?_;refine aT (mO (by omega) (by omega)) ?_;refine aT (fB (bM (by rw[fK]; simp[atN]; omega)) (by rw[WO h]; rfl)) ?_;simp only[WO h,asI];cases hp:gy (l[i].toNat:Int)with
 |true=>
  have he:enc l[i]=[l[i]]:=by unfold enc; rw[hp]
  refine dY rfl ?_;refine aT (fB rfl (fB rfl (fB (bM (Nat.zero_le _)) (bM (by simp; omega))))) ?_;refine aT (t_ (by simp)) ?_;refine gz ?_ ?_
  ·rw[he,hw]; simp[exV,bc,unk]
  ·simp only[kz,oO,eU hc,jM,he];rw[show c.append [Value.int .u8 (l[i].toNat:Int)]=c++bc [l[i]] from rfl,jM,eU hc,kz]
 |false=>
  have he:enc l[i]=[92,hxU (kW .u8 l[i].toNat 4),hxU (kQ .u8 l[i].toNat 15)]:=by unfold enc; rw[hp]
  refine dD rfl ?_;refine aT (VT _) ?_;refine aT (RS _) ?_;refine aT (fB rfl (fB rfl (fB (bM (Nat.zero_le _)) (bM (by simp; omega))))) ?_;refine aT (t_ (by simp)) ?_;refine gz ?_ ?_
  ·rw[he,hw]; simp[exV,bc,unk]
  ·simp only[kz,oO,he];have e:∀ x:List Value,x=bc [92,hxU (kW .u8 l[i].toNat 4),hxU (kQ .u8 l[i].toNat 15)]->renL true (rhoO 1 [12]) (c.append x)=c++bc [92,hxU (kW .u8 l[i].toNat 4),hxU (kQ .u8 l[i].toNat 15)]:=by
    intro x hx;rw[hx,show c.append (bc [92,hxU (kW .u8 l[i].toNat 4),hxU (kQ .u8 l[i].toNat 15)])=c++bc _ from rfl,jM,eU hc,kz]
   exact congrArg (fun x=>[Blk.cells (bc l) 5 false,Blk.cells x 5 false]) (e _ rfl)
theorem Vx{l:List UInt8}{c:List Value}(hc:bT c=true) :
  gJ P E ct1 50 48 zG CQ [sl 1 c.length,sl 0 l.length, .int .i64 l.length, .int .i64 (l.length:Int)] [.cells (bc l) 5 false, .cells c 5 false] =
   some (.tuple ⟨exV (.exit 0)::[sl 1 c.length,sl 0 l.length, .int .i64 l.length, .int .i64 l.length]⟩,mkSt [.cells (bc l) 5 false, .cells c 5 false]):=by
 unfold sl;rw[MG];refine dD (by simp[ltI]) ?_;refine gz ?_ ?_
 ·simp[exV,unk]
 ·simp only[kz,eU hc]
theorem JX(l:List UInt8)(hl:l.length<9223372036854775807):∀ (k i:Nat) (c:List Value),i+k=l.length->bT c=true->c.length+3*k<=4194304->
  LR P 48 0 zG CQ [sl 1 c.length,sl 0 l.length, .int .i64 l.length, .int .i64 i] [.cells (bc l) 5 false, .cells c 5 false] .normal
   [sl 1 (c++bc (fD (l.drop i))).length,sl 0 l.length, .int .i64 l.length, .int .i64 l.length] [.cells (bc l) 5 false, .cells (c++bc (fD (l.drop i))) 5 false]
 |0,i,c,hi,hc,hb=>by
  have:i=l.length:=by omega
  subst this;have e:c++bc (fD (l.drop l.length))=c:=by simp[fD,bc]
  rw[e];exact LR.stop (aF ct1) au rV JI (by kernel_rfl) (e:= .exit 0) (Vx hc) (by intro h; cases h)
 |k+1,i,c,hi,hc,hb=>by
  have hlt:i<l.length:=by omega
  have hr:=Uz hlt hc (by omega) hl;have hlen:=zt l[i];have ih:=JX l hl k (i+1) (c++bc (enc l[i])) (by omega) (by rw[kL,hc,qL]; rfl) (by rw[List.length_append,fK]; omega);have e:c++bc (enc l[i])++bc (fD (l.drop (i+1)))=c++bc (fD (l.drop i)):=by
   rw[List.drop_eq_getElem_cons hlt,mV,qQ,List.append_assoc]
  rw[e]at ih;exact LR.again (aF ct1) au rV JI (by kernel_rfl) hr ih
def GL(v1 v2:Value)(z i:Int)(cb:List Value)(e1:TypeId)(c:List Value)(e2:TypeId):Bool:=
 atB v1 1 c.length&&atB v2 0 cb.length&&z == cb.length&&i == 0&&vO cb&&bT c&&e1 == 5&&e2 == 5&&Nat.ble (c.length+3*cb.length) 4194304
def U2:lC:=fun vs bs=>match vs,bs with
 |[v1,v2, .int .i64 z, .int .i64 i],[.cells cb e1 false, .cells c e2 false]=>some (.ite (GL v1 v2 z i cb e1 c e2)
   (.leaf (.normal,[sl 1 (c++bc (fD (cb.map byteOf))).length,sl 0 cb.length, .int .i64 cb.length, .int .i64 cb.length],[.cells cb 5 false, .cells (c++bc (fD (cb.map byteOf))) 5 false])) .fail)
 |_,_=>none
theorem Px:LoopOk P 48 0 zG CQ U2 where
 occ:=bz OO
 ok:=by kernel_rfl
 run:=by
  intro vs bs t hR e vs' bs' hev;unfold U2 at hR;split at hR
  ·rename_i v1 v2 z i cb e1 c e2;obtain rfl:=Option.some.inj hR;cases hc:GL v1 v2 z i cb e1 c e2 with
   |false=>rw[hc]at hev; cases hev
   |true=>
    rw[hc]at hev;simp only[DT.eval,Option.some.injEq,Prod.mk.injEq]at hev;obtain⟨rfl,rfl,rfl⟩:=hev;simp only[GL,Bool.and_eq_true,beq_iff_eq]at hc;obtain⟨⟨⟨⟨⟨⟨⟨⟨h1,h2⟩,h3⟩,h4⟩,h5⟩,h6⟩,h7⟩,h8⟩,h9⟩:=hc;have h9:=Nat.le_of_ble_eq_true h9;rw[Ah h1,Ah h2];subst h3 h4 h7 h8;have hcb:=abh h5;have hlen:(cb.map byteOf).length=cb.length:=by simp
    have:=JX (cb.map byteOf) (by omega) cb.length 0 c (by omega) h6 (by omega);rw[<-hcb,hlen,List.drop_zero]at this;exact this
  ·cases hR
def ct2:Ct:=o9 48 0 CQ U2 ct1
theorem YR:CtOk P ct2:=pK rV Px
theorem aah(s:ByteArray):iU P E ct2 50 48 [.string s] =
 (ag (eqS s ⟨#[]⟩)
 (some ((.string ⟨#[34,34]⟩),(mkSt [])))
 (ae (Nat.ble s.size 4194304)
 (ae (GL (.slice (Option.some (Addr.mk 1 0 none)) 0 18446744073709551616) (.slice (Option.some (Addr.mk 0 0 none)) s.size 18446744073709551616) (af s.size) 0 (renL true (rhoO 1 [1]) (Go.byteCells s)) 5 [] 5)
 (ae (Bool.and (Nat.ble (Nat.add 0 (List.length (HAppend.hAppend [] (bc (fD (List.map byteOf (renL true (rhoO 1 [1]) (Go.byteCells s)))))))) (List.length (HAppend.hAppend [] (bc (fD (List.map byteOf (renL true (rhoO 1 [1]) (Go.byteCells s)))))))) (allBytes (takeC (List.length (HAppend.hAppend [] (bc (fD (List.map byteOf (renL true (rhoO 1 [1]) (Go.byteCells s))))))) (ak 0 (HAppend.hAppend [] (bc (fD (List.map byteOf (renL true (rhoO 1 [1]) (Go.byteCells s))))))))))
 (some ((.string (qc (takeC (List.length (HAppend.hAppend [] (bc (fD (List.map byteOf (renL true (rhoO 1 [1]) (Go.byteCells s))))))) (ak 0 (HAppend.hAppend [] (bc (fD (List.map byteOf (renL true (rhoO 1 [1]) (Go.byteCells s)))))))))),(mkSt []))))))):=by kernel_rfl
def kR(l:List UInt8):List UInt8:=match l with
 |[]=>[34,34]
 |l=>fD l
def zo:fG
 |[.string s]=>some (.ite (Nat.ble (3*s.size) 4194304) (.leaf (.string ⟨⟨kR s.data.toList⟩⟩,[])) .fail)
 |_=>none
theorem lI(c:List Value):takeC c.length (ak 0 c)=c:=XZ c rfl
theorem QV:CallOkR P 48 zo:=by
 refine mY YR (n:=50) fun args t hR v bs hev=>?_;unfold zo at hR;split at hR
 ·rename_i s;obtain rfl:=Option.some.inj hR;cases hc:Nat.ble (3*s.size) 4194304 with
  |false=>rw[hc]at hev; cases hev
  |true=>
   rw[hc]at hev;simp only[DT.eval,Option.some.injEq,Prod.mk.injEq]at hev;obtain⟨rfl,rfl⟩:=hev;have hsz:=Nat.le_of_ble_eq_true hc;have hlen:s.data.toList.length=s.size:=by simp
   rw[aah];cases hs:s.data.toList with
   |nil=>
    refine dY (by rw[p_,hs]; rfl) ?_
    rfl
   |cons b l=>
    refine dD (by rw[p_,hs]; rfl) ?_;refine aT (bM (by omega)) ?_;simp only[AZ,kz,DK,List.nil_append,lI,DD];refine aT ?_ ?_
    ·have h1:atB (.slice (some ⟨1,0,none⟩) 0 18446744073709551616) 1 ([]:List Value).length=true:=CE 1 0;have h2:atB (.slice (some ⟨0,0,none⟩) s.size 18446744073709551616) 0 (bc s.data.toList).length=true:=by rw[fK,hlen]; exact CE 0 s.size
     have h3:(af s.size == ((bc s.data.toList).length:Int))=true:=by rw[fK,hlen]; simp[af]
     have h9:Nat.ble (([]:List Value).length+3*(bc s.data.toList).length) 4194304=true:=bM (by rw[fK,hlen]; simpa using hsz);unfold GL;rw[h1,h2,h3,JS,h9]
     rfl
    refine aT (fB (bM (by simp)) (BX _)) ?_;rw[hs]
    rfl
 ·cases hR
def xZ:Head:=⟨0,40,[0,3,4],[(3,5)]⟩
def vP:Code:=(bK P 69 0).getD .skip
theorem JL:bK P 69 0=some vP:=by kernel_rfl
theorem G5:Occ P 69 (.block 0 (.loop vP)):=dA JL
theorem JM(s:ByteArray)(c:List Value)(i:Int):gJ P E ct1 50 69 vP xZ [.string s, .slice (some ⟨0,0,none⟩) c.length unk, .int .i64 i] [.cells c 5 false] =
 (ag (ltI i (af s.size))
 (ae (inI i s.size)
 (ag (yx (bAt s i))
 (ae (inI i s.size)
 (ae (Bool.and (Bool.not false) (Bool.and (Nat.beq 5 5) (Bool.and (Nat.ble 0 c.length) (Nat.ble (Nat.add c.length 1) 4194304))))
 (ae (Nat.beq (Nat.add 0 (Nat.mul c.length 1)) c.length)
 (some ((.tuple ⟨[.int .i64 0,.string s,.slice (Option.some (Addr.mk 0 0 none)) (Nat.add c.length 1) 18446744073709551616,.int .i64 (aB .i64 i 1)]⟩),(mkSt [Blk.cells (renL true (rhoO 0 [2]) (List.append (takeC (Nat.mul c.length 1) (ak 0 c)) [.int .u8 (bAt s i)])) 5 false]))))))
 (ae (inI i s.size)
 (ae (inI (xq .u8 (bAt s i) 16) 16)
 (ae (inI i s.size)
 (ae (inI (xk (bAt s i) 16) 16)
 (ae (Bool.and (Bool.not false) (Bool.and (Nat.beq 5 5) (Bool.and (Nat.ble 0 c.length) (Nat.ble (Nat.add c.length 3) 4194304))))
 (ae (Nat.beq (Nat.add 0 (Nat.mul c.length 1)) c.length)
 (some ((.tuple ⟨[.int .i64 0,.string s,.slice (Option.some (Addr.mk 0 0 none)) (Nat.add c.length 3) 18446744073709551616,.int .i64 (aB .i64 i 1)]⟩),(mkSt [Blk.cells (renL true (rhoO 0 [15]) (List.append (takeC (Nat.mul c.length 1) (ak 0 c)) [.int .u8 92,.int .u8 (bAt ⟨#[48,49,50,51,52,53,54,55,56,57,97,98,99,100,101,102]⟩ (xq .u8 (bAt s i) 16)),.int .u8 (bAt ⟨#[48,49,50,51,52,53,54,55,56,57,97,98,99,100,101,102]⟩ (xk (bAt s i) 16))])) 5 false])))))))))))
 (some ((.tuple ⟨[.int .i64 1,.string s,.slice (Option.some (Addr.mk 0 0 none)) c.length 18446744073709551616,.int .i64 i]⟩),(mkSt [Blk.cells (renL true (rhoO 0 [0]) c) 5 false])))):=by kernel_rfl
theorem VM(x:Int):yx x=gy x:=by
 unfold yx gy geI leI gtI ltI;have h1:decide (x>=33)=decide (x>32):=by simp only[ge_iff_le,gt_iff_lt,decide_eq_decide]; omega
 have h2:decide (x<=126)=decide (x<127):=by simp only[decide_eq_decide]; omega
 rw[h1,h2]
theorem afa:∀ n:Fin 256,xq .u8 (n.val:Int) 16=kW .u8 (n.val:Int) 4:=by decide +kernel
theorem afj:∀ n:Fin 256,xk (n.val:Int) 16=kQ .u8 (n.val:Int) 15:=by decide +kernel
theorem afz(b:UInt8):xq .u8 (b.toNat:Int) 16=kW .u8 (b.toNat:Int) 4:=afa ⟨b.toNat,b.toNat_lt⟩
theorem aeL(b:UInt8):xk (b.toNat:Int) 16=kQ .u8 (b.toNat:Int) 15:=afj ⟨b.toNat,b.toNat_lt⟩
theorem mr{s:ByteArray}{i:Nat}(h:i<s.data.toList.length):bAt s (i:Int)=((s.data.toList[i]).toNat:Int):=by
 unfold bAt;rw[Int.toNat_natCast,List.getD_eq_getElem?_getD,List.getElem?_eq_getElem h]
 rfl
theorem PX{s:ByteArray}{i:Nat}{c:List Value}(h:i<s.data.toList.length)(hc:bT c=true)(hb:c.length+3<=4194304)(hl:s.size<9223372036854775807) :
  gJ P E ct1 50 69 vP xZ [.string s,sl 0 c.length, .int .i64 i] [.cells c 5 false] =
   some (.tuple ⟨exV .normal::[.string s,sl 0 (c++bc (enc s.data.toList[i])).length, .int .i64 ((i+1:Nat):Int)]⟩,mkSt [.cells (c++bc (enc s.data.toList[i])) 5 false]):=by
 unfold sl;have hsz:s.data.toList.length=s.size:=by simp
 rw[JM];have hw:aB .i64 (i:Int) 1=((i+1:Nat):Int):=by
  unfold aB;rw[wrap64 (by omega) (by omega)]; omega
 have hin:inI (i:Int) s.size=true:=by
  clear hw;exact mO (by omega) (by omega)
 have hlt:ltI (i:Int) (af s.size)=true:=by
  clear hw hin;have hx:(i:Int)<(s.size:Int):=by omega
  exact decide_eq_true hx
 refine dY hlt ?_;refine aT hin ?_;simp only[mr h,VM];cases hp:gy (s.data.toList[i].toNat:Int)with
 |true=>
  have he:enc s.data.toList[i]=[s.data.toList[i]]:=by unfold enc; rw[hp]
  refine dY rfl ?_;refine aT hin ?_;refine aT (fB rfl (fB rfl (fB (bM (Nat.zero_le _)) (bM (by simp; omega))))) ?_;refine aT (t_ (by simp)) ?_;refine gz ?_ ?_
  ·rw[he,hw]; simp[exV,bc,unk]
  ·simp only[oO,he];have e:∀ x:List Value,x=bc [s.data.toList[i]]->renL true (rhoO 0 [2]) (c.append x)=c++bc [s.data.toList[i]]:=by
    intro x hx;rw[hx,show c.append (bc [s.data.toList[i]])=c++bc _ from rfl,jM,eU hc,kz]
   exact congrArg (fun x=>[Blk.cells x 5 false]) (e _ rfl)
 |false=>
  have he:enc s.data.toList[i]=[92,hxU (kW .u8 s.data.toList[i].toNat 4),hxU (kQ .u8 s.data.toList[i].toNat 15)]:=by unfold enc; rw[hp]
  simp only[afz,aeL];refine dD rfl ?_;refine aT hin ?_;refine aT (VT _) ?_;refine aT hin ?_;refine aT (RS _) ?_;refine aT (fB rfl (fB rfl (fB (bM (Nat.zero_le _)) (bM (by simp; omega))))) ?_;refine aT (t_ (by simp)) ?_;refine gz ?_ ?_
  ·rw[he,hw]; simp[exV,bc,unk]
  ·simp only[oO,he];have e:∀ x:List Value,x=bc [92,hxU (kW .u8 s.data.toList[i].toNat 4),hxU (kQ .u8 s.data.toList[i].toNat 15)]->renL true (rhoO 0 [15]) (c.append x)=c++bc [92,hxU (kW .u8 s.data.toList[i].toNat 4),hxU (kQ .u8 s.data.toList[i].toNat 15)]:=by
    intro x hx;rw[hx,show c.append (bc [92,hxU (kW .u8 s.data.toList[i].toNat 4),hxU (kQ .u8 s.data.toList[i].toNat 15)])=c++bc _ from rfl,jM,eU hc,kz]
   exact congrArg (fun x=>[Blk.cells x 5 false]) (e _ rfl)
theorem SI{s:ByteArray}{c:List Value}(hc:bT c=true) :
  gJ P E ct1 50 69 vP xZ [.string s,sl 0 c.length, .int .i64 (s.size:Int)] [.cells c 5 false] =
   some (.tuple ⟨exV (.exit 0)::[.string s,sl 0 c.length, .int .i64 s.size]⟩,mkSt [.cells c 5 false]):=by
 unfold sl;rw[JM];refine dD (by simp[ltI,af]) ?_;refine gz ?_ ?_
 ·simp[exV,unk]
 ·simp only[eU hc]
theorem F9(s:ByteArray)(hl:s.size<9223372036854775807):∀ (k i:Nat) (c:List Value),i+k=s.size->bT c=true->c.length+3*k<=4194304->
  LR P 69 0 vP xZ [.string s,sl 0 c.length, .int .i64 i] [.cells c 5 false] .normal
   [.string s,sl 0 (c++bc (fD (s.data.toList.drop i))).length, .int .i64 s.size] [.cells (c++bc (fD (s.data.toList.drop i))) 5 false]
 |0,i,c,hi,hc,hb=>by
  have hsz:s.data.toList.length=s.size:=by simp
  have:i=s.size:=by omega
  subst this;have e:c++bc (fD (s.data.toList.drop s.size))=c:=by rw[List.drop_of_length_le (by omega)]; simp[fD,bc]
  rw[e];exact LR.stop (aF ct1) au rV G5 (by kernel_rfl) (e:= .exit 0) (SI hc) (by intro h; cases h)
 |k+1,i,c,hi,hc,hb=>by
  have hsz:s.data.toList.length=s.size:=by simp
  have hlt:i<s.data.toList.length:=by omega
  have hr:=PX hlt hc (by omega) hl;have hlen:=zt s.data.toList[i];have ih:=F9 s hl k (i+1) (c++bc (enc s.data.toList[i])) (by omega) (by rw[kL,hc,qL]; rfl) (by rw[List.length_append,fK]; omega);have e:c++bc (enc s.data.toList[i])++bc (fD (s.data.toList.drop (i+1)))=c++bc (fD (s.data.toList.drop i)):=by
   rw[List.drop_eq_getElem_cons hlt,mV,qQ,List.append_assoc]
  rw[e]at ih;exact LR.again (aF ct1) au rV G5 (by kernel_rfl) hr ih
def Bo(s:ByteArray)(v1:Value)(i:Int)(c:List Value)(e1:TypeId):Bool:=
 atB v1 0 c.length&&i == 0&&bT c&&e1 == 5&&Nat.ble (c.length+3*s.size) 4194304
def LD:lC:=fun vs bs=>match vs,bs with
 |[.string s,v1, .int .i64 i],[.cells c e1 false]=>some (.ite (Bo s v1 i c e1)
   (.leaf (.normal,[.string s,sl 0 (c++bc (fD s.data.toList)).length, .int .i64 s.size],[.cells (c++bc (fD s.data.toList)) 5 false])) .fail)
 |_,_=>none
theorem LM:LoopOk P 69 0 vP xZ LD where
 occ:=bz JL
 ok:=by kernel_rfl
 run:=by
  intro vs bs t hR e vs' bs' hev;unfold LD at hR;split at hR
  ·rename_i s v1 i c e1;obtain rfl:=Option.some.inj hR;cases hc:Bo s v1 i c e1 with
   |false=>rw[hc]at hev; cases hev
   |true=>
    rw[hc]at hev;simp only[DT.eval,Option.some.injEq,Prod.mk.injEq]at hev;obtain⟨rfl,rfl,rfl⟩:=hev;simp only[Bo,Bool.and_eq_true,beq_iff_eq]at hc;obtain⟨⟨⟨⟨h1,h2⟩,h3⟩,h4⟩,h5⟩:=hc;have h5:=Nat.le_of_ble_eq_true h5;rw[Ah h1];subst h2 h4;have:=F9 s (by omega) s.size 0 c (by omega) h3 (by omega);rw[List.drop_zero]at this;exact this
  ·cases hR
def ct3:Ct:=o9 69 0 xZ LD (bH P 48 zo ct2)
theorem YY:CtOk P ct3:=pK (aU YR QV) LM
theorem Xv(s:ByteArray):iU P E ct3 50 69 [.string s] =
 (ag (eqS s ⟨#[]⟩)
 (some ((.string ⟨#[34,34]⟩),(mkSt [])))
 (ae (Bo s (.slice (Option.some (Addr.mk 0 0 none)) 0 18446744073709551616) 0 [] 5)
 (ae (Bool.and (Nat.ble (Nat.add 0 (List.length (HAppend.hAppend [] (bc (fD (Array.toList (ByteArray.data s))))))) (List.length (HAppend.hAppend [] (bc (fD (Array.toList (ByteArray.data s))))))) (allBytes (takeC (List.length (HAppend.hAppend [] (bc (fD (Array.toList (ByteArray.data s)))))) (ak 0 (HAppend.hAppend [] (bc (fD (Array.toList (ByteArray.data s)))))))))
 (some ((.string (qc (takeC (List.length (HAppend.hAppend [] (bc (fD (Array.toList (ByteArray.data s)))))) (ak 0 (HAppend.hAppend [] (bc (fD (Array.toList (ByteArray.data s))))))))),(mkSt [])))))):=by kernel_rfl
theorem Nw:CallOkR P 69 zo:=by
 refine mY YY (n:=50) fun args t hR v bs hev=>?_;unfold zo at hR;split at hR
 ·rename_i s;obtain rfl:=Option.some.inj hR;cases hc:Nat.ble (3*s.size) 4194304 with
  |false=>rw[hc]at hev; cases hev
  |true=>
   rw[hc]at hev;simp only[DT.eval,Option.some.injEq,Prod.mk.injEq]at hev;obtain⟨rfl,rfl⟩:=hev;have hsz:=Nat.le_of_ble_eq_true hc;rw[Xv];cases hs:s.data.toList with
   |nil=>
    refine dY (by rw[p_,hs]; rfl) ?_
    rfl
   |cons b l=>
    refine dD (by rw[p_,hs]; rfl) ?_;simp only[List.nil_append,lI,DD];refine aT ?_ ?_
    ·have h1:atB (.slice (some ⟨0,0,none⟩) 0 18446744073709551616) 0 ([]:List Value).length=true:=CE 0 0;have h9:Nat.ble (([]:List Value).length+3*s.size) 4194304=true:=bM (by simpa using hsz);unfold Bo;rw[h1,h9]
     rfl
    refine aT (fB (bM (by simp)) (BX _)) ?_;first
     |rfl
     |(rw[hs]; rfl)
 ·cases hR
def qf:Head:=⟨0,86,[0,4,5,6],[(4,5)]⟩
def oK:Code:=(bK P 73 0).getD .skip
theorem J5:bK P 73 0=some oK:=by kernel_rfl
theorem zM:Occ P 73 (.block 0 (.loop oK)):=dA J5
theorem wz(s:ByteArray)(c:List Value)(i:Int):gJ P E ct1 50 73 oK qf [.string s, .slice (some ⟨0,0,none⟩) c.length unk, .bool false, .int .i64 i] [.cells c 5 false] =
 (ag (ltI i (af s.size))
 (ae (inI i s.size)
 (ag (gy (bAt s i))
 (ae (Bool.and (Bool.not false) (Bool.and (Nat.beq 5 5) (Bool.and (Nat.ble 0 c.length) (Nat.ble (Nat.add c.length 1) 4194304))))
 (ae (Nat.beq (Nat.add 0 (Nat.mul c.length 1)) c.length)
 (some ((.tuple ⟨[.int .i64 0,.string s,.slice (Option.some (Addr.mk 0 0 none)) (Nat.add c.length 1) 18446744073709551616,.bool false,.int .i64 (aB .i64 i 1)]⟩),(mkSt [Blk.cells (renL true (rhoO 0 [2]) (List.append (takeC (Nat.mul c.length 1) (ak 0 c)) [.int .u8 (bAt s i)])) 5 false])))))
 (ag (eqI (bAt s i) 92)
 (ag (ltI (aB .i64 i 2) (af s.size))
 (ae (inI (aB .i64 i 1) s.size)
 (ae (inI (aB .i64 i 2) s.size)
 (ag (dN (iJ (bAt s (aB .i64 i 1))))
 (some ((.tuple ⟨[.int .i64 1,.string s,.slice (Option.some (Addr.mk 0 0 none)) c.length 18446744073709551616,.bool true,.int .i64 i]⟩),(mkSt [Blk.cells (renL true (rhoO 0 [0]) c) 5 false])))
 (ag (dN (iJ (bAt s (aB .i64 i 2))))
 (some ((.tuple ⟨[.int .i64 1,.string s,.slice (Option.some (Addr.mk 0 0 none)) c.length 18446744073709551616,.bool true,.int .i64 i]⟩),(mkSt [Blk.cells (renL true (rhoO 0 [0]) c) 5 false])))
 (ag (gy (orI .u8 (FU .u8 (lS (bAt s (aB .i64 i 1))) 4) (lS (bAt s (aB .i64 i 2)))))
 (some ((.tuple ⟨[.int .i64 1,.string s,.slice (Option.some (Addr.mk 0 0 none)) c.length 18446744073709551616,.bool true,.int .i64 i]⟩),(mkSt [Blk.cells (renL true (rhoO 0 [0]) c) 5 false])))
 (ae (Bool.and (Bool.not false) (Bool.and (Nat.beq 5 5) (Bool.and (Nat.ble 0 c.length) (Nat.ble (Nat.add c.length 1) 4194304))))
 (ae (Nat.beq (Nat.add 0 (Nat.mul c.length 1)) c.length)
 (some ((.tuple ⟨[.int .i64 0,.string s,.slice (Option.some (Addr.mk 0 0 none)) (Nat.add c.length 1) 18446744073709551616,.bool false,.int .i64 (aB .i64 (aB .i64 i 2) 1)]⟩),(mkSt [Blk.cells (renL true (rhoO 0 [2]) (List.append (takeC (Nat.mul c.length 1) (ak 0 c)) [.int .u8 (orI .u8 (FU .u8 (lS (bAt s (aB .i64 i 1))) 4) (lS (bAt s (aB .i64 i 2))))])) 5 false]))))))))))
 (some ((.tuple ⟨[.int .i64 1,.string s,.slice (Option.some (Addr.mk 0 0 none)) c.length 18446744073709551616,.bool true,.int .i64 i]⟩),(mkSt [Blk.cells (renL true (rhoO 0 [0]) c) 5 false]))))
 (some ((.tuple ⟨[.int .i64 1,.string s,.slice (Option.some (Addr.mk 0 0 none)) c.length 18446744073709551616,.bool true,.int .i64 i]⟩),(mkSt [Blk.cells (renL true (rhoO 0 [0]) c) 5 false]))))))
 (some ((.tuple ⟨[.int .i64 1,.string s,.slice (Option.some (Addr.mk 0 0 none)) c.length 18446744073709551616,.bool false,.int .i64 i]⟩),(mkSt [Blk.cells (renL true (rhoO 0 [0]) c) 5 false])))):=by kernel_rfl
theorem UK(x:Int):iU P E ct1 50 106 [.int .u8 x] =
 (ag (eqI 48 x)
 (some ((.tuple ⟨[.int .u8 0,.bool true]⟩),(mkSt [])))
 (ag (eqI 49 x)
 (some ((.tuple ⟨[.int .u8 1,.bool true]⟩),(mkSt [])))
 (ag (eqI 50 x)
 (some ((.tuple ⟨[.int .u8 2,.bool true]⟩),(mkSt [])))
 (ag (eqI 51 x)
 (some ((.tuple ⟨[.int .u8 3,.bool true]⟩),(mkSt [])))
 (ag (eqI 52 x)
 (some ((.tuple ⟨[.int .u8 4,.bool true]⟩),(mkSt [])))
 (ag (eqI 53 x)
 (some ((.tuple ⟨[.int .u8 5,.bool true]⟩),(mkSt [])))
 (ag (eqI 54 x)
 (some ((.tuple ⟨[.int .u8 6,.bool true]⟩),(mkSt [])))
 (ag (eqI 55 x)
 (some ((.tuple ⟨[.int .u8 7,.bool true]⟩),(mkSt [])))
 (ag (eqI 56 x)
 (some ((.tuple ⟨[.int .u8 8,.bool true]⟩),(mkSt [])))
 (ag (eqI 57 x)
 (some ((.tuple ⟨[.int .u8 9,.bool true]⟩),(mkSt [])))
 (ag (eqI 97 x)
 (some ((.tuple ⟨[.int .u8 10,.bool true]⟩),(mkSt [])))
 (ag (eqI 98 x)
 (some ((.tuple ⟨[.int .u8 11,.bool true]⟩),(mkSt [])))
 (ag (eqI 99 x)
 (some ((.tuple ⟨[.int .u8 12,.bool true]⟩),(mkSt [])))
 (ag (eqI 100 x)
 (some ((.tuple ⟨[.int .u8 13,.bool true]⟩),(mkSt [])))
 (ag (eqI 101 x)
 (some ((.tuple ⟨[.int .u8 14,.bool true]⟩),(mkSt [])))
 (ag (eqI 102 x)
 (some ((.tuple ⟨[.int .u8 15,.bool true]⟩),(mkSt [])))
 (some ((.tuple ⟨[.int .u8 0,.bool false]⟩),(mkSt []))))))))))))))))))):=by kernel_rfl
def hv(h l:UInt8):Int:=orI .u8 (FU .u8 (lS h.toNat) 4) (lS l.toNat)
def pM(h l:UInt8):Bool:=iJ h.toNat&&iJ l.toNat&&!gy (hv h l)
def jh(h l:UInt8):UInt8:=UInt8.ofNat (hv h l).toNat
theorem wrap_u8(n:Int):IntKind.u8.wrap n=n % 256:=by
 show(if(false&&decide (n % (2^8:Int)>=(2^(8-1):Int)))=true then n % (2^8:Int)-(2^8:Int)else n % (2^8:Int))=_;simp
theorem E5(h l:UInt8):((jh h l).toNat:Int)=hv h l:=by
 unfold jh;have h1:0<=hv h l/\hv h l<256:=by
  unfold hv orI;rw[wrap_u8];omega
 generalize hv h l=n at h1;simp only[UInt8.toNat_ofNat'];omega
def eG:List UInt8->List UInt8×Bool×Nat
 |[]=>([],false,0)
 |x::r=>match gy x.toNat with
  |true=>(x::(eG r).1,(eG r).2)
  |false=>match eqI x.toNat 92,r with
   |true,h::l::r'=>match pM h l with
    |true=>(jh h l::(eG r').1,(eG r').2)
    |false=>([],true,r'.length+3)
   |_,r=>([],true,r.length+1)
section
variable{s:ByteArray}{i:Nat}{c:List Value}
theorem lQ{i k:Nat}(h:i+k<9223372036854775808):aB .i64 (i:Int) (k:Int)=((i+k:Nat):Int):=by
 unfold aB;rw[wrap64 (by omega) (by omega)]; omega
theorem Qk(h:i<s.data.toList.length)(hc:bT c=true)(hb:c.length+1<=4194304)(hl:s.size<9223372036854775800)(hp:gy (s.data.toList[i].toNat:Int)=true) :
  gJ P E ct1 50 73 oK qf [.string s,sl 0 c.length, .bool false, .int .i64 i] [.cells c 5 false] =
   some (.tuple ⟨exV .normal::[.string s,sl 0 (c++bc [s.data.toList[i]]).length, .bool false, .int .i64 ((i+1:Nat):Int)]⟩,mkSt [.cells (c++bc [s.data.toList[i]]) 5 false]):=by
 unfold sl;have hsz:s.data.toList.length=s.size:=by simp
 have hx:(i:Int)<(s.size:Int):=by omega
 have hw:=lQ (i:=i) (k:=1) (by omega);rw[wz];refine dY (decide_eq_true hx) ?_;refine aT (mO (by omega) hx) ?_;rw[mr h];refine dY hp ?_;refine aT (fB rfl (fB rfl (fB (bM (Nat.zero_le _)) (bM (by simp; omega))))) ?_;refine aT (t_ (by simp)) ?_;refine gz ?_ ?_
 ·rw[show aB .i64 (i:Int) 1=((i+1:Nat):Int) from hw]; simp[exV,bc,unk]
 ·simp only[oO];have e:∀ x:List Value,x=bc [s.data.toList[i]]->renL true (rhoO 0 [2]) (c.append x)=c++bc [s.data.toList[i]]:=by
   intro x hx;rw[hx,show c.append (bc [s.data.toList[i]])=c++bc _ from rfl,jM,eU hc,kz]
  exact congrArg (fun x=>[Blk.cells x 5 false]) (e _ rfl)
theorem WQ(hc:bT c=true)(h:i=s.size) :
  gJ P E ct1 50 73 oK qf [.string s,sl 0 c.length, .bool false, .int .i64 i] [.cells c 5 false] =
   some (.tuple ⟨exV (.exit 0)::[.string s,sl 0 c.length, .bool false, .int .i64 i]⟩,mkSt [.cells c 5 false]):=by
 unfold sl;rw[wz];refine dD (by subst h; simp[ltI,af]) ?_;refine gz (by simp[exV,unk]) ?_;simp only[eU hc]
theorem vw(hc:bT c=true):(some ((Go.Value.tuple (Array.mk [(Go.Value.int Go.IntKind.i64 (1:Int)),(Go.Value.string s),(Go.Value.slice (Option.some (Go.Addr.mk 0 0 none)) (List.length c) 18446744073709551616),(Go.Value.bool Bool.true),(Go.Value.int Go.IntKind.i64 (i:Int))])),(Go.VS.mkSt [(Go.VS.Blk.cells (Go.VS.renL Bool.true (Go.VS.rhoO 0 [0]) c) 5 Bool.false)])):Res) =
  some (.tuple ⟨exV (.exit 0)::[.string s,sl 0 c.length, .bool true, .int .i64 i]⟩,mkSt [.cells c 5 false]):=by
 refine gz (by simp[exV,unk,sl]) ?_;simp only[eU hc]
theorem PU(h:i<s.data.toList.length)(hc:bT c=true)(hp:gy (s.data.toList[i].toNat:Int)=false)(hb:eqI (s.data.toList[i].toNat:Int) 92=false\/s.data.toList.length<=i+2)(hl:s.size<9223372036854775800) :
  gJ P E ct1 50 73 oK qf [.string s,sl 0 c.length, .bool false, .int .i64 i] [.cells c 5 false] =
   some (.tuple ⟨exV (.exit 0)::[.string s,sl 0 c.length, .bool true, .int .i64 i]⟩,mkSt [.cells c 5 false]):=by
 have hsz:s.data.toList.length=s.size:=by simp
 have hx:(i:Int)<(s.size:Int):=by omega
 have hw2:=lQ (i:=i) (k:=2) (by omega);have hd:=wz s c i;unfold sl;rw[hd];refine dY (decide_eq_true hx) ?_;refine aT (mO (by omega) hx) ?_;rw[mr h];refine dD hp ?_;cases he:eqI (s.data.toList[i].toNat:Int) 92 with
 |false=>exact dD rfl (vw hc)
 |true=>
  refine dY rfl ?_;have hb:s.data.toList.length<=i+2:=hb.resolve_left (by rw[he]; decide);refine dD ?_ (vw hc);rw[show aB .i64 (i:Int) 2=((i+2:Nat):Int) from hw2];refine decide_eq_false ?_;show ¬((i+2:Nat):Int)<(s.size:Int);omega
theorem Vu(h2:i+2<s.data.toList.length)(hc:bT c=true)(hb:c.length+1<=4194304)(hp:gy (s.data.toList[i].toNat:Int)=false)(he:eqI (s.data.toList[i].toNat:Int) 92=true)(hl:s.size<9223372036854775800) :
  gJ P E ct1 50 73 oK qf [.string s,sl 0 c.length, .bool false, .int .i64 i] [.cells c 5 false] =
   match pM s.data.toList[i+1] s.data.toList[i+2]with
   |true=>some (.tuple ⟨exV .normal::[.string s,sl 0 (c++bc [jh s.data.toList[i+1] s.data.toList[i+2]]).length, .bool false, .int .i64 ((i+3:Nat):Int)]⟩,mkSt [.cells (c++bc [jh s.data.toList[i+1] s.data.toList[i+2]]) 5 false])
   |false=>some (.tuple ⟨exV (.exit 0)::[.string s,sl 0 c.length, .bool true, .int .i64 i]⟩,mkSt [.cells c 5 false]):=by
 have hsz:s.data.toList.length=s.size:=by simp
 have hx:(i:Int)<(s.size:Int):=by omega
 have hw1:aB .i64 (i:Int) 1=((i+1:Nat):Int):=lQ (i:=i) (k:=1) (by omega);have hw2:aB .i64 (i:Int) 2=((i+2:Nat):Int):=lQ (i:=i) (k:=2) (by omega);have hw3:aB .i64 ((i+2:Nat):Int) 1=((i+3:Nat):Int):=lQ (i:=i+2) (k:=1) (by omega);have hx1:((i+1:Nat):Int)<(s.size:Int):=by omega
 have hx2:((i+2:Nat):Int)<(s.size:Int):=by omega
 have hd:=wz s c i;rw[hw1,hw2,hw3,mr (show i<s.data.toList.length by omega),mr (show i+1<s.data.toList.length by omega),mr h2]at hd;unfold sl;rw[hd];refine dY (decide_eq_true hx) ?_;refine aT (mO (by omega) hx) ?_;refine dD hp ?_;refine dY he ?_;refine dY (decide_eq_true hx2) ?_;refine aT (mO (by omega) hx1) ?_;refine aT (mO (by omega) hx2) ?_;unfold pM;cases d1:iJ (s.data.toList[i+1].toNat:Int)with
 |false=>exact dY rfl (vw hc)
 |true=>
  refine dD rfl ?_;cases d2:iJ (s.data.toList[i+2].toNat:Int)with
  |false=>exact dY rfl (vw hc)
  |true=>
   refine dD rfl ?_;cases d3:gy (hv s.data.toList[i+1] s.data.toList[i+2])with
   |true=>exact dY d3 (vw hc)
   |false=>
    refine dD d3 ?_;refine aT (fB rfl (fB rfl (fB (bM (Nat.zero_le _)) (bM (by simp; omega))))) ?_;refine aT (t_ (by simp)) ?_;refine gz ?_ ?_
    ·simp[exV,bc,unk]
    ·simp only[oO];have e:∀ x:List Value,x=bc [jh s.data.toList[i+1] s.data.toList[i+2]]->renL true (rhoO 0 [2]) (c.append x)=c++bc [jh s.data.toList[i+1] s.data.toList[i+2]]:=by
      intro x hx;rw[hx,show c.append (bc [jh s.data.toList[i+1] s.data.toList[i+2]])=c++bc _ from rfl,jM,eU hc,kz]
     refine congrArg (fun x=>[Blk.cells x 5 false]) (e _ ?_);show [Value.int .u8 (hv s.data.toList[i+1] s.data.toList[i+2])]=[Value.int .u8 ((jh s.data.toList[i+1] s.data.toList[i+2]).toNat:Int)]
     rw[E5]
end
theorem uF{x:UInt8}{r:List UInt8}(h:gy x.toNat=true):eG (x::r)=(x::(eG r).1,(eG r).2):=by
 rw[eG.eq_def]; simp only[h]
theorem wS{x h l:UInt8}{r:List UInt8}(hp:gy x.toNat=false)(he:eqI x.toNat 92=true):eG (x::h::l::r)=match pM h l with
  |true=>(jh h l::(eG r).1,(eG r).2)
  |false=>([],true,r.length+3):=by
 rw[eG.eq_def]; simp only[hp,he]<;>cases pM h l<;>rfl
theorem y7{x:UInt8}{r:List UInt8}(hp:gy x.toNat=false)(ho:eqI x.toNat 92=false\/r.length<2):eG (x::r)=([],true,r.length+1):=by
 rw[eG.eq_def];simp only[hp];cases he:eqI x.toNat 92 with
 |false=>cases r with
  |nil=>rfl
  |cons a r=>cases r<;>rfl
 |true=>
  have:r.length<2:=ho.resolve_left (by rw[he]; decide);cases r with
  |nil=>rfl
  |cons a r=>cases r with
   |nil=>rfl
   |cons b r=>simp at this; omega
theorem SN(s:ByteArray)(hl:s.size<9223372036854775800):∀ (k i:Nat) (c:List Value),i+k=s.size->bT c=true->c.length+k<=4194304->
  LR P 73 0 oK qf [.string s,sl 0 c.length, .bool false, .int .i64 i] [.cells c 5 false] .normal
   [.string s,sl 0 (c++bc (eG (s.data.toList.drop i)).1).length, .bool (eG (s.data.toList.drop i)).2.1, .int .i64 ((s.size-(eG (s.data.toList.drop i)).2.2:Nat):Int)] [.cells (c++bc (eG (s.data.toList.drop i)).1) 5 false]:=by
 intro k
 induction k using Nat.strongRecOn with
 |_ k ih=>
  intro i c hi hc hb;have hsz:s.data.toList.length=s.size:=by simp
  have stop:∀ {vs1:List Value} {bs1:List Blk},gJ P E ct1 50 73 oK qf [.string s,sl 0 c.length, .bool false, .int .i64 i] [.cells c 5 false]=some (.tuple ⟨exV (.exit 0)::vs1⟩,mkSt bs1)->
    LR P 73 0 oK qf [.string s,sl 0 c.length, .bool false, .int .i64 i] [.cells c 5 false] .normal vs1 bs1:=
   fun h=>LR.stop (aF ct1) au rV zM (by kernel_rfl) (e:= .exit 0) h (by intro h; cases h)
  by_cases hk:k=0
  ·subst hk;have e:s.data.toList.drop i=[]:=List.drop_of_length_le (by omega);rw[e];have:=stop (WQ hc (by omega));simpa [eG,bc,hi]using(by simpa using(show i=s.size by omega)▸this)
  ·have hlt:i<s.data.toList.length:=by omega
   rw[List.drop_eq_getElem_cons hlt];cases hp:gy (s.data.toList[i].toNat:Int)with
   |true=>
    have:=ih (k-1) (by omega) (i+1) (c++bc [s.data.toList[i]]) (by omega) (by rw[kL,hc,qL]; rfl) (by rw[List.length_append,fK]; simp; omega);rw[uF hp];have e:∀ q,c++bc [s.data.toList[i]]++bc q=c++bc (s.data.toList[i]::q):=by
     intro q; rw[List.append_assoc,<-qQ]; rfl
    rw[e]at this;exact LR.again (aF ct1) au rV zM (by kernel_rfl) (Qk hlt hc (by omega) hl hp) this
   |false=>
    have hrest:(s.data.toList.drop (i+1)).length=k-1:=by rw[List.length_drop]; omega
    by_cases ho:eqI (s.data.toList[i].toNat:Int) 92=false\/s.data.toList.length<=i+2
    ·have:=stop (PU hlt hc hp ho hl);rw[y7 hp (ho.imp id fun h=>by rw[hrest]; omega)];have e:s.size-((s.data.toList.drop (i+1)).length+1)=i:=by rw[hrest]; omega
     simp only[e];have e2:c++bc []=c:=by simp[bc]
     rw[e2];exact this
    ·have he:eqI (s.data.toList[i].toNat:Int) 92=true:=by
      cases h:eqI (s.data.toList[i].toNat:Int) 92 with
      |true=>rfl
      |false=>exact absurd (Or.inl h) ho
     have h2:i+2<s.data.toList.length:=by
      have:¬s.data.toList.length<=i+2:=fun h=>ho (Or.inr h);omega
     have hr:=Vu h2 hc (by omega) hp he hl;rw[List.drop_eq_getElem_cons (show i+1<s.data.toList.length by omega),List.drop_eq_getElem_cons h2,wS hp he];have hrest3:(s.data.toList.drop (i+3)).length=k-3:=by rw[List.length_drop]; omega
     cases hg:pM s.data.toList[i+1] s.data.toList[i+2]with
     |true=>
      rw[hg]at hr;have:=ih (k-3) (by omega) (i+3) (c++bc [jh s.data.toList[i+1] s.data.toList[i+2]]) (by omega) (by rw[kL,hc,qL]; rfl) (by rw[List.length_append,fK]; simp; omega);have e:∀ q,c++bc [jh s.data.toList[i+1] s.data.toList[i+2]]++bc q=c++bc (jh s.data.toList[i+1] s.data.toList[i+2]::q):=by
       intro q; rw[List.append_assoc,<-qQ]; rfl
      rw[e]at this;exact LR.again (aF ct1) au rV zM (by kernel_rfl) hr this
     |false=>
      rw[hg]at hr;have:=stop hr;have e:s.size-((s.data.toList.drop (i+3)).length+3)=i:=by rw[hrest3]; omega
      simp only[e];have e2:c++bc []=c:=by simp[bc]
      rw[e2];exact this
def BU(s:ByteArray)(v1:Value)(bad:Bool)(i:Int)(c:List Value)(e1:TypeId):Bool:=
 atB v1 0 c.length&&!bad&&i == 0&&bT c&&e1 == 5&&Nat.ble (c.length+s.size) 4194304
def Ib:lC:=fun vs bs=>match vs,bs with
 |[.string s,v1, .bool bad, .int .i64 i],[.cells c e1 false]=>some (.ite (BU s v1 bad i c e1)
   (.leaf (.normal,[.string s,sl 0 (c++bc (eG s.data.toList).1).length, .bool (eG s.data.toList).2.1, .int .i64 ((s.size-(eG s.data.toList).2.2:Nat):Int)],[.cells (c++bc (eG s.data.toList).1) 5 false])) .fail)
 |_,_=>none
theorem NQ:LoopOk P 73 0 oK qf Ib where
 occ:=bz J5
 ok:=by kernel_rfl
 run:=by
  intro vs bs t hR e vs' bs' hev;unfold Ib at hR;split at hR
  ·rename_i s v1 bad i c e1;obtain rfl:=Option.some.inj hR;cases hc:BU s v1 bad i c e1 with
   |false=>rw[hc]at hev; cases hev
   |true=>
    rw[hc]at hev;simp only[DT.eval,Option.some.injEq,Prod.mk.injEq]at hev;obtain⟨rfl,rfl,rfl⟩:=hev;simp only[BU,Bool.and_eq_true,beq_iff_eq,Bool.not_eq_true']at hc;obtain⟨⟨⟨⟨⟨h1,h2⟩,h3⟩,h4⟩,h5⟩,h6⟩:=hc;have h6:=Nat.le_of_ble_eq_true h6;rw[Ah h1];subst h2 h3 h5;have:=SN s (by omega) s.size 0 c (by omega) h4 (by omega);rw[List.drop_zero]at this;exact this
  ·cases hR
def ct4:Ct:=o9 73 0 qf Ib (bH P 69 zo ct3)
theorem Xc:CtOk P ct4:=pK (aU YY Nw) NQ
theorem Xt(s:ByteArray):iU P E ct4 50 73 [.string s] =
 (ag (eqS s ⟨#[34,34]⟩)
 (some ((.tuple ⟨[.string ⟨#[]⟩,.int .i64 0]⟩),(mkSt [])))
 (ae (BU s (.slice (Option.some (Addr.mk 0 0 none)) 0 18446744073709551616) false 0 [] 5)
 (ag (Prod.fst (Prod.snd (eG (Array.toList (ByteArray.data s)))))
 (some ((.tuple ⟨[.string ⟨#[]⟩,.int .i64 5]⟩),(mkSt [])))
 (ag (eqI (af (List.length (HAppend.hAppend [] (bc (Prod.fst (eG (Array.toList (ByteArray.data s)))))))) 0)
 (some ((.tuple ⟨[.string ⟨#[]⟩,.int .i64 5]⟩),(mkSt [])))
 (ae (Bool.and (Nat.ble (Nat.add 0 (List.length (HAppend.hAppend [] (bc (Prod.fst (eG (Array.toList (ByteArray.data s)))))))) (List.length (HAppend.hAppend [] (bc (Prod.fst (eG (Array.toList (ByteArray.data s)))))))) (allBytes (takeC (List.length (HAppend.hAppend [] (bc (Prod.fst (eG (Array.toList (ByteArray.data s))))))) (ak 0 (HAppend.hAppend [] (bc (Prod.fst (eG (Array.toList (ByteArray.data s))))))))))
 (some ((.tuple ⟨[.string (qc (takeC (List.length (HAppend.hAppend [] (bc (Prod.fst (eG (Array.toList (ByteArray.data s))))))) (ak 0 (HAppend.hAppend [] (bc (Prod.fst (eG (Array.toList (ByteArray.data s))))))))),.int .i64 0]⟩),(mkSt [])))))))):=by kernel_rfl
def kw(w:List UInt8):List UInt8×Int:=match w == [34,34]with
 |true=>([],0)
 |false=>match(eG w).2.1,(eG w).1 with
  |true,_=>([],5)
  |false,[]=>([],5)
  |false,l=>(l,0)
def Gh:fG
 |[.string s]=>some (.ite (Nat.ble s.size 4194304) (.leaf (.tuple ⟨[.string ⟨⟨(kw s.data.toList).1⟩⟩, .int .i64 (kw s.data.toList).2]⟩,[])) .fail)
 |_=>none
theorem Oh:CallOkR P 73 Gh:=by
 refine mY Xc (n:=50) fun args t hR v bs hev=>?_;unfold Gh at hR;split at hR
 ·rename_i s;obtain rfl:=Option.some.inj hR;cases hc:Nat.ble s.size 4194304 with
  |false=>rw[hc]at hev; cases hev
  |true=>
   rw[hc]at hev;simp only[DT.eval,Option.some.injEq,Prod.mk.injEq]at hev;obtain⟨rfl,rfl⟩:=hev;have hsz:=Nat.le_of_ble_eq_true hc;rw[Xt];unfold kw;cases hq:s.data.toList == [34,34]with
   |true=>exact dY (by rw[p_]; exact hq) rfl
   |false=>
    refine dD (by rw[p_]; exact hq) ?_;refine aT ?_ ?_
    ·have h1:atB (.slice (some ⟨0,0,none⟩) 0 18446744073709551616) 0 ([]:List Value).length=true:=CE 0 0;have h9:Nat.ble (([]:List Value).length+s.size) 4194304=true:=bM (by simpa using hsz);unfold BU;rw[h1,h9]
     rfl
    simp only[List.nil_append,lI,DD];generalize eG s.data.toList=q;obtain⟨out,bad,left⟩:=q;cases bad with
    |true=>exact dY rfl rfl
    |false=>
     refine dD rfl ?_;cases out with
     |nil=>exact dY rfl rfl
     |cons b l=>
      refine dD ?_ ?_
      ·rw[fK];show((((b::l).length:Nat):Int) == 0)=false;simp only[List.length_cons,beq_eq_false_iff_ne,ne_eq];omega
      refine aT (fB (bM (by simp)) (BX _)) rfl
 ·cases hR
theorem aA{x:Res}:ae true x=x:=rfl
def aJ:Pol:=fun _=>none
def ctF:Ct:=abC P
theorem aW:CtOk P ctF:=aas au
theorem WZ(p:Bool)(k v:ByteArray):iU P E jR 50 44 [.agg ⟨[.bool p, .string k, .string v]⟩] =
 (ag (ltI (af k.size) 1)
 (some ((.int .i64 2),(mkSt [])))
 (ag (gtI (af k.size) 16)
 (some ((.int .i64 2),(mkSt [])))
 (ag (gtI (af v.size) 32)
 (some ((.int .i64 2),(mkSt [])))
 (ag (dN p)
 (ag (neS v ⟨#[]⟩)
 (some ((.int .i64 2),(mkSt [])))
 (some ((.int .i64 0),(mkSt []))))
 (some ((.int .i64 0),(mkSt []))))))):=by kernel_rfl
def bQ(p:Bool)(k v:ByteArray):Bool:=decide (1<=k.size)&&decide (k.size<=16)&&decide (v.size<=32)&&(p || v.data.toList == [])
def mJ(O:Bool->ByteArray->ByteArray->Bool):fG
 |[.agg ⟨[.bool p, .string k, .string v]⟩]=>some (.ite (O p k v) (.leaf (.int .i64 0,[])) (.leaf (.int .i64 2,[])))
 |_=>none
def GX:fG:=mJ bQ
theorem Gz(p:Bool)(k v:ByteArray):ag (ltI (af k.size) 1) (some (.int .i64 2,mkSt [])) (ag (gtI (af k.size) 16) (some (.int .i64 2,mkSt [])) (ag (gtI (af v.size) 32) (some (.int .i64 2,mkSt []))
  (ag (dN p) (ag (neS v ⟨#[]⟩) (some (.int .i64 2,mkSt [])) (some (.int .i64 0,mkSt []))) (some (.int .i64 0,mkSt [])))))=(some (.int .i64 (match bQ p k v with | true=>0 | false=>2),mkSt []):Res):=by
 unfold bQ;by_cases h1:1<=k.size
 ·refine dD (by show decide ((k.size:Int)<1)=false; exact decide_eq_false (by omega)) ?_;by_cases h2:k.size<=16
  ·refine dD (by simp[gtI,af]; omega) ?_;by_cases h3:v.size<=32
   ·refine dD (by simp[gtI,af]; omega) ?_;rw[decide_eq_true h1,decide_eq_true h2,decide_eq_true h3];cases p with
    |true=>exact dD rfl rfl
    |false=>
     refine dY rfl ?_;cases h4:v.data.toList == []with
     |true=>exact dD (by rw[nJ]; show(!(v.data.toList == []))=false; rw[h4]; rfl) rfl
     |false=>exact dY (by rw[nJ]; show(!(v.data.toList == []))=true; rw[h4]; rfl) rfl
   ·rw[decide_eq_false h3];exact dY (by simp[gtI,af]; omega) (by simp)
  ·rw[decide_eq_false h2];exact dY (by simp[gtI,af]; omega) (by simp)
 ·rw[decide_eq_false h1];exact dY (by show decide ((k.size:Int)<1)=true; exact decide_eq_true (by omega)) (by simp)
theorem check_any{F:Nat}(h:∀ p k v,iU P E jR 50 F [.agg ⟨[.bool p, .string k, .string v]⟩]=some (.int .i64 (match bQ p k v with | true=>0 | false=>2),mkSt [])):CallOkR P F GX:=by
 refine mY (je P) (n:=50) fun args t hR v bs hev=>?_;unfold GX mJ at hR;split at hR
 ·rename_i p k w;obtain rfl:=Option.some.inj hR;rw[h];cases hc:bQ p k w<;>rw[hc]at hev<;>(simp only[DT.eval,Option.some.injEq,Prod.mk.injEq]at hev; obtain⟨rfl,rfl⟩:=hev; rfl)
 ·cases hR
theorem yX:CallOkR P 44 GX:=check_any fun p k v=>by rw[WZ]; exact Gz p k v
theorem bu{U:Type}{k:Con U}{s:U}{vs:List Value}{bs:List Blk}{x r:Res}(h1:(k.enc s).1=vs)(h2:(k.enc s).2=bs)(h:x=r):ae (k.at s vs bs) x=r:=by
 rw[k.at_true h1 h2]; exact h
def aeB(O:Bool->ByteArray->ByteArray->Bool):Ct:=bH P 44 (mJ O) ctF
def ctB:Ct:=aeB bQ
theorem MQ:CtOk P ctB:=aU aW yX
def Dbc:HeadX:=⟨0,26,[2,14,15,16],[.val, .val, .val, .val],[],aJ⟩
def Bbc:Code:=(bK P 43 1).getD .skip
theorem XY:bK P 43 1=some Bbc:=by kernel_rfl
theorem Jj:Occ P 43 (.block 1 (.loop Bbc)):=dA XY
theorem V3(O:Bool->ByteArray->ByteArray->Bool)(n b:Nat)(c:List Value)(r z i:Int):aQ P E (aeB O) 50 43 Bbc Dbc [.int .i64 r,ai 3 n b c, .int .i64 z, .int .i64 i] [] =
 (ag (ltI i z)
 (ae (Bool.and (Nat.beq 3 3) (inI i n))
 (ae (Bool.and (Nat.ble (Nat.add (atN i 3) 3) c.length) (jP [.bool,.string,.string] c (atN i 3)))
 (ag (O (asB (ah c (atN i 3))) (asS (ah c (Nat.add (atN i 3) 1))) (asS (ah c (Nat.add (Nat.add (atN i 3) 1) 1))))
 (some ((.tuple ⟨[.int .i64 0,.int .i64 r,.iface 18446744073709551619 (.agg ⟨(.slice none n b)::c⟩),.int .i64 z,.int .i64 (aB .i64 i 1)]⟩),(mkSt [])))
 (some ((.tuple ⟨[.int .i64 (-1),.int .i64 2,.iface 18446744073709551619 (.agg ⟨(.slice none n b)::c⟩),.int .i64 z,.int .i64 i]⟩),(mkSt []))))))
 (some ((.tuple ⟨[.int .i64 2,.int .i64 r,.iface 18446744073709551619 (.agg ⟨(.slice none n b)::c⟩),.int .i64 z,.int .i64 i]⟩),(mkSt [])))):=by kernel_rfl
theorem acP(C:List Value->List Blk->Bool)(ok:Bool)(r:Int)(z:Value)(y1 y2 y3:Int)(n b:Nat)(c:List Value):bn P E (dR P 43 1 Dbc (iD C (.ite ok (.leaf (.normal,[.int .i64 0,z, .int .i64 y1, .int .i64 y2],[])) (.leaf (.ret,[.int .i64 r,z, .int .i64 y1, .int .i64 y3],[])))) ctF) 50 aJ [] [] 0 43 [ai 3 n b c] [] =
 (ag (eqI (af n) 0)
 (some ((.int .i64 2),(mkSt [])))
 (ag (gtI (af n) 8)
 (some ((.int .i64 3),(mkSt [])))
 (ae (C [.int .i64 0,.iface 18446744073709551619 (.agg ⟨(.slice none n b)::c⟩),.int .i64 (af n),.int .i64 0] [])
 (ag ok
 (some ((.int .i64 0),(mkSt [])))
 (some ((.int .i64 r),(mkSt []))))))):=by kernel_rfl
def jo(o:OpM):Bool:=bQ o.p o.k o.v
def aK(l:List OpM):Value:=ai 3 l.length 0 (EOp.all l)
def bcV(r:Int)(l:List OpM)(i:Int):List Value:=[.int .i64 r,aK l, .int .i64 (af l.length), .int .i64 i]
theorem qU{l:List OpM}{i:Nat}(h:i<l.length):jP [.bool, .string, .string] (EOp.all l) (atN (i:Int) 3)=true:=by
 show and (dw .bool (ah (EOp.all l) (atN (i:Int) 3))) (and (dw .string (ah (EOp.all l) (Nat.add (atN (i:Int) 3) 1))) (and (dw .string (ah (EOp.all l) (Nat.add (Nat.add (atN (i:Int) 3) 1) 1))) true))=true;rw[zi h,yI h,zy h]; rfl
theorem aaN{l:List OpM}{i:Nat}(hi:i<l.length)(hl:l.length<4194304):aQ P E ctB 50 43 Bbc Dbc (bcV 0 l i) []=match jo l[i]with
  |true=>some (.tuple ⟨exV .normal::bcV 0 l ((i+1:Nat):Int)⟩,mkSt [])
  |false=>some (.tuple ⟨exV .ret::bcV 2 l i⟩,mkSt []):=by
 unfold bcV aK ctB;rw[V3];have n3:∀ l:List OpM,(EOp.all l).length=Nat.mul l.length 3:=fun l=>EOp.all_length l;have g1:ltI (i:Int) (af l.length)=true:=by unfold ltI af; exact decide_eq_true (by omega)
 have g2:inI (i:Int) l.length=true:=by unfold inI; exact decide_eq_true (by omega)
 have g3:Nat.ble (Nat.add (atN (i:Int) 3) 3) (Nat.mul l.length 3)=true:=Nat.ble_eq_true_of_le (by
  show(i:Int).toNat*3+3<=l.length*3;have:(i:Int).toNat=i:=by omega
  omega)
 have g4:=qU hi;have a1:aB .i64 (i:Int) 1=((i+1:Nat):Int):=by unfold aB; rw[wrap64 (by omega) (by omega)]; omega
 have ab:∀ b,asB (.bool b)=b:=fun _=>rfl;have aS:∀ b,asS (.string b)=b:=fun _=>rfl;have b3:∀ n,Nat.beq n n=true:=Nat.beq_refl;simp only[n3,g1,g2,g3,g4,zi hi,yI hi,zy hi,ab,aS,a1,b3,Bool.and_self,az,aA];unfold ai jo;rw[ja];cases bQ l[i].p l[i].k l[i].v<;>rfl
theorem aeI{l:List OpM}:aQ P E ctB 50 43 Bbc Dbc (bcV 0 l l.length) []=some (.tuple ⟨exV (.exit 1)::bcV 0 l l.length⟩,mkSt []):=by
 unfold bcV aK ctB;rw[V3];have g1:ltI (l.length:Int) (af l.length)=false:=by unfold ltI af; exact decide_eq_false (by omega)
 simp only[g1,ax];unfold ai;rw[ja]
 rfl
def badM:Nat->List OpM->Option Nat
 |_,[]=>none
 |i,o::l=>match jo o with
  |true=>badM (i+1) l
  |false=>some i
theorem QA(l:List OpM)(hl:l.length<4194304):∀ (k i:Nat),i+k=l.length->
  LRX P 43 1 Bbc Dbc.head (bcV 0 l i) [] (match badM i (l.drop i)with | none=> .normal | some _=> .ret) (match badM i (l.drop i)with | none=>bcV 0 l l.length | some j=>bcV 2 l j) []
 |0,i,h=>by
  obtain rfl:i=l.length:=by omega
  rw[List.drop_length];exact LRX.stop (n:=50) (aF ctB) au MQ Jj (e:= .exit 1) aeI (by intro h; cases h)
 |k+1,i,h=>by
  have hi:i<l.length:=by omega
  have q:=aaN hi hl;rw[List.drop_eq_getElem_cons hi];simp only[badM];cases ho:jo l[i]with
  |true=>
   rw[ho]at q;exact LRX.again (n:=50) (aF ctB) au MQ Jj q (QA l hl k (i+1) (by omega))
  |false=>
   rw[ho]at q;exact LRX.stop (n:=50) (aF ctB) au MQ Jj (e:= .ret) q (by intro h; cases h)
def kBc:Con (List OpM) where
 enc l:=(bcV 0 l 0,[])
 ok l:=l.length<4194304
 inj a b h:=by
  unfold bcV aK at h;simp only[Prod.mk.injEq,List.cons.injEq,Value.int.injEq,true_and,and_true]at h;exact EOp.all_inj _ _ (ry h.1)
 dflt:=[]
def TI(l:List OpM):DT (Ex×List Value×List Blk):= .ite (badM 0 l).isNone (.leaf (.normal,bcV 0 l l.length,[])) (.leaf (.ret,bcV 2 l ((badM 0 l).getD 0),[]))
theorem Yl:LoopOkX P 43 1 Bbc Dbc.head (kP kBc.C kBc.D TI):=
 fQ kBc (bz XY) fun l ho e vs' bs' hev=>by
  have q:=QA l ho l.length 0 (by omega);rw[List.drop_zero]at q;unfold TI at hev;cases hb:badM 0 l with
  |none=>
   rw[hb]at hev q;simp only[Option.isNone_none,DT.eval,Option.some.injEq,Prod.mk.injEq]at hev;obtain⟨rfl,rfl,rfl⟩:=hev;exact q
  |some j=>
   rw[hb]at hev q;simp only[Option.isNone_some,Option.getD_some,DT.eval,Option.some.injEq,Prod.mk.injEq]at hev;obtain⟨rfl,rfl,rfl⟩:=hev;exact q
def dO(l:List OpM):Int:=match eqI (af l.length) 0,gtI (af l.length) 8,(badM 0 l).isNone with
 |true,_,_=>2
 |false,true,_=>3
 |false,false,true=>0
 |false,false,false=>2
def kBk:Con (List OpM) where
 enc l:=([aK l],[])
 ok l:=l.length<4194304
 inj a b h:=by
  unfold aK at h;simp only[Prod.mk.injEq,List.cons.injEq,true_and,and_true]at h;exact EOp.all_inj _ _ (ry h)
 dflt:=[]
def adC(l:List OpM):Ct:=dR P 43 1 Dbc (iD (kBc.at l) (TI l)) ctF
theorem acU(l:List OpM):bn P E (adC l) 50 aJ [] [] 0 43 (kBk.enc l).1 (kBk.enc l).2=some (.int .i64 (dO l),mkSt []):=by
 have q:=acP (kBc.at l) (badM 0 l).isNone 2 (aK l) (af l.length) l.length (((badM 0 l).getD 0:Nat):Int) l.length 0 (EOp.all l);refine Eq.trans ?_ (q.trans ?_)
 ·rfl
 clear q;unfold dO;cases eqI (af l.length) 0 with
 |true=>rfl
 |false=>
  simp only[ax];cases gtI (af l.length) 8 with
  |true=>rfl
  |false=>
   simp only[ax];refine bu (k:=kBc) (s:=l) (by show bcV 0 l 0=_; unfold bcV aK ai; rw[ja]) rfl ?_;cases (badM 0 l).isNone<;>rfl
theorem V6:CallOkX P 0 43 (jS kBk.C kBk.D fun l=> .leaf (.int .i64 (dO l),[])):=f_ kBk fun l ho v bs' hev=>by
 simp only[DT.eval,Option.some.injEq,Prod.mk.injEq]at hev;obtain⟨rfl,rfl⟩:=hev;exact CRX.of (aF (adC l)) au (bf aW (gU kBc Yl (s:=l) ho)) (acU l)
def byS(s:ByteArray):ByteArray:=⟨⟨(kw s.data.toList).1⟩⟩
def byE(s:ByteArray):Int:=(kw s.data.toList).2
def Oy(B:ByteArray->ByteArray)(G:ByteArray->Int):fG
 |[.string s]=>some (.ite (Nat.ble s.size 4194304) (.leaf (.tuple ⟨[.string (B s), .int .i64 (G s)]⟩,[])) .fail)
 |_=>none
theorem abT:CallOkR P 73 (Oy byS byE):=by
 refine⟨fun args t hR v bs hev=>Oh.run args t ?_ v bs hev⟩;unfold Oy at hR;unfold Gh;split at hR<;>first | exact hR | cases hR
def afs(C K:ByteArray->Bool)(V:ByteArray->Int)(R:Int->Bool)(F:Int->ByteArray):Ct:=bH P 47 (nI R F) (bH P 72 (U9 C K V) jR)
def ctN:Ct:=afs szS Fb dE inR bF
theorem ae6:CtOk P ctN:=aU (aU (je P) adU) W_
theorem TF(C K:ByteArray->Bool)(V:ByteArray->Int)(R:Int->Bool)(F:Int->ByteArray)(s:ByteArray)(m:Int):iU P E (afs C K V R F) 50 40 [.string s, .int .i64 m] =
 (ae (C s)
 (ag (K s)
 (ag (gtI (af s.size) 9)
 (some ((.tuple ⟨[.int .i64 0,.bool false]⟩),(mkSt [])))
 (ag (ltI (V s) 0)
 (some ((.tuple ⟨[.int .i64 0,.bool false]⟩),(mkSt [])))
 (ag (gtI (V s) m)
 (some ((.tuple ⟨[.int .i64 0,.bool false]⟩),(mkSt [])))
 (ae (R (V s))
 (ag (neS (F (V s)) s)
 (some ((.tuple ⟨[.int .i64 0,.bool false]⟩),(mkSt [])))
 (some ((.tuple ⟨[.int .i64 (V s),.bool true]⟩),(mkSt []))))))))
 (some ((.tuple ⟨[.int .i64 0,.bool false]⟩),(mkSt []))))):=by kernel_rfl
def agj(B:ByteArray->ByteArray)(G:ByteArray->Int)(O:Bool->ByteArray->ByteArray->Bool):Ct:=bH P 44 (mJ O) (bH P 73 (Oy B G) jR)
theorem ab9(B:ByteArray->ByteArray)(G:ByteArray->Int)(O:Bool->ByteArray->ByteArray->Bool)(s:ByteArray):iU P E (agj B G O) 50 41 [.string s] =
 (ae (Nat.ble s.size 4194304)
 (ag (eqI (G s) 0)
 (ag (O false (B s) ⟨#[]⟩)
 (some ((.tuple ⟨[.string (B s),.bool (eqI 0 0)]⟩),(mkSt [])))
 (some ((.tuple ⟨[.string (B s),.bool (eqI 2 0)]⟩),(mkSt []))))
 (some ((.tuple ⟨[.string (B s),.bool false]⟩),(mkSt []))))):=by kernel_rfl
def bG(s:ByteArray)(m:Int):Bool:=Fb s&&!(gtI (af s.size) 9)&&!(ltI (dE s) 0)&&!(gtI (dE s) m)&&!(neS (bF (dE s)) s)
def lM(s:ByteArray)(m:Int):Bool:=and (szS s) (leI m 1000000000)
def U0(C O:ByteArray->Int->Bool)(V:ByteArray->Int):fG
 |[.string s, .int .i64 m]=>some (.ite (C s m) (.ite (O s m) (.leaf (.tuple ⟨[.int .i64 (V s), .bool true]⟩,[])) (.leaf (.tuple ⟨[.int .i64 0, .bool false]⟩,[]))) .fail)
 |_=>none
theorem ac6{s:ByteArray}{m:Int}(hc:lM s m=true):iU P E ctN 50 40 [.string s, .int .i64 m]=match bG s m with
  |true=>some (.tuple ⟨[.int .i64 (dE s), .bool true]⟩,mkSt [])
  |false=>some (.tuple ⟨[.int .i64 0, .bool false]⟩,mkSt []):=by
 unfold ctN;rw[TF];simp only[lM,Bool.and_eq_true]at hc;rw[hc.1];have hm:m<=1000000000:=by have:=hc.2; unfold leI at this; exact of_decide_eq_true this
 unfold bG;refine Eq.trans aA ?_;cases h1:Fb s with
 |false=>rfl
 |true=>
 cases h2:gtI (af s.size) 9 with
 |true=>rfl
 |false=>
 cases h3:ltI (dE s) 0 with
 |true=>rfl
 |false=>
 cases h4:gtI (dE s) m with
 |true=>rfl
 |false=>
 have h5:inR (dE s)=true:=by
  unfold ltI at h3;unfold gtI at h4;have h3:=of_decide_eq_false h3;have h4:=of_decide_eq_false h4;unfold inR leI;rw[Bool.and_eq_true,decide_eq_true_eq,decide_eq_true_eq];omega
 rw[h5];cases h6:neS (bF (dE s)) s<;>rfl
theorem aeR:CallOkR P 40 (U0 lM bG dE):=by
 refine mY ae6 (n:=50) fun args t hR v bs hev=>?_;unfold U0 at hR;split at hR
 ·rename_i s m;obtain rfl:=Option.some.inj hR;cases hc:lM s m with
  |false=>rw[hc]at hev; cases hev
  |true=>
   rw[hc]at hev;rw[ac6 hc];cases ho:bG s m<;>rw[ho]at hev<;>(simp only[DT.eval,Option.some.injEq,Prod.mk.injEq]at hev; obtain⟨rfl,rfl⟩:=hev; rfl)
 ·cases hR
def eY(s:ByteArray):Bool:=eqI (byE s) 0&&bQ false (byS s) ⟨#[]⟩
def Lt(C O:ByteArray->Bool)(B:ByteArray->ByteArray):fG
 |[.string s]=>some (.ite (C s) (.leaf (.tuple ⟨[.string (B s), .bool (O s)]⟩,[])) .fail)
 |_=>none
def ctK:Ct:=bH P 44 (mJ bQ) (bH P 73 (Oy byS byE) jR)
theorem aeP:CtOk P ctK:=aU (aU (je P) abT) yX
theorem key_ok:CallOkR P 41 (Lt szS eY byS):=by
 refine mY aeP (n:=50) fun args t hR v bs hev=>?_;unfold Lt at hR;split at hR
 ·rename_i s;obtain rfl:=Option.some.inj hR;cases hc:szS s with
  |false=>rw[hc]at hev; cases hev
  |true=>
   rw[hc]at hev;simp only[DT.eval,Option.some.injEq,Prod.mk.injEq]at hev;obtain⟨rfl,rfl⟩:=hev;refine Eq.trans ?_ ((ab9 byS byE bQ s).trans ?_)
   ·rfl
   unfold szS at hc;rw[hc];refine Eq.trans aA ?_;unfold eY;cases eqI (byE s) 0 with
   |false=>rfl
   |true=>cases bQ false (byS s) ⟨#[]⟩<;>rfl
 ·cases hR
def aeW(C O:ByteArray->Bool)(B:ByteArray->ByteArray)(G:ByteArray->Int):Ct:=bH P 41 (Lt C O B) (bH P 73 (Oy B G) ctF)
def Dop:HeadX:=⟨0,63,[0,2,3,4],[.val, .val, .val, .own],[29,22,4,22],aJ⟩
def Bop:Code:=(bK P 42 0).getD .skip
theorem Ye:bK P 42 0=some Bop:=by kernel_rfl
theorem xQ:Occ P 42 (.block 0 (.loop Bop)):=dA Ye
theorem Af(C O:ByteArray->Bool)(B:ByteArray->ByteArray)(G:ByteArray->Int)(n b:Nat)(c:List Value)(z:Value)(m:Nat)(d:List Value):aQ P E (aeW C O B G) 50 42 Bop Dop [ai 1 n b c,ai 3 0 0 [], .bool false, .slice (some ⟨0,0,none⟩) m unk] [.cells d 74 false] =
 (ag (gtI (af n) 0)
 (ae (Bool.and (Nat.beq 1 1) (inI 0 n))
 (ae (Bool.and (Nat.ble 1 c.length) (dw .string (ah c 0)))
 (ag (eqS (asS (ah c 0)) ⟨#[112,117,116]⟩)
 (ag (ltI (af n) 3)
 (ae (Nat.ble (Nat.add 0 (Nat.mul m 3)) d.length)
 (some ((.tuple ⟨[.int .i64 (-1),.iface 18446744073709551617 (.agg ⟨(.slice none n b)::c⟩),.iface 18446744073709551619 (.agg ⟨[.slice none 0 0]⟩),.bool false,.slice (Option.some (Addr.mk 0 0 none)) m 18446744073709551616]⟩),(mkSt [Blk.cells (renL true (rhoO 0 [2]) (takeC (Nat.mul m 3) (ak 0 d))) 74 false]))))
 (ae (Bool.and (Nat.beq 1 1) (inI 1 n))
 (ae (Bool.and (Nat.ble 2 c.length) (dw .string (ah c 1)))
 (ae (C (asS (ah c 1)))
 (ag (dN (O (asS (ah c 1))))
 (ae (Nat.ble (Nat.add 0 (Nat.mul m 3)) d.length)
 (some ((.tuple ⟨[.int .i64 (-1),.iface 18446744073709551617 (.agg ⟨(.slice none n b)::c⟩),.iface 18446744073709551619 (.agg ⟨[.slice none 0 0]⟩),.bool false,.slice (Option.some (Addr.mk 0 0 none)) m 18446744073709551616]⟩),(mkSt [Blk.cells (renL true (rhoO 0 [2]) (takeC (Nat.mul m 3) (ak 0 d))) 74 false]))))
 (ae (Bool.and (Nat.beq 1 1) (inI 2 n))
 (ae (Bool.and (Nat.ble 3 c.length) (dw .string (ah c 2)))
 (ae (Nat.ble (ByteArray.size (asS (ah c 2))) 4194304)
 (ag (neI (G (asS (ah c 2))) 0)
 (ae (Nat.ble (Nat.add 0 (Nat.mul m 3)) d.length)
 (some ((.tuple ⟨[.int .i64 (-1),.iface 18446744073709551617 (.agg ⟨(.slice none n b)::c⟩),.iface 18446744073709551619 (.agg ⟨[.slice none 0 0]⟩),.bool false,.slice (Option.some (Addr.mk 0 0 none)) m 18446744073709551616]⟩),(mkSt [Blk.cells (renL true (rhoO 0 [2]) (takeC (Nat.mul m 3) (ak 0 d))) 74 false]))))
 (ae (Nat.ble (Nat.add m 1) 4194304)
 (ae (Nat.beq (Nat.add 0 (Nat.mul m 3)) d.length)
 (ae (Bool.and (Nat.beq 1 1) (eP 3 (af n) n))
 (ae (Bool.and (Nat.beq 1 1) (eP 3 (af n) n))
 (ae (dn (.iface 18446744073709551617 (.agg ⟨(.slice none (aX 3 (af n)) (ul b 3))::(takeC (Nat.mul (aX 3 (af n)) 1) (ak 3 c))⟩)) (.iface 18446744073709551617 (.agg ⟨(.slice none (aX 3 (af n)) (ul b 3))::(takeC (Nat.mul (aX 3 (af n)) 1) (ak 3 c))⟩)))
 (ae (Nat.ble (Nat.add 0 (Nat.mul (Nat.add m 1) 3)) (List.length (List.append (gI 0 d) [.bool true,.string (B (asS (ah c 1))),.string (B (asS (ah c 2)))])))
 (some ((.tuple ⟨[.int .i64 0,.iface 18446744073709551617 (.agg ⟨(.slice none (aX 3 (af n)) (ul b 3))::(takeC (Nat.mul (aX 3 (af n)) 1) (ak 3 c))⟩),.iface 18446744073709551619 (.agg ⟨[.slice none 0 0]⟩),.bool false,.slice (Option.some (Addr.mk 0 0 none)) (Nat.add m 1) 18446744073709551616]⟩),(mkSt [Blk.cells (renL true (rhoO 0 [12]) (takeC (Nat.mul (Nat.add m 1) 3) (ak 0 (List.append (gI 0 d) [.bool true,.string (B (asS (ah c 1))),.string (B (asS (ah c 2)))])))) 74 false]))))))))))))))))))
 (ag (eqS (asS (ah c 0)) ⟨#[100,101,108]⟩)
 (ag (ltI (af n) 2)
 (ae (Nat.ble (Nat.add 0 (Nat.mul m 3)) d.length)
 (some ((.tuple ⟨[.int .i64 (-1),.iface 18446744073709551617 (.agg ⟨(.slice none n b)::c⟩),.iface 18446744073709551619 (.agg ⟨[.slice none 0 0]⟩),.bool false,.slice (Option.some (Addr.mk 0 0 none)) m 18446744073709551616]⟩),(mkSt [Blk.cells (renL true (rhoO 0 [2]) (takeC (Nat.mul m 3) (ak 0 d))) 74 false]))))
 (ae (Bool.and (Nat.beq 1 1) (inI 1 n))
 (ae (Bool.and (Nat.ble 2 c.length) (dw .string (ah c 1)))
 (ae (C (asS (ah c 1)))
 (ag (dN (O (asS (ah c 1))))
 (ae (Nat.ble (Nat.add 0 (Nat.mul m 3)) d.length)
 (some ((.tuple ⟨[.int .i64 (-1),.iface 18446744073709551617 (.agg ⟨(.slice none n b)::c⟩),.iface 18446744073709551619 (.agg ⟨[.slice none 0 0]⟩),.bool false,.slice (Option.some (Addr.mk 0 0 none)) m 18446744073709551616]⟩),(mkSt [Blk.cells (renL true (rhoO 0 [2]) (takeC (Nat.mul m 3) (ak 0 d))) 74 false]))))
 (ae (Nat.ble (Nat.add m 1) 4194304)
 (ae (Nat.beq (Nat.add 0 (Nat.mul m 3)) d.length)
 (ae (Bool.and (Nat.beq 1 1) (eP 2 (af n) n))
 (ae (Bool.and (Nat.beq 1 1) (eP 2 (af n) n))
 (ae (dn (.iface 18446744073709551617 (.agg ⟨(.slice none (aX 2 (af n)) (ul b 2))::(takeC (Nat.mul (aX 2 (af n)) 1) (ak 2 c))⟩)) (.iface 18446744073709551617 (.agg ⟨(.slice none (aX 2 (af n)) (ul b 2))::(takeC (Nat.mul (aX 2 (af n)) 1) (ak 2 c))⟩)))
 (ae (Nat.ble (Nat.add 0 (Nat.mul (Nat.add m 1) 3)) (List.length (List.append (gI 0 d) [.bool false,.string (B (asS (ah c 1))),.string ⟨#[]⟩])))
 (some ((.tuple ⟨[.int .i64 0,.iface 18446744073709551617 (.agg ⟨(.slice none (aX 2 (af n)) (ul b 2))::(takeC (Nat.mul (aX 2 (af n)) 1) (ak 2 c))⟩),.iface 18446744073709551619 (.agg ⟨[.slice none 0 0]⟩),.bool false,.slice (Option.some (Addr.mk 0 0 none)) (Nat.add m 1) 18446744073709551616]⟩),(mkSt [Blk.cells (renL true (rhoO 0 [12]) (takeC (Nat.mul (Nat.add m 1) 3) (ak 0 (List.append (gI 0 d) [.bool false,.string (B (asS (ah c 1))),.string ⟨#[]⟩])))) 74 false]))))))))))))))
 (ae (Nat.ble (Nat.add 0 (Nat.mul m 3)) d.length)
 (some ((.tuple ⟨[.int .i64 (-1),.iface 18446744073709551617 (.agg ⟨(.slice none n b)::c⟩),.iface 18446744073709551619 (.agg ⟨[.slice none 0 0]⟩),.bool false,.slice (Option.some (Addr.mk 0 0 none)) m 18446744073709551616]⟩),(mkSt [Blk.cells (renL true (rhoO 0 [2]) (takeC (Nat.mul m 3) (ak 0 d))) 74 false]))))))))
 (ae (Nat.ble (Nat.add 0 (Nat.mul m 3)) d.length)
 (some ((.tuple ⟨[.int .i64 1,.iface 18446744073709551617 (.agg ⟨(.slice none n b)::c⟩),.iface 18446744073709551619 (.agg ⟨[.slice none 0 0]⟩),.bool false,.slice (Option.some (Addr.mk 0 0 none)) m 18446744073709551616]⟩),(mkSt [Blk.cells (renL true (rhoO 0 [1]) (takeC (Nat.mul m 3) (ak 0 d))) 74 false]))))):=by kernel_rfl
theorem aff(l:List ByteArray)(j k:Nat):takeC k (ak j (l.map Value.string))=((l.drop j).take k).map Value.string:=by
 unfold takeC ak;rw[List.map_take,List.map_drop]
theorem qY{l:List ByteArray}{j k:Nat}(h:l.length-j<=k):takeC k (ak j (l.map Value.string))=(l.drop j).map Value.string:=by
 rw[aff,List.take_of_length_le (by rw[List.length_drop]; omega)]
theorem X7(l:List ByteArray):fA (l.map Value.string)=true:=by
 induction l with
 |nil=>rfl
 |cons a l ih=>simp only[List.map_cons,fA,ih]; rfl
theorem sS(Z:Nat->Option Nat)(l:List ByteArray):renL true Z (l.map Value.string)=l.map Value.string:=Dn (X7 l)
theorem acY(l:List ByteArray):tV (l.map Value.string) (l.map Value.string)=true:=by
 induction l with
 |nil=>rfl
 |cons a l ih=>simp only[List.map_cons,tV,dn,ih,decide_true,Bool.and_self]
theorem XO(t n b:Nat)(l:List ByteArray):dn (.iface t (.agg ⟨.slice none n b::l.map Value.string⟩)) (.iface t (.agg ⟨.slice none n b::l.map Value.string⟩))=true:=by
 simp only[dn,GK,tV,acY,decide_true,Bool.and_self]
theorem FT:∀ {a b:List ByteArray},a.map Value.string=b.map Value.string->a=b
 |[],[],_=>rfl
 |[],_::_,h=>by cases h
 |_::_,[],h=>by cases h
 |x::a,y::b,h=>by
  simp only[List.map_cons,List.cons.injEq,Value.string.injEq]at h;rw[h.1,FT h.2]
theorem uS{a b:List ByteArray}(h:fzS a=fzS b):a=b:=FT (ry h)
def kX:ByteArray:=⟨#[112,117,116]⟩
def mP:ByteArray:=⟨#[100,101,108]⟩
def opV(ws:List ByteArray)(n:Nat):List Value:=[fzS ws,aK [], .bool false, .slice (some ⟨0,0,none⟩) n unk]
def gq(out:List OpM):List Blk:=[.cells (EOp.all out) 74 false]
def ctO:Ct:=aeW szS eY byS byE
theorem Aq:CtOk P ctO:=aU (aU aW abT) key_ok
theorem Lp(out:List OpM)(p:Bool)(k v:ByteArray):List.append (gI 0 (EOp.all out)) [.bool p, .string k, .string v]=EOp.all (out++[(⟨p,k,v⟩:OpM)]):=by
 rw[ug,EOp.all_append,EOp.all_one]; rfl
theorem mD{l:List OpM}{n:Nat}(h:n=l.length):takeC (Nat.mul n 3) (ak 0 (EOp.all l))=EOp.all l:=by
 subst h; exact EOp.all_self l
theorem pG(l:List OpM):(EOp.all l).length=Nat.mul l.length 3:=EOp.all_length l
theorem gt0{n:Nat}(h:0<n):gtI (af n) 0=true:=by unfold gtI af; exact decide_eq_true (by omega)
theorem bD{i n:Nat}(h:i<n):inI (i:Int) n=true:=by unfold inI; exact decide_eq_true (by omega)
theorem xA{s:ByteArray}(h:s.size<=4194304):szS s=true:=Nat.ble_eq_true_of_le h
theorem adJ{w0 w1 w2:ByteArray}{r:List ByteArray}{out:List OpM}(h0:eqS w0 kX=true)(h1:w1.size<=4194304)(h2:w2.size<=4194304)(ho:out.length+1<=4194304) :
  aQ P E ctO 50 42 Bop Dop (opV (w0::w1::w2::r) out.length) (gq out)=match eY w1,eqI (byE w2) 0 with
   |true,true=>some (.tuple ⟨exV .normal::opV r (out++[(⟨true,byS w1,byS w2⟩:OpM)]).length⟩,mkSt (gq (out++[(⟨true,byS w1,byS w2⟩:OpM)])))
   |_,_=>some (.tuple ⟨exV .ret::opV (w0::w1::w2::r) out.length⟩,mkSt (gq out)):=by
 unfold opV gq fzS aK ctO;rw[show ai 3 ([]:List OpM).length 0 (EOp.all [])=ai 3 0 0 [] from rfl];rw[Af _ _ _ _ _ _ _ .nilFunc];have g0:gtI (af (w0::w1::w2::r).length) 0=true:=gt0 (by simp);have i0:inI 0 (w0::w1::w2::r).length=true:=bD (i:=0) (by simp);have i1:inI 1 (w0::w1::w2::r).length=true:=bD (i:=1) (by simp);have i2:inI 2 (w0::w1::w2::r).length=true:=bD (i:=2) (by simp);have l3:ltI (af (w0::w1::w2::r).length) 3=false:=by unfold ltI af; exact decide_eq_false (by simp only[List.length_cons]; omega)
 have c3:eP 3 (af (w0::w1::w2::r).length) (w0::w1::w2::r).length=true:=mi (by omega) (by unfold af; simp only[List.length_cons]; omega) (by unfold af; omega);have n0:ah ((w0::w1::w2::r).map Value.string) 0 = .string w0:=rfl;have n1:ah ((w0::w1::w2::r).map Value.string) 1 = .string w1:=rfl;have n2:ah ((w0::w1::w2::r).map Value.string) 2 = .string w2:=rfl;have aS:∀ b,asS (.string b)=b:=fun _=>rfl;have eS:∀ b,dw .string (.string b)=true:=fun _=>rfl;have cl:((w0::w1::w2::r).map Value.string).length=(w0::w1::w2::r).length:=List.length_map ..;have k1:Nat.ble 1 (w0::w1::w2::r).length=true:=Nat.ble_eq_true_of_le (by simp);have k2:Nat.ble 2 (w0::w1::w2::r).length=true:=Nat.ble_eq_true_of_le (by simp);have k3:Nat.ble 3 (w0::w1::w2::r).length=true:=Nat.ble_eq_true_of_le (by simp);have s1:=xA h1;have s2:Nat.ble w2.size 4194304=true:=Nat.ble_eq_true_of_le h2;have b3:∀ n,Nat.beq n n=true:=Nat.beq_refl;have b2:∀ n,Nat.ble n n=true:=fun n=>Nat.ble_eq_true_of_le (Nat.le_refl n);have t1:Nat.ble (Nat.add out.length 1) 4194304=true:=Nat.ble_eq_true_of_le ho;have lk:aX 3 (af (w0::w1::w2::r).length)=r.length:=by simp only[aX,af,List.length_cons]; omega
 have cut:takeC r.length (ak 3 ((w0::w1::w2::r).map Value.string))=r.map Value.string:=qY (by simp);have ol:∀ p k v,(out++[(⟨p,k,v⟩:OpM)]).length=Nat.add out.length 1:=fun p k v=>by simp
 have os:∀ p k v,takeC (Nat.mul (Nat.add out.length 1) 3) (ak 0 (EOp.all (out++[(⟨p,k,v⟩:OpM)])))=EOp.all (out++[⟨p,k,v⟩]):=fun p k v=>mD (ol p k v).symm;have h0:eqS w0 ⟨#[112,117,116]⟩=true:=h0;simp only[g0,i0,i1,i2,l3,c3,n0,n1,n2,aS,eS,cl,k1,k2,k3,s1,s2,b3,b2,t1,lk,lq,cut,cap0,Lp,pG,ol,os,mD rfl,iP,Enc.all_ren,XO,h0,Bool.and_self,az,ax,aA];unfold ai;rw[fzU,ja];cases eY w1 with
 |false=>rfl
 |true=>
  have e5:neI (byE w2) 0=!(eqI (byE w2) 0):=rfl;rw[e5];cases eqI (byE w2) 0<;>rfl
theorem adN{w0 w1:ByteArray}{r:List ByteArray}{out:List OpM}(h00:eqS w0 kX=false)(h0:eqS w0 mP=true)(h1:w1.size<=4194304)(ho:out.length+1<=4194304) :
  aQ P E ctO 50 42 Bop Dop (opV (w0::w1::r) out.length) (gq out)=match eY w1 with
   |true=>some (.tuple ⟨exV .normal::opV r (out++[(⟨false,byS w1,⟨#[]⟩⟩:OpM)]).length⟩,mkSt (gq (out++[(⟨false,byS w1,⟨#[]⟩⟩:OpM)])))
   |false=>some (.tuple ⟨exV .ret::opV (w0::w1::r) out.length⟩,mkSt (gq out)):=by
 unfold opV gq fzS aK ctO;rw[show ai 3 ([]:List OpM).length 0 (EOp.all [])=ai 3 0 0 [] from rfl];rw[Af _ _ _ _ _ _ _ .nilFunc];have g0:gtI (af (w0::w1::r).length) 0=true:=gt0 (by simp);have i0:inI 0 (w0::w1::r).length=true:=bD (i:=0) (by simp);have i1:inI 1 (w0::w1::r).length=true:=bD (i:=1) (by simp);have l3:ltI (af (w0::w1::r).length) 2=false:=by unfold ltI af; exact decide_eq_false (by simp only[List.length_cons]; omega)
 have c3:eP 2 (af (w0::w1::r).length) (w0::w1::r).length=true:=mi (by omega) (by unfold af; simp only[List.length_cons]; omega) (by unfold af; omega);have n0:ah ((w0::w1::r).map Value.string) 0 = .string w0:=rfl;have n1:ah ((w0::w1::r).map Value.string) 1 = .string w1:=rfl;have aS:∀ b,asS (.string b)=b:=fun _=>rfl;have eS:∀ b,dw .string (.string b)=true:=fun _=>rfl;have cl:((w0::w1::r).map Value.string).length=(w0::w1::r).length:=List.length_map ..;have k1:Nat.ble 1 (w0::w1::r).length=true:=Nat.ble_eq_true_of_le (by simp);have k2:Nat.ble 2 (w0::w1::r).length=true:=Nat.ble_eq_true_of_le (by simp);have s1:=xA h1;have b3:∀ n,Nat.beq n n=true:=Nat.beq_refl;have b2:∀ n,Nat.ble n n=true:=fun n=>Nat.ble_eq_true_of_le (Nat.le_refl n);have t1:Nat.ble (Nat.add out.length 1) 4194304=true:=Nat.ble_eq_true_of_le ho;have lk:aX 2 (af (w0::w1::r).length)=r.length:=by simp only[aX,af,List.length_cons]; omega
 have cut:takeC r.length (ak 2 ((w0::w1::r).map Value.string))=r.map Value.string:=qY (by simp);have ol:∀ p k v,(out++[(⟨p,k,v⟩:OpM)]).length=Nat.add out.length 1:=fun p k v=>by simp
 have os:∀ p k v,takeC (Nat.mul (Nat.add out.length 1) 3) (ak 0 (EOp.all (out++[(⟨p,k,v⟩:OpM)])))=EOp.all (out++[⟨p,k,v⟩]):=fun p k v=>mD (ol p k v).symm;have h00:eqS w0 ⟨#[112,117,116]⟩=false:=h00;have h0:eqS w0 ⟨#[100,101,108]⟩=true:=h0;simp only[g0,i0,i1,l3,c3,n0,n1,aS,eS,cl,k1,k2,s1,b3,b2,t1,lk,lq,cut,cap0,Lp,pG,ol,os,mD rfl,iP,Enc.all_ren,XO,h00,h0,Bool.and_self,az,ax,aA];unfold ai;rw[fzU,ja];cases eY w1<;>rfl
theorem OZ{w0:ByteArray}{r:List ByteArray}{out:List OpM}(h00:eqS w0 kX=false)(h0:eqS w0 mP=false) :
  aQ P E ctO 50 42 Bop Dop (opV (w0::r) out.length) (gq out)=some (.tuple ⟨exV .ret::opV (w0::r) out.length⟩,mkSt (gq out)):=by
 unfold opV gq fzS aK ctO;rw[show ai 3 ([]:List OpM).length 0 (EOp.all [])=ai 3 0 0 [] from rfl];rw[Af _ _ _ _ _ _ _ .nilFunc];have g0:gtI (af (w0::r).length) 0=true:=gt0 (by simp);have i0:inI 0 (w0::r).length=true:=bD (i:=0) (by simp);have n0:ah ((w0::r).map Value.string) 0 = .string w0:=rfl;have aS:∀ b,asS (.string b)=b:=fun _=>rfl;have eS:∀ b,dw .string (.string b)=true:=fun _=>rfl;have cl:((w0::r).map Value.string).length=(w0::r).length:=List.length_map ..;have k1:Nat.ble 1 (w0::r).length=true:=Nat.ble_eq_true_of_le (by simp);have b3:∀ n,Nat.beq n n=true:=Nat.beq_refl;have b2:∀ n,Nat.ble n n=true:=fun n=>Nat.ble_eq_true_of_le (Nat.le_refl n);have h00:eqS w0 ⟨#[112,117,116]⟩=false:=h00;have h0:eqS w0 ⟨#[100,101,108]⟩=false:=h0;simp only[g0,i0,n0,aS,eS,cl,k1,b3,b2,lq,pG,mD rfl,iP,Enc.all_ren,h00,h0,Bool.and_self,az,ax,aA];unfold ai;rw[fzU,ja]
 rfl
theorem EY{w0:ByteArray}{r:List ByteArray}{out:List OpM}(h:eqS w0 kX=true/\r.length<2\/eqS w0 kX=false/\eqS w0 mP=true/\r.length<1) :
  aQ P E ctO 50 42 Bop Dop (opV (w0::r) out.length) (gq out)=some (.tuple ⟨exV .ret::opV (w0::r) out.length⟩,mkSt (gq out)):=by
 unfold opV gq fzS aK ctO;rw[show ai 3 ([]:List OpM).length 0 (EOp.all [])=ai 3 0 0 [] from rfl];rw[Af _ _ _ _ _ _ _ .nilFunc];have g0:gtI (af (w0::r).length) 0=true:=gt0 (by simp);have i0:inI 0 (w0::r).length=true:=bD (i:=0) (by simp);have n0:ah ((w0::r).map Value.string) 0 = .string w0:=rfl;have aS:∀ b,asS (.string b)=b:=fun _=>rfl;have eS:∀ b,dw .string (.string b)=true:=fun _=>rfl;have cl:((w0::r).map Value.string).length=(w0::r).length:=List.length_map ..;have k1:Nat.ble 1 (w0::r).length=true:=Nat.ble_eq_true_of_le (by simp);have b3:∀ n,Nat.beq n n=true:=Nat.beq_refl;have b2:∀ n,Nat.ble n n=true:=fun n=>Nat.ble_eq_true_of_le (Nat.le_refl n);rcases h with⟨h0,hl⟩ | ⟨h00,h0,hl⟩
 ·have l3:ltI (af (w0::r).length) 3=true:=by unfold ltI af; exact decide_eq_true (by simp only[List.length_cons]; omega)
  have h0:eqS w0 ⟨#[112,117,116]⟩=true:=h0;simp only[g0,i0,l3,n0,aS,eS,cl,k1,b3,b2,lq,pG,mD rfl,iP,Enc.all_ren,h0,Bool.and_self,az,ax,aA];unfold ai;rw[fzU,ja]
  rfl
 ·have l3:ltI (af (w0::r).length) 2=true:=by unfold ltI af; exact decide_eq_true (by simp only[List.length_cons]; omega)
  have h00:eqS w0 ⟨#[112,117,116]⟩=false:=h00;have h0:eqS w0 ⟨#[100,101,108]⟩=true:=h0;simp only[g0,i0,l3,n0,aS,eS,cl,k1,b3,b2,lq,pG,mD rfl,iP,Enc.all_ren,h00,h0,Bool.and_self,az,ax,aA];unfold ai;rw[fzU,ja]
  rfl
theorem aea{out:List OpM}:aQ P E ctO 50 42 Bop Dop (opV [] out.length) (gq out)=some (.tuple ⟨exV (.exit 0)::opV [] out.length⟩,mkSt (gq out)):=by
 unfold opV gq fzS aK ctO;rw[show ai 3 ([]:List OpM).length 0 (EOp.all [])=ai 3 0 0 [] from rfl];rw[Af _ _ _ _ _ _ _ .nilFunc];have g0:gtI (af ([]:List ByteArray).length) 0=false:=rfl;have b3:∀ n,Nat.beq n n=true:=Nat.beq_refl;have b2:∀ n,Nat.ble n n=true:=fun n=>Nat.ble_eq_true_of_le (Nat.le_refl n);simp only[g0,b3,b2,lq,pG,mD rfl,iP,Enc.all_ren,Bool.and_self,az,ax,aA];unfold ai;rw[fzU,ja]
 rfl
def opE:List ByteArray->List OpM->Bool×List ByteArray×List OpM
 |[],out=>(true,[],out)
 |[w0],out=>(false,[w0],out)
 |w0::w1::tl,out=>match eqS w0 kX with
  |true=>match tl with
   |[]=>(false,[w0,w1],out)
   |w2::r=>match eY w1,eqI (byE w2) 0 with
    |true,true=>opE r (out++[⟨true,byS w1,byS w2⟩])
    |_,_=>(false,w0::w1::w2::r,out)
  |false=>match eqS w0 mP with
   |true=>match eY w1 with
    |true=>opE tl (out++[⟨false,byS w1,⟨#[]⟩⟩])
    |false=>(false,w0::w1::tl,out)
   |false=>(false,w0::w1::tl,out)
def exB:Bool->Ex
 |true=> .normal
 |false=> .ret
theorem IG:∀ (k:Nat) (ws:List ByteArray) (out:List OpM),ws.length<=k->(∀ w∈ws,w.size<=4194304)->out.length+ws.length<=4194304->
  LRX P 42 0 Bop Dop.head (opV ws out.length) (gq out) (exB (opE ws out).1) (opV (opE ws out).2.1 (opE ws out).2.2.length) (gq (opE ws out).2.2)
 |_,[],out,_,_,_=>LRX.stop (n:=50) (aF ctO) au Aq xQ (e:= .exit 0) aea (by intro h; cases h)
 |0,_::_,_,h,_,_=>by simp at h
 |k+1,[w0],out,_,_,_=>by
  have q:aQ P E ctO 50 42 Bop Dop (opV [w0] out.length) (gq out)=some (.tuple ⟨exV .ret::opV [w0] out.length⟩,mkSt (gq out)):=by
   cases h0:eqS w0 kX with
   |true=>exact EY (Or.inl ⟨h0,by simp⟩)
   |false=>
    cases h1:eqS w0 mP with
    |true=>exact EY (Or.inr ⟨h0,h1,by simp⟩)
    |false=>exact OZ h0 h1
  exact LRX.stop (n:=50) (aF ctO) au Aq xQ (e:= .ret) q (by intro h; cases h)
 |k+1,w0::w1::tl,out,hl,hs,ho=>by
  have s1:=hs w1 (by simp);have stop:aQ P E ctO 50 42 Bop Dop (opV (w0::w1::tl) out.length) (gq out)=some (.tuple ⟨exV .ret::opV (w0::w1::tl) out.length⟩,mkSt (gq out))->
    LRX P 42 0 Bop Dop.head (opV (w0::w1::tl) out.length) (gq out) .ret (opV (w0::w1::tl) out.length) (gq out):=fun q=>
   LRX.stop (n:=50) (aF ctO) au Aq xQ (e:= .ret) q (by intro h; cases h)
  simp only[List.length_cons]at hl ho;cases h0:eqS w0 kX with
  |true=>
   cases tl with
   |nil=>
    have q:=stop (EY (Or.inl ⟨h0,by simp⟩));simp only[opE,h0];exact q
   |cons w2 r=>
    simp only[List.length_cons]at hl ho;have q:=adJ (r:=r) (out:=out) h0 s1 (hs w2 (by simp)) (by omega);simp only[opE,h0];cases h1:eY w1 with
    |false=>rw[h1]at q; exact stop q
    |true=>
     cases h2:eqI (byE w2) 0 with
     |false=>rw[h1,h2]at q; exact stop q
     |true=>
      rw[h1,h2]at q;exact LRX.again (n:=50) (aF ctO) au Aq xQ q (IG k r _ (by omega) (fun w hw=>hs w (by simp[hw])) (by rw[List.length_append]; simp only[List.length_cons,List.length_nil]; omega))
  |false=>
   cases h1:eqS w0 mP with
   |false=>
    have q:=stop (OZ h0 h1);rw[opE.eq_def];simp only[h0,h1];exact q
   |true=>
    have q:=adN (r:=tl) (out:=out) h0 h1 s1 (by omega);rw[opE.eq_def];simp only[h0,h1];cases h2:eY w1 with
    |false=>rw[h2]at q; exact stop q
    |true=>
     rw[h2]at q;exact LRX.again (n:=50) (aF ctO) au Aq xQ q (IG k tl _ (by omega) (fun w hw=>hs w (by simp[hw])) (by rw[List.length_append]; simp only[List.length_cons,List.length_nil]; omega))
end Go.VS.Tryz
end
