/- Texts of the proof, merged. No conditions. -/
import Derived.Test.YtofceohboacaoaaGreatNodePairQ2
import Derived.Laws.Strings
import Derived.Test.YtofceohboacaoaaGreatProg
import Derived.KernelRfl
set_option linter.unusedSimpArgs false
set_option linter.unusedVariables false
noncomputable section
namespace Go.VS

def asI:Value->Int
 | .int _ n=>n
 |_=>0
def asS:Value->ByteArray
 | .string s=>s
 |_=> .empty
def asB:Value->Bool
 | .bool b=>b
 |_=>false
def zN(v:Value):Nat:=match kL v with
 |some z=>z.n
 |none=>0
def zB(v:Value):Nat:=match kL v with
 |some z=>z.cap
 |none=>0
def zC(v:Value):List Value:=match kL v with
 |some z=>z.cells
 |none=>[]
def isI(k:IntKind):Value->Bool
 | .int k' _=>decide (k'=k)
 |_=>false
def isS:Value->Bool
 | .string _=>true
 |_=>false
def isB:Value->Bool
 | .bool _=>true
 |_=>false
def isZ(sz:Nat)(v:Value):Bool:=match kL v with
 |some z=>Nat.beq z.sz sz
 |none=>false
def aV(c:List Value)(n:Nat):Value:=c.getD n undef
def bAt(s:ByteArray)(i:Int):Int:=((s.data.toList.getD i.toNat 0).toNat:Int)
def byteOf:Value->UInt8
 | .int .u8 n=>UInt8.ofNat n.toNat
 |_=>0
def isByte:Value->Bool
 | .int .u8 _=>true
 |_=>false
def CY(c:List Value):ByteArray:=⟨⟨c.map byteOf⟩⟩
def allBytes(c:List Value):Bool:=c.all isByte
theorem zZ:∀ {c:List Value},allBytes c=true->bytesOf c=some (c.map byteOf)
 |[],_=>rfl
 |v::c,h=>by
  simp only[allBytes,sK,bV]at h;have ih:=zZ (c:=c) h.2;unfold isByte at h;split at h
  ·simp only[bytesOf,ih,ji,byteOf]
  ·cases h.1
def bM(k:IntKind)(x y:Int):Int:=k.wrap (x+y)
def dJ(k:IntKind)(x y:Int):Int:=k.wrap (x-y)
def uF(k:IntKind)(x y:Int):Int:=k.wrap (x*y)
def aiQ(k:IntKind)(x y:Int):Int:=k.wrap (x.tdiv y)
def uU(x y:Int):Int:=x.tmod y
def wU(k:IntKind)(x y:Int):Int:=k.wrap (x*2^(min y.toNat k.bits))
def aaC(k:IntKind)(x y:Int):Int:=x.fdiv (2^(min y.toNat k.bits))
def wM(k:IntKind)(x y:Int):Int:=k.wrap (BitVec.ofInt k.bits x&&& BitVec.ofInt k.bits y).toNat
def orI(k:IntKind)(x y:Int):Int:=k.wrap (BitVec.ofInt k.bits x ||| BitVec.ofInt k.bits y).toNat
def ZE(k:IntKind)(x y:Int):Int:=k.wrap (BitVec.ofInt k.bits x ^^^ BitVec.ofInt k.bits y).toNat
def afZ(k:IntKind)(x y:Int):Int:=k.wrap (BitVec.ofInt k.bits x&&& ~~~BitVec.ofInt k.bits y).toNat
def eqI(x y:Int):Bool:=x == y
def neI(x y:Int):Bool:=x != y
def ltI(x y:Int):Bool:=decide (x<y)
def leI(x y:Int):Bool:=decide (x<=y)
def gtI(x y:Int):Bool:=decide (x>y)
def geI(x y:Int):Bool:=decide (x>=y)
def eqS(a b:ByteArray):Bool:=a.toList == b.toList
def neS(a b:ByteArray):Bool:=!(a.toList == b.toList)
def eqB(a b:Bool):Bool:=a == b
def cvI(k:IntKind)(x:Int):Int:=k.wrap x
def ahl(x y:Int):Int:=if y<x then y else x
def afL(x y:Int):Int:=if y>x then y else x
def ltS(a b:ByteArray):Bool:=Op.bytesLess a.toList b.toList
def leS(a b:ByteArray):Bool:=Op.bytesLess a.toList b.toList || a.toList == b.toList
def gtS(a b:ByteArray):Bool:=!(Op.bytesLess a.toList b.toList || a.toList == b.toList)
def geS(a b:ByteArray):Bool:=!(Op.bytesLess a.toList b.toList)
def O7(a b:ByteArray):ByteArray:=a++b
def yw(b:ByteArray)(l h:Int):ByteArray:=b.extract l.toNat h.toNat
def ah(n:Nat):Int:=n
def inI(i:Int)(n:Nat):Bool:=decide (0<=i/\i<n)
def dS(l h:Int)(n:Nat):Bool:=decide (0<=l/\l<=h/\h<=n)
def Dp(i:Int):Bool:=decide (0<=i)
def yZ(i:Int):Bool:=!decide (i=0)
def UZ(a b:ByteArray):Bool:=Nat.ble (Nat.add a.size b.size) 9223372036854775807
def atN(i:Int)(n:Nat):Nat:=i.toNat*n
def fC(l h:Int):Nat:=h.toNat-l.toNat
def afC(k:IntKind)(x:Int):Int:=ZE k (if k.signed then -1 else k.max) x
def eQ(b:Bool):Bool:=!b
def Ei(a:Addr)(n:Nat):Addr:=@Addr.rec (fun _=>Addr) (fun b off spot=>@Option.rec Nat (fun _=>Addr) ⟨b,Nat.add off n,none⟩ (fun s=>Addr.add ⟨b,off,some s⟩ n) spot) a
theorem Ju(a:Addr)(n:Nat):Ei a n=a.add n:=by
 obtain⟨b,off,spot⟩:=a;cases spot with
 |none=>exact(jE b off n).symm
 |some s=>rfl
section
variable(P:Program)
def I_(x ix:Operand):OpT:=fun _ s st kv _=>match rdF s x with
 | .string b=>match rdF s ix with
  | .int _ i=>ae (inI i b.size) (kv (.int .u8 (bAt b i)) st)
  |_=>none
 |_=>none
def zT(n:Nat)(x ix:Operand):OpT:=fun call s st kv kd=>match rdF s x with
 | .slice (some a) len _=>match rdF s ix with
  | .int _ i=>ae (inI i len) (kv (.pointer (some (Ei a (atN i n)))) st)
  |_=>none
 | .iface t v=>match kL (.iface t v)with
  |some z=>match rdF s ix with
   | .int _ i=>ae (and (Nat.beq z.sz n) (inI i z.n)) (kv (Bl (atN i n) z.cells) st)
   |_=>none
  |none=>none
 |_=>none
/-- How a cell is seen that nothing is known of but its type. -/
inductive Eta where
 |int (k:IntKind)
 |string
 |bool
 |slice (sz:Nat)
def xh(t:TypeId):Option Eta:=match gV P t with
 |some (.int k)=>some (.int k)
 |some .string=>some .string
 |some .bool=>some .bool
 |some (.slice e)=>match oh P e with
  |some n=>some (.slice n)
  |none=>none
 |_=>none
def GI(e:Eta)(v:Value):Value:=match e with
 | .int k=> .int k (asI v)
 | .string=> .string (asS v)
 | .bool=> .bool (asB v)
 | .slice n=>ax n (zN v) (zB v) (zC v)
def gm(e:Eta)(v:Value):Bool:=match e with
 | .int k=>isI k v
 | .string=>isS v
 | .bool=>isB v
 | .slice n=>isZ n v
def JY(e:Eta)(x:Operand):OpT:=fun _ s st kv _=>match rdF s x with
 | .pointer (some a)=>jD st a fun b off c _ ex _ _=>@Bool.rec (fun _=>Res)
   (ae (and (Nat.ble (Nat.add off 1) c.length) (gm e (aV c off))) (kv (GI e (aV c off)) st))
   (match Dk c off with
    |some v=>kv v st
    |none=>none) ex
 | .iface t v=>match zV (.iface t v)with
  |some (off,c)=>ae (and (Nat.ble (Nat.add off 1) c.length) (gm e (aV c off))) (kv (GI e (aV c off)) st)
  |none=>none
 |_=>none
def Us(i:Int)(k:Nat->Res)(len:Nat):Nat->Res:=
 @Nat.rec (fun _=>Nat->Res) (fun _=>none) (fun _ ih j=>@Bool.rec (fun _=>Res) (ih (Nat.succ j)) (k j) (eqI i (Int.ofNat j))) len
def Bi(len n:Nat)(x ix:Operand):OpT:=fun _ s st kv _=>match rdF s x with
 | .pointer (some a)=>match rdF s ix with
  | .int _ i=>Us i (fun j=>kv (.pointer (some (Ei a (Nat.mul j n)))) st) len 0
  |_=>none
 |_=>none
def Zq(t:TypeId):Option (Nat×Nat):=match gV P t with
 |some (.array len e)=>match Nat.ble len 8,oh P e with
  |true,some n=>some (len,n)
  |_,_=>none
 |_=>none
def aiR(n:Nat):TypeId->Option (List Eta):=
 @Nat.rec (fun _=>TypeId->Option (List Eta)) (fun _=>none) (fun _ ih t=>match gV P t with
  |some (.struct fs)=>@List.rec Field (fun _=>Option (List Eta)) (some []) (fun f _ r=>match ih f.type,r with
   |some a,some b=>some (a.append b)
   |_,_=>none) fs.toList
  |some (.array k e)=>match ih e with
   |some a=>some (List.flatten (List.replicate k a))
   |none=>none
  |_=>match xh P t with
   |some e=>some [e]
   |none=>none) n
def jg(es:List Eta):List Value->Nat->Bool:=
 @List.rec Eta (fun _=>List Value->Nat->Bool) (fun _ _=>true) (fun e _ ih c off=>and (gm e (aV c off)) (ih c (Nat.add off 1))) es
def Iq(es:List Eta):List Value->Nat->List Value:=
 @List.rec Eta (fun _=>List Value->Nat->List Value) (fun _ _=>[]) (fun e _ ih c off=>GI e (aV c off)::ih c (Nat.add off 1)) es
def Jc(es:List Eta)(n:Nat)(x:Operand):OpT:=fun _ s st kv _=>match rdF s x with
 | .pointer (some a)=>jD st a fun b off c _ ex _ _=>@Bool.rec (fun _=>Res)
   (ae (and (Nat.ble (Nat.add off n) c.length) (jg es c off)) (kv (.agg ⟨Iq es c off⟩) st))
   (@Bool.rec (fun _=>Res) none (kv (.agg ⟨(c.drop off).take n⟩) st) (Nat.ble (Nat.add off n) c.length)) ex
 | .iface t v=>match zV (.iface t v)with
  |some (off,c)=>ae (and (Nat.ble (Nat.add off n) c.length) (jg es c off)) (kv (.agg ⟨Iq es c off⟩) st)
  |none=>none
 |_=>none
def zS(n:Nat)(x:Operand):OpT:=fun _ s st kv _=>match rdF s x with
 | .pointer (some a)=>kv (.pointer (some (@Addr.rec (fun _=>Addr) (fun b off spot=>JJ b off n spot) a))) st
 | .iface t v=>match zV (.iface t v)with
  |some (a,c)=>kv (Bl (Nat.add a n) c) st
  |none=>none
 |_=>none
def Ad(s:Trie Value)(o:Option Operand)(d:Int)(k:Int->Res):Res:=match o with
 |none=>k d
 |some x=>match rdF s x with
  | .int _ i=>k i
  |_=>none
def yA(b l:Nat):Nat:=if b=0 then 0 else b-l
def Gp(x:Operand)(lo hi:Option Operand):OpT:=fun _ s st kv _=>match rdF s x with
 | .string b=>Ad s hi (ah b.size) fun h=>Ad s lo 0 fun l=>ae (dS l h b.size) (kv (.string (yw b l h)) st)
 |_=>none
def JD(o:Oper)(n:Nat)(x:Operand)(lo hi:Option Operand):OpT:=fun call s st kv kd=>match rdF s x with
 | .iface t v=>match kL (.iface t v)with
  |some z=>Ad s hi (ah z.n) fun h=>Ad s lo 0 fun l=>ae (and (Nat.beq z.sz n) (dS l h z.n))
    (kv (ax n (fC l h) (yA z.cap l.toNat) (takeC (Nat.mul (fC l h) n) (aO (atN l n) z.cells))) st)
  |none=>none
 | .slice (some a) len cap=>@Bool.rec (fun _=>Res) (eH P o call s st kv kd)
   (jD st a fun b off c e ex _ _=>ae (and (Nat.ble off c.length) (and (Nat.ble 1 n) (Nat.beq n (esz P e))))
    (Ad s hi (ah len) fun h=>Ad s lo 0 fun l=>ae (dS l h (Nat.div (Nat.sub c.length off) n))
     (@Bool.rec (fun _=>Res) (@Bool.rec (fun _=>Res) (kv (.slice (some a) 0 (Nat.add unk l.toNat)) st) (kv (.slice (some a) 0 unk) st) (Nat.beq l.toNat 0))
      (kv (.slice (some (Ei a (atN l n))) (fC l h) unk) st) (Nat.ble (Nat.add l.toNat 1) (Nat.div (Nat.sub c.length off) n)))))
   (Nat.beq cap unk)
 |_=>eH P o call s st kv kd
def B_(o:Oper)(x:Operand):OpT:=fun call s st kv kd=>match rdF s x with
 | .slice (some a) n _=>jD st a fun b off c _ _ _ _=>ae (and (Nat.ble (Nat.add off n) c.length) (allBytes (takeC n (aO off c)))) (kv (.string (CY (takeC n (aO off c)))) st)
 | .iface t v=>match kL (.iface t v)with
  |some z=>ae (and (Nat.beq z.sz 1) (allBytes z.cells)) (kv (.string (CY z.cells)) st)
  |none=>none
 |_=>eH P o call s st kv kd
def Eh(e:TypeId)(x:Operand):OpT:=fun _ s st kv _=>match rdF s x with
 | .string b=>ae (Nat.ble b.size big) (uH st (.cells (byteCells b) e false) fun a st=>kv (.slice (some a) b.size unk) st)
 |_=>none
def VM(o:Oper)(x y:Operand):OpT:=fun call s st kv kd=>match rdF s x,rdF s y with
 | .int k a, .int _ b=>ae (Dp b) (kv (.int k (wU k a b)) st)
 |_,_=>eH P o call s st kv kd
def Uu(o:Oper)(x y:Operand):OpT:=fun call s st kv kd=>match rdF s x,rdF s y with
 | .int k a, .int _ b=>ae (Dp b) (kv (.int k (aaC k a b)) st)
 |_,_=>eH P o call s st kv kd
def VO(o:Oper)(x y:Operand):OpT:=fun call s st kv kd=>match rdF s x,rdF s y with
 | .int k a, .int k' b=>ae (and (decide (k=k')) (yZ b)) (kv (.int k (aiQ k a b)) st)
 |_,_=>eH P o call s st kv kd
def UQ(o:Oper)(x y:Operand):OpT:=fun call s st kv kd=>match rdF s x,rdF s y with
 | .int k a, .int k' b=>ae (and (decide (k=k')) (yZ b)) (kv (.int k (uU a b)) st)
 |_,_=>eH P o call s st kv kd
def Uo(o:Oper)(x y:Operand):OpT:=fun call s st kv kd=>match rdF s x,rdF s y with
 | .string a, .string b=>ae (UZ a b) (kv (.string (O7 a b)) st)
 | .int k a, .int k' b=>ae (decide (k=k')) (kv (.int k (bM k a b)) st)
 |_,_=>eH P o call s st kv kd
def zA(o:Oper)(f:IntKind->Int->Int->Int)(x y:Operand):OpT:=fun call s st kv kd=>match rdF s x,rdF s y with
 | .int k a, .int k' b=>ae (decide (k=k')) (kv (.int k (f k a b)) st)
 |_,_=>eH P o call s st kv kd
def Fb(o:Oper)(f:Int->Int->Bool)(g:ByteArray->ByteArray->Bool)(str:Bool)(x y:Operand):OpT:=fun call s st kv kd=>match rdF s x,rdF s y with
 | .int k a, .int k' b=>ae (decide (k=k')) (kv (.bool (f a b)) st)
 | .string a, .string b=>match str with
  |true=>kv (.bool (g a b)) st
  |false=>eH P o call s st kv kd
 |_,_=>eH P o call s st kv kd
def eqE(e:Eta)(x y:Value)(k:Bool->Res):Res:=match e with
 | .int _=>match x,y with
  | .int a m, .int b n=>ae (decide (a=b)) (k (eqI m n))
  |_,_=>none
 | .string=>match x,y with
  | .string a, .string b=>k (eqS a b)
  |_,_=>none
 | .bool=>match x,y with
  | .bool a, .bool b=>k (eqB a b)
  |_,_=>none
 | .slice _=>none
def eqC(es:List Eta):List Value->List Value->(Bool->Res)->Res:=
 @List.rec Eta (fun _=>List Value->List Value->(Bool->Res)->Res) (fun _ _ k=>k true)
  (fun e _ ih xs ys k=>match xs with
   |x::xs=>match ys with
    |y::ys=>eqE e x y fun b=>ih xs ys fun r=>k (and b r)
    |[]=>none
   |[]=>none) es
def HY(fs:List Field):Nat->Option (List Eta):=
 @List.rec Field (fun _=>Nat->Option (List Eta)) (fun _=>some []) (fun f _ ih i=>match and (Nat.beq f.offset i) (f.name != "_"),xh P f.type,ih (Nat.add i 1)with
  |true,some (.slice _),_=>none
  |true,some e,some es=>some (e::es)
  |_,_,_=>none) fs
def eqK(t:TypeId):Option (List Eta):=match gV P t with
 |some (.struct fs)=>match P.stoodInHeld t || P.eqGuardType P.depth t with
  |true=>none
  |false=>HY P fs.toList 0
 |_=>none
def xO(t:TypeId):Bool:=match gV P t with
 |some .bool=>true
 |_=>false
def Vz(o:Oper)(bk:Bool)(es:Option (List Eta))(x y:Operand):OpT:=fun call s st kv kd=>match rdF s x,rdF s y with
 | .int k a, .int k' b=>ae (decide (k=k')) (kv (.bool (eqI a b)) st)
 | .string a, .string b=>kv (.bool (eqS a b)) st
 | .bool a, .bool b=>match bk with
  |true=>kv (.bool (eqB a b)) st
  |false=>eH P o call s st kv kd
 | .agg a, .agg b=>match es with
  |some es=>ae (and (mW a) (mW b)) (eqC es a.toList b.toList fun r=>kv (.bool r) st)
  |none=>eH P o call s st kv kd
 |_,_=>eH P o call s st kv kd
def Vy(o:Oper)(bk:Bool)(es:Option (List Eta))(x y:Operand):OpT:=fun call s st kv kd=>match rdF s x,rdF s y with
 | .int k a, .int k' b=>ae (decide (k=k')) (kv (.bool (neI a b)) st)
 | .string a, .string b=>kv (.bool (neS a b)) st
 | .bool a, .bool b=>match bk with
  |true=>kv (.bool (eQ (eqB a b))) st
  |false=>eH P o call s st kv kd
 | .agg a, .agg b=>match es with
  |some es=>ae (and (mW a) (mW b)) (eqC es a.toList b.toList fun r=>kv (.bool (eQ r)) st)
  |none=>eH P o call s st kv kd
 |_,_=>eH P o call s st kv kd
def UF(o:Oper)(k:IntKind)(x:Operand):OpT:=fun call s st kv kd=>match rdF s x with
 | .int _ n=>kv (.int k (cvI k n)) st
 |_=>eH P o call s st kv kd
def G8(o:Oper)(g:Int->Int->Bool)(x y:Operand):OpT:=fun call s st kv kd=>match rdF s x,rdF s y with
 | .int k a, .int _ b=>@Bool.rec (fun _=>Res) (kv (.int k a) st) (kv (.int k b) st) (g b a)
 |_,_=>eH P o call s st kv kd
def VL(o:Oper)(x:Operand):OpT:=fun call s st kv kd=>match rdF s x with
 | .bool b=>kv (.bool (eQ b)) st
 |_=>eH P o call s st kv kd
def VK(o:Oper)(x:Operand):OpT:=fun call s st kv kd=>match rdF s x with
 | .int k n=>kv (.int k (afC k n)) st
 |_=>eH P o call s st kv kd
def NZ(o:Oper)(x:Operand):OpT:=fun call s st kv kd=>match rdF s x with
 | .slice _ n _=>kv (.int .i64 (ah n)) st
 | .iface t v=>match kL (.iface t v)with
  |some z=>kv (.int .i64 (ah z.n)) st
  |none=>none
 |_=>eH P o call s st kv kd
def MS(o:Oper)(x:Operand):OpT:=fun call s st kv kd=>match rdF s x with
 | .slice (some _) _ c=>ae (Nat.ble (Nat.add c 1) unk) (kv (.int .i64 (ah c)) st)
 | .slice none _ c=>kv (.int .i64 (ah c)) st
 |_=>eH P o call s st kv kd
def NG(o:Oper)(x:Operand):OpT:=fun call s st kv kd=>match rdF s x with
 | .string b=>kv (.int .i64 (ah b.size)) st
 |_=>eH P o call s st kv kd
def s_tail(str:Bool)(size:Nat)(st:St)(x:Value)(k:Nat->List Value->Res):Res:=match str with
 |false=>match x with
  | .slice (some a) n _=>jD st a fun b off c _ _ _ _=>ae (Nat.ble (Nat.add off (Nat.mul n size)) c.length) (k n (takeC (Nat.mul n size) (aO off c)))
  | .slice none n _=>ae (Nat.beq n 0) (k 0 [])
  | .iface t v=>match kL (.iface t v)with
   |some z=>ae (Nat.beq z.sz size) (k z.n z.cells)
   |none=>none
  |_=>none
 |true=>match x with
  | .string b=>ae (Nat.beq size 1) (k b.size (byteCells b))
  |_=>none
def BP(slow:Res)(e:TypeId)(size n:Nat)(new:List Value)(st:St)(s:Value)(kv:Value->St->Res):Res:=match s with
 | .slice none len cap=>ae (and (Nat.beq len 0) (and (Nat.beq cap 0) (Nat.ble n big)))
   (@Bool.rec (fun _=>Res) (uH st (.cells new e false) fun a st=>kv (.slice (some a) n unk) st) (kv (.slice none 0 0) st) (Nat.beq n 0))
 | .slice (some a) len cap=>@Bool.rec (fun _=>Res)
   (@Bool.rec (fun _=>Res) (@Bool.rec (fun _=>Res)
    (ae (Nat.ble (Nat.add len n) big) (jD st a fun b off c _ _ _ _=>ae (Nat.ble (Nat.add off (Nat.mul len size)) c.length)
     (uH st (.cells ((takeC (Nat.mul len size) (aO off c)).append new) e false) fun a st=>kv (.slice (some a) (Nat.add len n) unk) st)))
    (@Bool.rec (fun _=>Res)
     (jD st a fun b off c e' ex heap next=>ae (and (Nat.ble (Nat.add cap 1) unk) (Nat.ble (Nat.add (Nat.add off (Nat.mul len size)) new.length) c.length))
      (kv (.slice (some a) (Nat.add len n) cap) ⟨dO (path b) heap (.cells (putAt c (Nat.add off (Nat.mul len size)) new) e' ex),next⟩))
     (ae (Nat.ble (Nat.add cap 1) unk) (kv (.slice (some a) len cap) st)) (Nat.beq n 0)) (Nat.ble (Nat.add len n) cap))
    (@Bool.rec (fun _=>Res)
     (ae (Nat.ble (Nat.add len n) big) (jD st a fun b off c _ _ _ _=>ae (Nat.ble (Nat.add off (Nat.mul len size)) c.length)
      (uH st (.cells ((takeC (Nat.mul len size) (aO off c)).append new) e false) fun a st=>kv (.slice (some a) (Nat.add len n) unk) st)))
     (ae (Nat.ble (Nat.add cap 1) unk) (kv (.slice (some a) len cap) st)) (Nat.beq n 0)) (Nat.beq cap len))
   (jD st a fun b off c e' ex heap next=>ae (and (not ex) (and (Nat.beq e' e) (and (Nat.ble off c.length) (Nat.ble (Nat.add len n) big))))
    (@Bool.rec (fun _=>Res)
     (ae (Nat.beq (Nat.add off (Nat.mul len size)) c.length)
      (uH ⟨dO (path b) heap .dead,next⟩ (.cells ((takeC (Nat.mul len size) (aO off c)).append new) e false) fun a st=>kv (.slice (some a) (Nat.add len n) unk) st))
     (ae (Nat.ble (Nat.add off (Nat.mul len size)) c.length) (kv (.slice (some a) len cap) st)) (Nat.beq n 0)))
   (Nat.beq cap unk)
 |_=>slow
def OJ(sT xT:TypeId):Option (TypeId×Nat×Bool):=match gV P sT,gV P xT with
 |some (.slice e),some xt=>match(match xt with | .slice _=>some false | .string=>some true | _=>none),rZ P e,qM P e with
  |some str,some ei,some z=>if ei.size=0 || big<ei.bytes || z.cells.size≠ei.size then none else some (e,ei.size,str)
  |_,_,_=>none
 |_,_=>none
def GZ(o:Oper)(e:TypeId)(size:Nat)(str:Bool)(x y:Operand):OpT:=fun call s st kv kd=>
 s_tail str size st (rdF s y) fun n new=>ae (new.all oneCell) (BP (eH P o call s st kv kd) e size n new st (rdF s x) kv)
def F8(t:TypeId)(x v:Operand):OpT:=fun call s st kv kd=>match rdF s x with
 | .pointer (some a)=>jD st a fun b off c e ex heap next=>@Bool.rec (fun _=>Res)
   (ae (and (pK (rdF s v)) (Nat.ble (Nat.add off 1) c.length)) (kv undef ⟨dO (path b) heap (.cells (putAt c off [rdF s v]) e false),next⟩))
   (ET P t x v call s st kv kd) ex
 |_=>none
def NQ(c a b:Operand):OpT:=fun _ s st kv _=>match rdF s c with
 | .bool t=>@Bool.rec (fun _=>Res) (kv (rdF s b) st) (kv (rdF s a) st) t
 |_=>none
def cvK(sT dT:TypeId):Nat:=match gV P sT,gV P dT with
 |some (.slice e),some .string=>match gV P e with
  |some (.int .u8)=>1
  |_=>0
 |some .string,some (.slice e)=>match gV P e,oh P e with
  |some (.int .u8),some 1=>2
  |_,_=>0
 |_,_=>0
def cvT(sT dT:TypeId):Option IntKind:=match gV P sT,gV P dT with
 |some (.int _),some (.int k)=>some k
 |_,_=>none
def Vk(t:TypeId):TypeId:=match gV P t with
 |some (.slice e)=>e
 |_=>0
def aav(t:TypeId):Bool:=match oh P t with
 |some n=>Nat.beq n 1
 |none=>false
def isStr(t:TypeId):Bool:=match gV P t with
 |some .string=>true
 |_=>false
def Vg(t:TypeId):Option Value:=match gV P t with
 |some (.map kt e)=>match gV P kt with
  |some (.int _)=>qM P e
  |_=>none
 |_=>none
def VI(ik:IntKind)(i:Int)(f:Value->Res)(z:Res)(es:List MapEntry):Res:=
 @List.rec MapEntry (fun _=>Res) z (fun e _ ih=>match e.key with
  | .int k n=>ae (decide (ik=k)) (@Bool.rec (fun _=>Res) ih (f e.val) (eqI i n))
  |_=>none) es
def abb(ok:Bool)(v:Value)(b:Bool):Value:=match ok with
 |true=> .tuple ⟨[v, .bool b]⟩
 |false=>v
def I4(o:Oper)(z:Value)(x k:Operand)(ok:Bool):OpT:=fun call s st kv kd=>match rdF s x,rdF s k with
 | .map (some r), .int ik i=>match dW (path r) st.heap with
  |some (.map es _)=>VI ik i (fun v=>kv (abb ok v true) st) (kv (abb ok z false) st) es
  |_=>(lh P o).run call s st kv kd
 |_,_=>(lh P o).run call s st kv kd
def Gq(o:Oper)(n:Nat)(x hi mx:Operand):OpT:=fun call s st kv kd=>match rdF s x,rdF s hi,rdF s mx with
 | .slice (some a) _ cap, .int _ h, .int _ m=>@Bool.rec (fun _=>Res) (eH P o call s st kv kd)
   (jD st a fun _ off c e _ _ _=>ae (and (Nat.ble off c.length) (and (Nat.ble 1 n) (Nat.beq n (esz P e))))
    (ae (and (dS 0 h m.toNat) (and (dS 0 m (Nat.div (Nat.sub c.length off) n)) (Nat.ble (Nat.succ m.toNat) unk))) (kv (.slice (some a) h.toNat m.toNat) st)))
   (Nat.beq cap unk)
 |_,_,_=>eH P o call s st kv kd
def PK(t:TypeId):Bool:=match gV P t with
 |some (.map kt _)=>isStr P kt
 |_=>false
def Iz(es:List MapEntry)(k:ByteArray):Bool:=(Instr.findNow .string (.string k) es 0).isSome
def GU(es:List MapEntry)(clock:Nat)(k:ByteArray)(v:Value):List MapEntry×Nat:=match Instr.findNow .string (.string k) es 0 with
 |some (some (i,_))=>rJ es clock i (.string k) v true
 |_=>rJ es clock 0 (.string k) v false
def PP(o:Oper)(m k x:Operand):OpT:=fun call s st kv kd=>match rdF s m,rdF s k with
 | .map (some r), .string key=>match dW (path r) st.heap with
  |some (.map es clock)=>ae (Iz es key) (kv undef ⟨dO (path r) st.heap (.map (GU es clock key (rdF s x)).1 (GU es clock key (rdF s x)).2),st.next⟩)
  |_=>(lh P o).run call s st kv kd
 |_,_=>(lh P o).run call s st kv kd
def MG(o:Oper):OpFn:=match o.op with
 | .pick c a b=>⟨NQ c a b⟩
 | .lookup t x k ok=>match Vg P t with
  |some z=>⟨I4 P o z x k ok⟩
  |none=>lh P o
 | .mapUpdate t m k x=>match PK P t with
  |true=>⟨PP P o m k x⟩
  |false=>lh P o
 | .load t x=>match vS P t with
  |some none=>match xh P t with
   |some e=>⟨JY e x⟩
   |none=>lh P o
  |some (some n)=>match aiR P 6 t with
   |some es=>match Nat.beq es.length n with
    |true=>⟨Jc es n x⟩
    |false=>lh P o
   |none=>lh P o
  |none=>lh P o
 | .fieldAddr t x i=>match IR P t i with
  |some n=>⟨zS n x⟩
  |none=>lh P o
 | .store t x v=>match aav P t with
  |true=>⟨F8 P t x v⟩
  |false=>lh P o
 | .index t x ix=>match isStr P t with
  |true=>⟨I_ x ix⟩
  |false=>lh P o
 | .indexAddr t x ix=>match lF P t with
  |some n=>⟨zT n x ix⟩
  |none=>match Zq P t with
   |some q=>⟨Bi q.1 q.2 x ix⟩
   |none=>lh P o
 | .slice t x lo hi none=>match isStr P t with
  |true=>⟨Gp x lo hi⟩
  |false=>match lF P t with
   |some n=>⟨JD P o n x lo hi⟩
   |none=>lh P o
 | .slice t x none (some hi) (some mx)=>match lF P t with
  |some n=>⟨Gq P o n x hi mx⟩
  |none=>lh P o
 | .convert sT dT x=>match cvK P sT dT with
  |1=>⟨B_ P o x⟩
  |2=>⟨Eh (Vk P dT) x⟩
  |_=>match cvT P sT dT with
   |some k=>⟨UF P o k x⟩
   |none=>⟨eH P o⟩
 | .binOp op t x y _=>match op with
  | .shl=>⟨VM P o x y⟩
  | .shr=>⟨Uu P o x y⟩
  | .quo=>⟨VO P o x y⟩
  | .rem=>⟨UQ P o x y⟩
  | .add=>⟨Uo P o x y⟩
  | .sub=>⟨zA P o dJ x y⟩
  | .mul=>⟨zA P o uF x y⟩
  | .and=>⟨zA P o wM x y⟩
  | .or=>⟨zA P o orI x y⟩
  | .xor=>⟨zA P o ZE x y⟩
  | .andNot=>⟨zA P o afZ x y⟩
  | .eql=>⟨Vz P o (xO P t) (eqK P t) x y⟩
  | .neq=>⟨Vy P o (xO P t) (eqK P t) x y⟩
  | .lss=>⟨Fb P o ltI ltS true x y⟩
  | .leq=>⟨Fb P o leI leS true x y⟩
  | .gtr=>⟨Fb P o gtI gtS true x y⟩
  | .geq=>⟨Fb P o geI geS true x y⟩
 | .unOp .not _ x=>⟨VL P o x⟩
 | .unOp .xor _ x=>⟨VK P o x⟩
 | .call c=>match c.callee,c.args.toList,c.argTypes.toList with
  | .builtin .append,[x,y],[tx,ty]=>match OJ P tx ty with
   |some r=>⟨GZ P o r.1 r.2.1 r.2.2 x y⟩
   |none=>lh P o
  | .builtin .len,[x],_=>match xZ P c.argTypes with
   |1=>⟨NZ P o x⟩
   |2=>⟨NG P o x⟩
   |_=>⟨eH P o⟩
  | .builtin .cap,[x],_=>match xZ P c.argTypes with
   |1=>⟨MS P o x⟩
   |_=>⟨eH P o⟩
  | .builtin .min,[x,y],_=>⟨G8 P o ltI x y⟩
  | .builtin .max,[x,y],_=>⟨G8 P o gtI x y⟩
  |_,_,_=>lh P o
 |_=>lh P o
end
section
variable{P:Program}
variable{call:Knot}{s:Trie Value}{st:St}{kv:Value->St->Res}{kd:Deferred->St->Res}{r:Value×St}
theorem byte_at(b:ByteArray)(n:Nat)(h:n<b.size):b[n]? = some (b.data.toList.getD n 0):=by
 have h1:b[n]? = some b[n]:=by simp[h]
 rw[h1];congr 1;have h2:n<b.data.toList.length:=by simpa using h
 rw[sQ,oP h2]
 rfl
theorem Nc{dst type pos after guard}{t:TypeId}{x ix:Operand}(hu:P.underlying t=some .string)(h:I_ x ix call s st kv kd=some r) :
  Hands call kv kd (aJ P (rdF s) ⟨dst, .index t x ix,type,pos,after,guard⟩ st) r:=by
 unfold I_ at h;split at h
 ·rename_i b hx;split at h
  ·rename_i k i hi;obtain⟨hc,h⟩:=bH h;simp only[inI,dS,gK]at hc;have hlt:i.toNat<b.size:=by omega
   simp only[aJ,hu,hx,hi,hc.1,if_true,byte_at b _ hlt];exact h
  ·cases h
 ·cases h
theorem Gt{dst type pos after guard}{t:TypeId}{x ix:Operand}{n:Nat}(hn:lF P t=some n)(h:zT n x ix call s st kv kd=some r) :
  Hands call kv kd (aJ P (rdF s) ⟨dst, .indexAddr t x ix,type,pos,after,guard⟩ st) r:=by
 unfold lF at hn;rw[eu]at hn;split at hn
 ·rename_i e hu;rw[o9]at hn;unfold zT at h;split at h
  ·rename_i a len cap hx;split at h
   ·rename_i k i hi;obtain⟨hc,h⟩:=bH h;simp only[inI,dS,gK]at hc;simp only[aJ,hu,hx,hi,hn,hc,and_self,if_true];rw[Ju]at h;exact h
   ·cases h
  ·rename_i tt v hx;split at h
   ·rename_i z hz;split at h
    ·rename_i k i hi;obtain⟨hc,h⟩:=bH h;simp only[inI,dS,bV,gK]at hc;have h1:=dF hc.1;simp only[aJ,hu,hx,hi,hn,hz,h1,hc.2,and_self,if_true];exact h
    ·cases h
   ·cases h
  ·cases h
 ·cases hn
theorem afD{e:Eta}{v:Value}(h:gm e v=true):∀ (hz:∀ n,e = .slice n->∃ z,kL v=some z),GI e v=v\/∃ n,e = .slice n:=by
 intro _;cases e with
 |int k=>
  simp only[gm,isI]at h;split at h
  ·simp only[gK]at h; subst h; exact Or.inl rfl
  ·cases h
 |string=>
  simp only[gm,isS]at h;split at h
  ·exact Or.inl rfl
  ·cases h
 |bool=>
  simp only[gm,isB]at h;split at h
  ·exact Or.inl rfl
  ·cases h
 |slice n=>exact Or.inr ⟨n,rfl⟩
theorem Xy{v:Value}{z:FzV}(h:kL v=some z):v=ax z.sz z.n z.cap z.cells:=by
 unfold kL at h;split at h
 ·rename_i t n b c;split at h
  ·rename_i ht;have ht:FZ+1<=t:=dR ht;obtain rfl:=aC h;unfold ax;have:FZ+(t-FZ)=t:=Nat.add_sub_cancel' (Nat.le_of_succ_le ht);rw[this]
  ·cases h
 ·cases h
theorem Gj{e:Eta}{v:Value}(h:gm e v=true):GI e v=v:=by
 cases e with
 |slice n=>
  simp only[gm,isZ]at h;split at h
  ·rename_i z hz;have:=dF h;simp only[GI,zN,zB,zC,hz];rw[<-this];exact(Xy hz).symm
  ·cases h
 |_=>
  rcases afD h (fun n e=>by cases e)with h | ⟨n,e⟩
  ·exact h
  ·cases e
theorem G5{c:List Value}{n:Nat}(h:n+1<=c.length):c[n]? = some (aV c n):=by
 unfold aV;rw[sQ,oP h]
 rfl
theorem Z4{c:List Value}{n:Nat}{v:Value}(h:c[n]? = some v):(c.drop n).take 1=[v]:=by
 have:=(oQ.1 h)
 obtain⟨hl,e⟩:=this;rw[lu hl,e]
 rfl
theorem Nb{dst type pos after guard}{t:TypeId}{x:Operand}{e:Eta}(hk:vS P t=some none)(h:JY e x call s st kv kd=some r) :
  Hands call kv kd (aJ P (rdF s) ⟨dst, .load t x,type,pos,after,guard⟩ st) r:=by
 unfold vS at hk;rw[eu,mG,zl]at hk;split at hk
 ·rename_i d i hu hi;have hag:kR P t=false:=by
   cases hb:kR P t with
   |false=>rfl
   |true=>rw[hb]at hk; cases hk
  unfold JY at h;split at h
  ·rename_i a hx;obtain⟨c,e',ex,h1,h2,h3⟩:=jv h;have go:∀ v,c[a.off]? = some v->kv v st=some r->Hands call kv kd (aJ P (rdF s) ⟨dst, .load t x,type,pos,after,guard⟩ st) r:=by
    intro v hv hk;have hl:a.off+1<=c.length:=(oQ.1 hv).1;have:sO P st t a=some v:=by
     simp only[sO,hu,hi,hag,iD,if_false,cellsAt,h1,h2,vM,hl,if_true,Z4 hv]
    simp only[aJ,hx,this];exact hk
   cases ex with
   |false=>
    obtain⟨hc,h3⟩:=bH h3;simp only[bV]at hc;rw[Gj hc.2]at h3;exact go _ (G5 (dR hc.1)) h3
   |true=>
    simp only at h3;rw[xF]at h3;split at h3
    ·rename_i v hv;exact go v hv h3
    ·cases h3
  ·rename_i tt v hx;split at h
   ·rename_i off c hfp;obtain⟨hc,h⟩:=bH h;simp only[bV]at hc;rw[Gj hc.2]at h;simp only[aJ,hx,hfp,EZ,hu,hi,hag,iD,if_false,G5 (dR hc.1)];exact h
   ·cases h
  ·cases h
 ·cases hk
theorem Hz{i:Int}{k:Nat->Res}:∀ {len j:Nat},Us i k len j=some r->∃ m,j<=m/\m<j+len/\i=(m:Int)/\k m=some r
 |0,j,h=>by cases h
 |len+1,j,h=>by
  have h:@Bool.rec (fun _=>Res) (Us i k len (Nat.succ j)) (k j) (eqI i (Int.ofNat j))=some r:=h;cases hb:eqI i (Int.ofNat j)with
  |true=>
   rw[hb]at h;have:i=(j:Int):=by simpa [eqI]using hb
   exact⟨j,dm _,by omega,this,h⟩
  |false=>
   rw[hb]at h;obtain⟨m,h1,h2,h3,h4⟩:=Hz h;exact⟨m,by omega,by omega,h3,h4⟩
theorem IX{dst type pos after guard}{t:TypeId}{x ix:Operand}{q:Nat×Nat}(hk:Zq P t=some q)(h:Bi q.1 q.2 x ix call s st kv kd=some r) :
  Hands call kv kd (aJ P (rdF s) ⟨dst, .indexAddr t x ix,type,pos,after,guard⟩ st) r:=by
 unfold Zq at hk;rw[eu]at hk;split at hk
 ·rename_i len e hu;split at hk
  ·rename_i n hb hn;obtain rfl:=aC hk;rw[o9]at hn;unfold Bi at h;split at h
   ·rename_i a hx;split at h
    ·rename_i kk i hi;obtain⟨m,h1,h2,rfl,h4⟩:=Hz h;rw[Ju]at h4;have hc:0<=(m:Int)/\(m:Int)<(len:Int):=by simp only[nN]at h2; omega
     simp only[aJ,hu,hx,hi,hn,hc,and_self,if_true,uy];exact h4
    ·cases h
   ·cases h
  ·cases hk
 ·cases hk
theorem Dn:∀ {es:List Eta} {c:List Value} {off:Nat},jg es c off=true->off+es.length<=c.length->Iq es c off=(c.drop off).take es.length
 |[],c,off,_,_=>by simp[Iq]
 |e::es,c,off,h,hl=>by
  have h:(gm e (aV c off)&&jg es c (off+1))=true:=h;simp only[bV]at h;rw[jH]at hl ⊢;show GI e (aV c off)::Iq es c (off+1)=_;rw[Gj h.1,Dn h.2 (by omega)];have hn:=G5 (c:=c) (n:=off) (by omega);obtain⟨hlt,hv⟩:=oQ.1 hn;rw[lu hlt,hv,BH]
theorem ML{dst type pos after guard}{t:TypeId}{x:Operand}{es:List Eta}{n:Nat}(hk:vS P t=some (some n))(hes:Nat.beq es.length n=true)(h:Jc es n x call s st kv kd=some r) :
  Hands call kv kd (aJ P (rdF s) ⟨dst, .load t x,type,pos,after,guard⟩ st) r:=by
 have hes:=dF hes;unfold vS at hk;rw[eu,mG,zl]at hk;split at hk
 ·rename_i d i hu hi;have hag:kR P t=true/\i.size=n:=by
   cases hb:kR P t with
   |false=>rw[hb]at hk; cases hk
   |true=>rw[hb]at hk; exact⟨rfl,by simpa using hk⟩
  obtain⟨hag,hn⟩:=hag;unfold Jc at h;split at h
  ·rename_i a hx;obtain⟨c,e',ex,h1,h2,h3⟩:=jv h;have go:a.off+n<=c.length->kv (.agg ⟨(c.drop a.off).take n⟩) st=some r->Hands call kv kd (aJ P (rdF s) ⟨dst, .load t x,type,pos,after,guard⟩ st) r:=by
    intro hl hk;have:sO P st t a=some (.agg ⟨(c.drop a.off).take n⟩):=by
     simp only[sO,hu,hi,hag,if_true,cellsAt,h1,h2,vM,iD,if_false,hn,hl,qU]
    simp only[aJ,hx,this];exact hk
   cases ex with
   |false=>
    obtain⟨hc,h3⟩:=bH h3;simp only[bV]at hc;have hl:a.off+n<=c.length:=dR hc.1;rw[Dn hc.2 (by omega),hes]at h3;exact go hl h3
   |true=>
    simp only at h3;cases hb:Nat.ble (Nat.add a.off n) c.length with
    |false=>rw[hb]at h3; cases h3
    |true=>rw[hb]at h3; exact go (dR hb) h3
  ·rename_i tt v hx;split at h
   ·rename_i off c hfp;obtain⟨hc,h⟩:=bH h;simp only[bV]at hc;have hl:off+n<=c.length:=dR hc.1;rw[Dn hc.2 (by omega),hes]at h;simp only[aJ,hx,hfp,EZ,hu,hi,hag,if_true,hn,hl];exact h
   ·cases h
  ·cases h
 ·cases hk
theorem GG{dst type pos after guard}{t:TypeId}{x:Operand}{i n:Nat}(hn:IR P t i=some n)(h:zS n x call s st kv kd=some r) :
  Hands call kv kd (aJ P (rdF s) ⟨dst, .fieldAddr t x i,type,pos,after,guard⟩ st) r:=by
 unfold IR at hn;rw[zG]at hn;split at hn
 ·rename_i f m hf;split at hn
  ·cases hn
  ·rename_i hm;obtain rfl:=aC hn;unfold zS at h;split at h
   ·rename_i a hx;simp only[aJ,hx,hf];rw[if_neg hm,<-N_];exact h
   ·rename_i tt v hx;split at h
    ·rename_i a c hfp;simp only[aJ,hx,hf,hfp];rw[if_neg hm];exact h
    ·cases h
   ·cases h
 ·cases hn
theorem KF{o:Option Operand}{d:Int}{k:Int->Res}(h:Ad s o d k=some r):(o=none/\k d=some r)\/∃ x kk i,o=some x/\rdF s x = .int kk i/\k i=some r:=by
 unfold Ad at h;split at h
 ·exact Or.inl ⟨rfl,h⟩
 ·split at h
  ·exact Or.inr ⟨_,_,_,rfl,‹_›,h⟩
  ·cases h
theorem uY{o:Option Operand}{y d:Nat}{i:Int}(h:(o=none/\i=d)\/∃ x kk,o=some x/\rdF s x = .int kk i)(h1:0<=i)(h2:i<=y):bG (o.map (rdF s)) y d=some i.toNat:=by
 rcases h with⟨rfl,rfl⟩ | ⟨x,kk,rfl,hx⟩
 ·simp[bG]
 ·simp only[qU,bG,hx,jU,h1,h2,and_self,if_true]
theorem GN{lo hi:Option Operand}{dh:Nat}{k:Int->Int->Res}(h:(Ad s hi dh fun h=>Ad s lo 0 fun l=>k h l)=some r) :
  ∃ h l:Int,((hi=none/\h=dh)\/∃ x kk,hi=some x/\rdF s x = .int kk h)/\((lo=none/\l=(0:Nat))\/∃ x kk,lo=some x/\rdF s x = .int kk l)/\k h l=some r:=by
 rcases KF h with⟨e,h⟩ | ⟨x,kk,i,e,hx,h⟩<;>rcases KF h with⟨e',h⟩ | ⟨x',kk',i',e',hx',h⟩
 ·exact⟨_,_,Or.inl ⟨e,rfl⟩,Or.inl ⟨e',rfl⟩,h⟩
 ·exact⟨_,_,Or.inl ⟨e,rfl⟩,Or.inr ⟨x',kk',e',hx'⟩,h⟩
 ·exact⟨_,_,Or.inr ⟨x,kk,e,hx⟩,Or.inl ⟨e',rfl⟩,h⟩
 ·exact⟨_,_,Or.inr ⟨x,kk,e,hx⟩,Or.inr ⟨x',kk',e',hx'⟩,h⟩
theorem CQ{dst type pos after guard}{t:TypeId}{x:Operand}{lo hi:Option Operand}(hu:P.underlying t=some .string)
  (h:Gp x lo hi call s st kv kd=some r):Hands call kv kd (aJ P (rdF s) ⟨dst, .slice t x lo hi none,type,pos,after,guard⟩ st) r:=by
 unfold Gp at h;split at h
 ·rename_i b hx;obtain⟨h0,l0,hh,hl,h⟩:=GN h;obtain⟨hc,h⟩:=bH h;simp only[inI,dS,gK]at hc;have e1:=uY hh (y:=b.size) (by omega) (by omega);have e2:=uY hl (y:=h0.toNat) (by omega) (by omega);simp only[aJ,hu,hx,Option.map_none,vM,iD,if_false,e1,e2];exact h
 ·cases h
theorem Po{dst type pos after guard}{t:TypeId}{x:Operand}{lo hi:Option Operand}{n:Nat}(hn:lF P t=some n)
  (h:JD P ⟨dst, .slice t x lo hi none,type,pos,after,guard⟩ n x lo hi call s st kv kd=some r):Hands call kv kd (aJ P (rdF s) ⟨dst, .slice t x lo hi none,type,pos,after,guard⟩ st) r:=by
 unfold lF at hn;rw[eu]at hn;split at hn
 ·rename_i e hu;rw[o9]at hn;unfold JD at h;split at h
  ·rename_i tt v hx;split at h
   ·rename_i z hz;obtain⟨h0,l0,hh,hl,h⟩:=GN h;obtain⟨hc,h⟩:=bH h;simp only[inI,dS,bV,gK]at hc;have h1:=dF hc.1;have e1:=uY hh (y:=z.n) (by omega) (by omega);have e2:=uY hl (y:=h0.toNat) (by omega) (by omega);simp only[aJ,hu,hx,hz,hn,h1,if_true,DX,Option.map_none,e1,e2];unfold yA at h;exact h
   ·cases h
  ·rename_i a len cap hx;cases hb:Nat.beq cap unk with
   |false=>rw[hb]at h; exact bI h
   |true=>
    rw[hb]at h;have hcap:=dF hb;obtain⟨c,e',ex,h1,h2,h3⟩:=jv h;obtain⟨hc,h3⟩:=bH h3;simp only[bV]at hc;obtain⟨hc1,hc2,hc3⟩:=hc;have hc1:=dR hc1;have hc2:=dR hc2;have hc3:=dF hc3;obtain⟨h0,l0,hh,hl,h3⟩:=GN h3;obtain⟨hd,h3⟩:=bH h3;simp only[dS,gK]at hd;have hd:0<=l0/\l0<=h0/\h0<=(((c.length-a.off) / n:Nat):Int):=hd;change @Bool.rec (fun _=>Res) (@Bool.rec (fun _=>Res) (kv (.slice (some a) 0 (unk+l0.toNat)) st) (kv (.slice (some a) 0 unk) st) (Nat.beq l0.toNat 0)) (kv (.slice (some (Ei a (l0.toNat*n))) (h0.toNat-l0.toNat) unk) st) (Nat.ble (l0.toNat+1) ((c.length-a.off) / n))=some r at h3;have hroom:room P st a n=some ((c.length-a.off) / n):=by
     unfold room;rw[h2];simp only;rw[if_neg (by simp; omega),if_pos hc1]
    have e1:=uY hh (y:=(c.length-a.off) / n) (by omega) (by omega);have e2:=uY hl (y:=h0.toNat) (by omega) (by omega);have hs:uw P st n a len cap (lo.map (rdF s)) (hi.map (rdF s)) none=some (if l0.toNat<(c.length-a.off) / n then .slice (some (a.add (l0.toNat*n))) (h0.toNat-l0.toNat) unk else if l0.toNat=0 then .slice (some a) 0 unk else .slice (some a) 0 (unk+l0.toNat)):=by
     unfold uw;rw[if_neg (by omega),if_pos hcap,hroom];simp only[e1,e2];split
     ·rfl
     ·rename_i hlt;rw[if_neg (by simp; omega)];split<;>rfl
    simp only[aJ,hu,hx,hn,Option.map_none,hs];cases hb1:Nat.ble (l0.toNat+1) ((c.length-a.off) / n)with
    |true=>
     rw[hb1]at h3;rw[if_pos (show l0.toNat<(c.length-a.off) / n from dR hb1)];rw[Ju]at h3;exact h3
    |false=>
     rw[hb1]at h3;have hnl:¬l0.toNat<(c.length-a.off) / n:=fun k=>by rw[dG k]at hb1; cases hb1
     rw[if_neg hnl];cases hb2:Nat.beq l0.toNat 0 with
     |true=>rw[hb2]at h3; rw[if_pos (dF hb2)]; exact h3
     |false=>rw[hb2]at h3; rw[if_neg (pV hb2)]; exact h3
  ·exact bI h
 ·cases hn
theorem Ho{dst type pos after guard}{sT dT:TypeId}{x:Operand}(hk:cvK P sT dT=1)(h:B_ P ⟨dst, .convert sT dT x,type,pos,after,guard⟩ x call s st kv kd=some r) :
  Hands call kv kd (aJ P (rdF s) ⟨dst, .convert sT dT x,type,pos,after,guard⟩ st) r:=by
 unfold cvK at hk;rw[eu,eu]at hk;split at hk
 ·rename_i e hs hd;rw[eu]at hk;split at hk
  ·rename_i he;unfold B_ at h;split at h
   ·rename_i a n cap hx;obtain⟨c,e',ex,h1,h2,h3⟩:=jv h;obtain⟨hc,h3⟩:=bH h3;simp only[bV]at hc;have hle:a.off+n<=c.length:=dR hc.1;simp only[aJ,hs,hd,hx,he,cellsAt,h1,h2,vM,iD,if_false,hle,if_true];have hb:bytesOf ((c.drop a.off).take n)=some (((c.drop a.off).take n).map byteOf):=zZ hc.2;rw[hb];exact h3
   ·rename_i tt v hx;split at h
    ·rename_i z hz;obtain⟨hc,h⟩:=bH h;simp only[bV]at hc;have h1:=dF hc.1;simp only[aJ,hs,hd,hx,he,hz,h1,if_true,zZ hc.2];exact h
    ·cases h
   ·exact bI h
  ·cases hk
 ·split at hk<;>cases hk
 ·cases hk
theorem J9{dst type pos after guard}{sT dT:TypeId}{x:Operand}(hk:cvK P sT dT=2)(h:Eh (Vk P dT) x call s st kv kd=some r) :
  Hands call kv kd (aJ P (rdF s) ⟨dst, .convert sT dT x,type,pos,after,guard⟩ st) r:=by
 unfold cvK at hk;unfold Vk at h;rw[eu,eu]at hk;split at hk
 ·split at hk<;>cases hk
 ·rename_i e hs hd;rw[eu,o9]at hk;split at hk
  ·rename_i he hn;rw[eu,hd]at h;simp only at h;unfold Eh at h;split at h
   ·rename_i b hx;obtain⟨hc,h⟩:=bH h;have hc:=dR hc;have h:=qm h;have h1:esz P e=1:=by
     unfold jw at hn;unfold esz;rw[hn]; rfl
    simp only[aJ,hs,hd,hx,he,h1,newRow];rw[if_neg (by simp; omega)];exact h
   ·cases h
  ·cases hk
 ·cases hk
theorem lG{dst type pos after guard}{op:BinOp}{t yt:TypeId}{x y:Operand}{vx vy v:Value}(hx:rdF s x=vx)(hy:rdF s y=vy)(f1:flat vx=true)(f2:flat vy=true)(f3:flat v=true)
  (hp:dw P (do eqGuard op t x y vx vy; binOp op t vx vy)=some v) (h:kv v st=some r):Hands call kv kd (aJ P (rdF s) ⟨dst, .binOp op t x y yt,type,pos,after,guard⟩ st) r:=by
 simp only[aJ,hx,hy,f1,f2,fV,if_true,hp,f3];exact h
theorem Uk{dst type pos after guard}{t yt:TypeId}{x y:Operand}(h:VM P ⟨dst, .binOp .shl t x y yt,type,pos,after,guard⟩ x y call s st kv kd=some r) :
  Hands call kv kd (aJ P (rdF s) ⟨dst, .binOp .shl t x y yt,type,pos,after,guard⟩ st) r:=by
 unfold VM at h;split at h
 ·rename_i k a k' b hx hy;obtain⟨hc,h⟩:=bH h;simp only[Dp,gK]at hc;have hb:¬b<0:=by omega
  refine lG hx hy rfl rfl rfl ?_ h;simp only[binOp,Op.shift,if_neg hb]
  rfl
 ·exact bI h
theorem VA{dst type pos after guard}{t yt:TypeId}{x y:Operand}(h:Uu P ⟨dst, .binOp .shr t x y yt,type,pos,after,guard⟩ x y call s st kv kd=some r) :
  Hands call kv kd (aJ P (rdF s) ⟨dst, .binOp .shr t x y yt,type,pos,after,guard⟩ st) r:=by
 unfold Uu at h;split at h
 ·rename_i k a k' b hx hy;obtain⟨hc,h⟩:=bH h;simp only[Dp,gK]at hc;have hb:¬b<0:=by omega
  refine lG hx hy rfl rfl rfl ?_ h;simp only[binOp,Op.shift,if_neg hb]
  rfl
 ·exact bI h
theorem VP{dst type pos after guard}{t yt:TypeId}{x y:Operand}(h:VO P ⟨dst, .binOp .quo t x y yt,type,pos,after,guard⟩ x y call s st kv kd=some r) :
  Hands call kv kd (aJ P (rdF s) ⟨dst, .binOp .quo t x y yt,type,pos,after,guard⟩ st) r:=by
 unfold VO at h;split at h
 ·rename_i k a k' b hx hy;obtain⟨hc,h'⟩:=bH h;simp only[yZ,bV,gK,qP,decide_eq_false_iff_not]at hc;obtain⟨rfl,hb⟩:=hc;refine lG hx hy rfl rfl rfl ?_ h';simp only[binOp,Op.intDiv,if_neg hb,ne_eq,jP,if_false]
  rfl
 ·exact bI h
theorem Vp{dst type pos after guard}{t yt:TypeId}{x y:Operand}(h:UQ P ⟨dst, .binOp .rem t x y yt,type,pos,after,guard⟩ x y call s st kv kd=some r) :
  Hands call kv kd (aJ P (rdF s) ⟨dst, .binOp .rem t x y yt,type,pos,after,guard⟩ st) r:=by
 unfold UQ at h;split at h
 ·rename_i k a k' b hx hy;obtain⟨hc,h'⟩:=bH h;simp only[yZ,bV,gK,qP,decide_eq_false_iff_not]at hc;obtain⟨rfl,hb⟩:=hc;refine lG hx hy rfl rfl rfl ?_ h';simp only[binOp,Op.intDiv,if_neg hb,ne_eq,jP,if_false]
  rfl
 ·exact bI h
theorem Vd{dst type pos after guard}{t yt:TypeId}{x y:Operand}(h:Uo P ⟨dst, .binOp .add t x y yt,type,pos,after,guard⟩ x y call s st kv kd=some r) :
  Hands call kv kd (aJ P (rdF s) ⟨dst, .binOp .add t x y yt,type,pos,after,guard⟩ st) r:=by
 unfold Uo at h;split at h
 ·rename_i a b hx hy;obtain⟨hc,h⟩:=bH h;have hc:a.size+b.size<=9223372036854775807:=dR hc;refine lG hx hy rfl rfl rfl ?_ h;simp only[binOp,Op.stringOp];rw[if_neg (by
   have:IntKind.i64.max=9223372036854775807:=by decide
   rw[this]; omega)]
  rfl
 ·rename_i k a k' b hx hy;obtain⟨hc,h'⟩:=bH h;simp only[gK]at hc;subst hc;refine lG hx hy rfl rfl rfl ?_ h';simp only[binOp,Op.intArith,ne_eq,jP,if_false]
  rfl
 ·exact bI h
theorem qV{dst type pos after guard}{op:BinOp}{t yt:TypeId}{x y:Operand}{f:IntKind->Int->Int->Int}(hf:∀ k a b,dw P (do eqGuard op t x y (.int k a) (.int k b); binOp op t (.int k a) (.int k b))=some (.int k (f k a b)))
  (h:zA P ⟨dst, .binOp op t x y yt,type,pos,after,guard⟩ f x y call s st kv kd=some r):Hands call kv kd (aJ P (rdF s) ⟨dst, .binOp op t x y yt,type,pos,after,guard⟩ st) r:=by
 unfold zA at h;split at h
 ·rename_i k a k' b hx hy;obtain⟨hc,h'⟩:=bH h;simp only[gK]at hc;subst hc;exact lG hx hy rfl rfl rfl (hf _ _ _) h'
 ·exact bI h
theorem w_{dst type pos after guard}{op:BinOp}{t yt:TypeId}{x y:Operand}{f:Int->Int->Bool}{g:ByteArray->ByteArray->Bool}{str:Bool}
  (hf:∀ k a b,dw P (do eqGuard op t x y (.int k a) (.int k b); binOp op t (.int k a) (.int k b))=some (.bool (f a b)))
  (hg:str=true->∀ a b,dw P (do eqGuard op t x y (.string a) (.string b); binOp op t (.string a) (.string b))=some (.bool (g a b)))
  (h:Fb P ⟨dst, .binOp op t x y yt,type,pos,after,guard⟩ f g str x y call s st kv kd=some r):Hands call kv kd (aJ P (rdF s) ⟨dst, .binOp op t x y yt,type,pos,after,guard⟩ st) r:=by
 unfold Fb at h;split at h
 ·rename_i k a k' b hx hy;obtain⟨hc,h'⟩:=bH h;simp only[gK]at hc;subst hc;exact lG hx hy rfl rfl rfl (hf _ _ _) h'
 ·rename_i a b hx hy;cases str with
  |true=>exact lG hx hy rfl rfl rfl (hg rfl _ _) h
  |false=>exact bI h
 ·exact bI h
theorem eF{α γ:Type}:∀ (s:Sem α) (f:α->Sem γ),dw P (s >>= f)=(dw P s).bind fun a=>dw P (f a)
 | .pure a,f=>rfl
 | .program k,f=>eF (k P) f
 | .mark m k,f=>eF k f
 | .load ..,_=>rfl
 | .store ..,_=>rfl
 | .new ..,_=>rfl
 | .shape ..,_=>rfl
 | .freeze ..,_=>rfl
 | .frozen ..,_=>rfl
 | .getObj ..,_=>rfl
 | .setObj ..,_=>rfl
 | .choose ..,_=>rfl
 | .sys ..,_=>rfl
 | .halt ..,_=>rfl
theorem uO:dw P program=some P:=rfl
theorem iK{t:TypeId}{d:TypeDesc}(h:P.underlying t=some d):dw P (underlying t)=some d:=by
 unfold underlying;rw[eF,uO];simp only[jf,h]
 rfl
theorem D5{t:TypeId}{e:Eta}(h:xh P t=some e){xs:List Value}{i:Nat}{x:Value}(hx:xs[i]? = some x):dw P (part t ⟨xs⟩ i)=some x:=by
 unfold xh at h;simp only[eu]at h;have hd:∃ d,P.underlying t=some d/\(∀ fs,d≠ .struct fs)/\∀ n e,d≠ .array n e:=by
  split at h
  ·rename_i k hu; exact⟨_,hu,fun _ h=>(by cases h),fun _ _ h=>(by cases h)⟩
  ·rename_i hu; exact⟨_,hu,fun _ h=>(by cases h),fun _ _ h=>(by cases h)⟩
  ·rename_i hu; exact⟨_,hu,fun _ h=>(by cases h),fun _ _ h=>(by cases h)⟩
  ·rename_i e hu; exact⟨_,hu,fun _ h=>(by cases h),fun _ _ h=>(by cases h)⟩
  ·cases h
 obtain⟨d,hu,h1,h2⟩:=hd;have hagg:dw P (isAgg t)=some false:=by
  unfold isAgg;rw[eF,iK hu];simp only[jf];cases d<;>first
   |rfl
   |exact absurd rfl (h1 _)
   |exact absurd rfl (h2 _ _)
 unfold part;rw[eF,hagg];have hx':(⟨xs⟩:Array Value)[i]? = some x:=by simpa using hx
 simp only[jf,iD,if_false,hx']
 rfl
theorem aaw{e:Eta}{x y:Value}{k:Bool->Res}{f:Field}{d:Nat}(hf:xh P f.type=some e)(h:eqE e x y k=some r):∃ b,dw P (Op.equalIn (d+1) f.type x y)=some b/\k b=some r:=by
 unfold xh at hf;simp only[eu]at hf;unfold eqE at h;split at hf
 ·rename_i kd hu;obtain rfl:=aC hf;simp only at h;split at h
  ·rename_i a m b n;obtain⟨hc,h'⟩:=bH h;simp only[gK]at hc;subst hc;refine⟨_,?_,h'⟩;simp only[Op.equalIn,eF,iK hu,jf,if_true]
   rfl
  ·cases h
 ·rename_i hu;obtain rfl:=aC hf;simp only at h;split at h
  ·rename_i a b;refine⟨_,?_,h⟩;simp only[Op.equalIn,eF,iK hu,jf];rw[show eqS a b=(a == b) from(beq_toListBytes a b).symm]
   rfl
  ·cases h
 ·rename_i hu;obtain rfl:=aC hf;simp only at h;split at h
  ·rename_i a b;refine⟨_,?_,h⟩;simp only[Op.equalIn,eF,iK hu,jf]
   rfl
  ·cases h
 ·split at hf
  ·obtain rfl:=aC hf;cases h
  ·cases hf
 ·cases hf
theorem Py{d:Nat}:∀ {fs:List Field} {i:Nat} {es:List Eta},HY P fs i=some es->∀ {xs ys:List Value} {k:Bool->Res} {r},eqC es (xs.drop i) (ys.drop i) k=some r->∃ b,dw P (Op.eqFields (d+1) ⟨xs⟩ ⟨ys⟩ fs)=some b/\k b=some r
 |[],i,es,h,xs,ys,k,r,hk=>by
  obtain rfl:=aC (h:some []=some es);exact⟨true,rfl,hk⟩
 |f::fs,i,es,h,xs,ys,k,r,hk=>by
  change (match and (Nat.beq f.offset i) (f.name != "_"),xh P f.type,HY P fs (i+1)with
   |true,some (.slice _),_=>none
   |true,some e,some es=>some (e::es)
   |_,_,_=>none)=some es at h
  cases hb:and (Nat.beq f.offset i) (f.name != "_")with
  |false=>rw[hb]at h; cases h
  |true=>
  cases he:xh P f.type with
  |none=>rw[hb,he]at h; cases h
  |some e=>
  cases hes:HY P fs (i+1)with
  |none=>rw[hb,he,hes]at h; cases e<;>cases h
  |some es'=>
   rw[hb,he,hes]at h;have h:e::es'=es:=by cases e<;>first | exact aC h | cases h
   subst h;simp only[bV,bne_iff_ne,ne_eq]at hb;obtain⟨hoff,hname⟩:=hb;have hoff:=dF hoff
   change (match xs.drop i with
    |x::xs'=>match ys.drop i with
     |y::ys'=>eqE e x y fun b=>eqC es' xs' ys' fun r=>k (and b r)
     |[]=>none
    |[]=>none)=some r at hk
   split at hk
   ·rename_i x xs' hxs;split at hk
    ·rename_i y ys' hys;have hx:xs[i]? = some x:=by rw[<-List.head?_drop,hxs]; rfl
     have hy:ys[i]? = some y:=by rw[<-List.head?_drop,hys]; rfl
     have hx':xs'=xs.drop (i+1):=by rw[<-List.tail_drop,hxs]; rfl
     have hy':ys'=ys.drop (i+1):=by rw[<-List.tail_drop,hys]; rfl
     obtain⟨b,h1,h2⟩:=aaw (d:=d) he hk;rw[hx',hy']at h2;obtain⟨b',h3,h4⟩:=Py (d:=d) hes h2;refine⟨b&&b',?_,h4⟩;simp only[Op.eqFields,if_pos hname,eF,hoff,D5 he hx,D5 he hy,jf,h1];cases b with
     |false=>rfl
     |true=>exact h3
    ·cases hk
   ·cases hk
theorem z_{d:Nat}{t:TypeId}{xs ys:Array Value}{fs:Array Field}(ht:P.underlying t=some (.struct fs))(hp:P.stoodInHeld t=false) :
  dw P (Op.equalIn (d+1) t (.agg xs) (.agg ys))=dw P (Op.eqFields d xs ys fs.toList):=by
 simp only[Op.equalIn,eF,iK ht,uO,jf,hp,iD,if_false];rw[<-Array.forIn_toList];generalize fs.toList=l;clear ht
 induction l with
 |nil=>rfl
 |cons f l ih=>
  simp only[List.forIn_cons,Op.eqFields,eF];split
  ·simp only[eF];cases dw P (part f.type xs f.offset)with
   |none=>rfl
   |some a=>
    simp only[jf];cases dw P (part f.type ys f.offset)with
    |none=>rfl
    |some b=>
     simp only[jf];cases dw P (Op.equalIn d f.type a b)with
     |none=>rfl
     |some r=>
      simp only[jf];cases r with
      |false=>rfl
      |true=>exact ih
  ·exact ih
theorem CP{op:BinOp}{t:TypeId}{x y:Operand}{xs ys:Array Value}{s:Sem Value}(hm:P.eqGuardType P.depth t=false):dw P (do eqGuard op t x y (.agg xs) (.agg ys); s)=dw P s:=by
 rw[eF];have:dw P (eqGuard op t x y (.agg xs) (.agg ys))=some ():=by
  cases op<;>first
   |rfl
   |(unfold eqGuard; simp only[eF,uO,jf,hm,Bool.not_true,iD,if_false,zK,if_true]; rfl)
 rw[this]; rfl
theorem GL{t:TypeId}{es:List Eta}(h:eqK P t=some es):∃ fs,P.underlying t=some (.struct fs)/\P.stoodInHeld t=false/\P.eqGuardType P.depth t=false/\HY P fs.toList 0=some es:=by
 unfold eqK at h;simp only[eu]at h;split at h
 ·rename_i fs hu;split at h
  ·cases h
  ·rename_i hg;simp only[Eo]at hg;exact⟨fs,hu,hg.1,hg.2,h⟩
 ·cases h
theorem Ky{t:TypeId}{es:List Eta}(h:eqK P t=some es){xs ys:Array Value}{k:Bool->Res}{r}(hk:eqC es xs.toList ys.toList k=some r):∃ b,dw P (Op.equal t (.agg xs) (.agg ys))=some b/\k b=some r:=by
 obtain⟨fs,h1,h2,h3,h4⟩:=GL h;obtain⟨b,g1,g2⟩:=Py (d:=9998) h4 (xs:=xs.toList) (ys:=ys.toList) hk;exact⟨b,by unfold Op.equal Op.maxDepth; rw[z_ h1 h2]; exact g1,g2⟩
theorem IY{t:TypeId}(hu:P.underlying t=some .bool)(a b:Bool):dw P (Op.equal t (.bool a) (.bool b))=some (a == b):=by
 unfold Op.equal Op.maxDepth;show dw P (Op.equalIn (9999+1) t (.bool a) (.bool b))=_;unfold Op.equalIn;rw[eF,iK hu]
 rfl
theorem Va{dst type pos after guard}{t yt:TypeId}{x y:Operand}(h:Vz P ⟨dst, .binOp .eql t x y yt,type,pos,after,guard⟩ (xO P t) (eqK P t) x y call s st kv kd=some r) :
  Hands call kv kd (aJ P (rdF s) ⟨dst, .binOp .eql t x y yt,type,pos,after,guard⟩ st) r:=by
 unfold Vz at h;split at h
 ·rename_i k a k' b hx hy;obtain⟨hc,h'⟩:=bH h;simp only[gK]at hc;subst hc;exact lG hx hy rfl rfl rfl (by simp only[binOp,Op.intCmp,ne_eq,jP,if_false]; rfl) h'
 ·rename_i a b hx hy;exact lG hx hy rfl rfl rfl (by simp only[binOp,Op.stringOp]; rfl) h
 ·rename_i a b hx hy;split at h
  ·rename_i hb;unfold xO at hb;rw[eu]at hb;split at hb
   ·rename_i hu;refine lG hx hy rfl rfl rfl ?_ h;rw[eF];show dw P (binOp .eql t (.bool a) (.bool b))=_;simp only[binOp,eF,IY hu,jf]
    rfl
   ·cases hb
  ·exact bI h
 ·rename_i a b hx hy;split at h
  ·rename_i es hes;obtain⟨hc,h'⟩:=bH h;simp only[bV]at hc;obtain⟨b',g1,g2⟩:=Ky hes h';obtain⟨fs,h1,h2,h3,h4⟩:=GL hes;refine lG hx hy (by simpa only[flat]using hc.1) (by simpa only[flat]using hc.2) rfl ?_ g2;rw[CP h3];simp only[binOp,eF,g1,jf]
   rfl
  ·exact bI h
 ·exact bI h
theorem UV{dst type pos after guard}{t yt:TypeId}{x y:Operand}(h:Vy P ⟨dst, .binOp .neq t x y yt,type,pos,after,guard⟩ (xO P t) (eqK P t) x y call s st kv kd=some r) :
  Hands call kv kd (aJ P (rdF s) ⟨dst, .binOp .neq t x y yt,type,pos,after,guard⟩ st) r:=by
 unfold Vy at h;split at h
 ·rename_i k a k' b hx hy;obtain⟨hc,h'⟩:=bH h;simp only[gK]at hc;subst hc;exact lG hx hy rfl rfl rfl (by simp only[binOp,Op.intCmp,ne_eq,jP,if_false]; rfl) h'
 ·rename_i a b hx hy;exact lG hx hy rfl rfl rfl (by simp only[binOp,Op.stringOp]; rfl) h
 ·rename_i a b hx hy;split at h
  ·rename_i hb;unfold xO at hb;rw[eu]at hb;split at hb
   ·rename_i hu;refine lG hx hy rfl rfl rfl ?_ h;rw[eF];show dw P (binOp .neq t (.bool a) (.bool b))=_;simp only[binOp,eF,IY hu,jf]
    rfl
   ·cases hb
  ·exact bI h
 ·rename_i a b hx hy;split at h
  ·rename_i es hes;obtain⟨hc,h'⟩:=bH h;simp only[bV]at hc;obtain⟨b',g1,g2⟩:=Ky hes h';obtain⟨fs,h1,h2,h3,h4⟩:=GL hes;refine lG hx hy (by simpa only[flat]using hc.1) (by simpa only[flat]using hc.2) rfl ?_ g2;rw[CP h3];simp only[binOp,eF,g1,jf]
   rfl
  ·exact bI h
 ·exact bI h
theorem UW{dst type pos after guard}{sT dT:TypeId}{k:IntKind}{x:Operand}(hk:cvT P sT dT=some k)(h:UF P ⟨dst, .convert sT dT x,type,pos,after,guard⟩ k x call s st kv kd=some r) :
  Hands call kv kd (aJ P (rdF s) ⟨dst, .convert sT dT x,type,pos,after,guard⟩ st) r:=by
 unfold cvT at hk;simp only[eu]at hk;split at hk
 ·rename_i k1 k2 h1 h2;obtain rfl:=aC hk;unfold UF at h;split at h
  ·rename_i k3 n hx;have hp:dw P (convert sT dT (.int k3 n))=some (.int k2 (cvI k2 n)):=by
    unfold convert;simp only[eF,iK h1,iK h2,jf]
    rfl
   simp only[aJ,h1,h2,hx,flat,if_true,hp];exact h
  ·exact bI h
 ·cases hk
theorem F6{dst type pos after guard}{c:Call}{g:Int->Int->Bool}{b:Builtin}{x y:Operand}(hc1:c.callee = .builtin b)(hc2:c.args.toList=[x,y])
  (hb:∀ k k' m n,jc P b c.argTypes type (c.args.map DD) [.int k m, .int k' n] st=some (.val (.int k (if g n m=true then n else m)) st))
  (h:G8 P ⟨dst, .call c,type,pos,after,guard⟩ g x y call s st kv kd=some r):Hands call kv kd (aJ P (rdF s) ⟨dst, .call c,type,pos,after,guard⟩ st) r:=by
 unfold G8 at h;split at h
 ·rename_i k a k' b hx hy;simp only[aJ,hc1,hc2,ji,lK,hx,hy,hb];cases hg:g b a with
  |true=>rw[hg]at h; exact h
  |false=>rw[hg]at h; exact h
 ·exact bI h
theorem VN{dst type pos after guard}{t:TypeId}{x:Operand}(h:VL P ⟨dst, .unOp .not t x,type,pos,after,guard⟩ x call s st kv kd=some r):Hands call kv kd (aJ P (rdF s) ⟨dst, .unOp .not t x,type,pos,after,guard⟩ st) r:=by
 unfold VL at h;split at h
 ·rename_i b hx;simp only[aJ,hx,flat,if_true];exact h
 ·exact bI h
theorem Uy{dst type pos after guard}{t:TypeId}{x:Operand}(h:VK P ⟨dst, .unOp .xor t x,type,pos,after,guard⟩ x call s st kv kd=some r):Hands call kv kd (aJ P (rdF s) ⟨dst, .unOp .xor t x,type,pos,after,guard⟩ st) r:=by
 unfold VK at h;split at h
 ·rename_i k n hx;have e:dw P (Op.unary .xor (.int k n))=some (.int k (afC k n)):=by
   simp only[Op.unary,Op.intBits,ne_eq,jP,if_false]; rfl
  simp only[aJ,hx,flat,if_true,e];exact h
 ·exact bI h
theorem Qs{dst type pos after guard}{c:Call}{x:Operand}(hc1:c.callee = .builtin .len)(hc2:c.args.toList=[x])(hl:xZ P c.argTypes=1)(h:NZ P ⟨dst, .call c,type,pos,after,guard⟩ x call s st kv kd=some r) :
  Hands call kv kd (aJ P (rdF s) ⟨dst, .call c,type,pos,after,guard⟩ st) r:=by
 unfold xZ at hl;simp only[eu]at hl;split at hl
 ·rename_i t ht;split at hl
  ·rename_i e hu;unfold NZ at h;split at h
   ·rename_i a n cap hx;simp only[aJ,hc1,hc2,ji,lK,hx,jc,ht,hu];exact h
   ·rename_i tt v hx;split at h
    ·rename_i z hz;simp only[aJ,hc1,hc2,ji,lK,hx,jc,ht,hu,hz];exact h
    ·cases h
   ·exact bI h
  ·cases hl
  ·cases hl
 ·cases hl
theorem QF{dst type pos after guard}{c:Call}{x:Operand}(hc1:c.callee = .builtin .cap)(hc2:c.args.toList=[x])(hl:xZ P c.argTypes=1)(h:MS P ⟨dst, .call c,type,pos,after,guard⟩ x call s st kv kd=some r) :
  Hands call kv kd (aJ P (rdF s) ⟨dst, .call c,type,pos,after,guard⟩ st) r:=by
 unfold xZ at hl;simp only[eu]at hl;split at hl
 ·rename_i t ht;split at hl
  ·rename_i e hu;unfold MS at h;split at h
   ·rename_i a n cap hx;obtain⟨hb,h⟩:=bH h;have hb:Nat.ble (cap+1) unk=true:=hb;simp only[aJ,hc1,hc2,ji,lK,hx,jc,ht,hu,hb];exact h
   ·rename_i n cap hx;simp only[aJ,hc1,hc2,ji,lK,hx,jc,ht,hu];exact h
   ·exact bI h
  ·cases hl
  ·cases hl
 ·cases hl
theorem P6{dst type pos after guard}{c:Call}{x:Operand}(hc1:c.callee = .builtin .len)(hc2:c.args.toList=[x])(hl:xZ P c.argTypes=2)(h:NG P ⟨dst, .call c,type,pos,after,guard⟩ x call s st kv kd=some r) :
  Hands call kv kd (aJ P (rdF s) ⟨dst, .call c,type,pos,after,guard⟩ st) r:=by
 unfold xZ at hl;simp only[eu]at hl;split at hl
 ·rename_i t ht;split at hl
  ·cases hl
  ·rename_i hu;unfold NG at h;split at h
   ·rename_i b hx;simp only[aJ,hc1,hc2,ji,lK,hx,jc,ht,hu];exact h
   ·exact bI h
  ·cases hl
 ·cases hl
theorem Qi{size:Nat}{x:Value}{xt:TypeDesc}{str:Bool}(hxt:(match xt with | .slice _=>some false | .string=>some true | _=>none)=some str){k:Nat->List Value->Res}(h:s_tail str size st x k=some r) :
  ∃ n new,lD st size xt x=some (n,new)/\k n new=some r:=by
 unfold s_tail at h;cases str with
 |true=>
  have:xt = .string:=by
   split at hxt
   ·cases hxt
   ·rfl
   ·cases hxt
  subst this;simp only at h;split at h
  ·obtain⟨hc,h⟩:=bH h;exact⟨_,_,by simp only[lD,dF hc,if_true],h⟩
  ·cases h
 |false=>
  have:∃ e,xt = .slice e:=by
   split at hxt
   ·exact⟨_,rfl⟩
   ·cases hxt
   ·cases hxt
  obtain⟨e,rfl⟩:=this;simp only at h;split at h
  ·rename_i a n cap;obtain⟨c,e',ex,h1,h2,h3⟩:=jv h;obtain⟨hc,h3⟩:=bH h3;have hle:a.off+n*size<=c.length:=dR hc;exact⟨n,(c.drop a.off).take (n*size),by simp only[lD,cellsAt,h1,h2,vM,iD,if_false,hle,if_true],h3⟩
  ·rename_i n cap;obtain⟨hc,h⟩:=bH h;exact⟨_,_,by simp only[lD,dF hc,if_true],h⟩
  ·rename_i t v;split at h
   ·rename_i z hz;obtain⟨hc,h⟩:=bH h;exact⟨_,_,by simp only[lD,hz,dF hc,if_true],h⟩
   ·cases h
  ·cases h
theorem Ie{slow:Res}{e:TypeId}{size n:Nat}{new:List Value}{sv:Value}(hall:new.all oneCell=true)(hsl:slow=some r->∃ v st',gz P st e size n new sv=some (v,st')/\kv v st'=some r)(h:BP slow e size n new st sv kv=some r) :
  ∃ v st',gz P st e size n new sv=some (v,st')/\kv v st'=some r:=by
 unfold BP at h;split at h
 ·rename_i len cap;obtain⟨hc,h'⟩:=bH h;clear h;simp only[bV]at hc;have h1:=dF hc.1;have h2:=dF hc.2.1;have h3:=dR hc.2.2;subst h1 h2;simp only[gz];rw[if_neg (by simp; omega)];cases hb:Nat.beq n 0 with
  |true=>
   rw[hb]at h';rw[if_pos (dF hb)];exact⟨_,_,rfl,h'⟩
  |false=>
   rw[hb]at h';rw[if_neg (pV hb)];exact⟨_,_,rfl,qm h'⟩
 ·rename_i a len cap;change @Bool.rec (fun _=>Res)
   (@Bool.rec (fun _=>Res) (@Bool.rec (fun _=>Res)
    (ae (Nat.ble (len+n) big) (jD st a fun b off c _ _ _ _=>ae (Nat.ble (Nat.add off (len*size)) c.length)
     (uH st (.cells ((c.drop off).take (len*size)++new) e false) fun a st=>kv (.slice (some a) (len+n) unk) st)))
    (@Bool.rec (fun _=>Res)
     (jD st a fun b off c e' ex heap next=>ae (and (Nat.ble (cap+1) unk) (Nat.ble (off+len*size+new.length) c.length))
      (kv (.slice (some a) (len+n) cap) ⟨dO (path b) heap (.cells (putAt c (off+len*size) new) e' ex),next⟩))
     (ae (Nat.ble (cap+1) unk) (kv (.slice (some a) len cap) st)) (Nat.beq n 0)) (Nat.ble (len+n) cap))
    (@Bool.rec (fun _=>Res)
     (ae (Nat.ble (len+n) big) (jD st a fun b off c _ _ _ _=>ae (Nat.ble (Nat.add off (len*size)) c.length)
      (uH st (.cells ((c.drop off).take (len*size)++new) e false) fun a st=>kv (.slice (some a) (len+n) unk) st)))
     (ae (Nat.ble (cap+1) unk) (kv (.slice (some a) len cap) st)) (Nat.beq n 0)) (Nat.beq cap len))
   (jD st a fun b off c e' ex heap next=>ae (and (not ex) (and (Nat.beq e' e) (and (Nat.ble off c.length) (Nat.ble (len+n) big))))
    (@Bool.rec (fun _=>Res)
     (ae (Nat.beq (Nat.add off (len*size)) c.length)
      (uH ⟨dO (path b) heap .dead,next⟩ (.cells ((c.drop off).take (len*size)++new) e false) fun a st=>kv (.slice (some a) (len+n) unk) st))
     (ae (Nat.ble (Nat.add off (len*size)) c.length) (kv (.slice (some a) len cap) st)) (Nat.beq n 0)))
   (Nat.beq cap unk)=some r at h
  cases hb:Nat.beq cap unk with
  |false=>
   rw[hb]at h;have hne:=pV hb
   have grow:¬len+n<=cap->(ae (Nat.ble (len+n) big) (jD st a fun b off c _ _ _ _=>ae (Nat.ble (Nat.add off (len*size)) c.length)
     (uH st (.cells ((c.drop off).take (len*size)++new) e false) fun a st=>kv (.slice (some a) (len+n) unk) st)))=some r->∃ v st',gz P st e size n new (.slice (some a) len cap)=some (v,st')/\kv v st'=some r:=by
    intro hnle h;obtain⟨hc,h⟩:=bH h;have hc:=dR hc;obtain⟨c,e',ex,h1,h2,h3⟩:=jv h;obtain⟨hd,h3⟩:=bH h3;have hd:a.off+len*size<=c.length:=dR hd;have hcu:cap<unk:=by unfold unk; unfold big at hc; omega
    refine⟨_,_,?_,qm h3⟩;simp only[gz];rw[if_neg (by omega),if_pos hcu,if_neg hnle];simp only[cellsAt,h1,h2,vM,iD,if_false,hd,if_true]
    rfl
   have same:len+n<=cap->Nat.beq n 0=true->ae (Nat.ble (cap+1) unk) (kv (.slice (some a) len cap) st)=some r->∃ v st',gz P st e size n new (.slice (some a) len cap)=some (v,st')/\kv v st'=some r:=by
    intro hle hb3 h;have hn:=dF hb3;obtain⟨hcu,h⟩:=bH h;have hcu:cap<unk:=dR hcu;refine⟨_,_,?_,h⟩;simp only[gz];rw[if_neg (by omega),if_pos hcu,if_pos hle,if_pos hn]
   cases hb0:Nat.beq cap len with
   |true=>
    rw[hb0]at h;have hcl:=dF hb0;cases hb3:Nat.beq n 0 with
    |true=>
     rw[hb3]at h;exact same (by have:=dF hb3; omega) hb3 h
    |false=>
     rw[hb3]at h;exact grow (by have:=pV hb3; omega) h
   |false=>
    rw[hb0]at h;cases hb2:Nat.ble (len+n) cap with
    |true=>
     rw[hb2]at h;have hle:=dR hb2;cases hb3:Nat.beq n 0 with
     |false=>
      rw[hb3]at h;have hn:=pV hb3;obtain⟨c,e',ex,h1,h2,h3⟩:=jv h;obtain⟨hc,h4⟩:=bH h3;simp only[bV]at hc;have hcu:cap<unk:=dR hc.1;have hd:a.off+len*size+new.length<=c.length:=dR hc.2;rw[dP]at h4;refine⟨_,_,?_,h4⟩;simp only[gz];rw[if_neg (by omega),if_pos hcu,if_pos hle,if_neg hn];have hset:setCells st (a.add (len*size)) new=some { st with heap:=st.heap.set a.block (.cells (putAt c (a.off+len*size) new) e' ex) }:=by
       obtain⟨ab,ao,asp⟩:=a;simp only at h1;subst h1;simp only[jE,setCells,vM,iD,if_false,h2,hd,decide_true,hall,fV,if_true]
      rw[hset]
     |true=>rw[hb3]at h; exact same hle hb3 h
    |false=>
     rw[hb2]at h;exact grow (fun k=>by rw[dG k]at hb2; cases hb2) h
  |true=>
   rw[hb]at h;have hcap:=dF hb;obtain⟨c,e',ex,h1,h2,h3⟩:=jv h;obtain⟨hc,h4⟩:=bH h3;clear h3;simp only[bV,qP]at hc;obtain⟨hx,he,ho,hbg⟩:=hc;have he:=dF he;have ho:=dR ho;have hbg:=dR hbg;subst hx he;have hpre:gz P st e' size n new (.slice (some a) len cap) =
    if n=0 then(if a.off+len*size<=c.length then some (.slice (some a) len cap,st)else none)else
    if a.off+(len+(cap-unk))*size=c.length then
     some (.slice (some (newRow (kill st a.block) ((c.drop a.off).take (len*size)++new) e' false).1) (len+n) unk,(newRow (kill st a.block) ((c.drop a.off).take (len*size)++new) e' false).2)
    else if cap=unk&&a.off+len*size+new.length<=c.length then
     match setCells st (a.add (len*size)) new with
     |some st=>some (.slice (some a) (len+n) cap,st)
     |none=>none
    else if cap=unk&&a.off+len*size<=c.length then
     some (.slice (some (newRow (kill st a.block) ((c.drop a.off).take (len*size)++new) e' false).1) (len+n) unk,(newRow (kill st a.block) ((c.drop a.off).take (len*size)++new) e' false).2)
    else none:=by
    simp only[gz];rw[if_neg (by omega),if_neg (by omega),h2];simp only;rw[if_neg (by simp[h1,hcap,ho])]
    rfl
   rw[hpre];cases hb3:Nat.beq n 0 with
   |true=>
    rw[hb3]at h4;obtain⟨hd,h4⟩:=bH h4;have hd:a.off+len*size<=c.length:=dR hd;rw[if_pos (dF hb3),if_pos hd];exact⟨_,_,rfl,h4⟩
   |false=>
    rw[hb3]at h4;obtain⟨hd,h4⟩:=bH h4;have hd:a.off+len*size=c.length:=dF hd;rw[if_neg (pV hb3),if_pos (by rw[hcap,Nat.sub_self,pX]; exact hd)];refine⟨_,_,rfl,?_⟩;have h4:=qm h4;rw[dP]at h4;exact h4
 ·exact hsl h
theorem LW{dst type pos after guard}{t:TypeId}{x v:Operand}(ht:aav P t=true)(h:F8 P t x v call s st kv kd=some r) :
  Hands call kv kd (aJ P (rdF s) ⟨dst, .store t x v,type,pos,after,guard⟩ st) r:=by
 unfold aav at ht;rw[o9]at ht;unfold F8 at h;split at h
 ·rename_i a hx;obtain⟨c,e,ex,h1,h2,h3⟩:=jv h;cases ex with
  |false=>
   obtain⟨hc,h4⟩:=bH h3;simp only[bV]at hc;have hd:a.off+1<=c.length:=dR hc.2;rw[dP]at h4;unfold jw at ht;cases hi:P.info? t with
   |none=>rw[hi]at ht; cases ht
   |some i=>
    rw[hi]at ht;have his:i.size=1:=dF ht;have hst:pI P st t a (rdF s v)=some { st with heap:=st.heap.set a.block (.cells (putAt c a.off [rdF s v]) e false) }:=by
     have hv:(rdF s v).cells=#[rdF s v]/\ng (rdF s v)=false/\oneCell (rdF s v)=true:=by
      have h2:=hc.1;generalize rdF s v=y at h2;cases y with
      |chan r=>cases r with
       |none=>exact⟨rfl,rfl,rfl⟩
       |some _=>simp[pK]at h2
      |agg _=>simp[pK]at h2
      |tuple _=>simp[pK]at h2
      |_=>exact⟨rfl,rfl,rfl⟩
     obtain⟨v1,v2,v3⟩:=hv;simp[pI,hi,v1,v2,his,setCells,h1,h2,v3,hd]
    simp only[aJ,hx,hst];exact h4
  |true=>
   simp only at h3;simp only[ET,hx]at h3;obtain⟨st',g1,g2⟩:=FY h3;simp only[aJ,hx,g1];exact g2
 ·cases h
end
section
variable{P:Program}
variable{call:Knot}{s:Trie Value}{o:Oper}{st:St}{kv:Value->St->Res}{kd:Deferred->St->Res}{r:Value×St}
theorem PU{dst type pos after guard}{c a b:Operand}(h:NQ c a b call s st kv kd=some r):Hands call kv kd (aJ P (rdF s) ⟨dst, .pick c a b,type,pos,after,guard⟩ st) r:=by
 unfold NQ at h;split at h
 ·rename_i t ht;simp only[aJ,ht];cases t<;>exact h
 ·cases h
theorem LV{dst type pos after guard}{c:Call}{x y:Operand}{tx ty e:TypeId}{size:Nat}{str:Bool}(hc1:c.callee = .builtin .append)(hc2:c.args.toList=[x,y])(hc3:c.argTypes.toList=[tx,ty])(hk:OJ P tx ty=some (e,size,str))
  (h:GZ P ⟨dst, .call c,type,pos,after,guard⟩ e size str x y call s st kv kd=some r):Hands call kv kd (aJ P (rdF s) ⟨dst, .call c,type,pos,after,guard⟩ st) r:=by
 unfold OJ at hk;simp only[eu,mG,yH]at hk;split at hk
 ·rename_i e' xt hs hx;split at hk
  ·rename_i str' ei z hxt hi hz;split at hk
   ·cases hk
   ·rename_i hcond;simp only[dD,dA]at hk;obtain⟨rfl,rfl,rfl⟩:=hk;have ht0:c.argTypes[0]? = some tx:=by rw[<-pY,hc3]; rfl
    have ht1:c.argTypes[1]? = some ty:=by rw[<-pY,hc3]; rfl
    have hev:aJ P (rdF s) ⟨dst, .call c,type,pos,after,guard⟩ st=match nK P st tx ty (rdF s x) (rdF s y)with
     |some (v,st)=>some (.val v st)
     |none=>none:=by
     simp only[aJ,hc1,hc2,ji,lK,jc,ht0,ht1];cases nK P st tx ty (rdF s x) (rdF s y)<;>rfl
    rw[hev];have happ:nK P st tx ty (rdF s x) (rdF s y)=match lD st ei.size xt (rdF s y)with
      |some (n,new)=>if new.all oneCell then gz P st e' ei.size n new (rdF s x)else none
      |none=>none:=by
     simp only[nK,hs,hx,hi,hz];rw[if_neg hcond];cases lD st ei.size xt (rdF s y)<;>rfl
    have key:(∃ v st',nK P st tx ty (rdF s x) (rdF s y)=some (v,st')/\kv v st'=some r)->Hands call kv kd (match nK P st tx ty (rdF s x) (rdF s y)with
     |some (v,st)=>some (.val v st)
     |none=>none) r:=by
     rintro ⟨v,st',h1,h2⟩;rw[h1]; exact h2
    apply key;unfold GZ at h;obtain⟨n,new,h1,h2⟩:=Qi hxt h;obtain⟨h3,h4⟩:=bH h2;rw[happ,h1];simp only[h3,if_true];refine Ie h3 (fun hsl=>?_) h4;have:=bI hsl;rw[hev,happ,h1]at this;simp only[h3,if_true]at this;cases hx:gz P st e' ei.size n new (rdF s x)with
    |none=>rw[hx]at this; exact this.elim
    |some p=>rw[hx]at this; exact⟨p.1,p.2,rfl,this⟩
  ·cases hk
 ·cases hk
theorem IK{ik kd':IntKind}{i:Int}{f:Value->Res}{z:Res}:∀ {es:List MapEntry} (j:Nat),VI ik i f z es=some r->
  (∃ m v,Instr.findNow (.int kd') (.int ik i) es j=some (some (m,v))/\f v=some r)\/(Instr.findNow (.int kd') (.int ik i) es j=some none/\z=some r)
 |[],j,h=>Or.inr ⟨rfl,h⟩
 |e::es,j,h=>by
  have h:(match e.key with
   | .int k n=>ae (decide (ik=k)) (@Bool.rec (fun _=>Res) (VI ik i f z es) (f e.val) (eqI i n))
   |_=>none)=some r:=h
  split at h
  ·rename_i k n hk;obtain⟨hc,h'⟩:=bH h;simp only[gK]at hc;subst hc;have hs:Instr.sameNow (.int kd') (.int ik i) e.key=some (i == n):=by rw[hk]; simp[Instr.sameNow]
   cases hq:eqI i n with
   |true=>
    rw[hq]at h';have hb:(i == n)=true:=by
     have:i=n:=lY hq;simp[this]
    left;refine⟨j,e.val,?_,h'⟩;simp only[Instr.findNow,hs,hb]
   |false=>
    rw[hq]at h';have hb:(i == n)=false:=by
     have:¬i=n:=of_decide_eq_false hq;simpa using this
    rcases IK (j+1) h' with⟨m,v,h1,h2⟩ | ⟨h1,h2⟩
    ·left;refine⟨m,v,?_,h2⟩;simp only[Instr.findNow,hs,hb];exact h1
    ·right;refine⟨?_,h2⟩;simp only[Instr.findNow,hs,hb];exact h1
  ·cases h
theorem MN{dst type pos after guard}{t:TypeId}{x k:Operand}{ok:Bool}{z:Value}(hz:Vg P t=some z)(h:I4 P ⟨dst, .lookup t x k ok,type,pos,after,guard⟩ z x k ok call s st kv kd=some r) :
  Hands call kv kd (aJ P (rdF s) ⟨dst, .lookup t x k ok,type,pos,after,guard⟩ st) r:=by
 unfold I4 at h;split at h
 ·rename_i rr ik i hx hk;split at h
  ·rename_i es cl hg;rw[dL]at hg;unfold Vg at hz;rw[eu]at hz;split at hz
   ·rename_i kt e hu;rw[eu]at hz;split at hz
    ·rename_i kd' huk;rw[yH]at hz;have hkk:qN P kt=some (.int kd'):=by unfold qN; rw[huk]
     rcases IK (kd':=kd') 0 h with⟨m,v,h1,h2⟩ | ⟨h1,h2⟩
     ·have hf:qZ P es.isEmpty kt (.int ik i) es=some (some (m,v)):=by unfold qZ; rw[hkk]; exact h1
      simp only[aJ,hu,hz,hx,hk,hg,hf];cases ok<;>exact h2
     ·have hf:qZ P es.isEmpty kt (.int ik i) es=some none:=by unfold qZ; rw[hkk]; exact h1
      simp only[aJ,hu,hz,hx,hk,hg,hf];cases ok<;>exact h2
    ·cases hz
   ·cases hz
  ·exact iP h
 ·exact iP h
theorem P8{dst type pos after guard}{t:TypeId}{m k x:Operand}(hz:PK P t=true)(h:PP P ⟨dst, .mapUpdate t m k x,type,pos,after,guard⟩ m k x call s st kv kd=some r) :
  Hands call kv kd (aJ P (rdF s) ⟨dst, .mapUpdate t m k x,type,pos,after,guard⟩ st) r:=by
 unfold PP at h;split at h
 ·rename_i rr key hx hk;split at h
  ·rename_i es cl hg;rw[dL]at hg;unfold PK at hz;rw[eu]at hz;split at hz
   ·rename_i kt e hu;unfold isStr at hz;rw[eu]at hz;split at hz
    ·rename_i huk;have hkk:qN P kt=some .string:=by unfold qN; rw[huk]
     obtain⟨hb,h⟩:=bH h;have hf:qZ P false kt (.string key) es=Instr.findNow .string (.string key) es 0:=by unfold qZ; rw[hkk]; rfl
     rw[dP]at h;simp only[aJ,AX,hu,hx,hk,hg,hf];unfold Iz at hb;unfold GU at h;cases hq:Instr.findNow .string (.string key) es 0 with
     |none=>rw[hq]at hb; cases hb
     |some o=>
      rw[hq]at h;cases o with
      |none=>exact h
      |some p=>obtain⟨i,v⟩:=p; exact h
    ·cases hz
   ·cases hz
  ·exact iP h
 ·exact iP h
theorem LP{dst type pos after guard}{t:TypeId}{x hi mx:Operand}{n:Nat}(hn:lF P t=some n)
  (h:Gq P ⟨dst, .slice t x none (some hi) (some mx),type,pos,after,guard⟩ n x hi mx call s st kv kd=some r):Hands call kv kd (aJ P (rdF s) ⟨dst, .slice t x none (some hi) (some mx),type,pos,after,guard⟩ st) r:=by
 unfold lF at hn;rw[eu]at hn;split at hn
 ·rename_i e hu;rw[o9]at hn;unfold Gq at h;split at h
  ·rename_i a len cap k1 h0 k2 m0 hx hh hm;cases hb:Nat.beq cap unk with
   |false=>rw[hb]at h; exact bI h
   |true=>
    rw[hb]at h;have hcap:=dF hb;obtain⟨c,e',ex,h1,h2,h3⟩:=jv h;obtain⟨hc,h3⟩:=bH h3;simp only[bV]at hc;obtain⟨hc1,hc2,hc3⟩:=hc;have hc1:=dR hc1;have hc2:=dR hc2;have hc3:=dF hc3;obtain⟨hd,h3⟩:=bH h3;simp only[dS,bV,gK]at hd;obtain⟨hd1,hd2,hd3⟩:=hd;have hd2:0<=(0:Int)/\0<=m0/\m0<=(((c.length-a.off) / n:Nat):Int):=hd2;have hd3:m0.toNat+1<=unk:=dR hd3;have hroom:room P st a n=some ((c.length-a.off) / n):=by
     unfold room;rw[h2];simp only;rw[if_neg (by simp; omega),if_pos hc1]
    have e1:jU (rdF s mx) ((c.length-a.off) / n)=some m0.toNat:=by
     have a1:=hd2.2.1;have a2:=hd2.2.2;simp only[hm,jU,a1,a2,and_self,if_true]
    have e2:jU (rdF s hi) m0.toNat=some h0.toNat:=by
     have a1:0<=h0:=hd1.2.1;have a2:=hd1.2.2;simp only[hh,jU,a1,a2,and_self,if_true]
    have ea:(if m0.toNat=0 then a else a.add (0*n))=a:=by
     split
     ·rfl
     ·rw[Nat.zero_mul]; rfl
    have hs:uw P st n a len cap none (some (rdF s hi)) (some (rdF s mx))=some (.slice (some a) h0.toNat m0.toNat):=by
     unfold uw;rw[if_neg (by omega),if_pos hcap,hroom];simp only[e1,e2,bG];rw[if_pos (by omega),ea]
     rfl
    simp only[aJ,hu,hx,hn,Option.map_none,qU,hs];exact h3
  ·exact bI h
 ·cases hn
theorem Iw(h:(MG P o).run call s st kv kd=some r):Hands call kv kd (aJ P (rdF s) o st) r:=by
 obtain⟨dst,op,type,pos,after,guard⟩:=o;unfold MG at h;simp only at h;split at h
 ·exact PU h
 ·split at h
  ·exact MN ‹_› h
  ·exact iP h
 ·split at h
  ·exact P8 ‹_› h
  ·exact iP h
 ·split at h
  ·rename_i hk;split at h
   ·exact Nb hk h
   ·exact iP h
  ·rename_i hk;split at h
   ·split at h
    ·exact ML hk ‹_› h
    ·exact iP h
   ·exact iP h
  ·exact iP h
 ·split at h
  ·exact GG ‹_› h
  ·exact iP h
 ·split at h
  ·exact LW ‹_› h
  ·exact iP h
 ·rename_i t x ix;split at h
  ·rename_i hs;unfold isStr at hs;rw[eu]at hs;split at hs
   ·exact Nc ‹_› h
   ·cases hs
  ·exact iP h
 ·split at h
  ·exact Gt ‹_› h
  ·split at h
   ·exact IX ‹_› h
   ·exact iP h
 ·split at h
  ·rename_i hs;unfold isStr at hs;rw[eu]at hs;split at hs
   ·exact CQ ‹_› h
   ·cases hs
  ·split at h
   ·exact Po ‹_› h
   ·exact iP h
 ·split at h
  ·exact LP ‹_› h
  ·exact iP h
 ·split at h
  ·exact Ho ‹_› h
  ·exact J9 ‹_› h
  ·split at h
   ·exact UW ‹_› h
   ·exact bI h
 ·split at h
  ·exact Uk h
  ·exact VA h
  ·exact VP h
  ·exact Vp h
  ·exact Vd h
  ·exact qV (f:=dJ) (hf:=fun k a b=>by simp only[binOp,Op.intArith,ne_eq,jP,if_false]; rfl) h
  ·exact qV (f:=uF) (hf:=fun k a b=>by simp only[binOp,Op.intArith,ne_eq,jP,if_false]; rfl) h
  ·exact qV (f:=wM) (hf:=fun k a b=>by simp only[binOp,Op.intBits,ne_eq,jP,if_false]; rfl) h
  ·exact qV (f:=orI) (hf:=fun k a b=>by simp only[binOp,Op.intBits,ne_eq,jP,if_false]; rfl) h
  ·exact qV (f:=ZE) (hf:=fun k a b=>by simp only[binOp,Op.intBits,ne_eq,jP,if_false]; rfl) h
  ·exact qV (f:=afZ) (hf:=fun k a b=>by simp only[binOp,Op.intBits,ne_eq,jP,if_false]; rfl) h
  ·exact Va h
  ·exact UV h
  ·exact w_ (f:=ltI) (g:=ltS) (str:=true) (hf:=fun k a b=>by simp only[binOp,Op.intCmp,ne_eq,jP,if_false]; rfl) (hg:=fun _ a b=>by simp only[binOp,Op.stringOp]; rfl) h
  ·exact w_ (f:=leI) (g:=leS) (str:=true) (hf:=fun k a b=>by simp only[binOp,Op.intCmp,ne_eq,jP,if_false]; rfl) (hg:=fun _ a b=>by simp only[binOp,Op.stringOp]; rfl) h
  ·exact w_ (f:=gtI) (g:=gtS) (str:=true) (hf:=fun k a b=>by simp only[binOp,Op.intCmp,ne_eq,jP,if_false]; rfl) (hg:=fun _ a b=>by simp only[binOp,Op.stringOp]; rfl) h
  ·exact w_ (f:=geI) (g:=geS) (str:=true) (hf:=fun k a b=>by simp only[binOp,Op.intCmp,ne_eq,jP,if_false]; rfl) (hg:=fun _ a b=>by simp only[binOp,Op.stringOp]; rfl) h
 ·exact VN h
 ·exact Uy h
 ·rename_i c;split at h
  ·rename_i h1 h2 h3;split at h
   ·rename_i r' hr;exact LV h1 h2 h3 hr h
   ·exact iP h
  ·rename_i h1 h2;split at h
   ·exact Qs h1 h2 ‹_› h
   ·exact P6 h1 h2 ‹_› h
   ·exact bI h
  ·rename_i h1 h2;split at h
   ·exact QF h1 h2 ‹_› h
   ·exact bI h
  ·rename_i h1 h2;exact F6 h1 h2 (g:=ltI) (fun k _ m n=>by
    have e:(if ltI n m=true then n else m)=ahl m n:=by simp[ahl,ltI]
    rw[e]; rfl) h
  ·rename_i h1 h2;exact F6 h1 h2 (g:=gtI) (fun k _ m n=>by
    have e:(if gtI n m=true then n else m)=afL m n:=by simp[afL,gtI]
    rw[e]; rfl) h
  ·exact iP h
 ·exact iP h
end
def agE(P:Program):Eng:=⟨MG P,fun ct=>drawM P (MG P) ct⟩
theorem aeE(P:Program)(ct:Ct):EngOk P ct (agE P) where
 comp:=fun h=>Iw h
 draw:=by
  intro call hc ops nt ro s d st k r h;exact U4 (fun h=>Iw h) hc h
theorem iZ{b:Bool}{x y:Res}(h:b=true)(k:x=y):ae b x=y:=by subst h; exact k
theorem mX{b:Bool}{x y z:Res}(h:b=true)(k:x=z):aj b x y=z:=by subst h; exact k
theorem lZ{b:Bool}{x y z:Res}(h:b=false)(k:y=z):aj b x y=z:=by subst h; exact k
theorem aan:∀ {l:List Value},(l.all fun v=>match v with | .int _ _ | .bool _ | .string _ | .chan _=>true | _=>false)=true->bz (.agg ⟨l⟩) (.agg ⟨l⟩)=true
 |l,h=>by
  show jk l l=true
  induction l with
  |nil=>rfl
  |cons v l ih=>
   simp only[sK,bV]at h;simp only[jk,ih h.2,x8];obtain⟨h1,_⟩:=h;cases v<;>first | (simp at h1; done) | simp[bz]
theorem ES{v v':Value}{bs bs':List Blk}(h:v=v')(k:bs=bs'):(some (v,ag bs):Res)=some (v',ag bs'):=by rw[h,k]
theorem kS{a b:Bool}(h:a=true)(k:b=true):Bool.and a b=true:=by rw[h,k]; rfl
theorem nO{a b:Nat}(h:a<=b):Nat.ble a b=true:=dG h
theorem wE{a b:Nat}(h:a=b):Nat.beq a b=true:=by rw[h]; exact nR b
theorem jl{i:Int}{n:Nat}(h:0<=i)(k:i<n):inI i n=true:=by simp[inI,h,k]
theorem nJ{l h:Int}{n:Nat}(h1:0<=l)(h2:l<=h)(h3:h<=n):dS l h n=true:=by simp[dS,h1,h2,h3]
def bc(l:List UInt8):List Value:=l.map fun b=> .int .u8 b.toNat
theorem bn(l:List UInt8):(bc l).length=l.length:=by simp[bc]
theorem zk(a b:List UInt8):bc (a++b)=bc a++bc b:=by simp[bc]
theorem xK:∀ (l:List UInt8),gY (bc l)=true
 |[]=>rfl
 |b::l=>by
  show(flat (.int .u8 b.toNat)&&gY (bc l))=true;rw[xK l]; rfl
theorem fE(z:Bool)(ρ:Nat->Option Nat)(l:List UInt8):aG z ρ (bc l)=bc l:=tX (xK l)
theorem C_(l:List UInt8):allBytes (bc l)=true:=by
 unfold allBytes bc;rw[List.all_map,jA];intro b _
 rfl
theorem Xh(b:UInt8):byteOf (.int .u8 b.toNat)=b:=by
 show UInt8.ofNat (Int.toNat (b.toNat:Int))=b;simp
theorem mf(l:List UInt8):(bc l).map byteOf=l:=by
 unfold bc;rw[List.map_map];have:(byteOf∘fun b:UInt8=>Value.int .u8 b.toNat)=id:=by funext b; exact Xh b
 rw[this,List.map_id]
theorem ahn{l:List UInt8}{i:Nat}(h:i<l.length):aV (bc l) i = .int .u8 (l[i].toNat):=by
 unfold aV bc;rw[sQ,List.getElem?_map,oP h]
 rfl
theorem ul(l:List UInt8):(bc l).all oneCell=true:=by
 unfold bc;rw[List.all_map,jA];intro b _
 rfl
theorem ZZ(c:List Value):takeC (Nat.mul c.length 1) (aO 0 c)=c:=by
 show(c.drop 0).take (c.length*1)=c;simp
def EF(v:Value):Bool:=match v with
 | .int .u8 n=>decide (0<=n/\n<256)
 |_=>false
def wF(c:List Value):Bool:=c.all EF
theorem Qd(n:Int):EF (.int .u8 n)=decide (0<=n/\n<256):=rfl
theorem Du:∀ (l:List UInt8),wF (bc l)=true
 |[]=>rfl
 |b::l=>by
  have h:wF (bc (b::l))=(EF (.int .u8 b.toNat)&&wF (bc l)):=by simp only[wF,bc,ji,sK]
  have:=b.toNat_lt;rw[h,Du l,Qd];simp only[x8,gK];omega
theorem Vu:∀ {c:List Value},wF c=true->c=bc (c.map byteOf)
 |[],_=>rfl
 |v::c,h=>by
  simp only[wF,sK,bV]at h;obtain⟨h1,h2⟩:=h;unfold EF at h1;split at h1
  ·rename_i n;simp only[gK]at h1;have ih:=Vu (c:=c) h2;show _=Value.int .u8 (byteOf (.int .u8 n)).toNat::bc (c.map byteOf);rw[<-ih];congr 2;show n=((UInt8.ofNat n.toNat).toNat:Int)
   simp only[UInt8.toNat_ofNat'];omega
  ·cases h1
theorem wrap64{n:Int}(h1:-9223372036854775808<=n)(h2:n<9223372036854775808):IntKind.i64.wrap n=n:=by
 have e:IntKind.i64.wrap n=if n % 18446744073709551616>=9223372036854775808 then n % 18446744073709551616-18446744073709551616 else n % 18446744073709551616:=by
  show(if(true&&decide (n % (2^64:Int)>=(2^(64-1):Int)))=true then n % (2^64:Int)-(2^64:Int)else n % (2^64:Int))=_;have e1:(2:Int)^(64-1)=9223372036854775808:=by decide
  have e2:(2:Int)^64=18446744073709551616:=by decide
  rw[e1,e2];simp only[yJ,gK]
 rw[e];split<;>omega
theorem toList_data(b:ByteArray):b.toList=b.data.toList:=by
 first
  |exact ByteArray.toList_eq b
  |exact Go.ByteArray.toList_eq b
  |exact _root_.ByteArray.toList_eq b
theorem Xw(a b:ByteArray):neS a b=!(a.data.toList == b.data.toList):=by unfold neS; rw[toList_data,toList_data]
end Go.VS
end

noncomputable section
namespace Go.VS
open Go.RowKit
section
variable{P:Program}{ct:Ct}
theorem Rel.part{K:Prot}{β:Env}{st st0:St}{w:World}(h:Rel P K β st w)(hnx:st0.next=st.next)(hsub:∀ i b,st0.heap.get i=some b->b.live=true->st.heap.get i=some b)
  (hno:∀ i o,st0.heap.get i≠some (.obj o)) :
  ∃ K':Prot,(∀ k,K k->K' k)/\K'.id=K.id/\Rel P K' β st0 w/\∀ (β':Env) (st1 st2:St) (w':World),β.le β'->Rel P K' β' st1 w'->Bel K' w w'->st.next<=st1.next->(∀ i o,st1.heap.get i≠some (.obj o))->
   st2.next=st1.next->(∀ i b,st2.heap.get i=some b->b.live=true->st1.heap.get i=some b\/((∀ c,st1.heap.get i=some c->c.live=false)/\(∀ c,st0.heap.get i=some c->c.live=false)/\st.heap.get i=some b))->
   (∀ i o,st.heap.get i=some (.obj o)->(∀ c,st1.heap.get i=some c->c.live=false)->st2.heap.get i=some (.obj o))->Rel P K β' st2 w':=by
 obtain⟨hgi,fp,o1,o2⟩:=h.objs;have hobjs:=h.objs
 let gone:Nat->Prop:=fun k=>∃ i b l,st.heap.get i=some b/\b.live=true/\(∀ c,st0.heap.get i=some c->c.live=false)/\β (i:Int)=some l/\l.virt=false/\l.blk=k
 let foot:Nat->Prop:=fun k=>∃ i,fp i k
 let K':Prot:=⟨fun k=>K k\/gone k\/foot k,K.id,fun k=>K.nofz k\/gone k\/foot k,K.obs,fun k h=>h.imp (K.sub k) fun h=>h⟩
 have hr0:Rel P K' β st0 w:=by
  refine⟨fun k hk=>?_,fun i l hi=>by rw[hnx]; exact h.dom i l hi,fun i b hi hb=>?_,fun i j bi bj li lj hi hbi hj hbj=>h.inj i j bi bj li lj (hsub i bi hi hbi) hbi (hsub j bj hj hbj) hbj,fun i hi=>by rw[hnx]; exact h.res i hi,fun k l hk=>?_,fun k l hk=>?_,?_⟩
  ·rcases hk with hk | ⟨i,b,l,a1,a2,a3,a4,a5,rfl⟩ | ⟨i,hk⟩
   ·exact h.base k hk
   ·exact(h.dom i l a4).2 a5
   ·exact(o2 i k hk).2.1
  ·obtain⟨l,c1,c2,c3⟩:=h.blk i b (hsub i b hi hb) hb;refine⟨l,c1,fun hv hK=>?_,c3⟩;rcases hK with hK | ⟨j,bj,lj,a1,a2,a3,a4,a5,a6⟩ | ⟨j,hK⟩
   ·exact c2 hv hK
   ·have:=h.inj i j b bj l lj (hsub i b hi hb) hb a1 a2 c1 a4 hv a5 a6.symm;subst this;have:=a3 b hi;rw[hb]at this; cases this
   ·have:=(o2 j _ hK).2.2.2.2.2 i b l (hsub i b hi hb) hb c1 hv rfl;subst this;obtain⟨⟨o,ho⟩,_⟩:=o2 i _ hK;rw[hsub i b hi hb]at ho;cases ho;exact hno i o hi
  ·rintro (hf | ⟨j,bj,lj,a1,a2,a3,a4,a5,a6⟩ | ⟨j,hK⟩)
   ·exact h.nofz k l hk hf
   ·exact(h.frz k l hk).2.2 j bj lj a1 a2 a4 a5 a6
   ·have:=(o2 j k hK).2.2.2.1;rw[hk]at this; cases this
  ·obtain⟨f1,f2,f3⟩:=h.frz k l hk;exact⟨f1,f2,fun j bj lj hj hbj=>f3 j bj lj (hsub j bj hj hbj) hbj⟩
  ·exact⟨hgi,fun _ _=>False,fun i o hi=>absurd hi (hno i o),fun i k hk=>hk.elim⟩
 refine⟨K',fun k hk=>Or.inl hk,rfl,hr0,fun β' st1 st2 w' hle h1 hb hnx1 hno1 hnx2 hget hobj=>?_⟩;have hrest:∀ (i:Nat) b,st.heap.get i=some b->b.live=true->(∀ c,st0.heap.get i=some c->c.live=false)->∃ l,β i=some l/\β' i=some l/\(l.virt=false->¬K l.blk/\gone l.blk)/\iq P β' l b w'.heap[l.blk]?:=by
  intro i b hi hl hn;obtain⟨l,c1,c2,c3⟩:=h.blk i b hi hl;refine⟨l,c1,hle _ _ c1,fun hv=>⟨c2 hv,⟨i,b,l,hi,hl,hn,c1,hv,rfl⟩⟩,?_⟩;cases hv:l.virt with
  |true=>exact(c3.mono hle).anywhere hv _
  |false=>rw[hb.block l.blk (Or.inr (Or.inl ⟨i,b,l,hi,hl,hn,c1,hv,rfl⟩))]; exact c3.mono hle
 refine⟨fun k hk=>m_ (h.base k hk) hb.size,fun i l hi=>by rw[hnx2]; exact h1.dom i l hi,fun i b hi hl=>?_,fun i j bi bj li lj hi hbi hj hbj hli hlj v1 v2 e=>?_,fun i hi=>by rw[hnx2]; exact h1.res i hi,fun k l hk hf=>h1.nofz k l hk (Or.inl hf),fun k l hk=>?_,?_⟩
 ·rcases hget i b hi hl with g | ⟨_,g2,g3⟩
  ·obtain⟨l,c1,c2,c3⟩:=h1.blk i b g hl;exact⟨l,c1,fun hv hK=>c2 hv (Or.inl hK),c3⟩
  ·obtain⟨l,_,c1,c2,c3⟩:=hrest i b g3 hl g2;exact⟨l,c1,fun hv=>(c2 hv).1,c3⟩
 ·rcases hget i bi hi hbi with g | ⟨_,g2,g3⟩<;>rcases hget j bj hj hbj with g' | ⟨_,g2',g3'⟩
  ·exact h1.inj i j bi bj li lj g hbi g' hbj hli hlj v1 v2 e
  ·obtain⟨l,c0,c1,c2,_⟩:=hrest j bj g3' hbj g2';rw[c1]at hlj; obtain rfl:=aC hlj;obtain⟨l',d1,d2,_⟩:=h1.blk i bi g hbi;rw[d1]at hli; obtain rfl:=aC hli;exact absurd (Or.inr (Or.inl (e▸(c2 v2).2))) (d2 v1)
  ·obtain⟨l,c0,c1,c2,_⟩:=hrest i bi g3 hbi g2;rw[c1]at hli; obtain rfl:=aC hli;obtain⟨l',d1,d2,_⟩:=h1.blk j bj g' hbj;rw[d1]at hlj; obtain rfl:=aC hlj;exact absurd (Or.inr (Or.inl (e▸(c2 v1).2))) (d2 v2)
  ·obtain⟨l,c0,c1,_⟩:=hrest i bi g3 hbi g2;obtain⟨l',c0',c1',_⟩:=hrest j bj g3' hbj g2';rw[c1]at hli; obtain rfl:=aC hli;rw[c1']at hlj; obtain rfl:=aC hlj;exact h.inj i j bi bj _ _ g3 hbi g3' hbj c0 c0' v1 v2 e
 ·obtain⟨f1,f2,f3⟩:=h1.frz k l hk;refine⟨f1,f2,fun j bj lj hj hbj hlj hv=>?_⟩;rcases hget j bj hj hbj with g | ⟨_,g2,g3⟩
  ·exact f3 j bj lj g hbj hlj hv
  ·obtain⟨l',_,c1,c2,_⟩:=hrest j bj g3 hbj g2;rw[c1]at hlj; obtain rfl:=aC hlj;intro e;exact h1.nofz k l hk (Or.inr (Or.inl (e▸(c2 hv).2)))
 ·refine⟨h1.objs.1,fp,fun i o hi=>?_,fun i k hk=>?_⟩
  ·have hi':st.heap.get i=some (.obj o):=by
    rcases hget i _ hi rfl with g | ⟨_,_,g⟩
    ·exact absurd g (hno1 i o)
    ·exact g
   obtain⟨l,a,b,c⟩:=o1 i o hi';refine⟨l,hle _ _ a,b,K.obs.mono _ _ _ _ _ _ _ c (yU hle) hb.size (fun k hk=>hb.block k (Or.inr (Or.inr ⟨i,hk⟩))) fun k l hk=>?_⟩;obtain⟨_,f2,_⟩:=h.frz k l hk;obtain⟨_,f2',_⟩:=h1.frz k l (hle _ _ hk);rw[f2,f2']
  ·obtain⟨⟨o,ho⟩,a1,a2,a3,a4,a5⟩:=o2 i k hk;have hdead:∀ c,st1.heap.get i=some c->c.live=false:=by
    intro c hc;cases hcl:c.live with
    |false=>rfl
    |true=>
     obtain⟨l',d1,d2,_⟩:=h1.blk i c hc hcl;obtain⟨l,e1,e2,e3⟩:=h.blk i _ ho rfl;have e3:l.virt=false:=e3;rw[hle _ _ e1]at d1;obtain rfl:=aC d1;refine absurd (Or.inr (Or.inl ⟨i, .obj o,l,ho,rfl,fun c hc=>?_,e1,e3,rfl⟩)) (d2 e3);cases hcl:c.live with
     |false=>rfl
     |true=>
      have:=hsub i c hc hcl;rw[ho]at this;obtain rfl:=aC this;exact absurd hc (hno i o)
   refine⟨⟨o,hobj i o ho hdead⟩,m_ a1 hb.size,a2,?_,a4,fun j bj lj hj hbj hlj hv e=>?_⟩
   ·cases hx:β' (Int.negSucc k)with
    |none=>rfl
    |some l=>exact absurd (Or.inr (Or.inr ⟨i,hk⟩)) (h1.nofz k l hx)
   ·rcases hget j bj hj hbj with g | ⟨_,g2,g3⟩
    ·obtain⟨l',d1,d2,_⟩:=h1.blk j bj g hbj;rw[d1]at hlj; obtain rfl:=aC hlj;exact absurd (Or.inr (Or.inr ⟨i,e▸hk⟩)) (d2 hv)
    ·obtain⟨l',c0,c1,_⟩:=hrest j bj g3 hbj g2;rw[c1]at hlj; obtain rfl:=aC hlj;exact a5 j bj _ g3 hbj c0 hv e
def Jj(l:List (Nat×Blk)):Trie Blk->Trie Blk:=
 @List.rec (Nat×Blk) (fun _=>Trie Blk->Trie Blk) (fun t=>t) (fun p _ ih t=>ih (dO (path p.1) t p.2)) l
def II(l:List (Nat×Blk))(i:Nat)(d:Option Blk):Option Blk:=match l with
 |[]=>d
 |p::l=>II l i (if i=p.1 then some p.2 else d)
theorem Gn:∀ (l:List (Nat×Blk)) (t:Trie Blk) (i:Nat),(Jj l t).get i=II l i (t.get i)
 |[],t,i=>rfl
 |p::l,t,i=>by
  show(Jj l (dO (path p.1) t p.2)).get i=_;rw[Gn l,dP,Trie.get_set]
  rfl
theorem zY:∀ (l:List (Nat×Blk)) (i:Nat) (d:Option Blk),(i∉l.map (·.1)/\II l i d=d)\/(i∈l.map (·.1)/\∃ b,(i,b)∈l/\II l i d=some b)
 |[],i,d=>Or.inl ⟨by simp,rfl⟩
 |p::l,i,d=>by
  simp only[II];rcases zY l i (if i=p.1 then some p.2 else d)with⟨h1,h2⟩ | ⟨h1,b,h2,h3⟩
  ·by_cases h:i=p.1
   ·refine Or.inr ⟨by simp[h],p.2,by rw[h]; simp,?_⟩;rw[h2,if_pos h]
   ·refine Or.inl ⟨by simp only[ji,jY,not_or]; exact⟨h,h1⟩,?_⟩;rw[h2,if_neg h]
  ·exact Or.inr ⟨by simp only[ji,jY]; exact Or.inr h1,b,ni _ h2,h3⟩
end
section
variable{P:Program}{ct:Ct}
def rH(ρ:Nat->Option Nat):Blk->Blk
 | .cells c e x=> .cells (aG true ρ c) e x
 | .map es c=> .map (aF true ρ es) c
 | .siter s p=> .siter s p
 |_=> .dead
theorem O6{ρ:Nat->Option Nat}{β β':Env}(h:RenOk true ρ β β'){l:Loc}{b:Blk}{o:Option Obj}(r:iq P β l b o):iq P β' l (rH ρ b) o:=by
 cases b with
 |cells c e x=>exact yE h (b:= .cells c e x) r
 |map es c=>exact yE h (b:= .map es c) r
 |siter s p=>exact yE h (b:= .siter s p) r
 |_=>exact trivial
theorem oL{ρ:Nat->Option Nat}{b:Blk}(h:(rH ρ b).live=true):b.live=true:=by cases b<;>first | rfl | cases h
theorem BZ{ρ:Nat->Option Nat}{b:Blk}{o:Ob}:rH ρ b≠ .obj o:=by cases b<;>simp[rH]
def yg(st:St)(bs:List Blk):St:=⟨zX (bs.map (rH (dQ st.next))) st.next st.heap,st.next+bs.length⟩
def r_(l:List Nat):Trie Blk->Trie Blk:=@List.rec Nat (fun _=>Trie Blk->Trie Blk) (fun t=>t) (fun i _ ih t=>ih (dO (path i) t .dead)) l
theorem vW:∀ (l:List Nat) (t:Trie Blk) (i:Nat),(r_ l t).get i=if i∈l then some .dead else t.get i
 |[],t,i=>by simp[r_]
 |p::l,t,i=>by
  show(r_ l (dO (path p) t .dead)).get i=_;rw[vW l,dP,Trie.get_set];by_cases h:i∈l
  ·rw[if_pos h,if_pos (ni _ h)]
  ·rw[if_neg h];by_cases h2:i=p
   ·rw[if_pos h2,if_pos (by simp[h2])]
   ·rw[if_neg h2,if_neg (by simp only[jY,not_or]; exact⟨h2,h⟩)]
theorem uC(st:St)(bs:List Blk)(i:Nat):(yg st bs).heap.get i=if st.next<=i/\i<st.next+bs.length then(bs[i-st.next]?).map (rH (dQ st.next))else st.heap.get i:=by
 simp only[yg,oN,n_,List.getElem?_map]
def yx(n:Nat)(β β1:Env):Env
 | .ofNat i=>if i<n then β (i:Int)else β1 ((i-n:Nat):Int)
 | .negSucc k=>β1 (.negSucc k)
theorem Zf{K:Prot}{β:Env}{st:St}{w:World}(h:Rel P K β st w){src:List Nat}(hnd:src.Nodup)(hcells:∀ b∈src,∃ x,st.heap.get b=some x/\JQ x=true) :
  ∃ K':Prot,(∀ k,K k->K' k)/\(∀ i,¬K'.id i)/\Rel P K' (iR 0 src β) (ag (src.map fun b=>lS true (bQ 0 src) (st.heap.get b))) w/\
   ∀ (β1:Env) (bs1:List Blk) (w1:World),leN 0 (iR 0 src β) β1->Rel P K' β1 (ag bs1) w1->Bel K' w w1->
    β.le (yx st.next β β1)/\Rel P K (yx st.next β β1) (yg ⟨r_ src st.heap,st.next⟩ bs1) w1/\RenOk true (dQ st.next) β1 (yx st.next β β1):=by
 let st0:St:=⟨Jj (src.map fun b=>(b,(st.heap.get b).getD .dead)) .leaf,st.next⟩
 have h0:∀ i,st0.heap.get i=if i∈src then st.heap.get i else none:=by
  intro i;show(Jj _ .leaf).get i=_;rw[Gn];rcases zY (src.map fun b=>(b,(st.heap.get b).getD .dead)) i ((Trie.leaf:Trie Blk).get i)with⟨n,e⟩ | ⟨n,b',hb',e⟩
  ·rw[e];have:i∉src:=fun hi=>n (by simp only[List.map_map,vX]; exact⟨i,hi,rfl⟩);rw[if_neg this]; rfl
  ·rw[e];obtain⟨j,hj,hje⟩:=vX.1 hb';simp only[dA]at hje;obtain⟨rfl,rfl⟩:=hje;obtain⟨x,hc,hcm⟩:=hcells j hj;rw[if_pos hj,hc]; rfl
 obtain⟨K1,k1,k2,k3,k4⟩:=h.part (st0:=st0) rfl (fun i b hi _=>by
  rw[h0]at hi;split at hi
  ·exact hi
  ·cases hi) (fun i o hi=>by
  rw[h0]at hi;split at hi
  ·rename_i hm;obtain⟨x,hc,hcm⟩:=hcells i hm;rw[hc]at hi; cases hi; cases hcm
  ·cases hi)
 let K':Prot:=⟨K1.blk,fun _=>False,K1.nofz,K1.obs,K1.sub⟩
 have r0:Rel P K' β st0 w:=⟨k3.base,k3.dom,k3.blk,k3.inj,fun i hi=>hi.elim,k3.nofz,k3.frz,k3.objs⟩
 have hmid:=lC (N:=0) (src:=src) r0 (fun i hi=>hi.elim) (ig _) hnd (fun b hb=>by
  obtain⟨x,hc,hcm⟩:=hcells b hb
  exact⟨x,by rw[h0,if_pos hb]; exact hc,hcm⟩)
 have hms:(src.map fun b=>lS true (bQ 0 src) (st0.heap.get b))=src.map fun b=>lS true (bQ 0 src) (st.heap.get b):=by
  apply BX;intro b hb;rw[h0,if_pos hb]
 refine⟨K',k1,fun i hi=>hi,by rw[<-hms]; exact hmid,fun β1 bs1 w1 hle h1 hb=>?_⟩;have hneg:∀ k l,β (Int.negSucc k)=some l->β1 (Int.negSucc k)=some l:=fun k l hk=>hle (Int.negSucc k) l (Int.negSucc_lt_zero k) hk;have hple:β.le (yx st.next β β1):=by
  intro i l hi;cases i with
  |negSucc k=>exact hneg k l hi
  |ofNat i=>
   have:=(h.dom i l hi).1;show(if i<st.next then β (i:Int)else _)=_;rw[if_pos this]; exact hi
 have hren:RenOk true (dQ st.next) β1 (yx st.next β β1):=by
  refine⟨fun b b' l hb hl=>?_,fun _ k l hk=>hk⟩;obtain rfl:=aC hb;show(if st.next+b<st.next then β ((st.next+b:Nat):Int)else β1 ((st.next+b-st.next:Nat):Int))=_;rw[if_neg (by omega),show st.next+b-st.next=b by omega]; exact hl
 have hbig:∀ i,st.next<=i->yx st.next β β1 (i:Int)=β1 ((i-st.next:Nat):Int):=by
  intro i hi;show(if i<st.next then β (i:Int)else β1 ((i-st.next:Nat):Int))=_;rw[if_neg (by omega)]
 have hlone:∀ i b,(yg ⟨.leaf,st.next⟩ bs1).heap.get i=some b->st.next<=i/\∃ b0,(ag bs1).heap.get (i-st.next)=some b0/\b=rH (dQ st.next) b0:=by
  intro i b hi;rw[uC]at hi;split at hi
  ·rename_i hr;cases hx:bs1[i-st.next]? with
   |none=>rw[hx]at hi; cases hi
   |some b0=>
    rw[hx]at hi;exact⟨hr.1,b0,by rw[yz]; exact hx,(aC hi).symm⟩
  ·cases hi
 have rl:Rel P K1 (yx st.next β β1) (yg ⟨.leaf,st.next⟩ bs1) w1:=by
  refine⟨h1.base,fun i l hi=>?_,fun i b hi hl=>?_,fun i j bi bj li lj hi hbi hj hbj hli hlj v1 v2 e=>?_,fun i hi=>?_,fun k l hk=>h1.nofz k l hk,fun k l hk=>?_,h1.objs.1.neg fun _ _ h=>h,fun _ _=>False,fun i o hi=>?_,fun i k hk=>hk.elim⟩
  ·by_cases hin:i<st.next
   ·have hi':β (i:Int)=some l:=by
     change (if i<st.next then β (i:Int)else _)=some l at hi;rwa [if_pos hin]at hi
    obtain⟨a1,a2⟩:=h.dom i l hi';exact⟨m_ a1 (qL _ _),fun hv=>m_ (a2 hv) hb.size⟩
   ·rw[hbig i (by omega)]at hi;obtain⟨a1,a2⟩:=h1.dom _ l hi;have:(ag bs1).next=bs1.length:=rfl
    exact⟨by show i<st.next+bs1.length; omega,a2⟩
  ·obtain⟨a1,b0,a2,rfl⟩:=hlone i b hi;obtain⟨l,c1,c2,c3⟩:=h1.blk _ b0 a2 (oL hl);exact⟨l,by rw[hbig i a1]; exact c1,c2,O6 hren c3⟩
  ·obtain⟨a1,b0,a2,rfl⟩:=hlone i bi hi;obtain⟨c1,d0,c2,rfl⟩:=hlone j bj hj;rw[hbig i a1]at hli;rw[hbig j c1]at hlj;have:=h1.inj _ _ b0 d0 li lj a2 (oL hbi) c2 (oL hbj) hli hlj v1 v2 e;omega
  ·rw[k2]at hi;obtain⟨a1,a2⟩:=h.res i hi;refine⟨m_ a1 (qL _ _),?_⟩;show(if i<st.next then β (i:Int)else _)=_;rw[if_pos a1]; exact a2
  ·obtain⟨f1,f2,f3⟩:=h1.frz k l hk;refine⟨f1,f2,fun j bj lj hj hbj hlj hv=>?_⟩;obtain⟨c1,d0,c2,rfl⟩:=hlone j bj hj;rw[hbig j c1]at hlj;exact f3 _ d0 lj c2 (oL hbj) hlj hv
  ·obtain⟨_,b0,_,e⟩:=hlone i _ hi;exact(BZ e.symm).elim
 refine⟨hple,k4 _ (yg ⟨.leaf,st.next⟩ bs1) _ w1 hple rl ⟨hb.os,hb.tape,hb.output,hb.size,hb.block⟩ (qL _ _) (fun i o hi=>?_) rfl (fun i b hi hl=>?_) (fun i o hi hdead=>?_),hren⟩
 ·obtain⟨_,b0,_,e⟩:=hlone i _ hi;exact(BZ e.symm).elim
 ·rw[uC]at hi;split at hi
  ·rename_i hr;refine Or.inl ?_;rw[uC,if_pos hr]; exact hi
  ·rename_i hr;have hi:(r_ src st.heap).get i=some b:=hi;rw[vW]at hi;split at hi
   ·obtain rfl:=aC hi; cases hl
   ·rename_i hns;refine Or.inr ⟨fun c hc=>?_,fun c hc=>?_,hi⟩
    ·rw[uC,if_neg hr]at hc; cases hc
    ·rw[h0,if_neg hns]at hc; cases hc
 ·obtain⟨l,hl,_⟩:=h.blk i _ hi rfl;have hlt:=(h.dom i l hl).1;rw[uC,if_neg (by show ¬(st.next<=i/\_); omega)];show(r_ src st.heap).get i=_;rw[vW,if_neg]
  ·exact hi
  ·intro hm;obtain⟨x,hc,hcm⟩:=hcells i hm;rw[hi]at hc; cases hc; cases hcm
theorem Kw{g:Value->Value}:∀ (ts:List Tmp) (vs:List Value) (s s':Trie Value),(∀ i,(s'.get i).getD undef=g ((s.get i).getD undef))->∀ i,((og ts (vs.map g) s').get i).getD undef=g (((og ts vs s).get i).getD undef)
 |[],[],s,s',h,i=>by simpa [og]using h i
 |[],v::vs,s,s',h,i=>by simpa [og]using h i
 |t::ts,[],s,s',h,i=>by simpa [og]using h i
 |t::ts,v::vs,s,s',h,i=>by
  simp only[ji,og];refine Kw ts vs _ _ (fun j=>?_) i;rw[dP,dP,Trie.get_set,Trie.get_set];by_cases hj:j=t
  ·rw[if_pos hj,if_pos hj]; rfl
  ·rw[if_neg hj,if_neg hj]; exact h j
theorem J6{g:Value->Value}(h1:g uG=uG)(h2:g undef=undef)(nt:Nat)(L:List Tmp)(vs:List Value)(i:Nat):((mkS nt L (vs.map g)).get i).getD undef=g (((mkS nt L vs).get i).getD undef):=by
 unfold mkS;refine Kw L vs _ _ (fun j=>?_) i;rw[oN];split
 ·rename_i hj;simp only[Ew]at hj;rw[List.getElem?_replicate,if_pos (by omega)];exact h1.symm
 ·show undef=g undef;exact h2.symm
theorem D9{z:Bool}{ρ:Nat->Option Nat}:eP z ρ undef=undef:=by
 unfold undef; rfl
def V9(H:Head)(s:Trie Value)(st:St):Option (List Nat×St×List Value×List Blk):=
 match Bh H.M s st with
 |none=>none
 |some (src,s,st)=>match jm 0 src (fun i=>dW (path i) st.heap) src with
  |none=>none
  |some ms=>some (src,st,H.L.map (fun t=>eP true (bQ 0 src) (nP s t)),ms)
def TP(H:Head)(R:lU)(f:Fr)(st:St):Option (DT (Ex×Trie Value×St)):=
 match f.defers,f.roundOf,Nat.beq f.ntmps H.nt with
 |[],none,true=>match V9 H f.slots st with
  |some r=>match R r.2.2.1 r.2.2.2 with
   |some t=>some (t.map fun x=>(x.1,mkS H.nt H.L (x.2.1.map (eP true (dQ r.2.1.next))),yg ⟨r_ r.1 r.2.1.heap,r.2.1.next⟩ x.2.2))
   |none=>none
  |none=>none
 |_,_,_=>none
def Bv(fid id:Nat)(H:Head)(R:lU)(ct:Ct):Ct where
 call:=ct.call
 loop:=fun fid' id' f st=>match and (Nat.beq fid' fid) (Nat.beq id' id)with
  |true=>TP H R f st
  |false=>ct.loop fid' id' f st
 op:=ct.op
theorem FO{fid id:Nat}{B:Code}{H:Head}{R:lU}(hN0:H.N=0)(hct:CtOk P ct)(h:LoopOk P fid id B H R):CtOk P (Bv fid id H R ct) where
 opc:=hct.opc
 op:=hct.op
 call:=hct.call
 loop:=by
  intro K fid' id' c f st e s' st' hl hocc β w fr cs k ht hfid hf hr;simp only[Bv]at hl;split at hl
  ·rename_i hb;simp only[bV]at hb;obtain rfl:=dF hb.1;obtain rfl:=dF hb.2;obtain rfl:=h.occ c hocc;unfold TP at hl;split at hl
   ·rename_i hd hro hnt;have hnt:=dF hnt;split at hl
    ·rename_i r hc;obtain⟨src,st1,vs,bs⟩:=r;split at hl
     ·rename_i t hR;simp only[jf]at hl;obtain⟨⟨e1,vs1,bs1⟩,hev,heq⟩:=DT.map_eval hl;simp only[dA]at heq;obtain⟨rfl,rfl,rfl⟩:=heq;have hL:∀ t∈H.L,t<H.nt:=fun t ht=>by
       have:=h.ok;unfold okL at this;exact dR (jA.1 this t ht)
      unfold V9 at hc;split at hc
      ·cases hc
      ·rename_i src0 s0 st0 hv;split at hc
       ·cases hc
       ·rename_i ms hm;simp only[dD,dA]at hc;obtain⟨rfl,rfl,rfl,rfl⟩:=hc;obtain⟨β0,b1,b2,b3,b4⟩:=zo (nt:=H.nt) (tmps:=fr.tmps) H.M f.slots st _ _ _ hv hr (by rw[<-hnt]; exact hf.slots);obtain⟨m1,m2,m3⟩:=jr hm;simp only[dL]at m2 m3;obtain⟨K',k1,k2,k3,k4⟩:=Zf b2 m1 m2;have hren:RenOk true (bQ 0 src0) β0 (iR 0 src0 β0):=by
         refine⟨fun b b' l hb hl=>?_,fun _ k l h=>h⟩;unfold bQ at hb;split at hb
         ·rename_i j hj;obtain rfl:=aC hb;obtain⟨k,rfl,hk⟩:=tN _ _ _ _ hj;show(if 0+k<0 then β0 ((0+k:Nat):Int)else match src0[0+k-0]? with | some b=>β0 (b:Int) | none=>none)=_;rw[if_neg (by omega),show 0+k-0=k by omega,hk]; exact hl
         ·split at hb
          ·rename_i hle;exact absurd (dR hle) (by omega)
          ·cases hb
        have hslots:jh (iR 0 src0 β0) (mkS H.nt H.L (H.L.map fun t=>eP true (bQ 0 src0) (nP s0 t))) H.nt fr.tmps:=by
         refine⟨b3.1,fun i=>?_⟩;unfold mkS;rw[Dw _ _ _ (fun t=>eP true (bQ 0 src0) (nP s0 t)) rfl];split
         ·have:=gU hren _ _ (b3.2 i);simpa [oU]using this
         ·rw[oN];split
          ·rename_i hj;simp only[Ew]at hj;rw[List.getElem?_replicate,if_pos (by omega)];exact trivial
          ·rename_i hj;simp only[Ew]at hj;have hge:fr.tmps.size<=i:=by rw[b3.1]; omega
           have:fr.tmps.getD i undef=undef:=by simp[Array.getD,rO.2 hge]
           rw[this];exact VR.flat_refl undef rfl
        have s1:=E5 (P:=P) (cs:=cs) (w:=w) hf.mode ht;have s2:=IQ (P:=P) (fr:={ fr with todo:= .code (.loop B):: .inBlock id'::k }) (cs:=cs) (w:=w) hf.mode rfl;have hdf:fr.defers=[]:=by have:=hf.defers; rw[hd]at this; exact this
        have hrf:fr.roundOf=none:=by have:=hf.round; rw[hro]at this; exact this
        obtain⟨β1,fr1,w1,a1,a2,a3,a4,a5,a6,a7,a8,a9⟩:=h.run _ _ t hR _ _ _ hev K' (iR 0 src0 β0) w { fr with todo:= .code B:: .inLoop B:: .inBlock id'::k } cs k (fun i hi=>(k2 i hi).elim) rfl hfid ⟨hslots,hdf,hrf,hf.mode⟩ (by rw[m3]; exact k3);rw[hN0]at a2;obtain⟨c1,c2,c3⟩:=k4 β1 bs1 w1 a2 a3 a4;refine⟨_,fr1,w1, .head s1 (.head s2 a1),b1.trans c1,c2,a4.mono k1,⟨⟨by rw[a5.slots.1]; exact hnt.symm,fun i=>?_⟩,?_,?_,a5.mode⟩,a6,a7,a8,a9⟩
        ·show VR _ (((mkS H.nt H.L (vs1.map (eP true (dQ st0.next)))).get i).getD undef) _;rw[J6 rfl D9];exact gU c3 _ _ (a5.slots.2 i)
        ·show nZ _ f.defers _;rw[hd]; exact a5.defers
        ·show qy _ f.roundOf _;rw[hro]; exact a5.round
     ·cases hl
    ·cases hl
   ·cases hl
  ·exact hct.loop K fid' id' c f st e s' st' hl hocc β w fr cs k ht hfid hf hr
end
section
variable{P:Program}{ct:Ct}
def aT:List Nat->Nat->Nat->Option Nat
 |[],n,j=>some (n+j)
 |b::l,n,j=>match j with
  |0=>some b
  |j+1=>aT l n j
theorem Gu:∀ (l:List Nat) (n j:Nat),j<l.length->aT l n j=l[j]?
 |[],n,j,h=>by simp at h
 |b::l,n,0,h=>rfl
 |b::l,n,j+1,h=>by simpa [aT]using Gu l n j (by simpa using h)
theorem F9:∀ (l:List Nat) (n j:Nat),l.length<=j->aT l n j=some (n+(j-l.length))
 |[],n,j,h=>rfl
 |b::l,n,0,h=>by simp at h
 |b::l,n,j+1,h=>by
  have:=F9 l n j (by simpa using h);simpa [aT,Nat.add_sub_add_right]using this
def wP(ρ:Nat->Option Nat)(src:List Nat):List Blk->Nat->Trie Blk->Trie Blk:=
 @List.rec Nat (fun _=>List Blk->Nat->Trie Blk->Trie Blk) (fun bs n t=>zX (bs.map (rH ρ)) n t)
  (fun b _ ih bs n t=>match bs with
   |x::bs=>ih bs n (dO (path b) t (rH ρ x))
   |[]=>t) src
def agf(src:List Nat)(st:St)(bs:List Blk):St:=⟨wP (aT src st.next) src bs st.next st.heap,st.next+(bs.length-src.length)⟩
theorem yc{ρ:Nat->Option Nat}:∀ (src:List Nat) (bs:List Blk) (n:Nat) (t:Trie Blk) (i:Nat),src.Nodup->src.length<=bs.length->(∀ b∈src,b<n)->
  (∃ j:Nat,src[j]? = some i/\(wP ρ src bs n t).get i=(bs[j]?).map (rH ρ))\/(i∉src/\(wP ρ src bs n t).get i=if n<=i/\i<n+(bs.length-src.length)then(bs[i-n+src.length]?).map (rH ρ)else t.get i)
 |[],bs,n,t,i,_,_,_=>by
  refine Or.inr ⟨by simp,?_⟩;show(zX (bs.map (rH ρ)) n t).get i=_;rw[oN];simp only[n_,List.getElem?_map,lL,wu,pX]
 |b::l,[],n,t,i,_,h,_=>by simp at h
 |b::l,x::bs,n,t,i,hnd,h,hlt=>by
  obtain⟨hb,hnd⟩:=List.nodup_cons.1 hnd;have e:wP ρ (b::l) (x::bs) n t=wP ρ l bs n (dO (path b) t (rH ρ x)):=rfl;rw[e];rcases yc l bs n (dO (path b) t (rH ρ x)) i hnd (by simpa using h) (fun c hc=>hlt c (ni _ hc))with⟨j,h1,h2⟩ | ⟨h1,h2⟩
  ·exact Or.inl ⟨j+1,by simpa using h1,by simpa using h2⟩
  ·by_cases hib:i=b
   ·subst hib;refine Or.inl ⟨0,rfl,?_⟩;have:=hlt i (by simp);rw[h2,if_neg (by omega),dP,Trie.get_set,if_pos rfl]; rfl
   ·refine Or.inr ⟨by simp only[jY,not_or]; exact⟨hib,h1⟩,?_⟩;rw[h2,dP,Trie.get_set,if_neg hib];simp only[jH,Nat.add_sub_add_right];rw[show i-n+(l.length+1)=(i-n+l.length)+1 by omega,List.getElem?_cons_succ]
theorem Lc:∀ {l:List Nat} {i j a:Nat},l.Nodup->l[i]? = some a->l[j]? = some a->i=j
 |[],i,j,a,_,h,_=>by simp at h
 |x::l,0,0,a,_,_,_=>rfl
 |x::l,0,j+1,a,hnd,h1,h2=>by
  have h1:x=a:=by simpa using h1
  subst h1;exact absurd (pW (by simpa using h2)) (List.nodup_cons.1 hnd).1
 |x::l,i+1,0,a,hnd,h1,h2=>by
  have h2:x=a:=by simpa using h2
  subst h2;exact absurd (pW (by simpa using h1)) (List.nodup_cons.1 hnd).1
 |x::l,i+1,j+1,a,hnd,h1,h2=>by
  exact congrArg (·+1) (Lc (List.nodup_cons.1 hnd).2 (show l[i]? = some a by simpa using h1) (show l[j]? = some a by simpa using h2))
def vO(src:List Nat)(n:Nat)(β β1:Env):Env
 | .ofNat i=>if i<n then β (i:Int)else β1 ((i-n+src.length:Nat):Int)
 | .negSucc k=>β1 (.negSucc k)
abbrev iC:=List Value->List Blk->Option (DT (Value×List Blk))
theorem qE(src:List Nat)(β:Env):RenOk true (bQ 0 src) β (iR 0 src β):=by
 refine⟨fun b b' l hb hl=>?_,fun _ k l h=>h⟩;unfold bQ at hb;split at hb
 ·rename_i j hj;obtain rfl:=aC hb;obtain⟨k,rfl,hk⟩:=tN _ _ _ _ hj;show(if 0+k<0 then β ((0+k:Nat):Int)else match src[0+k-0]? with | some b=>β (b:Int) | none=>none)=_;rw[if_neg (by omega),show 0+k-0=k by omega,hk]; exact hl
 ·split at hb
  ·rename_i hle;exact absurd (dR hle) (by omega)
  ·cases hb
end
end Go.VS
end

noncomputable section
namespace Go.VS

section
variable{P:Program}{K:Prot}{β:Env}{st:St}{w:World}
theorem XZ(hr:Rel P K β st w){a:Addr}{c:List Value}{e:TypeId}{len:Nat}{v':Value}(hg:st.heap.get a.block=some (.cells c e false))(ho:a.off<=c.length)(hv:VR β (.slice (some a) len unk) v') :
  ∃ β',β.le β'/\Rel P K β' (newRow (kill st a.block) (c.drop a.off) e false).2 w/\VR β' (.slice (some (newRow (kill st a.block) (c.drop a.off) e false).1) len unk) v':=by
 simp only[VR]at hv;obtain⟨hs,l,hl,hsl⟩:=hv;obtain⟨l',k1,hbk⟩:=hr.get_cells hg;obtain rfl:l'=l:=by rw[k1]at hl; exact aC hl
 rcases hbk with⟨hvt,hc,_⟩ | ⟨hvt,k2,cc,f,k3,k4,k5,k6,k7,k8,k9⟩
 ·subst hc;have hk:=hr.kill a.block (by intro o e; rw[hg]at e; cases e);have hv:=hk.virt e 0 0;refine⟨_,hk.le_put _,by rw[List.drop_nil]; exact hv,⟨rfl,_,dK _ _ _,?_⟩⟩;unfold dI at hsl ⊢;rw[if_pos hvt]at hsl;rw[if_pos rfl];exact⟨hsl.1,rfl,Or.inr rfl,hsl.2.2.2⟩
 ·unfold dI at hsl;rw[if_neg (by simp[hvt]),if_neg (by simp),if_pos rfl]at hsl;refine⟨β.put st.next ⟨l'.blk,l'.base+a.off,l'.total-a.off,l'.esize,none,false⟩,hr.le_put _,hr.move hg rfl rfl rfl k1 hvt rfl rfl rfl (fun _ _=>rfl) ?_,⟨rfl,_,dK _ _ _,?_⟩⟩
  ·refine iq.mono (hr.le_put _) (Or.inr ⟨rfl,cc,f,k3,k4,by show l'.base+a.off+(l'.total-a.off)<=_; omega,by rw[gZ]; show _<=l'.total-a.off; omega,fun h=>(by cases h),?_,k9.1,fun _=>by have:=k9.2 rfl; show l'.total-a.off<9223372036854775808*l'.esize; omega⟩);have hh:=k8.drop a.off;rw[zM,vH]at hh;rw[gZ];exact hh
  ·unfold dI;rw[if_neg (by simp),if_neg (by simp),if_pos rfl];refine⟨?_,ig _⟩;rw[hsl.1];show _=Value.slice (some ⟨l'.blk,l'.base+a.off+0,none⟩) len ((l'.total-a.off-0) / l'.esize)
   rfl
def kN{α:Type}(b:Bool)(t:DT α):DT α:= .ite b t .fail
theorem iM{α:Type}{b:Bool}{t:DT α}{r:α}(h:(kN b t).eval=some r):b=true/\t.eval=some r:=by
 cases b with
 |true=>exact⟨rfl,h⟩
 |false=>cases h
def VC{α:Type}(str:Bool)(size:Nat)(st:St)(x:Value)(k:Nat->List Value->DT α):DT α:=match str with
 |false=>match x with
  | .slice (some a) n _=>match a.spot,dW (path a.block) st.heap with
   |none,some (.cells c _ _)=>kN (Nat.ble (Nat.add a.off (Nat.mul n size)) c.length) (k n (takeC (Nat.mul n size) (aO a.off c)))
   |_,_=> .fail
  | .slice none n _=>kN (Nat.beq n 0) (k 0 [])
  | .iface t v=>match kL (.iface t v)with
   |some z=>kN (Nat.beq z.sz size) (k z.n z.cells)
   |none=> .fail
  |_=> .fail
 |true=>match x with
  | .string b=>kN (Nat.beq size 1) (k b.size (byteCells b))
  |_=> .fail
theorem UC{α:Type}{str:Bool}{size:Nat}{x:Value}{k:Nat->List Value->DT α}{r:α}{xt:TypeDesc}(hxt:(match xt with | .slice _=>some false | .string=>some true | _=>none)=some str)(h:(VC str size st x k).eval=some r) :
  ∃ n new,lD st size xt x=some (n,new)/\(k n new).eval=some r:=by
 unfold VC at h;split at h
 ·have hx:∃ e,xt = .slice e:=by
   cases xt<;>simp at hxt ⊢
  obtain⟨e,rfl⟩:=hx;split at h
  ·rename_i a n cap;split at h
   ·rename_i c e' ex hs hg;rw[dL]at hg;obtain⟨hle,h3⟩:=iM h;have hle:a.off+n*size<=c.length:=dR hle;exact⟨n,(c.drop a.off).take (n*size),by simp only[lD,cellsAt,hs,hg,vM,iD,if_false,hle,if_true],h3⟩
   ·cases h
  ·rename_i n cap;obtain⟨hc,h⟩:=iM h;exact⟨_,_,by simp only[lD,dF hc,if_true],h⟩
  ·rename_i t v;split at h
   ·rename_i z hz;obtain⟨hc,h⟩:=iM h;exact⟨_,_,by simp only[lD,hz,dF hc,if_true],h⟩
   ·cases h
  ·cases h
 ·have hx:xt = .string:=by
   cases xt<;>simp at hxt ⊢
  subst hx;split at h
  ·rename_i b;obtain⟨hc,h⟩:=iM h;exact⟨_,_,by simp only[lD,dF hc,if_true],h⟩
  ·cases h
def jC(off:Nat)(c:List Value):List Value:=match off with
 |0=>c
 |k+1=>aO (k+1) c
theorem aeq(off:Nat)(c:List Value):jC off c=c.drop off:=by cases off<;>rfl
def Zu(e:TypeId)(size n:Nat)(new:List Value)(st:St)(s:Value):Option (DT (Value×St)):=match s with
 | .slice none len cap=>some (kN (and (Nat.beq len 0) (and (Nat.beq cap 0) (Nat.ble n big))) (.leaf (.slice (some ⟨st.next,0,none⟩) n unk,⟨dO (path st.next) st.heap (.cells new e false),Nat.succ st.next⟩)))
 | .slice (some a) len cap=>match Nat.beq cap unk with
  |true=>match a.spot,dW (path a.block) st.heap with
   |none,some (.cells c e' ex)=>some (kN (and (not ex) (Nat.beq e' e)) (kN (Nat.ble (Nat.add len n) big) (kN (Nat.beq (Nat.add a.off (Nat.mul len size)) c.length)
     (.leaf (.slice (some ⟨st.next,0,none⟩) (Nat.add len n) unk,⟨dO (path st.next) (dO (path a.block) st.heap .dead) (.cells (List.append (jC a.off c) new) e false),Nat.succ st.next⟩)))))
   |_,_=>none
  |false=>none
 |_=>none
def qg(P:Program)(o:Oper)(ρ:Operand->Value)(st:St):Option (DT (Value×St)):=match o.op with
 | .call c=>match c.callee,c.args.toList,c.argTypes.toList with
  | .builtin .append,[x,y],[tx,ty]=>match OJ P tx ty with
   |some r=>match Zu r.1 r.2.1 0 [] st (ρ x)with
    |some _=>some (VC r.2.2 r.2.1 st (ρ y) fun n new=>match Zu r.1 r.2.1 n new st (ρ x)with
     |some t=>kN (new.all oneCell) t
     |none=> .fail)
    |none=>none
   |none=>none
  |_,_,_=>none
 |_=>none
theorem Nu(hN:noNum P=true)(o:Oper)(ρ:Operand->Value)(st:St)(v:Value)(st':St)(h:(qg P o ρ st).bind DT.eval=some (v,st')) :
  gW o.op=false/\∀ (K:Prot) (β:Env) (w:World) (ρ':Operand->Value),(∀ x,VR β (ρ x) (ρ' x))->Rel P K β st w->cO P K β st w ((execOp ρ' o).run P w) (.val v st'):=by
 obtain⟨dst,op,type,pos,after,guard⟩:=o;unfold qg at h;simp only at h;split at h
 ·rename_i c;refine⟨rfl,fun K β w ρ' hρ hr=>?_⟩;split at h
  ·rename_i x y tx ty hc1 hc2 hc3;split at h
   ·rename_i rr hk;obtain⟨e,size,str⟩:=rr;simp only at h;split at h
    ·simp only[jf]at h;unfold OJ at hk;simp only[eu,mG,yH]at hk;split at hk
     ·rename_i e' xt hs hx;split at hk
      ·rename_i str' ei z hxt hi hz;split at hk
       ·cases hk
       ·rename_i hcond;simp only[dD,dA]at hk;obtain⟨rfl,rfl,rfl⟩:=hk;have ht0:c.argTypes[0]? = some tx:=by rw[<-pY,hc3]; rfl
        have ht1:c.argTypes[1]? = some ty:=by rw[<-pY,hc3]; rfl
        have hev:aJ P ρ ⟨dst, .call c,type,pos,after,guard⟩ st=match nK P st tx ty (ρ x) (ρ y)with
         |some (v,st)=>some (.val v st)
         |none=>none:=by
         simp only[aJ,hc1,hc2,ji,lK,jc,ht0,ht1];cases nK P st tx ty (ρ x) (ρ y)<;>rfl
        have happ:nK P st tx ty (ρ x) (ρ y)=match lD st ei.size xt (ρ y)with
          |some (n,new)=>if new.all oneCell then gz P st e' ei.size n new (ρ x)else none
          |none=>none:=by
         simp only[nK,hs,hx,hi,hz];rw[if_neg hcond];cases lD st ei.size xt (ρ y)<;>rfl
        obtain⟨n,new,h1,h2⟩:=UC hxt h;split at h2
        ·rename_i t happT;obtain⟨hone,h3⟩:=iM h2;obtain⟨new',hsrc,hnew⟩:=Ib hr (hρ y) hx h1 hone;have hlen:new.length=n*ei.size:=by rw[hnew.length,hsrc.newsLen]
         have hev2:aJ P ρ ⟨dst, .call c,type,pos,after,guard⟩ st=match gz P st e' ei.size n new (ρ x)with
           |some (v,st)=>some (.val v st)
           |none=>none:=by
          rw[hev,happ,h1];simp only[hone,if_true]
         unfold Zu at happT;split at happT
         ·rename_i len cap hsx;obtain rfl:=aC happT;obtain⟨hc,h3⟩:=iM h3;simp only[DT.eval,dD,dA]at h3;obtain⟨rfl,rfl⟩:=h3;simp only[bV]at hc;have c1:=dF hc.1;have c2:=dF hc.2.1;have c3:=dR hc.2.2;subst c1 c2;have hst:(⟨dO (path st.next) st.heap (.cells new e' false),Nat.succ st.next⟩:St)=(newRow st new e' false).2:=by rw[dP]; rfl
          rw[hst];by_cases hn:n=0
          ·subst hn;have:new=[]:=L_ (by omega);subst this;have hap:gz P st e' ei.size 0 [] (ρ x)=some (.slice none 0 0,st):=by
            rw[hsx]; simp only[gz];rw[if_neg (by simp)]; rfl
           rw[hap]at hev2;obtain⟨β',w',v',r1,r2,r3,r4,r5⟩:=uK hN hr hρ hev2;refine⟨_,w',v',r1,r2.trans (r3.le_put _),r3.virt e' 0 0,⟨rfl,_,dK _ _ _,?_⟩,r5⟩;unfold dI;rw[if_pos rfl];exact⟨rfl,rfl,Or.inr rfl,r4⟩
          ·have hap:gz P st e' ei.size n new (ρ x)=some (.slice (some (newRow st new e' false).1) n unk,(newRow st new e' false).2):=by
            rw[hsx]; simp only[gz];rw[if_neg (by simp; omega),if_neg hn]
           rw[hap]at hev2;exact uK hN hr hρ hev2
         ·rename_i a len cap hsx;split at happT
          ·rename_i hcap;have hcap:=dF hcap;subst hcap;split at happT
           ·rename_i c0 e0 ex hsp hg;rw[dL]at hg;obtain rfl:=aC happT;obtain⟨d1,h3⟩:=iM h3;obtain⟨d2,h3⟩:=iM h3;obtain⟨d3,h3⟩:=iM h3;simp only[DT.eval,dD,dA]at h3;obtain⟨rfl,rfl⟩:=h3;simp only[bV,qP]at d1;obtain⟨rfl,d1⟩:=d1;have d1:=dF d1;have d2:len+n<=big:=dR d2;have d3:a.off+len*ei.size=c0.length:=dF d3;subst d1;have hst:(⟨dO (path st.next) (dO (path a.block) st.heap .dead) (.cells (List.append (jC a.off c0) new) e0 false),Nat.succ st.next⟩:St)=(newRow (kill st a.block) (c0.drop a.off++new) e0 false).2:=by
             rw[dP,dP,aeq]; rfl
            have htk:(c0.drop a.off).take (len*ei.size)=c0.drop a.off:=oC (by rw[gZ]; omega);rw[hst];by_cases hn:n=0
            ·subst hn;have:new=[]:=L_ (by omega);subst this;have hap:gz P st e0 ei.size 0 [] (ρ x)=some (.slice (some a) len unk,st):=by
              rw[hsx]; simp only[gz];rw[if_neg (by omega),if_neg (by omega),hg];simp only;rw[if_neg (by simp[hsp]; omega),if_pos trivial,if_pos (by omega)]
             rw[hap]at hev2;obtain⟨β',w',v',r1,r2,r3,r4,r5⟩:=uK hN hr hρ hev2;obtain⟨β2,q1,q2,q3⟩:=XZ r3 hg (by omega) r4;rw[gG];exact⟨β2,w',v',r1,r2.trans q1,q2,q3,r5⟩
            ·have hap:gz P st e0 ei.size n new (ρ x)=some (.slice (some (newRow (kill st a.block) (c0.drop a.off++new) e0 false).1) (len+n) unk,(newRow (kill st a.block) (c0.drop a.off++new) e0 false).2):=by
              rw[hsx]; simp only[gz];rw[if_neg (by omega),if_neg (by omega),hg];simp only;rw[if_neg (by simp[hsp]; omega),if_neg hn,if_pos (by rw[Nat.sub_self,pX]; exact d3),htk]
             rw[hap]at hev2;exact uK hN hr hρ hev2
           ·cases happT
          ·cases happT
         ·cases happT
        ·cases h2
      ·cases hk
     ·cases hk
    ·cases h
   ·cases h
  ·cases h
 ·cases h
theorem P7(o:Oper)(ρ ρ':Operand->Value)(st:St)(h:∀ x∈o.op.operands,ρ x=ρ' x):qg P o ρ st=qg P o ρ' st:=by
 obtain⟨dst,op,type,pos,after,guard⟩:=o;cases op<;>first | rfl | skip
 rename_i c;have hargs:∀ x∈c.args.toList,ρ x=ρ' x:=fun x hx=>h x (by simp[Op.operands,Call.operands]; exact(by first | exact Or.inr (by simpa using hx) | exact Or.inl (by simpa using hx)));unfold qg;simp only;split
 ·rename_i x y tx ty h1 h2 h3;rw[h2]at hargs;rw[hargs x (by simp),hargs y (by simp)]
 ·rfl
end
end Go.VS
end

noncomputable section
namespace Go.VS.Tryz
open Go.VS
set_option maxRecDepth 1000000
abbrev P:Program:=Go.Proofs.Tryz.prog
abbrev E:Eng:=agE P
theorem bK:VS.noNum P=true:=by kernel_rfl
theorem dU(ct:Ct):EngOk P ct E:=aeE P ct
theorem H5{ct:Ct}(hct:CtOk P ct){g n:Nat}{R:lT}(h:∀ args t,R args=some t->∀ v bs,t.eval=some (v,bs)->mQ P E ct n g args=some (v,ag bs)):CallOkR P g R:=
 ⟨fun args t hR v bs hev=>CR.of (dU ct) bK hct (h args t hR v bs hev)⟩
def sl(b n:Nat):Value:= .slice (some ⟨b,0,none⟩) n unk
def atB(v:Value)(b n:Nat):Bool:=match v with
 | .slice (some a) n' c=>a.block == b&&a.off == 0&&a.spot.isNone&&n' == n&&c == unk
 |_=>false
theorem agw{v:Value}{b n:Nat}(h:atB v b n=true):v=sl b n:=by
 unfold atB at h;split at h
 ·rename_i a n' c;simp only[bV,beq_iff_eq,Option.isNone_iff_eq_none]at h;obtain⟨⟨⟨⟨h1,h2⟩,h3⟩,h4⟩,h5⟩:=h;obtain⟨bb,oo,ss⟩:=a;simp only at h1 h2 h3;subst h1 h2 h3 h4 h5
  rfl
 ·cases h
theorem afT(b n:Nat):atB (sl b n) b n=true:=by simp[atB,sl]
theorem bu{x y:Res}:aj true x y=x:=rfl
theorem bg{x y:Res}:aj false x y=y:=rfl
theorem Ez{a b:Nat}:Nat.beq a b=true↔a=b:=by rw[Nat.beq_eq]
theorem YW(s:ByteArray):bz (.string s) (.string s)=true:=by simp[bz]
theorem Bq(k:IntKind)(n:Int):bz (.int k n) (.int k n)=true:=by simp[bz]
theorem vT(c:List Value):jC 0 c=c:=rfl
theorem jO(a b:List UInt8):List.append (bc a) (bc b)=bc (a++b):=(zk a b).symm
theorem O8:[Value.int .u8 (1:Int)]=bc [1]:=rfl
theorem I8:[Value.int .u8 (0:Int)]=bc [0]:=rfl
theorem size_eq(s:ByteArray):s.size=s.data.toList.length:=by rw[zx]; rfl
def io_(n:Int):Value:= .int .i64 n
def sl_(a n:Nat):Value:= .slice (some ⟨a,0,none⟩) n 18446744073709551616
def pt_(a:Nat):Value:= .pointer (some ⟨a,0,none⟩)
def lb_(f:Nat->Option Nat)(n k:Nat)(c:List Value)(t:Nat):Blk:=(Blk.cells (aG Bool.true f (takeC (Nat.mul n k) (aO 0 c))) t Bool.false)
def nb_(n k:Nat)(c:List Value)(x:Res):Res:=(ae (Nat.ble (Nat.add 0 (Nat.mul n k)) (List.length c)) x)
def fa_(n b:Nat)(c:List Value):Value:=(.iface 18446744073709551619 (.agg ⟨.slice none n b::c⟩))
def fb_(n b:Nat)(c:List Value):Value:=(.iface 18446744073709551617 (.agg ⟨.slice none n b::c⟩))
def fc_(n b:Nat)(c:List Value):Value:=(.iface 18446744073709551618 (.agg ⟨.slice none n b::c⟩))
def rn_:Nat->Nat->List Nat->List Nat
 |0,_,r=>r
 |n+1,a,r=>a::rn_ n (a+1) r
def rg_:List Nat->List Nat
 |a::n::r=>rn_ n a (rg_ r)
 |_=>[]
def ro_(l:List Nat):Nat->Option Nat:=bQ 0 (rg_ l)
def so_(p q a n:Nat):Blk:=(.cells [pt_ p,pt_ q,sl_ a n] 174 true)
def tb_(m:Nat):Blk:=(Blk.cells [(Value.map (Option.some m))] 98 Bool.true)
theorem bU{α:Type}{a b:List α}:(a++b).length=a.length+b.length:=bP
theorem bY{α:Type}{i:Nat}{l:List α}:(l.drop i).length=l.length-i:=gZ
theorem bZ{α:Type}{i:Nat}{l:List α}:(l.take i).length=min i l.length:=fH
theorem bT{α:Type}{a:α}:[a].length=1:=BD
theorem bW{x y:Nat}:Nat.add x y=x+y:=rfl
theorem agG{α:Type}{a:α}{b c:List α}:(a::b)++c=a::(b++c):=rfl
theorem afv{α:Type}{b:List α}:[]++b=b:=rfl
theorem agK{α:Type}{a b c:List α}:a++b++c=a++(b++c):=fG a b c
theorem ag1:Nat.beq 3 3=true:=rfl
theorem agZ:eQ (eQ false)=false:=rfl
theorem ag5:neI 0 0=false:=rfl
theorem af7:eQ true=false:=rfl
theorem afm:Nat.beq 1 1=true:=rfl
theorem agp:Nat.beq 2 2=true:=rfl
theorem lT_{x y:Int}(h:x<y):ltI x y=true:=by unfold ltI; exact eU h
theorem lF_{x y:Int}(h:¬x<y):ltI x y=false:=by unfold ltI; exact iW h
theorem mT_{x y:Int}(h:x<=y):leI x y=true:=by unfold leI; exact eU h
theorem mF_{x y:Int}(h:¬x<=y):leI x y=false:=by unfold leI; exact iW h
theorem gT_{x y:Int}(h:x>y):gtI x y=true:=by unfold gtI; exact eU h
theorem gF_{x y:Int}(h:¬x>y):gtI x y=false:=by unfold gtI; exact iW h
theorem hT_{x y:Int}(h:x>=y):geI x y=true:=by unfold geI; exact eU h
theorem hF_{x y:Int}(h:¬x>=y):geI x y=false:=by unfold geI; exact iW h
theorem eT_{x y:Int}(h:x=y):eqI x y=true:=by unfold eqI; exact eU h
theorem eF_{x y:Int}(h:¬x=y):eqI x y=false:=by unfold eqI; exact iW h
def Hva:Head:=⟨0,23,[1,5],[(5,5)]⟩
def Bva:Code:=(di P 50 0).getD .skip
theorem Yg:di P 50 0=some Bva:=by kernel_rfl
theorem JB:Occ P 50 (.block 0 (.loop Bva)):=dN Yg
theorem XM(x:Int)(c:List Value):qG P E uP 50 50 Bva Hva [.int .u64 x, .slice (some ⟨0,0,none⟩) c.length unk] [.cells c 5 false] =
 (aj (ltI x (128:Int))
 (some ((Value.tuple (Array.mk [(Value.int IntKind.i64 (1:Int)),(Value.int IntKind.u64 x),(Value.slice (Option.some (Addr.mk 0 0 none)) (List.length c) 18446744073709551616)])),(ag [(Blk.cells (aG Bool.true (bQ 0 [0]) c) 5 Bool.false)])))
 (ae (Bool.and (Bool.not Bool.false) (Bool.and (Nat.beq 5 5) (Bool.and (Nat.ble 0 (List.length c)) (Nat.ble (Nat.add (List.length c) 1) 4194304))))
 (ae (Nat.beq (Nat.add 0 (Nat.mul (List.length c) 1)) (List.length c))
 (some ((Value.tuple (Array.mk [(Value.int IntKind.i64 (0:Int)),(Value.int IntKind.u64 (aaC IntKind.u64 x (7:Int))),(Value.slice (Option.some (Addr.mk 0 0 none)) (Nat.add (List.length c) 1) 18446744073709551616)])),(ag [(Blk.cells (aG Bool.true (bQ 0 [2]) (List.append (takeC (Nat.mul (List.length c) 1) (aO 0 c)) [(Value.int IntKind.u8 (orI IntKind.u8 (cvI IntKind.u8 x) (128:Int)))])) 5 Bool.false)])))))):=by kernel_rfl
def hiM:Nat->Nat->List UInt8
 |0,_=>[]
 |k+1,n=>match Nat.ble 128 n with
  |true=>UInt8.ofNat (n % 128+128)::hiM k (n / 128)
  |false=>[]
def l7:Nat->Nat->Nat
 |0,n=>n
 |k+1,n=>match Nat.ble 128 n with
  |true=>l7 k (n / 128)
  |false=>n
def au(n:Nat):List UInt8:=hiM 10 n++[UInt8.ofNat (l7 10 n)]
theorem xg:∀ (k n:Nat),(hiM k n).length<=k
 |0,_=>dm _
 |k+1,n=>by
  unfold hiM;split
  ·have:=xg k (n / 128); simp; omega
  ·simp
theorem RF:∀ (k n:Nat),n<128^(k+1)->l7 k n<128
 |0,n,h=>by simpa [l7]using h
 |k+1,n,h=>by
  unfold l7;split
  ·exact RF k (n / 128) (by rw[Nat.div_lt_iff_lt_mul (by decide)]; rw[Nat.pow_succ]at h; exact h)
  ·rename_i hb;have:=Nat.ble_eq (x:=128) (y:=n);rw[hb]at this;simp at this;omega
theorem xB{n:Nat}(h:n<128):au n=[UInt8.ofNat n]:=by
 have hb:Nat.ble 128 n=false:=by
  cases hb:Nat.ble 128 n with
  |false=>rfl
  |true=>have:=dR hb; omega
 simp only[au,hiM,l7,hb,iY]
theorem ahQ:∀ n:Fin 256,orI .u8 (n.val:Int) 128=((n.val % 128+128:Nat):Int):=by decide +kernel
theorem Lu(n:Nat):IntKind.u8.wrap (n:Int)=((n % 256:Nat):Int):=by
 have e:IntKind.u8.wrap (n:Int)=(n:Int) % 256:=by
  show(if(false&&decide ((n:Int) % (2^8:Int)>=(2^(8-1):Int)))=true then(n:Int) % (2^8:Int)-(2^8:Int)else(n:Int) % (2^8:Int))=_;simp
 rw[e]; omega
theorem iG{n:Nat}(h:n<18446744073709551616):IntKind.u64.wrap (n:Int)=(n:Int):=by
 have e:IntKind.u64.wrap (n:Int)=(n:Int) % 18446744073709551616:=by
  show(if(false&&decide ((n:Int) % (2^64:Int)>=(2^(64-1):Int)))=true then(n:Int) % (2^64:Int)-(2^64:Int)else(n:Int) % (2^64:Int))=_;simp
 rw[e]; omega
theorem NW{n:Nat}(h:n<256):((UInt8.ofNat n).toNat:Int)=(n:Int):=by
 simp only[UInt8.toNat_ofNat']; omega
theorem ac7(n:Nat):orI .u8 (cvI .u8 (n:Int)) 128=((UInt8.ofNat (n % 128+128)).toNat:Int):=by
 rw[NW (by omega)];unfold cvI;rw[Lu];have:=ahQ ⟨n % 256,by omega⟩;simp only at this;rw[this];congr 2;omega
theorem aiM(n:Nat):aaC .u64 (n:Int) 7=((n / 128:Nat):Int):=by
 show(n:Int).fdiv (2^7)=_;rw[show(2:Int)^7=128 from rfl,Int.fdiv_eq_ediv_of_nonneg _ (by decide)];omega
theorem Q7{ρ:Nat->Option Nat}{c l:List Value}(hc:gY c=true)(hl:gY l=true):aG true ρ (List.append (takeC (Nat.mul c.length 1) (aO 0 c)) l)=c++l:=by
 rw[ZZ];show aG true ρ (c++l)=_;rw[Fj,tX hc,tX hl]
theorem ER{n:Nat}:Nat.ble 128 n=!decide (n<128):=by
 cases h:Nat.ble 128 n with
 |true=>have:=dR h; simp; omega
 |false=>
  by_cases h2:n<128
  ·simp[h2]
  ·rw[dG (by omega)]at h; cases h
theorem Zj(k:IntKind)(n:Int):gY [.int k n]=true:=rfl
theorem YU{n:Nat}{c:List Value}(h:128<=n)(hn:n<18446744073709551616)(hc:gY c=true)(hb:c.length+1<=4194304) :
  qG P E uP 50 50 Bva Hva [.int .u64 n,sl 0 c.length] [.cells c 5 false] =
   some (.tuple ⟨exV .normal::[.int .u64 ((n / 128:Nat):Int),sl 0 (c++bc [UInt8.ofNat (n % 128+128)]).length]⟩,ag [.cells (c++bc [UInt8.ofNat (n % 128+128)]) 5 false]):=by
 unfold sl;rw[XM];refine lZ (by simp[ltI]; omega) ?_;refine iZ (kS rfl (kS rfl (kS (nO (ig _)) (nO (by show c.length+1<=4194304; exact hb))))) ?_;refine iZ (wE (by simp)) ?_;refine ES ?_ ?_
 ·rw[aiM];simp[exV,bc,unk]
 ·rw[Q7 hc (Zj _ _),ac7]
  rfl
theorem Sv{n:Nat}{c:List Value}(h:n<128)(hc:gY c=true) :
  qG P E uP 50 50 Bva Hva [.int .u64 n,sl 0 c.length] [.cells c 5 false] =
   some (.tuple ⟨exV (.exit 0)::[.int .u64 n,sl 0 c.length]⟩,ag [.cells c 5 false]):=by
 unfold sl;rw[XM];refine mX (by simp[ltI]; omega) ?_;refine ES rfl ?_;rw[tX hc]
theorem Sz:∀ (k n:Nat) (c:List Value),n<128^(k+1)->n<18446744073709551616->gY c=true->c.length+k<=4194304->
  LR P 50 0 Bva Hva [.int .u64 n,sl 0 c.length] [.cells c 5 false] .normal [.int .u64 (l7 k n),sl 0 (c++bc (hiM k n)).length] [.cells (c++bc (hiM k n)) 5 false]
 |0,n,c,h1,h2,hc,hb=>by
  have e:c++bc (hiM 0 n)=c:=by simp[hiM,bc]
  rw[e];exact LR.stop (dU uP) bK (q_ P) JB (by kernel_rfl) (e:= .exit 0) (Sv (by simpa using h1) hc) (by intro h; cases h)
 |k+1,n,c,h1,h2,hc,hb=>by
  by_cases hn:n<128
  ·have e1:hiM (k+1) n=[]:=by simp only[hiM,ER,hn]; rfl
   have e2:l7 (k+1) n=n:=by simp only[l7,ER,hn]; rfl
   have e:c++bc (hiM (k+1) n)=c:=by rw[e1]; simp[bc]
   rw[e,e2];exact LR.stop (dU uP) bK (q_ P) JB (by kernel_rfl) (e:= .exit 0) (Sv hn hc) (by intro h; cases h)
  ·have e1:hiM (k+1) n=UInt8.ofNat (n % 128+128)::hiM k (n / 128):=by simp only[hiM,ER,hn]; rfl
   have e2:l7 (k+1) n=l7 k (n / 128):=by simp only[l7,ER,hn]; rfl
   have hr:=YU (n:=n) (c:=c) (by omega) h2 hc (by omega);have ih:=Sz k (n / 128) (c++bc [UInt8.ofNat (n % 128+128)]) (by rw[Nat.div_lt_iff_lt_mul (by decide)]; rw[Nat.pow_succ]at h1; exact h1) (by omega) (by rw[Ec,hc,xK]; rfl) (by rw[bP,bn]; simp; omega);have e:c++bc [UInt8.ofNat (n % 128+128)]++bc (hiM k (n / 128))=c++bc (hiM (k+1) n):=by
    rw[e1,fG,<-zk]; rfl
   rw[e]at ih;rw[e2];exact LR.again (dU uP) bK (q_ P) JB (by kernel_rfl) hr ih
def vaC(x:Int)(v1:Value)(c:List Value)(e1:TypeId):Bool:=inI x 18446744073709551616&&atB v1 0 c.length&&gY c&&e1 == 5&&Nat.ble (c.length+10) 4194304
def Z5:lU:=fun vs bs=>match vs,bs with
 |[.int .u64 x,v1],[.cells c e1 false]=>some (.ite (vaC x v1 c e1)
   (.leaf (.normal,[.int .u64 (l7 10 x.toNat),sl 0 (c++bc (hiM 10 x.toNat)).length],[.cells (c++bc (hiM 10 x.toNat)) 5 false])) .fail)
 |_,_=>none
theorem Ya:LoopOk P 50 0 Bva Hva Z5 where
 occ:=bJ Yg
 ok:=by kernel_rfl
 run:=by
  intro vs bs t hR e vs' bs' hev;unfold Z5 at hR;split at hR
  ·rename_i x v1 c e1;obtain rfl:=aC hR;cases hc:vaC x v1 c e1 with
   |false=>rw[hc]at hev; cases hev
   |true=>
    rw[hc]at hev;simp only[DT.eval,dD,dA]at hev;obtain⟨rfl,rfl,rfl⟩:=hev;simp only[vaC,bV,beq_iff_eq,inI,gK]at hc;obtain⟨⟨⟨⟨h1,h2⟩,h3⟩,h4⟩,h5⟩:=hc;have h5:=dR h5;rw[agw h2];subst h4;obtain⟨n,rfl⟩:=Int.eq_ofNat_of_zero_le h1.1;exact Sz 10 n c (m_ (by omega:n<18446744073709551616) (by decide)) (by omega) h3 (by omega)
  ·cases hR
def Dx:Ct:=Bv 50 0 Hva Z5 uP
theorem Q9:CtOk P Dx:=FO rfl (q_ P) Ya
theorem aeI(n b:Nat)(c:List Value)(x:Int):mQ P E Dx 50 50 [ax 1 n b c, .int .u64 x] =
 (ae (List.all c oneCell)
 (ae (Bool.and (Nat.beq 0 0) (Bool.and (Nat.beq 0 0) (Nat.ble n 4194304)))
 (aj (Nat.beq n 0)
 (ae (vaC x (Value.slice (Option.some (Addr.mk 0 0 none)) 0 18446744073709551616) [] 5)
 (ae (Bool.and (Bool.not Bool.false) (Bool.and (Nat.beq 5 5) (Bool.and (Nat.ble 0 (List.length (aG Bool.true (dQ 1) (HAppend.hAppend [] (bc (hiM 10 (Int.toNat x))))))) (Nat.ble (Nat.add (List.length (HAppend.hAppend [] (bc (hiM 10 (Int.toNat x))))) 1) 4194304))))
 (ae (Nat.beq (Nat.add 0 (Nat.mul (List.length (HAppend.hAppend [] (bc (hiM 10 (Int.toNat x))))) 1)) (List.length (aG Bool.true (dQ 1) (HAppend.hAppend [] (bc (hiM 10 (Int.toNat x)))))))
 (some ((Value.slice (Option.some (Addr.mk 0 0 none)) (Nat.add (List.length (HAppend.hAppend [] (bc (hiM 10 (Int.toNat x))))) 1) 18446744073709551616),(ag [(Blk.cells (aG Bool.true (bQ 0 [3]) (List.append (takeC (Nat.mul (List.length (HAppend.hAppend [] (bc (hiM 10 (Int.toNat x))))) 1) (aO 0 (aG Bool.true (dQ 1) (HAppend.hAppend [] (bc (hiM 10 (Int.toNat x))))))) [(Value.int IntKind.u8 (cvI IntKind.u8 (Nat.cast (l7 10 (Int.toNat x)))))])) 5 Bool.false)]))))))
 (ae (vaC x (Value.slice (Option.some (Addr.mk 0 0 none)) n 18446744073709551616) (aG Bool.true (bQ 0 [0]) c) 5)
 (ae (Bool.and (Bool.not Bool.false) (Bool.and (Nat.beq 5 5) (Bool.and (Nat.ble 0 (List.length (aG Bool.true (dQ 1) (HAppend.hAppend (aG Bool.true (bQ 0 [0]) c) (bc (hiM 10 (Int.toNat x))))))) (Nat.ble (Nat.add (List.length (HAppend.hAppend (aG Bool.true (bQ 0 [0]) c) (bc (hiM 10 (Int.toNat x))))) 1) 4194304))))
 (ae (Nat.beq (Nat.add 0 (Nat.mul (List.length (HAppend.hAppend (aG Bool.true (bQ 0 [0]) c) (bc (hiM 10 (Int.toNat x))))) 1)) (List.length (aG Bool.true (dQ 1) (HAppend.hAppend (aG Bool.true (bQ 0 [0]) c) (bc (hiM 10 (Int.toNat x)))))))
 (some ((Value.slice (Option.some (Addr.mk 0 0 none)) (Nat.add (List.length (HAppend.hAppend (aG Bool.true (bQ 0 [0]) c) (bc (hiM 10 (Int.toNat x))))) 1) 18446744073709551616),(ag [(Blk.cells (aG Bool.true (bQ 0 [3]) (List.append (takeC (Nat.mul (List.length (HAppend.hAppend (aG Bool.true (bQ 0 [0]) c) (bc (hiM 10 (Int.toNat x))))) 1) (aO 0 (aG Bool.true (dQ 1) (HAppend.hAppend (aG Bool.true (bQ 0 [0]) c) (bc (hiM 10 (Int.toNat x))))))) [(Value.int IntKind.u8 (cvI IntKind.u8 (Nat.cast (l7 10 (Int.toNat x)))))])) 5 Bool.false)]))))))))):=by kernel_rfl
theorem aef(x:Int):mQ P E Dx 50 50 [.slice none 0 0, .int .u64 x] =
 (ae (vaC x (Value.slice (Option.some (Addr.mk 0 0 none)) 0 18446744073709551616) [] 5)
 (ae (Bool.and (Bool.not Bool.false) (Bool.and (Nat.beq 5 5) (Bool.and (Nat.ble 0 (List.length (aG Bool.true (dQ 1) (HAppend.hAppend [] (bc (hiM 10 (Int.toNat x))))))) (Nat.ble (Nat.add (List.length (HAppend.hAppend [] (bc (hiM 10 (Int.toNat x))))) 1) 4194304))))
 (ae (Nat.beq (Nat.add 0 (Nat.mul (List.length (HAppend.hAppend [] (bc (hiM 10 (Int.toNat x))))) 1)) (List.length (aG Bool.true (dQ 1) (HAppend.hAppend [] (bc (hiM 10 (Int.toNat x)))))))
 (some ((Value.slice (Option.some (Addr.mk 0 0 none)) (Nat.add (List.length (HAppend.hAppend [] (bc (hiM 10 (Int.toNat x))))) 1) 18446744073709551616),(ag [(Blk.cells (aG Bool.true (bQ 0 [3]) (List.append (takeC (Nat.mul (List.length (HAppend.hAppend [] (bc (hiM 10 (Int.toNat x))))) 1) (aO 0 (aG Bool.true (dQ 1) (HAppend.hAppend [] (bc (hiM 10 (Int.toNat x))))))) [(Value.int IntKind.u8 (cvI IntKind.u8 (Nat.cast (l7 10 (Int.toNat x)))))])) 5 Bool.false)])))))):=by kernel_rfl
def fzB(t n:Nat)(c:List Value):Bool:=Nat.beq t (FZ+1)&&Nat.beq n c.length&&wF c&&Nat.ble (c.length+64) 4194304
theorem AV{t n:Nat}{c:List Value}(h:fzB t n c=true):t=FZ+1/\n=c.length/\(∃ l,c=bc l/\l=c.map byteOf)/\c.length+64<=4194304:=by
 unfold fzB at h;simp only[bV]at h;obtain⟨⟨⟨h1,h2⟩,h3⟩,h4⟩:=h;exact⟨dF h1,dF h2,⟨_,Vu h3,rfl⟩,dR h4⟩
theorem yO{n:Nat}{l:List UInt8}(h:n=l.length)(h2:l.length+64<=4194304):fzB (FZ+1) n (bc l)=true:=by
 unfold fzB;rw[Du,bn,wE rfl,wE h,nO h2]; rfl
theorem Wn(a b:List UInt8):bc a++bc b=bc (a++b):=(zk a b).symm
def vF(l:List UInt8):Value×List Blk:=(sl 0 l.length,[.cells (bc l) 5 false])
def gB(x:Int):Bool:=inI x 18446744073709551616
def uq(V:Nat->List UInt8)(C:Int->Bool):lT
 |[.iface t (.agg ⟨.slice none n b::c⟩), .int .u64 x]=>some (.ite (fzB t n c&&C x) (.leaf (vF (c.map byteOf++V x.toNat))) .fail)
 |[.slice none n b, .int .u64 x]=>some (.ite (Nat.beq n 0&&Nat.beq b 0&&C x) (.leaf (vF (V x.toNat))) .fail)
 |_=>none
def aad:lT:=uq au gB
theorem OC{x:Nat}{l:List UInt8}(hx:x<18446744073709551616)(hl:l.length+10<=4194304):vaC x (.slice (some ⟨0,0,none⟩) l.length 18446744073709551616) (bc l) 5=true:=by
 unfold vaC;have h1:inI (x:Int) 18446744073709551616=true:=jl (by omega) (by omega);have h2:atB (.slice (some ⟨0,0,none⟩) l.length 18446744073709551616) 0 (bc l).length=true:=by rw[bn]; exact afT 0 _
 rw[h1,h2,xK,bn,nO hl]; rfl
theorem Gy{n:Nat}(h:n<18446744073709551616):cvI .u8 ((l7 10 n:Nat):Int)=((UInt8.ofNat (l7 10 n)).toNat:Int):=by
 have:=RF 10 n (m_ h (by decide));rw[NW (by omega)];unfold cvI;rw[Lu];congr 1;omega
theorem I7{a:List UInt8}{b:UInt8}{ρ:Nat->Option Nat}:aG true ρ (List.append (takeC (Nat.mul a.length 1) (aO 0 (bc a))) [Value.int .u8 (b.toNat:Int)])=bc (a++[b]):=by
 have:=Q7 (ρ:=ρ) (xK a) (xK [b]);rw[bn]at this;rw[zk];exact this
section
variable{l:List UInt8}{b n:Nat}
theorem ad9(hl:l.length+64<=4194304)(hn:n<18446744073709551616):mQ P E Dx 50 50 [ax 1 l.length b (bc l), .int .u64 n]=some ((vF (l++au n)).1,ag (vF (l++au n)).2):=by
 have hh:=xg 10 n;rw[aeI];simp only[uy,fE,iY,Wn,bn];refine iZ (ul l) (iZ (kS rfl (kS rfl (nO (by omega)))) ?_);cases hz:Nat.beq l.length 0 with
 |true=>
  have hl0:l=[]:=L_ (dF hz);subst hl0;refine mX rfl (iZ (OC (l:=[]) hn (by simp)) (iZ (kS rfl (kS rfl (kS (nO (ig _)) (nO (by show _+1<=_; omega))))) (iZ (wE (by simp)) ?_)));rw[Gy hn,I7];simp[vF,au,sl,unk]
 |false=>
  refine lZ rfl (iZ (OC hn (by omega)) (iZ (kS rfl (kS rfl (kS (nO (ig _)) (nO (by show _+1<=_; rw[bP]; omega))))) (iZ (wE (by simp)) ?_)));rw[Gy hn,I7];simp[vF,au,sl,unk,k_]
theorem ZO(hn:n<18446744073709551616):mQ P E Dx 50 50 [.slice none 0 0, .int .u64 n]=some ((vF (au n)).1,ag (vF (au n)).2):=by
 have hh:=xg 10 n;rw[aef];simp only[uy,fE,iY,Wn,bn];refine iZ (OC (l:=[]) hn (by simp)) (iZ (kS rfl (kS rfl (kS (nO (ig _)) (nO (by show _+1<=_; omega))))) (iZ (wE (by simp)) ?_));rw[Gy hn,I7];simp[vF,au,sl,unk]
end
theorem app_any{F:Nat}(h1:∀ {l:List UInt8} {b n:Nat},l.length+64<=4194304->n<18446744073709551616->mQ P E Dx 50 F [ax 1 l.length b (bc l), .int .u64 n]=some ((vF (l++au n)).1,ag (vF (l++au n)).2))
  (h2:∀ {n:Nat},n<18446744073709551616->mQ P E Dx 50 F [.slice none 0 0, .int .u64 n]=some ((vF (au n)).1,ag (vF (au n)).2)):CallOkR P F aad:=by
 refine H5 Q9 (n:=50) fun args t hR v bs hev=>?_;unfold aad uq at hR;split at hR
 ·rename_i t n b c x;obtain rfl:=aC hR;cases hc:fzB t n c&&gB x with
  |false=>rw[hc]at hev; cases hev
  |true=>
   rw[hc]at hev;simp only[bV,gB,inI,gK]at hc;obtain⟨h,hx⟩:=hc;obtain⟨rfl,rfl,⟨l,rfl,hl⟩,h4⟩:=AV h;obtain⟨n,rfl⟩:=Int.eq_ofNat_of_zero_le hx.1;rw[<-hl]at hev;simp only[DT.eval,dD,dA,uy]at hev;obtain⟨rfl,rfl⟩:=hev;rw[bn]at h4;have:=h1 (b:=b) h4 (show n<18446744073709551616 by omega);rw[bn];exact this
 ·rename_i n b x;obtain rfl:=aC hR;cases hc:Nat.beq n 0&&Nat.beq b 0&&gB x with
  |false=>rw[hc]at hev; cases hev
  |true=>
   rw[hc]at hev;simp only[bV,gB,inI,gK]at hc;obtain⟨⟨hn,hb⟩,hx⟩:=hc;obtain rfl:=dF hn;obtain rfl:=dF hb;obtain⟨n,rfl⟩:=Int.eq_ofNat_of_zero_le hx.1;simp only[DT.eval,dD,dA,uy]at hev;obtain⟨rfl,rfl⟩:=hev;exact h2 (show n<18446744073709551616 by omega)
 ·cases hR
theorem uN:CallOkR P 50 aad:=app_any ad9 ZO
def abD(V:Nat->List UInt8)(C:Int->Bool):Ct:=jy P 50 (uq V C) Dx
def vz:Ct:=abD au gB
theorem xM:CtOk P vz:=iw Q9 uN
def Hvr:Head:=⟨0,40,[2,3,4,7,8,9],[]⟩
def Bvr:Code:=(di P 164 0).getD .skip
theorem WM:di P 164 0=some Bvr:=by kernel_rfl
theorem AA:Occ P 164 (.block 0 (.loop Bvr)):=dN WM
theorem PL(V:Nat->List UInt8)(C:Int->Bool)(x i z:Int)(n b:Nat)(c:List Value):qG P E (abD V C) 50 164 Bvr Hvr [.int .u64 x, .int .i64 0, .int .i64 0,ax 1 n b c, .int .i64 z, .int .i64 i] [] =
 (aj (ltI i z)
 (ae (Bool.and (Nat.beq 1 1) (inI i n))
 (ae (Bool.and (Nat.ble (Nat.add (atN i 1) 1) (List.length c)) (gm (Eta.int IntKind.u8) (aV c (atN i 1))))
 (aj (eqI i (9:Int))
 (aj (gtI (asI (aV c (atN i 1))) (1:Int))
 (some ((Value.tuple (Array.mk [(Value.int IntKind.i64 (1:Int)),(Value.int IntKind.u64 x),(Value.int IntKind.i64 (0:Int)),(Value.int IntKind.i64 (0:Int)),(Value.iface 18446744073709551617 (Value.agg (Array.mk ((Value.slice none n b)::c)))),(Value.int IntKind.i64 z),(Value.int IntKind.i64 i)])),(ag [])))
 (ae (Dp (uF IntKind.i64 (7:Int) i))
 (aj (geI (asI (aV c (atN i 1))) (128:Int))
 (some ((Value.tuple (Array.mk [(Value.int IntKind.i64 (0:Int)),(Value.int IntKind.u64 (orI IntKind.u64 x (wU IntKind.u64 (cvI IntKind.u64 (wM IntKind.u8 (asI (aV c (atN i 1))) (127:Int))) (uF IntKind.i64 (7:Int) i)))),(Value.int IntKind.i64 (0:Int)),(Value.int IntKind.i64 (0:Int)),(Value.iface 18446744073709551617 (Value.agg (Array.mk ((Value.slice none n b)::c)))),(Value.int IntKind.i64 z),(Value.int IntKind.i64 (bM IntKind.i64 i (1:Int)))])),(ag [])))
 (aj (eqI (asI (aV c (atN i 1))) (0:Int))
 (aj (gtI i (0:Int))
 (some ((Value.tuple (Array.mk [(Value.int IntKind.i64 (1:Int)),(Value.int IntKind.u64 (orI IntKind.u64 x (wU IntKind.u64 (cvI IntKind.u64 (wM IntKind.u8 (asI (aV c (atN i 1))) (127:Int))) (uF IntKind.i64 (7:Int) i)))),(Value.int IntKind.i64 (0:Int)),(Value.int IntKind.i64 (0:Int)),(Value.iface 18446744073709551617 (Value.agg (Array.mk ((Value.slice none n b)::c)))),(Value.int IntKind.i64 z),(Value.int IntKind.i64 i)])),(ag [])))
 (some ((Value.tuple (Array.mk [(Value.int IntKind.i64 (-1:Int)),(Value.int IntKind.u64 (orI IntKind.u64 x (wU IntKind.u64 (cvI IntKind.u64 (wM IntKind.u8 (asI (aV c (atN i 1))) (127:Int))) (uF IntKind.i64 (7:Int) i)))),(Value.int IntKind.i64 (bM IntKind.i64 i (1:Int))),(Value.int IntKind.i64 (0:Int)),(Value.iface 18446744073709551617 (Value.agg (Array.mk ((Value.slice none n b)::c)))),(Value.int IntKind.i64 z),(Value.int IntKind.i64 i)])),(ag []))))
 (some ((Value.tuple (Array.mk [(Value.int IntKind.i64 (-1:Int)),(Value.int IntKind.u64 (orI IntKind.u64 x (wU IntKind.u64 (cvI IntKind.u64 (wM IntKind.u8 (asI (aV c (atN i 1))) (127:Int))) (uF IntKind.i64 (7:Int) i)))),(Value.int IntKind.i64 (bM IntKind.i64 i (1:Int))),(Value.int IntKind.i64 (0:Int)),(Value.iface 18446744073709551617 (Value.agg (Array.mk ((Value.slice none n b)::c)))),(Value.int IntKind.i64 z),(Value.int IntKind.i64 i)])),(ag [])))))))
 (ae (Dp (uF IntKind.i64 (7:Int) i))
 (aj (geI (asI (aV c (atN i 1))) (128:Int))
 (some ((Value.tuple (Array.mk [(Value.int IntKind.i64 (0:Int)),(Value.int IntKind.u64 (orI IntKind.u64 x (wU IntKind.u64 (cvI IntKind.u64 (wM IntKind.u8 (asI (aV c (atN i 1))) (127:Int))) (uF IntKind.i64 (7:Int) i)))),(Value.int IntKind.i64 (0:Int)),(Value.int IntKind.i64 (0:Int)),(Value.iface 18446744073709551617 (Value.agg (Array.mk ((Value.slice none n b)::c)))),(Value.int IntKind.i64 z),(Value.int IntKind.i64 (bM IntKind.i64 i (1:Int)))])),(ag [])))
 (aj (eqI (asI (aV c (atN i 1))) (0:Int))
 (aj (gtI i (0:Int))
 (some ((Value.tuple (Array.mk [(Value.int IntKind.i64 (1:Int)),(Value.int IntKind.u64 (orI IntKind.u64 x (wU IntKind.u64 (cvI IntKind.u64 (wM IntKind.u8 (asI (aV c (atN i 1))) (127:Int))) (uF IntKind.i64 (7:Int) i)))),(Value.int IntKind.i64 (0:Int)),(Value.int IntKind.i64 (0:Int)),(Value.iface 18446744073709551617 (Value.agg (Array.mk ((Value.slice none n b)::c)))),(Value.int IntKind.i64 z),(Value.int IntKind.i64 i)])),(ag [])))
 (some ((Value.tuple (Array.mk [(Value.int IntKind.i64 (-1:Int)),(Value.int IntKind.u64 (orI IntKind.u64 x (wU IntKind.u64 (cvI IntKind.u64 (wM IntKind.u8 (asI (aV c (atN i 1))) (127:Int))) (uF IntKind.i64 (7:Int) i)))),(Value.int IntKind.i64 (bM IntKind.i64 i (1:Int))),(Value.int IntKind.i64 (0:Int)),(Value.iface 18446744073709551617 (Value.agg (Array.mk ((Value.slice none n b)::c)))),(Value.int IntKind.i64 z),(Value.int IntKind.i64 i)])),(ag []))))
 (some ((Value.tuple (Array.mk [(Value.int IntKind.i64 (-1:Int)),(Value.int IntKind.u64 (orI IntKind.u64 x (wU IntKind.u64 (cvI IntKind.u64 (wM IntKind.u8 (asI (aV c (atN i 1))) (127:Int))) (uF IntKind.i64 (7:Int) i)))),(Value.int IntKind.i64 (bM IntKind.i64 i (1:Int))),(Value.int IntKind.i64 (0:Int)),(Value.iface 18446744073709551617 (Value.agg (Array.mk ((Value.slice none n b)::c)))),(Value.int IntKind.i64 z),(Value.int IntKind.i64 i)])),(ag [])))))))))
 (some ((Value.tuple (Array.mk [(Value.int IntKind.i64 (1:Int)),(Value.int IntKind.u64 x),(Value.int IntKind.i64 (0:Int)),(Value.int IntKind.i64 (0:Int)),(Value.iface 18446744073709551617 (Value.agg (Array.mk ((Value.slice none n b)::c)))),(Value.int IntKind.i64 z),(Value.int IntKind.i64 i)])),(ag [])))):=by kernel_rfl
def fw_(n:Nat)(c:List Value):Bool:=fzB 18446744073709551617 n c
theorem fz1:FZ+1=18446744073709551617:=by unfold FZ; rfl
theorem P5(n:Nat):IntKind.u64.wrap (n:Int)=((n % 18446744073709551616:Nat):Int):=by
 have e:IntKind.u64.wrap (n:Int)=(n:Int) % 18446744073709551616:=by
  show(if(false&&decide ((n:Int) % (2^64:Int)>=(2^(64-1):Int)))=true then(n:Int) % (2^64:Int)-(2^64:Int)else(n:Int) % (2^64:Int))=_;simp
 rw[e]; omega
theorem ag3:∀ n:Fin 256,wM .u8 (n.val:Int) 127=((n.val % 128:Nat):Int):=by decide +kernel
theorem adH(a b:Nat)(hb:b<=64):wU .u64 (a:Int) (b:Int)=((a*2^b % 18446744073709551616:Nat):Int):=by
 unfold wU;have e:min (b:Int).toNat IntKind.u64.bits=b:=by
  have:IntKind.u64.bits=64:=rfl;rw[this,uy]; omega
 rw[e,show(a:Int)*2^b=((a*2^b:Nat):Int) by push_cast; rfl,P5]
theorem agm(a b:Nat)(ha:a<18446744073709551616)(hb:b<18446744073709551616):orI .u64 (a:Int) (b:Int)=((a ||| b:Nat):Int):=by
 unfold orI;have hbits:IntKind.u64.bits=64:=rfl;rw[hbits];have e1:(BitVec.ofInt 64 (a:Int) ||| BitVec.ofInt 64 (b:Int)).toNat=a ||| b:=by
  rw[BitVec.toNat_or];have f:∀ n:Nat,n<18446744073709551616->(BitVec.ofInt 64 (n:Int)).toNat=n:=by
   intro n hn;rw[BitVec.toNat_ofInt];have:((2^64:Nat):Int)=18446744073709551616:=by decide
   rw[this];omega
  rw[f a ha,f b hb]
 rw[e1];have:a ||| b<2^64:=Nat.or_lt_two_pow (by simpa using ha) (by simpa using hb)
 exact iG (by simpa using this)
theorem afY{X a i:Nat}(hX:X<2^i):X ||| a*2^i=X+a*2^i:=by
 have:=Nat.shiftLeft_add_eq_or_of_lt hX a;rw[Nat.shiftLeft_eq]at this;rw[Nat.or_comm,<-this,Nat.add_comm]
def mY(X i c:Nat):Nat:=X+c % 128*2^(7*i) % 18446744073709551616
theorem Xj{i:Nat}(h:i<=9):2^(7*i)<=9223372036854775808:=by
 have:=Nat.pow_le_pow_right (n:=2) (by decide) (show 7*i<=63 by omega);simpa using this
theorem ads{a i:Nat}(h:i<=9):∃ a',a*2^(7*i) % 18446744073709551616=a'*2^(7*i)/\a'*2^(7*i)<18446744073709551616:=by
 have hp:=Xj h;have e:(18446744073709551616:Nat)=2^(64-7*i)*2^(7*i):=by
  rw[<-Nat.pow_add,show 64-7*i+7*i=64 by omega]
 refine⟨a % 2^(64-7*i),?_,?_⟩
 ·rw[e,Nat.mul_mod_mul_right]
 ·rw[e];exact Nat.mul_lt_mul_of_pos_right (Nat.mod_lt _ (Nat.pow_pos (by decide))) (Nat.pow_pos (by decide))
theorem abU{X i c:Nat}(hi:i<=9)(hX:X<2^(7*i)):orI .u64 (X:Int) (wU .u64 ((c % 128:Nat):Int) ((7*i:Nat):Int))=((mY X i c:Nat):Int):=by
 rw[adH _ _ (by omega)];obtain⟨a',h1,h2⟩:=ads (a:=c % 128) hi;have hp:=Xj hi;unfold mY;rw[h1,agm _ _ (by omega) h2,afY hX]
theorem aix{i:Nat}(hi:i<=10):uF .i64 7 (i:Int)=((7*i:Nat):Int):=by
 unfold uF;rw[wrap64 (by omega) (by omega)]; omega
theorem af8(c:UInt8):cvI .u64 (wM .u8 (c.toNat:Int) 127)=((c.toNat % 128:Nat):Int):=by
 have:=ag3 ⟨c.toNat,c.toNat_lt⟩;simp only at this;rw[this];unfold cvI;exact iG (by omega)
theorem add1{i:Nat}(hi:i<9223372036854775800):bM .i64 (i:Int) 1=((i+1:Nat):Int):=by
 unfold bM;rw[wrap64 (by omega) (by omega)]; omega
theorem step_next{X i c:Nat}(hi:i<=8)(hX:X<2^(7*i)):mY X i c<2^(7*(i+1)):=by
 have h1:2^(7*(i+1))=128*2^(7*i):=by rw[show 7*(i+1)=7*i+7 by omega,Nat.pow_add]; omega
 have hp:=Nat.pow_le_pow_right (n:=2) (by decide) (show 7*i<=56 by omega);have hp:2^(7*i)<=72057594037927936:=by simpa using hp
 have h2:c % 128*2^(7*i)<=127*2^(7*i):=xA _ (by omega);unfold mY;rw[Nat.mod_eq_of_lt (by omega),h1];omega
theorem agl{l:List UInt8}{i:Nat}(h:i<l.length):aV (bc l) (atN (i:Int) 1) = .int .u8 (l[i].toNat):=by
 have e:atN (i:Int) 1=i:=by simp[atN]
 rw[e]; exact ahn h
theorem TF(k:IntKind)(n:Int):asI (.int k n)=n:=rfl
theorem SB(n:Int):gm (.int .u8) (.int .u8 n)=true:=rfl
def iH:Nat->Nat->List UInt8->Bool×Nat×Nat
 |i,X,[]=>(false,X,i)
 |i,X,c::r=>match decide (i=9/\1<c.toNat),decide (128<=c.toNat),decide (c.toNat=0/\0<i)with
  |true,_,_=>(false,X,i)
  |false,true,_=>iH (i+1) (mY X i c.toNat) r
  |false,false,true=>(false,mY X i c.toNat,i)
  |false,false,false=>(true,mY X i c.toNat,i+1)
section
variable{l:List UInt8}{b:Nat}{i X:Nat}
def vrS(l:List UInt8)(b:Nat)(X:Nat)(n e:Int)(i:Nat):List Value:=[.int .u64 X, .int .i64 n, .int .i64 e,ax 1 l.length b (bc l), .int .i64 l.length, .int .i64 i]
theorem afs(h:i=l.length):qG P E vz 50 164 Bvr Hvr (vrS l b X 0 0 i) []=some (.tuple ⟨exV (.exit 0)::vrS l b X 0 0 i⟩,ag []):=by
 unfold vrS vz;rw[PL];exact lZ (by simp[ltI,h]) (ES (by simp only[ax,fz1]; rfl) rfl)
theorem adm(h:i<l.length)(h9:i=9)(hc:1<l[i].toNat):qG P E vz 50 164 Bvr Hvr (vrS l b X 0 0 i) []=some (.tuple ⟨exV (.exit 0)::vrS l b X 0 0 i⟩,ag []):=by
 unfold vrS vz;rw[PL];simp only[agl h,TF,SB,bn];refine mX (by simp[ltI,h]) (iZ (kS rfl (jl (by omega) (by show(i:Int)<(l.length:Int); omega))) (iZ (kS (nO (by show atN (i:Int) 1+1<=_; simp[atN]; omega)) rfl) ?_));exact mX (by simp[eqI,h9]) (mX (by simp[gtI]; omega) (ES (by simp only[ax,fz1]; rfl) rfl))
theorem acB(h:i<l.length)(hi:i<=9)(hX:X<2^(7*i))(h9:¬(i=9/\1<l[i].toNat)){r:Res}
  (k:aj (geI (l[i].toNat:Int) 128) (some (.tuple ⟨exV .normal::vrS l b (mY X i l[i].toNat) 0 0 (i+1)⟩,ag []))
   (aj (eqI (l[i].toNat:Int) 0) (aj (gtI (i:Int) 0) (some (.tuple ⟨exV (.exit 0)::vrS l b (mY X i l[i].toNat) 0 0 i⟩,ag [])) (some (.tuple ⟨exV .ret::vrS l b (mY X i l[i].toNat) ((i+1:Nat):Int) 0 i⟩,ag [])))
    (some (.tuple ⟨exV .ret::vrS l b (mY X i l[i].toNat) ((i+1:Nat):Int) 0 i⟩,ag [])))=r) :
  qG P E vz 50 164 Bvr Hvr (vrS l b X 0 0 i) []=r:=by
 rw[<-k];clear k;unfold vrS vz;rw[PL];simp only[agl h,TF,SB,bn,af8,aix (show i<=10 by omega),abU hi hX,add1 (show i<9223372036854775800 by omega)];refine mX (by simp[ltI,h]) (iZ (kS rfl (jl (by omega) (by show(i:Int)<(l.length:Int); omega))) (iZ (kS (nO (by show atN (i:Int) 1+1<=_; simp[atN]; omega)) rfl) ?_));have hpos:Dp ((7*i:Nat):Int)=true:=by simp[Dp]; omega
 by_cases hh:i=9
 ·refine mX (by simp[eqI,hh]) (lZ ?_ (iZ hpos (by simp only[ax,fz1]; rfl)));simp only[gtI,decide_eq_false_iff_not];omega
 ·refine lZ (by simp[eqI]; omega) (iZ hpos (by simp only[ax,fz1]; rfl))
end
def vrE(l:List UInt8)(b:Nat)(q:Bool×Nat×Nat):Ex×List Value:=match q.1 with
 |true=>(.ret,vrS l b q.2.1 (q.2.2:Int) 0 (q.2.2-1))
 |false=>(.normal,vrS l b q.2.1 0 0 q.2.2)
theorem TJ(l:List UInt8)(b:Nat)(hl:l.length<9223372036854775800):∀ (k i X:Nat),i+k=l.length->i<=9->X<2^(7*i)->
  LR P 164 0 Bvr Hvr (vrS l b X 0 0 i) [] (vrE l b (iH i X (l.drop i))).1 (vrE l b (iH i X (l.drop i))).2 []
 |0,i,X,hi,h9,hX=>by
  have e:l.drop i=[]:=IC (by omega);rw[e];exact LR.stop (dU vz) bK xM AA (by kernel_rfl) (e:= .exit 0) (afs (by omega)) (by intro h; cases h)
 |k+1,i,X,hi,h9,hX=>by
  have hlt:i<l.length:=by omega
  rw[lu hlt];by_cases h1:i=9/\1<l[i].toNat
  ·have e:iH i X (l[i]::l.drop (i+1))=(false,X,i):=by
    have d:=eU h1;simp only[iH,d]
   rw[e];exact LR.stop (dU vz) bK xM AA (by kernel_rfl) (e:= .exit 0) (adm hlt h1.1 h1.2) (by intro h; cases h)
  ·have hs:=fun {r:Res}=>acB (l:=l) (b:=b) (i:=i) (X:=X) hlt h9 hX h1 (r:=r);by_cases h2:128<=l[i].toNat
   ·have e:iH i X (l[i]::l.drop (i+1))=iH (i+1) (mY X i l[i].toNat) (l.drop (i+1)):=by simp only[iH,h1,h2,decide_true,decide_false]
    rw[e];have h8:i<=8:=by
     have:i≠9:=fun h=>h1 ⟨h,by omega⟩;omega
    have ih:=TJ l b hl k (i+1) (mY X i l[i].toNat) (by omega) (by omega) (step_next h8 hX);exact LR.again (dU vz) bK xM AA (by kernel_rfl) (hs (mX (by simp[geI]; omega) rfl)) ih
   ·by_cases h3:l[i].toNat=0/\0<i
    ·have e:iH i X (l[i]::l.drop (i+1))=(false,mY X i l[i].toNat,i):=by simp only[iH,h1,h2,h3,decide_true,decide_false]; simp
     rw[e];exact LR.stop (dU vz) bK xM AA (by kernel_rfl) (e:= .exit 0) (hs (lZ (by simp[geI]; omega) (mX (by simp[eqI]; omega) (mX (by simp[gtI]; omega) rfl)))) (by intro h; cases h)
    ·have e:iH i X (l[i]::l.drop (i+1))=(true,mY X i l[i].toNat,i+1):=by simp only[iH,h1,h2,h3,decide_true,decide_false]
     rw[e];refine LR.stop (dU vz) bK xM AA (by kernel_rfl) (e:= .ret) (hs (lZ (by simp[geI]; omega) ?_)) (by intro h; cases h);by_cases h0:l[i].toNat=0
     ·exact mX (by simp[eqI,h0]) (lZ (by simp[gtI]; omega) rfl)
     ·exact lZ (by simp[eqI]; omega) rfl
theorem Fq:∀ (r:List UInt8) (i X:Nat),(iH i X r).1=true->i<(iH i X r).2.2/\(iH i X r).2.2<=i+r.length
 |[],i,X,h=>by simp[iH]at h
 |c::r,i,X,h=>by
  simp only[iH]at h ⊢;split at h
  ·cases h
  ·have:=Fq r (i+1) _ h;simp only[jH];omega
  ·cases h
  ·simp
def vrC(x e n:Int)(t n1:Nat)(c:List Value)(z i:Int):Bool:=x == 0&&e == 0&&n == 0&&i == 0&&Nat.beq t (FZ+1)&&Nat.beq n1 c.length&&z == (c.length:Int)&&wF c&&Nat.ble (c.length+64) 4194304
def aaH(Q:List UInt8->Bool)(N:List UInt8->Nat×Nat):lU:=fun vs bs=>match vs,bs with
 |[.int .u64 x, .int .i64 n, .int .i64 e, .iface t (.agg ⟨.slice none n1 b::c⟩), .int .i64 z, .int .i64 i],[]=>some (.ite (vrC x e n t n1 c z i)
   (.ite (Q (c.map byteOf)) (.leaf (.ret,(vrE (c.map byteOf) b (true,N (c.map byteOf))).2,[])) (.leaf (.normal,(vrE (c.map byteOf) b (false,N (c.map byteOf))).2,[]))) .fail)
 |_,_=>none
def afB:lU:=aaH (fun l=>(iH 0 0 l).1) (fun l=>(iH 0 0 l).2)
theorem XV:LoopOk P 164 0 Bvr Hvr afB where
 occ:=bJ WM
 ok:=by kernel_rfl
 run:=by
  intro vs bs t hR e vs' bs' hev;unfold afB aaH at hR;split at hR
  ·rename_i x n e0 t n1 b c z i;obtain rfl:=aC hR;cases hc:vrC x e0 n t n1 c z i with
   |false=>rw[hc]at hev; cases hev
   |true=>
    rw[hc]at hev;simp only[vrC,bV,beq_iff_eq]at hc;obtain⟨⟨⟨⟨⟨⟨⟨⟨h1,h2⟩,h3⟩,h4⟩,h5⟩,h6⟩,h7⟩,h8⟩,h9⟩:=hc;have h9:=dR h9;obtain rfl:=dF h5;obtain rfl:=dF h6;subst h1 h2 h3 h4 h7;have hcb:=Vu h8;generalize c.map byteOf=l at hcb hev;subst hcb;simp only[]at hev;have:=TJ l b (by rw[bn]at h9; omega) l.length 0 0 (by omega) (by omega) (by decide);rw[iQ]at this;rw[bn];generalize hq:iH 0 0 l=q at this hev;obtain⟨ok,q⟩:=q;cases ok with
    |true=>
     simp only[DT.eval,dD,dA]at hev;obtain⟨rfl,rfl,rfl⟩:=hev;exact this
    |false=>
     simp only[DT.eval,dD,dA]at hev;obtain⟨rfl,rfl,rfl⟩:=hev;exact this
  ·cases hR
def eX(l:List UInt8):Nat×Nat×Int:=match iH 0 0 l with
 |(true,X,n)=>(X,n,0)
 |(false,_)=>(0,0,5)
def Y8(q:Bool×Nat×Nat):Nat×Nat×Int:=match q with
 |(true,X,n)=>(X,n,0)
 |(false,_)=>(0,0,5)
section
variable{l:List UInt8}{b:Nat}{i X:Nat}
end
def abL(Q:List UInt8->Bool)(N:List UInt8->Nat×Nat):Ct:=Bv 164 0 Hvr (aaH Q N) vz
def PM:Ct:=abL (fun l=>(iH 0 0 l).1) (fun l=>(iH 0 0 l).2)
theorem Q3:CtOk P PM:=FO rfl xM XV
theorem aaO(Q:List UInt8->Bool)(N:List UInt8->Nat×Nat)(n b:Nat)(c:List Value):mQ P E (abL Q N) 50 164 [ax 1 n b c] =
 (ae (vrC (0:Int) (0:Int) (0:Int) 18446744073709551617 n c (ah n) (0:Int))
 (aj (Q (List.map byteOf c))
 (some ((Value.tuple (Array.mk [(Value.int IntKind.u64 (Nat.cast (Prod.fst (N (List.map byteOf c))))),(Value.int IntKind.i64 (Nat.cast (Prod.snd (N (List.map byteOf c))))),(Value.int IntKind.i64 (0:Int))])),(ag [])))
 (some ((Value.tuple (Array.mk [(Value.int IntKind.u64 (0:Int)),(Value.int IntKind.i64 (0:Int)),(Value.int IntKind.i64 (5:Int))])),(ag []))))):=by kernel_rfl
theorem ae7(l:List UInt8):eX l=Y8 (iH 0 0 l):=by
 unfold eX Y8;rcases iH 0 0 l with⟨ok,X,n⟩
 cases ok<;>rfl
theorem agT{l:List UInt8}(h:l.length+64<=4194304):vrC 0 0 0 18446744073709551617 l.length (bc l) (ah l.length) 0=true:=by
 unfold vrC;rw[Du,bn,fz1,nO h,wE rfl,wE rfl];simp[ah]
def aaY(x:Nat)(n:Nat)(e:Int):Value:= .tuple ⟨[.int .u64 x, .int .i64 n, .int .i64 e]⟩
def NV(X N:List UInt8->Nat)(Z:List UInt8->Int):lT
 |[.iface t (.agg ⟨.slice none n b::c⟩)]=>some (.ite (fzB t n c) (.leaf (aaY (X (c.map byteOf)) (N (c.map byteOf)) (Z (c.map byteOf)),[])) .fail)
 |_=>none
def Ua:lT:=NV (fun l=>(eX l).1) (fun l=>(eX l).2.1) (fun l=>(eX l).2.2)
theorem Zx{l:List UInt8}{b:Nat}(h:l.length+64<=4194304):mQ P E PM 50 164 [ax 1 l.length b (bc l)]=some (aaY (eX l).1 (eX l).2.1 (eX l).2.2,ag []):=by
 unfold PM;rw[aaO];simp only[mf];refine iZ (agT h) ?_;rw[ae7];unfold Y8;rcases iH 0 0 l with⟨ok,X,n⟩
 cases ok<;>rfl
theorem aaB{F:Nat}(h:∀ {l:List UInt8} {b:Nat},l.length+64<=4194304->mQ P E PM 50 F [ax 1 l.length b (bc l)]=some (aaY (eX l).1 (eX l).2.1 (eX l).2.2,ag [])):CallOkR P F Ua:=by
 refine H5 Q3 (n:=50) fun args t hR v bs hev=>?_;unfold Ua NV at hR;split at hR
 ·rename_i t n b c;obtain rfl:=aC hR;cases hc:fzB t n c with
  |false=>rw[hc]at hev; cases hev
  |true=>
   rw[hc]at hev;obtain⟨rfl,rfl,⟨l,rfl,hl⟩,h4⟩:=AV hc;rw[<-hl]at hev;simp only[DT.eval,dD,dA]at hev;obtain⟨rfl,rfl⟩:=hev;rw[bn]at h4 ⊢;exact h h4
 ·cases hR
theorem aej:CallOkR P 164 Ua:=aaB Zx
def abv(X N:List UInt8->Nat)(Z:List UInt8->Int):Ct:=jy P 164 (NV X N Z) PM
def VJ:Ct:=abv (fun l=>(eX l).1) (fun l=>(eX l).2.1) (fun l=>(eX l).2.2)
theorem afc:CtOk P VJ:=iw Q3 aej
theorem WQ(X N:List UInt8->Nat)(Z:List UInt8->Int)(n b:Nat)(c:List Value)(m:Int):mQ P E (abv X N Z) 50 135 [ax 1 n b c, .int .i64 m] =
 (ae (fzB 18446744073709551617 n c)
 (aj (neI (Z (List.map byteOf c)) (0:Int))
 (some ((Value.tuple (Array.mk [(Value.int IntKind.i64 (0:Int)),(Value.int IntKind.i64 (0:Int)),(Value.int IntKind.i64 (5:Int))])),(ag [])))
 (aj (ltI m (0:Int))
 (some ((Value.tuple (Array.mk [(Value.int IntKind.i64 (0:Int)),(Value.int IntKind.i64 (0:Int)),(Value.int IntKind.i64 (5:Int))])),(ag [])))
 (aj (gtI (Nat.cast (X (List.map byteOf c))) (cvI IntKind.u64 m))
 (some ((Value.tuple (Array.mk [(Value.int IntKind.i64 (0:Int)),(Value.int IntKind.i64 (0:Int)),(Value.int IntKind.i64 (5:Int))])),(ag [])))
 (some ((Value.tuple (Array.mk [(Value.int IntKind.i64 (cvI IntKind.i64 (Nat.cast (X (List.map byteOf c))))),(Value.int IntKind.i64 (Nat.cast (N (List.map byteOf c)))),(Value.int IntKind.i64 (0:Int))])),(ag []))))))):=by kernel_rfl
def Gz(x:Int):Bool:=inI x 9223372036854775808
def jX(l:List UInt8)(m:Int):Bool:=(eX l).2.2 == 0&&decide (((eX l).1:Int)<=m)
def smV(x n:Int)(e:Int):Value:= .tuple ⟨[.int .i64 x, .int .i64 n, .int .i64 e]⟩
def TZ(C:Int->Bool)(K:List UInt8->Int->Bool)(X N:List UInt8->Int):lT
 |[.iface t (.agg ⟨.slice none n b::c⟩), .int .i64 m]=>some (.ite (fzB t n c&&C m) (.ite (K (c.map byteOf) m) (.leaf (smV (X (c.map byteOf)) (N (c.map byteOf)) 0,[])) (.leaf (.tuple ⟨[.int .i64 0, .int .i64 0, .int .i64 5]⟩,[]))) .fail)
 |_=>none
def OX:lT:=TZ Gz jX (fun l=>((eX l).1:Int)) (fun l=>((eX l).2.1:Int))
theorem Yr{F:Nat}(h:∀ (l:List UInt8) (b:Nat) (m:Int),mQ P E VJ 50 F [ax 1 l.length b (bc l), .int .i64 m]=ae (fzB 18446744073709551617 l.length (bc l)) (aj (neI (eX l).2.2 0) (some (.tuple ⟨[.int .i64 0, .int .i64 0, .int .i64 5]⟩,ag []))
   (aj (ltI m 0) (some (.tuple ⟨[.int .i64 0, .int .i64 0, .int .i64 5]⟩,ag [])) (aj (gtI ((eX l).1:Int) (cvI .u64 m)) (some (.tuple ⟨[.int .i64 0, .int .i64 0, .int .i64 5]⟩,ag []))
    (some (.tuple ⟨[.int .i64 (cvI .i64 ((eX l).1:Int)), .int .i64 (eX l).2.1, .int .i64 0]⟩,ag [])))))):CallOkR P F OX:=by
 refine H5 afc (n:=50) fun args t hR v bs hev=>?_;unfold OX TZ at hR;split at hR
 ·rename_i t n b c m;obtain rfl:=aC hR;cases hc:fzB t n c&&Gz m with
  |false=>rw[hc]at hev; cases hev
  |true=>
   rw[hc]at hev;simp only[bV]at hc;obtain⟨hc,hm⟩:=hc;simp only[Gz,inI,gK]at hm;obtain⟨rfl,rfl,⟨l,rfl,hl⟩,h4⟩:=AV hc;rw[<-hl]at hev;rw[bn]at h4 hc ⊢;show mQ P E VJ 50 F [ax 1 l.length b (bc l), .int .i64 m]=_;rw[h l b m,<-fz1];refine iZ hc ?_;have hcv:cvI .u64 m=m:=by
    obtain⟨m,rfl⟩:=Int.eq_ofNat_of_zero_le hm.1;exact iG (by omega)
   rw[hcv];have hlt:ltI m 0=false:=by simp[ltI]; omega
   simp only[]at hev;unfold jX at hev;generalize eX l=q at hev ⊢;obtain⟨X,N,e⟩:=q;simp only at hev ⊢;by_cases he:e=0
   ·subst he;by_cases hx:(X:Int)<=m
    ·have hb:((0:Int) == 0&&decide ((X:Int)<=m))=true:=by simp[hx]
     rw[hb]at hev;simp only[DT.eval,dD,dA]at hev;obtain⟨rfl,rfl⟩:=hev;refine lZ (by simp[neI]) (lZ hlt (lZ (by simp[gtI]; omega) ?_));have:cvI .i64 (X:Int)=X:=by unfold cvI; exact wrap64 (by omega) (by omega)
     rw[this]; rfl
    ·have hb:((0:Int) == 0&&decide ((X:Int)<=m))=false:=by simp[hx]
     rw[hb]at hev;simp only[DT.eval,dD,dA]at hev;obtain⟨rfl,rfl⟩:=hev;exact lZ (by simp[neI]) (lZ hlt (mX (by simp[gtI]; omega) rfl))
   ·have hb:(e == 0&&decide ((X:Int)<=m))=false:=by simp[he]
    rw[hb]at hev;simp only[DT.eval,dD,dA]at hev;obtain⟨rfl,rfl⟩:=hev;exact mX (by simp[neI,he]) rfl
 ·cases hR
theorem aa3:CallOkR P 135 OX:=Yr fun l b m=>by
 unfold VJ;rw[WQ];simp only[mf]
theorem XC(p:Bool)(k v:ByteArray):mQ P E uP 50 47 [.agg ⟨[.bool p, .string k, .string v]⟩] =
 (aj (ltI (ah (ByteArray.size k)) (1:Int))
 (some ((Value.int IntKind.i64 (2:Int)),(ag [])))
 (aj (gtI (ah (ByteArray.size k)) (16:Int))
 (some ((Value.int IntKind.i64 (2:Int)),(ag [])))
 (aj (gtI (ah (ByteArray.size v)) (32:Int))
 (some ((Value.int IntKind.i64 (2:Int)),(ag [])))
 (aj (eQ p)
 (aj (neS v (ByteArray.mk #[]))
 (some ((Value.int IntKind.i64 (2:Int)),(ag [])))
 (some ((Value.int IntKind.i64 (0:Int)),(ag []))))
 (some ((Value.int IntKind.i64 (0:Int)),(ag []))))))):=by kernel_rfl
def yC(p:Bool)(k v:ByteArray):Bool:=decide (1<=k.size)&&decide (k.size<=16)&&decide (v.size<=32)&&(p || v.data.toList == [])
def JH(O:Bool->ByteArray->ByteArray->Bool):lT
 |[.agg ⟨[.bool p, .string k, .string v]⟩]=>some (.ite (O p k v) (.leaf (.int .i64 0,[])) (.leaf (.int .i64 2,[])))
 |_=>none
def Nh:lT:=JH yC
theorem UI(p:Bool)(k v:ByteArray):aj (ltI (ah k.size) 1) (some (.int .i64 2,ag [])) (aj (gtI (ah k.size) 16) (some (.int .i64 2,ag [])) (aj (gtI (ah v.size) 32) (some (.int .i64 2,ag []))
  (aj (eQ p) (aj (neS v ⟨#[]⟩) (some (.int .i64 2,ag [])) (some (.int .i64 0,ag []))) (some (.int .i64 0,ag [])))))=(some (.int .i64 (match yC p k v with | true=>0 | false=>2),ag []):Res):=by
 unfold yC;by_cases h1:1<=k.size
 ·refine lZ (by show decide ((k.size:Int)<1)=false; exact iW (by omega)) ?_;by_cases h2:k.size<=16
  ·refine lZ (by simp[gtI,ah]; omega) ?_;by_cases h3:v.size<=32
   ·refine lZ (by simp[gtI,ah]; omega) ?_;rw[eU h1,eU h2,eU h3];cases p with
    |true=>exact lZ rfl rfl
    |false=>
     refine mX rfl ?_;cases h4:v.data.toList == []with
     |true=>exact lZ (by rw[Xw]; show(!(v.data.toList == []))=false; rw[h4]; rfl) rfl
     |false=>exact mX (by rw[Xw]; show(!(v.data.toList == []))=true; rw[h4]; rfl) rfl
   ·rw[iW h3];exact mX (by simp[gtI,ah]; omega) (by simp)
  ·rw[iW h2];exact mX (by simp[gtI,ah]; omega) (by simp)
 ·rw[iW h1];exact mX (by show decide ((k.size:Int)<1)=true; exact eU (by omega)) (by simp)
theorem check_any{F:Nat}(h:∀ p k v,mQ P E uP 50 F [.agg ⟨[.bool p, .string k, .string v]⟩]=some (.int .i64 (match yC p k v with | true=>0 | false=>2),ag [])):CallOkR P F Nh:=by
 refine H5 (q_ P) (n:=50) fun args t hR v bs hev=>?_;unfold Nh JH at hR;split at hR
 ·rename_i p k w;obtain rfl:=aC hR;rw[h];cases hc:yC p k w<;>rw[hc]at hev<;>(simp only[DT.eval,dD,dA]at hev; obtain⟨rfl,rfl⟩:=hev; rfl)
 ·cases hR
theorem Zk:CallOkR P 47 Nh:=check_any fun p k v=>by rw[XC]; exact UI p k v
theorem xC(l:List UInt8):(eX l).2.1<=l.length:=by
 unfold eX;have:=Fq l 0 0;revert this;rcases iH 0 0 l with⟨ok,X,n⟩
 intro this;cases ok with
 |true=>have:=this rfl; simp only at this ⊢; omega
 |false=>simp
end Go.VS.Tryz
end

noncomputable section
namespace Go.VS
open Go.RowKit
section
variable{P:Program}{ct:Ct}
def numsD(h:Nat->Option Blk)(n:Nat):List Value->List Nat->List Nat:=
 @Nat.rec (fun _=>List Value->List Nat->List Nat) (fun _ acc=>acc)
  (fun _ ih vs acc=>match vs with
   |[]=>acc
   |v::vs=>match(match v with
     | .slice (some a) _ _=>some a.block
     | .pointer (some a)=>some a.block
     | .map (some r)=>some r
     |_=>none)with
    |none=>ih vs acc
    |some b=>@Bool.rec (fun _=>List Nat)
      (match h b with
       |some (.cells c _ true)=>ih (c.append vs) (acc.append [b])
       |_=>ih vs (acc.append [b]))
      (ih vs acc) (oV acc b)) n
def kz(st:St)(i:Nat):Option Blk:=dW (path i) st.heap
def adI(R:iC)(args:List Value)(st:St):Option (DT (Value×St)):=
 match jm 0 (numsD (kz st) 1000 args []) (fun i=>dW (path i) st.heap) (numsD (kz st) 1000 args [])with
 |some ms=>match R (args.map (eP true (bQ 0 (numsD (kz st) 1000 args [])))) ms with
  |some t=>some (t.map fun x=>(eP true (aT (numsD (kz st) 1000 args []) st.next) x.1,agf (numsD (kz st) 1000 args []) st x.2))
  |none=>none
 |none=>none
end
section
variable{P:Program}{ct:Ct}
def ahx(m c:Nat):Bool:=match Nat.ble unk c with
 |true=>true
 |false=>Nat.ble m c
def oI(P:Program)(off m c:Nat)(cs:List Value)(e:TypeId):Bool:=and (gq cs) (and (Nat.ble (Nat.add off (Nat.mul m (esz P e))) cs.length) (and (Nat.ble 1 (esz P e)) (ahx m c)))
def Nk(P:Program)(off m c:Nat)(cs:List Value)(e:TypeId):Value:=ax (esz P e) m 0 (takeC (Nat.mul m (esz P e)) (aO off cs))
theorem aex{β:Env}{s n b:Nat}{c:List Value}{v:Value}(hs:s≠0)(h:VR β (ax s n b c) v):VR β (ax s n 0 c) v:=by
 unfold ax at h;have e:FZ+s-FZ=s:=by omega
 simp only[VR,if_neg (rO.2 (qL FZ s)),VZ,VZA,VZL,e]at h;obtain⟨a',b',he,r⟩:=h;cases he;refine zL hs ?_;unfold jL at r ⊢;rw[if_neg hs]at r ⊢;obtain⟨h1,⟨h2,h3,h4⟩ | ⟨h2,p,cap,h3,h4⟩ | ⟨h0,k,o,cap,cs,e1,f,l,h3,h4,h5⟩⟩:=r
 ·exact⟨h1,Or.inl ⟨h2,by omega,h4⟩⟩
 ·exact⟨h1,Or.inr (Or.inl ⟨h2,p,cap,h3,fun h=>absurd rfl h⟩)⟩
 ·exact⟨h1,Or.inr (Or.inr ⟨h0,k,o,cap,cs,e1,f,l,h3,fun h=>absurd rfl h,h5⟩)⟩
theorem afG{β:Env}{s n c:Nat}{v:Value}(hs:s≠0)(hn:n=0)(hc:c=0)(h:VR β (.slice none n c) v):VR β (ax s 0 0 []) v:=by
 subst hn hc;have h:v = .slice none 0 0:=h;subst h;refine zL hs ?_;unfold jL;rw[if_neg hs];exact⟨by simp,Or.inl ⟨rfl,by omega,rfl⟩⟩
def Jb(P:Program)(n:Nat):TypeId->List TypeId:=
 @Nat.rec (fun _=>TypeId->List TypeId) (fun t=>[t]) (fun _ ih t=>match gV P t with
  |some (.struct fs)=>@List.rec Field (fun _=>List TypeId) [] (fun f _ r=>(ih f.type).append r) fs.toList
  |some (.array k e)=>List.flatten (List.replicate k (ih e))
  |_=>[t]) n
def OT(P:Program)(ts:List TypeId)(v:Value):Value:=match v with
 | .slice none 0 0=>match ts with
  |t::_=>match gV P t with
   |some (.slice e)=>match esz P e with
    |0=>v
    |s+1=>ax (s+1) 0 0 []
   |_=>v
  |[]=>v
 |_=>v
theorem Gl{β:Env}{ts:List TypeId}{v x:Value}(h:VR β v x):VR β (OT P ts v) x:=by
 unfold OT;split
 ·split
  ·split
   ·split
    ·exact h
    ·exact afG (by omega) rfl rfl h
   ·exact h
  ·exact h
 ·exact h
def tlT(ts:List TypeId):List TypeId:=match ts with
 |[]=>[]
 |_::ts=>ts
def wJ{α:Type}(P:Program)(n:Nat):List TypeId->List Value->St->(List Value->St->DT α)->DT α:=
 @Nat.rec (fun _=>List TypeId->List Value->St->(List Value->St->DT α)->DT α) (fun _ _ _ _=> .fail)
  (fun _ ih ts vs st k=>match vs with
   |[]=>k [] st
   |v::vs=>match v with
    | .slice (some a) m c=>match a.spot,dW (path a.block) st.heap with
     |none,some (.cells cs e ex)=>@Bool.rec (fun _=>DT α)
       (kN (oI P a.off m c cs e) (ih (tlT ts) vs ⟨dO (path a.block) st.heap .dead,st.next⟩ fun vs1 st1=>k (Nk P a.off m c cs e::vs1) st1))
       (ih (List.flatten (List.replicate cs.length (Jb P 6 e))) cs st fun cs1 st1=>match dW (path a.block) st1.heap with
        |some (.cells c1 e1 _)=>kN (and (Nat.beq e1 e) (and (Nat.beq cs1.length c1.length) (oI P a.off m c cs1 e))) (ih (tlT ts) vs ⟨dO (path a.block) st1.heap .dead,st1.next⟩ fun vs1 st2=>k (Nk P a.off m c cs1 e::vs1) st2)
        |_=> .fail) ex
     |_,_=>ih (tlT ts) vs st fun vs1 st1=>k (v::vs1) st1
    | .agg ⟨l⟩=>ih (match ts with | t::_=>Jb P 6 t | []=>[]) l st fun l1 st1=>ih (tlT ts) vs st1 fun vs1 st2=>k (.agg ⟨l1⟩::vs1) st2
    |v=>ih (tlT ts) vs st fun vs1 st1=>k (OT P ts v::vs1) st1) n
theorem NE{K:Prot}{β:Env}{st:St}{w:World}(hr:Rel P K β st w){a:Addr}{m c:Nat}{cs cs1:List Value}{e:TypeId}{ex:Bool}(hg:st.heap.get a.block=some (.cells cs e ex))(hlen:cs1.length=cs.length)(hc:oI P a.off m c cs1 e=true)
  (hc1:∀ l cc f,β a.block=some l->l.virt=false->w.heap[l.blk]? = some (.cells cc e f)->VRL β cs1 ((cc.toList.drop l.base).take cs1.length)) :
  ∃ β',β.le β'/\Rel P K β' ⟨dO (path a.block) st.heap .dead,st.next⟩ w/\∀ x,VR β (.slice (some a) m c) x->VR β' (Nk P a.off m c cs1 e) x:=by
 unfold oI at hc;simp only[bV]at hc;obtain⟨c1,c2,c3,c4⟩:=hc;obtain⟨β',h1,h2,h3⟩:=hr.freeze hg hlen c1 hc1;refine⟨β',h1,?_,fun x hx=>?_⟩
 ·rw[dP]; exact h2
 ·have hs:a.spot=none:=by simp only[VR]at hx; exact hx.1
  have ea:a=⟨a.block,a.off,none⟩:=by cases a; simp_all
  have hcap:c<unk->m<=c:=fun hcu=>by
   unfold ahx at c4;have hb:Nat.ble unk c=false:=by
    cases hb:Nat.ble unk c with
    |false=>rfl
    |true=>have:=dR hb; omega
   rw[hb]at c4;exact dR c4
  have h0:esz P e≠0:=by have:=dR c3; omega
  exact aex (b:=JK c) h0 (h3 a.off m c x (by rw[<-ea]; exact hx) h0 (dR c2) hcap)
theorem l9{α:Type}{r:α}:∀ (n:Nat) (ts:List TypeId) (vs:List Value) (st:St) (k:List Value->St->DT α),(wJ P n ts vs st k).eval=some r->
  ∃ vs1 st1,(k vs1 st1).eval=some r/\st1.next=st.next/\vs1.length=vs.length/\∀ (K:Prot) (β:Env) (w:World) (xs:List Value),Rel P K β st w->VRL β vs xs->∃ β1,β.le β1/\Rel P K β1 st1 w/\VRL β1 vs1 xs
 |0,ts,vs,st,k,h=>by cases h
 |n+1,ts,vs,st,k,h=>by
  have keep:∀ (v v2:Value) (vs:List Value),(∀ (β:Env) x,VR β v x->VR β v2 x)->(wJ P n (tlT ts) vs st fun vs1 st1=>k (v2::vs1) st1).eval=some r->
    ∃ vs1 st1,(k vs1 st1).eval=some r/\st1.next=st.next/\vs1.length=(v::vs).length/\∀ (K:Prot) (β:Env) (w:World) (xs:List Value),Rel P K β st w->VRL β (v::vs) xs->∃ β1,β.le β1/\Rel P K β1 st1 w/\VRL β1 vs1 xs:=by
   intro v v2 vs hv2 h;obtain⟨vs1,st1,h1,h2,h3,h4⟩:=l9 n _ vs st _ h;refine⟨_,_,h1,h2,by simp[h3],fun K β w xs hr hx=>?_⟩;simp only[VRL]at hx;obtain⟨y,ys,rfl,hy,hys⟩:=hx;obtain⟨β1,a1,a2,a3⟩:=h4 K β w ys hr hys;exact⟨β1,a1,a2,VRL.cons (hv2 _ _ (hy.mono a1)) a3⟩
  cases vs with
  |nil=>exact⟨[],st,h,rfl,rfl,fun K β w xs hr hx=>⟨β,Env.le.refl _,hr,hx⟩⟩
  |cons v vs=>
   cases v with
   |slice p m c=>
    cases p with
    |none=>exact keep _ _ vs (fun _ _ h=>Gl h) h
    |some a=>
     change (match a.spot,dW (path a.block) st.heap with
      |none,some (.cells cs e ex)=>@Bool.rec (fun _=>DT α)
        (kN (oI P a.off m c cs e) (wJ P n (tlT ts) vs ⟨dO (path a.block) st.heap .dead,st.next⟩ fun vs1 st1=>k (Nk P a.off m c cs e::vs1) st1))
        (wJ P n (List.flatten (List.replicate cs.length (Jb P 6 e))) cs st fun cs1 st1=>match dW (path a.block) st1.heap with
         |some (.cells c1 e1 _)=>kN (and (Nat.beq e1 e) (and (Nat.beq cs1.length c1.length) (oI P a.off m c cs1 e))) (wJ P n (tlT ts) vs ⟨dO (path a.block) st1.heap .dead,st1.next⟩ fun vs1 st2=>k (Nk P a.off m c cs1 e::vs1) st2)
         |_=> .fail) ex
      |_,_=>wJ P n (tlT ts) vs st fun vs1 st1=>k (.slice (some a) m c::vs1) st1).eval=some r at h
     split at h
     ·rename_i cs e ex hsp hg;rw[dL]at hg;cases ex with
      |false=>
       obtain⟨hc,h⟩:=iM h;obtain⟨vs1,st1,h1,h2,h3,h4⟩:=l9 n _ vs _ _ h;refine⟨_,_,h1,h2,by simp[h3],fun K β w xs hr hx=>?_⟩;simp only[VRL]at hx;obtain⟨y,ys,rfl,hy,hys⟩:=hx;obtain⟨l,hl,hbk⟩:=hr.get_cells hg;obtain⟨β1,a1,a2,a3⟩:=NE hr hg rfl hc (fun l' cc f hl' hv hw=>by
        rw[hl]at hl';obtain rfl:=aC hl';rcases hbk with⟨hv',_⟩ | ⟨_,_,cc',f',g1,_,_,_,_,g6,_⟩
        ·rw[hv]at hv'; cases hv'
        ·rw[g1]at hw;cases hw
         exact g6)
       obtain⟨β2,b1,b2,b3⟩:=h4 K β1 w ys a2 (hys.mono a1);exact⟨β2,a1.trans b1,b2,VRL.cons ((a3 y hy).mono b1) b3⟩
      |true=>
       obtain⟨cs1,st1,h1,h2,h3,h4⟩:=l9 n _ cs st _ h;split at h1
       ·rename_i c1 e1 ex1 hg1;rw[dL]at hg1;obtain⟨hc,h1⟩:=iM h1;simp only[bV]at hc;obtain⟨hc0,hln,hc⟩:=hc;have hln:=dF hln;have hc0:=dF hc0;subst hc0;obtain⟨vs1,st2,k1,k2,k3,k4⟩:=l9 n _ vs _ _ h1;refine⟨_,_,k1,by rw[k2]; exact h2,by simp[k3],fun K β w xs hr hx=>?_⟩;simp only[VRL]at hx;obtain⟨y,ys,rfl,hy,hys⟩:=hx;obtain⟨l,hl,hbk⟩:=hr.get_cells hg;rcases hbk with⟨_,_,hx0⟩ | ⟨hv,hnK,cc,f,g1,g2,g3,g4,g5,g6,g7⟩
        ·cases hx0
        ·obtain⟨β1,a1,a2,a3⟩:=h4 K β w _ hr g6;obtain⟨l1,hl1,hbk1⟩:=a2.get_cells hg1;have hll:l1=l:=by rw[a1 _ _ hl]at hl1; exact(aC hl1).symm
         subst hll;rcases hbk1 with⟨hv1,_⟩ | ⟨_,_,cc1,f1,q1,q2,q3,q4,q5,q6,q7⟩
         ·rw[hv]at hv1; cases hv1
         ·obtain⟨β2,b1,b2,b3⟩:=NE a2 hg1 hln hc (fun l' cc' f' hl' hv' hw=>by
           rw[hl1]at hl';obtain rfl:=aC hl';rw[g1]at hw;cases hw
           rw[h3]; exact a3)
          obtain⟨β3,d1,d2,d3⟩:=k4 K β2 w ys b2 ((hys.mono a1).mono b1);exact⟨β3,(a1.trans b1).trans d1,d2,VRL.cons ((b3 y (hy.mono a1)).mono d1) d3⟩
       ·cases h1
     ·exact keep _ _ vs (fun _ _ h=>h) h
   |agg l=>
    obtain⟨l⟩:=l;obtain⟨l1,st1,h1,h2,h3,h4⟩:=l9 n _ l st _ h;obtain⟨vs1,st2,k1,k2,k3,k4⟩:=l9 n _ vs st1 _ h1;refine⟨_,_,k1,by rw[k2,h2],by simp[k3],fun K β w xs hr hx=>?_⟩;simp only[VRL]at hx;obtain⟨y,ys,rfl,hy,hys⟩:=hx;simp only[VR]at hy;obtain⟨⟨l'⟩,rfl,hl'⟩:=hy;simp only[VRA]at hl';obtain⟨β1,a1,a2,a3⟩:=h4 K β w l' hr hl';obtain⟨β2,b1,b2,b3⟩:=k4 K β1 w ys a2 (hys.mono a1);refine⟨β2,a1.trans b1,b2,VRL.cons ?_ b3⟩;simp only[VR];exact⟨_,rfl,by simp only[VRA]; exact a3.mono b1⟩
   |_=>exact keep _ _ vs (fun _ _ h=>Gl h) h
def Z9(P:Program)(g:FuncId):List TypeId:=match wH P g with
 |some fb=>fb.1.params.toList
 |none=>[]
def aiS(P:Program)(g:FuncId)(R:iC)(args:List Value)(st:St):Option (DT (Value×St)):=
 some (wJ P 100 (Z9 P g) args st fun args1 st1=>match adI R args1 st1 with
  |some t=>t
  |none=> .fail)
def E_(P:Program)(o:Oper)(ρ:Operand->Value)(st:St):Option (DT (Value×St)):=match o.op with
 | .call c=>match c.callee,c.args.toList with
  | .builtin .append,[_,y]=>match ρ y with
   | .slice (some a) _ _=>match dW (path a.block) st.heap with
    |some (.cells cs e true)=>match qg P o ρ st with
     |some _=>some (wJ P 100 (List.flatten (List.replicate cs.length (Jb P 6 e))) cs st fun cs1 st1=>match dW (path a.block) st1.heap with
      |some (.cells c1 e1 _)=>kN (and (Nat.beq e1 e) (Nat.beq cs1.length c1.length)) (match qg P o ρ ⟨dO (path a.block) st1.heap (.cells cs1 e true),st1.next⟩with
       |some t=>t
       |none=> .fail)
      |_=> .fail)
     |none=>none
    |_=>qg P o ρ st
   |_=>qg P o ρ st
  |_,_=>qg P o ρ st
 |_=>qg P o ρ st
theorem OQ(hN:noNum P=true)(o:Oper)(ρ:Operand->Value)(st:St)(v:Value)(st':St)(h:(E_ P o ρ st).bind DT.eval=some (v,st')) :
  gW o.op=false/\∀ (K:Prot) (β:Env) (w:World) (ρ':Operand->Value),(∀ x,VR β (ρ x) (ρ' x))->Rel P K β st w->cO P K β st w ((execOp ρ' o).run P w) (.val v st'):=by
 have dflt:(qg P o ρ st).bind DT.eval=some (v,st')->gW o.op=false/\∀ (K:Prot) (β:Env) (w:World) (ρ':Operand->Value),(∀ x,VR β (ρ x) (ρ' x))->Rel P K β st w->cO P K β st w ((execOp ρ' o).run P w) (.val v st'):=Nu hN o ρ st v st';unfold E_ at h;split at h
 ·rename_i c hop;split at h
  ·rename_i x y hc1 hc2;split at h
   ·rename_i a n cap hy;split at h
    ·rename_i cs e hg;rw[dL]at hg;split at h
     ·simp only[jf]at h;obtain⟨cs1,st1,h1,h2,h3,h4⟩:=l9 _ _ _ _ _ h;split at h1
      ·rename_i c1 e1 ex1 hg1;rw[dL]at hg1;obtain⟨hc,h1⟩:=iM h1;simp only[bV]at hc;have he:=dF hc.1;have hln:=dF hc.2;subst he;split at h1
       ·rename_i t ht;have hs:=Nu hN o ρ ⟨dO (path a.block) st1.heap (.cells cs1 e1 true),st1.next⟩ v st' (by rw[ht]; exact h1);refine⟨hs.1,fun K β w ρ' hρ hr=>?_⟩;obtain⟨l,hl,hbk⟩:=hr.get_cells hg;rcases hbk with⟨_,_,hx0⟩ | ⟨hv,hnK,cc,f,g1,g2,g3,g4,g5,g6,g7⟩
        ·cases hx0
        ·obtain⟨β1,a1,a2,a3⟩:=h4 K β w _ hr g6;have hl1:=a1 _ _ hl;have hrel:Rel P K β1 ⟨dO (path a.block) st1.heap (.cells cs1 e1 true),st1.next⟩ w:=by
          rw[dP];refine a2.update (b':= .cells cs1 e1 true) hg1 rfl rfl rfl hl1 rfl (fun _ _=>rfl) (Or.inr ⟨hv,cc,f,g1,g2,g3,by omega,fun _=>by rw[h3]; exact g5 rfl,by rw[h3]; exact a3,g7.1,fun h=>by cases h⟩)
         obtain⟨β2,w2,v2,b1,b2,b3,b4,b5⟩:=hs.2 K β1 w ρ' (fun z=>(hρ z).mono a1) hrel;exact⟨β2,w2,v2,b1,a1.trans b2,b3,b4,b5⟩
       ·cases h1
      ·cases h1
     ·cases h
    ·exact dflt h
   ·exact dflt h
  ·exact dflt h
 ·exact dflt h
def abH(P:Program):Ct:=⟨fun _ _ _=>none,fun _ _ _ _=>none,E_ P⟩
theorem QD(o:Oper)(ρ ρ':Operand->Value)(st:St)(h:∀ x∈o.op.operands,ρ x=ρ' x):E_ P o ρ st=E_ P o ρ' st:=by
 have hs:∀ st,qg P o ρ st=qg P o ρ' st:=fun st=>P7 o ρ ρ' st h;unfold E_;simp only[hs];split
 ·rename_i c hop;split
  ·rename_i x y hc1 hc2;have hargs:∀ x∈c.args.toList,ρ x=ρ' x:=fun x hx=>h x (by rw[hop]; simp[Op.operands,Call.operands]; exact(by first | exact Or.inr (by simpa using hx) | exact Or.inl (by simpa using hx)));rw[hargs y (by rw[hc2]; simp)]
  ·rfl
 ·rfl
theorem YR(hN:noNum P=true):CtOk P (abH P):=⟨fun _ _ _ _ _ _ h=>(by cases h),fun _ _ _ _ _ _ _ _ _ h=>(by cases h),QD,fun K o ρ st v st' h=>⟨(OQ hN o ρ st v st' h).1,(OQ hN o ρ st v st' h).2 K⟩⟩
end
section
variable{P:Program}{ct:Ct}
theorem Zg{K:Prot}{β:Env}{st:St}{w:World}(hr:Rel P K β st w){a:Addr}{c:List Value}{e:TypeId}{len m:Nat}{v':Value}(hg:st.heap.get a.block=some (.cells c e false))(ho:a.off+m<=c.length)(hv:VR β (.slice (some a) len unk) v') :
  ∃ β',β.le β'/\Rel P K β' (newRow (kill st a.block) ((c.drop a.off).take m) e false).2 w/\VR β' (.slice (some (newRow (kill st a.block) ((c.drop a.off).take m) e false).1) len unk) v':=by
 simp only[VR]at hv;obtain⟨hs,l,hl,hsl⟩:=hv;obtain⟨l',k1,hbk⟩:=hr.get_cells hg;obtain rfl:l'=l:=by rw[k1]at hl; exact aC hl
 rcases hbk with⟨hvt,hc,_⟩ | ⟨hvt,k2,cc,f,k3,k4,k5,k6,k7,k8,k9⟩
 ·subst hc;have hk:=hr.kill a.block (by intro o e; rw[hg]at e; cases e);have hv:=hk.virt e 0 0;refine⟨_,hk.le_put _,by rw[List.drop_nil,wB]; exact hv,⟨rfl,_,dK _ _ _,?_⟩⟩;unfold dI at hsl ⊢;rw[if_pos hvt]at hsl;rw[if_pos rfl];exact⟨hsl.1,rfl,Or.inr rfl,hsl.2.2.2⟩
 ·unfold dI at hsl;rw[if_neg (by simp[hvt]),if_neg (by simp),if_pos rfl]at hsl;have hlen:((c.drop a.off).take m).length=m:=by rw[fH,gZ]; omega
  refine⟨β.put st.next ⟨l'.blk,l'.base+a.off,l'.total-a.off,l'.esize,none,false⟩,hr.le_put _,hr.move hg rfl rfl rfl k1 hvt rfl rfl rfl (fun _ _=>rfl) ?_,⟨rfl,_,dK _ _ _,?_⟩⟩
  ·refine iq.mono (hr.le_put _) (Or.inr ⟨rfl,cc,f,k3,k4,by show l'.base+a.off+(l'.total-a.off)<=_; omega,by rw[hlen]; show _<=l'.total-a.off; omega,fun h=>(by cases h),?_,k9.1,fun _=>by have:=k9.2 rfl; show l'.total-a.off<9223372036854775808*l'.esize; omega⟩);have hh:=(k8.drop a.off).take m;rw[zM,vH,zh]at hh;rw[hlen];have:min m (c.length-a.off)=m:=by omega
   rw[this]at hh;exact hh
  ·unfold dI;rw[if_neg (by simp),if_neg (by simp),if_pos rfl];refine⟨?_,ig _⟩;rw[hsl.1];show _=Value.slice (some ⟨l'.blk,l'.base+a.off+0,none⟩) len ((l'.total-a.off-0) / l'.esize)
   rfl
theorem XT{K:Prot}{β:Env}{st:St}{w:World}(hr:Rel P K β st w){a:Addr}{c:List Value}{e:TypeId}{len cp:Nat}{v':Value}(hg:st.heap.get a.block=some (.cells c e false))(h1:cp≠unk)(h2:unk<=cp)(hv:VR β (.slice (some a) len cp) v') :
  ∃ β',β.le β'/\Rel P K β' (newRow (kill st a.block) [] e false).2 w/\VR β' (.slice (some (newRow (kill st a.block) [] e false).1) 0 unk) v':=by
 simp only[VR]at hv;obtain⟨hs,l,hl,hsl⟩:=hv;obtain⟨l',k1,hbk⟩:=hr.get_cells hg;obtain rfl:l'=l:=by rw[k1]at hl; exact aC hl
 have hu:unk≠0:=by unfold unk; omega
 rcases hbk with⟨hvt,hc,_⟩ | ⟨hvt,k2,cc,f,k3,k4,k5,k6,k7,k8,k9⟩
 ·unfold dI at hsl;rw[if_pos hvt]at hsl;rcases hsl.2.2.1 with h | h
  ·omega
  ·exact absurd h h1
 ·unfold dI at hsl;rw[if_neg (by simp[hvt]),if_neg (by omega),if_neg h1]at hsl;obtain⟨rfl,q2,q3,q4⟩:=hsl;have hpos:0<l'.esize:=by
   have:=k9.2 rfl;rcases Nat.eq_zero_or_pos l'.esize with h | h
   ·rw[h]at this; omega
   ·exact h
  have make:∀ (b t:Nat),l'.base<=b->b+t<=l'.base+l'.total->v' = .slice (some ⟨l'.blk,b,none⟩) 0 (t / l'.esize)->
    ∃ β',β.le β'/\Rel P K β' (newRow (kill st a.block) [] e false).2 w/\VR β' (.slice (some (newRow (kill st a.block) [] e false).1) 0 unk) v':=by
   intro b t hb ht hv;refine⟨β.put st.next ⟨l'.blk,b,t,l'.esize,none,false⟩,hr.le_put _,hr.move hg rfl rfl rfl k1 hvt rfl rfl rfl (fun _ _=>rfl) ?_,⟨rfl,_,dK _ _ _,?_⟩⟩
   ·refine iq.mono (hr.le_put _) (Or.inr ⟨rfl,cc,f,k3,k4,by show b+t<=_; omega,ig _,fun h=>(by cases h),?_,k9.1,fun _=>by have:=k9.2 rfl; show t<9223372036854775808*l'.esize; omega⟩);rw[lL,List.take_zero]; exact VRL.nil
   ·unfold dI;rw[if_neg (by simp),if_neg (by simp),if_pos rfl];refine⟨?_,ig _⟩;rw[hv]
    rfl
  split at q4
  ·rename_i hq;exact make (l'.base+a.off) 0 (by omega) (by omega) (by rw[q4,Nat.zero_div])
  ·have hm:(cp-unk)*l'.esize<=l'.total-a.off:=yD (xA _ q2) (Nat.div_mul_le_self _ _);refine make (l'.base+(a.off+(cp-unk)*l'.esize)) (l'.total-a.off-(cp-unk)*l'.esize) (by omega) (by omega) ?_;rw[q4,Nat.mul_comm (cp-unk),Nat.sub_mul_div]
theorem WZ{K:Prot}{β:Env}{st:St}{w:World}(hr:Rel P K β st w){a:Addr}{c:List Value}{e:TypeId}{len cp:Nat}{v':Value}(hg:st.heap.get a.block=some (.cells c e false))(h1:cp<unk)(hm:len<=cp)(ho:a.off+cp*esz P e<=c.length)(hv:VR β (.slice (some a) len cp) v') :
  ∃ β',β.le β'/\Rel P K β' (newRow (kill st a.block) ((c.drop a.off).take (len*esz P e)) e false).2 w/\VR β' (.slice (some (newRow (kill st a.block) ((c.drop a.off).take (len*esz P e)) e false).1) len unk) v':=by
 simp only[VR]at hv;obtain⟨hs,l,hl,hsl⟩:=hv;obtain⟨l',k1,hbk⟩:=hr.get_cells hg;obtain rfl:l'=l:=by rw[k1]at hl; exact aC hl
 rcases hbk with⟨hvt,hc,_⟩ | ⟨hvt,k2,cc,f,k3,k4,k5,k6,k7,k8,k9⟩
 ·subst hc;have hk:=hr.kill a.block (by intro o e; rw[hg]at e; cases e);have hv:=hk.virt e 0 0;refine⟨_,hk.le_put _,by rw[List.drop_nil,wB]; exact hv,⟨rfl,_,dK _ _ _,?_⟩⟩;unfold dI at hsl ⊢;rw[if_pos hvt]at hsl;rw[if_pos rfl];exact⟨hsl.1,rfl,Or.inr rfl,hsl.2.2.2⟩
 ·unfold dI at hsl;rw[if_neg (by simp[hvt]),if_pos h1]at hsl;rw[<-k4]at ho ⊢;have hpos:0<l'.esize:=by
   have:=k9.2 rfl;rcases Nat.eq_zero_or_pos l'.esize with h | h
   ·rw[h]at this; omega
   ·exact h
  have hle:len*l'.esize<=cp*l'.esize:=xA _ hm;have hlen:((c.drop a.off).take (len*l'.esize)).length=len*l'.esize:=by rw[fH,gZ]; omega
  refine⟨β.put st.next ⟨l'.blk,l'.base+a.off,cp*l'.esize,l'.esize,none,false⟩,hr.le_put _,hr.move hg rfl rfl rfl k1 hvt rfl rfl rfl (fun _ _=>rfl) ?_,⟨rfl,_,dK _ _ _,?_⟩⟩
  ·refine iq.mono (hr.le_put _) (Or.inr ⟨rfl,cc,f,k3,k4,by show l'.base+a.off+cp*l'.esize<=_; omega,by rw[hlen]; exact hle,fun h=>(by cases h),?_,k9.1,fun _=>by have:=k9.2 rfl; show cp*l'.esize<9223372036854775808*l'.esize; omega⟩);have hh:=(k8.drop a.off).take (len*l'.esize);rw[zM,vH,zh]at hh;rw[hlen];have:min (len*l'.esize) (c.length-a.off)=len*l'.esize:=by omega
   rw[this]at hh;exact hh
  ·unfold dI;rw[if_neg (by simp),if_neg (by simp),if_pos rfl];refine⟨?_,ig _⟩;rw[hsl];show _=Value.slice (some ⟨l'.blk,l'.base+a.off+0,none⟩) len ((cp*l'.esize-0) / l'.esize);rw[wu,Nat.mul_div_cancel _ hpos]
   rfl
/-- Of a list: it is only read; it may grow; it is left where it lies (another one may point to the same). -/
inductive Fl where
 |val | own | keep
def mO{α:Type}(P:Program)(n:Nat):List Fl->List TypeId->List Value->St->(List Value->List Nat->St->DT α)->DT α:=
 @Nat.rec (fun _=>List Fl->List TypeId->List Value->St->(List Value->List Nat->St->DT α)->DT α) (fun _ _ _ _ _=> .fail)
  (fun _ ih fl ts vs st k=>match vs with
   |[]=>k [] [] st
   |v::vs=>match v with
    | .pointer (some a)=>ih (fl.drop 1) (tlT ts) vs st fun vs1 ps st1=>k (v::vs1) (a.block::ps) st1
    | .slice none m c=>match(match fl with | .own::_=>true | .keep::_=>true | _=>false)with
     |true=>match ts with
      |t::_=>match gV P t with
       |some (.slice e)=>kN (and (Nat.beq m 0) (Nat.beq c 0)) (ih (fl.drop 1) (tlT ts) vs ⟨dO (path st.next) st.heap (.cells [] e false),Nat.succ st.next⟩ fun vs1 ps st1=>k (.slice (some ⟨st.next,0,none⟩) 0 unk::vs1) ps st1)
       |_=> .fail
      |[]=> .fail
     |false=>ih (fl.drop 1) (tlT ts) vs st fun vs1 ps st1=>k (OT P ts v::vs1) ps st1
    | .slice (some a) m c=>match fl with
     | .keep::_=>ih (fl.drop 1) (tlT ts) vs st fun vs1 ps st1=>k (v::vs1) ps st1
     | .own::_=>match dW (path a.block) st.heap with
      |some (.cells cs e false)=> .ite (Nat.beq c unk)
        (kN (Nat.ble (Nat.add a.off (Nat.mul m (esz P e))) cs.length) (ih (fl.drop 1) (tlT ts) vs ⟨dO (path st.next) (dO (path a.block) st.heap .dead) (.cells (takeC (Nat.mul m (esz P e)) (aO a.off cs)) e false),Nat.succ st.next⟩ fun vs1 ps st1=>k (.slice (some ⟨st.next,0,none⟩) m unk::vs1) ps st1))
        (.ite (Nat.ble unk c)
         (ih (fl.drop 1) (tlT ts) vs ⟨dO (path st.next) (dO (path a.block) st.heap .dead) (.cells [] e false),Nat.succ st.next⟩ fun vs1 ps st1=>k (.slice (some ⟨st.next,0,none⟩) 0 unk::vs1) ps st1)
         (.ite (and (Nat.ble m c) (Nat.ble (Nat.add a.off (Nat.mul c (esz P e))) cs.length))
         (ih (fl.drop 1) (tlT ts) vs ⟨dO (path st.next) (dO (path a.block) st.heap .dead) (.cells (takeC (Nat.mul m (esz P e)) (aO a.off cs)) e false),Nat.succ st.next⟩ fun vs1 ps st1=>k (.slice (some ⟨st.next,0,none⟩) m unk::vs1) ps st1)
         (ih (fl.drop 1) (tlT ts) vs st fun vs1 ps st1=>k (v::vs1) ps st1)))
      |_=>ih (fl.drop 1) (tlT ts) vs st fun vs1 ps st1=>k (v::vs1) ps st1
     |_=>wJ P 20 ts [v] st fun l1 st1=>match l1 with
      |[v1]=>ih (fl.drop 1) (tlT ts) vs st1 fun vs1 ps st2=>k (v1::vs1) ps st2
      |_=> .fail
    |v=>ih (fl.drop 1) (tlT ts) vs st fun vs1 ps st1=>k (v::vs1) ps st1) n
theorem jG{α:Type}{r:α}:∀ (n:Nat) (fl:List Fl) (ts:List TypeId) (vs:List Value) (st:St) (k:List Value->List Nat->St->DT α),(mO P n fl ts vs st k).eval=some r->
  ∃ vs1 ps st1,(k vs1 ps st1).eval=some r/\vs1.length=vs.length/\∀ (K:Prot) (β:Env) (w:World) (xs:List Value),Rel P K β st w->VRL β vs xs->∃ β1,β.le β1/\Rel P K β1 st1 w/\VRL β1 vs1 xs
 |0,fl,ts,vs,st,k,h=>by cases h
 |n+1,fl,ts,vs,st,k,h=>by
  have keep:∀ (v v2:Value) (vs:List Value) (f:List Nat->List Nat),(∀ (β:Env) x,VR β v x->VR β v2 x)->(mO P n (fl.drop 1) (tlT ts) vs st fun vs1 ps st1=>k (v2::vs1) (f ps) st1).eval=some r->
    ∃ vs1 ps st1,(k vs1 ps st1).eval=some r/\vs1.length=(v::vs).length/\∀ (K:Prot) (β:Env) (w:World) (xs:List Value),Rel P K β st w->VRL β (v::vs) xs->∃ β1,β.le β1/\Rel P K β1 st1 w/\VRL β1 vs1 xs:=by
   intro v v2 vs f hv2 h;obtain⟨vs1,ps,st1,h1,h3,h4⟩:=jG n _ _ vs st _ h;refine⟨_,_,_,h1,by simp[h3],fun K β w xs hr hx=>?_⟩;simp only[VRL]at hx;obtain⟨y,ys,rfl,hy,hys⟩:=hx;obtain⟨β1,a1,a2,a3⟩:=h4 K β w ys hr hys;exact⟨β1,a1,a2,VRL.cons (hv2 _ _ (hy.mono a1)) a3⟩
  cases vs with
  |nil=>exact⟨[],[],st,h,rfl,fun K β w xs hr hx=>⟨β,Env.le.refl _,hr,hx⟩⟩
  |cons v vs=>
   cases v with
   |pointer p=>
    cases p with
    |none=>exact keep _ _ vs id (fun _ _ h=>h) h
    |some a=>exact keep _ _ vs (a.block::·) (fun _ _ h=>h) h
   |slice p m c=>
    cases p with
    |none=>
     change (match(match fl with | .own::_=>true | .keep::_=>true | _=>false)with
      |true=>match ts with
       |t::_=>match gV P t with
        |some (.slice e)=>kN (and (Nat.beq m 0) (Nat.beq c 0)) (mO P n (fl.drop 1) (tlT ts) vs ⟨dO (path st.next) st.heap (.cells [] e false),Nat.succ st.next⟩ fun vs1 ps st1=>k (.slice (some ⟨st.next,0,none⟩) 0 unk::vs1) ps st1)
        |_=> .fail
       |[]=> .fail
      |false=>mO P n (fl.drop 1) (tlT ts) vs st fun vs1 ps st1=>k (OT P ts (.slice none m c)::vs1) ps st1).eval=some r at h
     split at h
     ·split at h
      ·split at h
       ·rename_i e _;obtain⟨hc,h⟩:=iM h;simp only[bV]at hc;obtain rfl:=dF hc.1;obtain rfl:=dF hc.2;obtain⟨vs1,ps,st1,h1,h3,h4⟩:=jG n _ _ vs _ _ h;refine⟨_,_,_,h1,by simp[h3],fun K β w xs hr hx=>?_⟩;simp only[VRL]at hx;obtain⟨y,ys,rfl,hy,hys⟩:=hx;have hv:=hr.virt e 0 0;have hst:(st.new (.cells [] e false)).2=⟨dO (path st.next) st.heap (.cells [] e false),Nat.succ st.next⟩:=by rw[dP]; rfl
        rw[hst]at hv;obtain⟨β1,a1,a2,a3⟩:=h4 K _ w ys hv (hys.mono (hr.le_put _));refine⟨β1,(hr.le_put _).trans a1,a2,VRL.cons ?_ a3⟩;refine⟨rfl,_,a1 _ _ (dK _ _ _),?_⟩;unfold dI;rw[if_pos rfl];exact⟨rfl,rfl,Or.inr rfl,hy⟩
       ·cases h
      ·cases h
     ·exact keep _ _ vs id (fun _ _ h=>Gl h) h
    |some a=>
     change (match fl with
      | .keep::_=>mO P n (fl.drop 1) (tlT ts) vs st fun vs1 ps st1=>k (.slice (some a) m c::vs1) ps st1
      | .own::_=>match dW (path a.block) st.heap with
       |some (.cells cs e false)=> .ite (Nat.beq c unk)
         (kN (Nat.ble (Nat.add a.off (Nat.mul m (esz P e))) cs.length) (mO P n (fl.drop 1) (tlT ts) vs ⟨dO (path st.next) (dO (path a.block) st.heap .dead) (.cells (takeC (Nat.mul m (esz P e)) (aO a.off cs)) e false),Nat.succ st.next⟩ fun vs1 ps st1=>k (.slice (some ⟨st.next,0,none⟩) m unk::vs1) ps st1))
         (.ite (Nat.ble unk c)
          (mO P n (fl.drop 1) (tlT ts) vs ⟨dO (path st.next) (dO (path a.block) st.heap .dead) (.cells [] e false),Nat.succ st.next⟩ fun vs1 ps st1=>k (.slice (some ⟨st.next,0,none⟩) 0 unk::vs1) ps st1)
          (.ite (and (Nat.ble m c) (Nat.ble (Nat.add a.off (Nat.mul c (esz P e))) cs.length))
           (mO P n (fl.drop 1) (tlT ts) vs ⟨dO (path st.next) (dO (path a.block) st.heap .dead) (.cells (takeC (Nat.mul m (esz P e)) (aO a.off cs)) e false),Nat.succ st.next⟩ fun vs1 ps st1=>k (.slice (some ⟨st.next,0,none⟩) m unk::vs1) ps st1)
           (mO P n (fl.drop 1) (tlT ts) vs st fun vs1 ps st1=>k (.slice (some a) m c::vs1) ps st1)))
       |_=>mO P n (fl.drop 1) (tlT ts) vs st fun vs1 ps st1=>k (.slice (some a) m c::vs1) ps st1
      |_=>wJ P 20 ts [.slice (some a) m c] st fun l1 st1=>match l1 with
       |[v1]=>mO P n (fl.drop 1) (tlT ts) vs st1 fun vs1 ps st2=>k (v1::vs1) ps st2
       |_=> .fail).eval=some r at h
     split at h
     ·exact keep _ _ vs id (fun _ _ h=>h) h
     ·split at h
      ·rename_i cs e hg;rw[dL]at hg;cases hcu:Nat.beq c unk with
       |true=>
        rw[hcu]at h;have h:(kN (Nat.ble (Nat.add a.off (Nat.mul m (esz P e))) cs.length) (mO P n _ (tlT ts) vs ⟨dO (path st.next) (dO (path a.block) st.heap .dead) (.cells (takeC (Nat.mul m (esz P e)) (aO a.off cs)) e false),Nat.succ st.next⟩ fun vs1 ps st1=>k (.slice (some ⟨st.next,0,none⟩) m unk::vs1) ps st1)).eval=some r:=h;obtain rfl:=dF hcu;obtain⟨hc,h⟩:=iM h;have hc:a.off+m*esz P e<=cs.length:=dR hc;obtain⟨vs1,ps,st1,h1,h3,h4⟩:=jG n _ _ vs _ _ h;refine⟨_,_,_,h1,by simp[h3],fun K β w xs hr hx=>?_⟩;simp only[VRL]at hx;obtain⟨y,ys,rfl,hy,hys⟩:=hx;obtain⟨β1,a1,a2,a3⟩:=Zg hr hg hc hy;have hst:(newRow (kill st a.block) ((cs.drop a.off).take (m*esz P e)) e false).2=⟨dO (path st.next) (dO (path a.block) st.heap .dead) (.cells (takeC (Nat.mul m (esz P e)) (aO a.off cs)) e false),Nat.succ st.next⟩:=by
         rw[dP,dP]; rfl
        rw[hst]at a2;obtain⟨β2,b1,b2,b3⟩:=h4 K β1 w ys a2 (hys.mono a1);exact⟨β2,a1.trans b1,b2,VRL.cons (a3.mono b1) b3⟩
       |false=>
        rw[hcu]at h;cases hcb:Nat.ble unk c with
        |true=>
         rw[hcb]at h;have h:(mO P n _ (tlT ts) vs ⟨dO (path st.next) (dO (path a.block) st.heap .dead) (.cells [] e false),Nat.succ st.next⟩ fun vs1 ps st1=>k (.slice (some ⟨st.next,0,none⟩) 0 unk::vs1) ps st1).eval=some r:=h;obtain⟨vs1,ps,st1,h1,h3,h4⟩:=jG n _ _ vs _ _ h;refine⟨_,_,_,h1,by simp[h3],fun K β w xs hr hx=>?_⟩;simp only[VRL]at hx;obtain⟨y,ys,rfl,hy,hys⟩:=hx;obtain⟨β1,a1,a2,a3⟩:=XT hr hg (pV hcu) (dR hcb) hy;have hst:(newRow (kill st a.block) [] e false).2=⟨dO (path st.next) (dO (path a.block) st.heap .dead) (.cells [] e false),Nat.succ st.next⟩:=by
          rw[dP,dP]; rfl
         rw[hst]at a2;obtain⟨β2,b1,b2,b3⟩:=h4 K β1 w ys a2 (hys.mono a1);exact⟨β2,a1.trans b1,b2,VRL.cons (a3.mono b1) b3⟩
        |false=>
         rw[hcb]at h;have hlt:c<unk:=by
          rcases Nat.lt_or_ge c unk with q | q
          ·exact q
          ·rw[dG q]at hcb; cases hcb
         cases hcd:and (Nat.ble m c) (Nat.ble (Nat.add a.off (Nat.mul c (esz P e))) cs.length)with
         |false=>
          rw[hcd]at h;exact keep _ _ vs id (fun _ _ h=>h) h
         |true=>
          rw[hcd]at h;have h:(mO P n _ (tlT ts) vs ⟨dO (path st.next) (dO (path a.block) st.heap .dead) (.cells (takeC (Nat.mul m (esz P e)) (aO a.off cs)) e false),Nat.succ st.next⟩ fun vs1 ps st1=>k (.slice (some ⟨st.next,0,none⟩) m unk::vs1) ps st1).eval=some r:=h;simp only[bV]at hcd;obtain⟨vs1,ps,st1,h1,h3,h4⟩:=jG n _ _ vs _ _ h;refine⟨_,_,_,h1,by simp[h3],fun K β w xs hr hx=>?_⟩;simp only[VRL]at hx;obtain⟨y,ys,rfl,hy,hys⟩:=hx;obtain⟨β1,a1,a2,a3⟩:=WZ hr hg hlt (dR hcd.1) (dR hcd.2) hy;have hst:(newRow (kill st a.block) ((cs.drop a.off).take (m*esz P e)) e false).2=⟨dO (path st.next) (dO (path a.block) st.heap .dead) (.cells (takeC (Nat.mul m (esz P e)) (aO a.off cs)) e false),Nat.succ st.next⟩:=by
           rw[dP,dP]; rfl
          rw[hst]at a2;obtain⟨β2,b1,b2,b3⟩:=h4 K β1 w ys a2 (hys.mono a1);exact⟨β2,a1.trans b1,b2,VRL.cons (a3.mono b1) b3⟩
      ·exact keep _ _ vs id (fun _ _ h=>h) h
     ·obtain⟨l1,st1,h1,h2,h3,h4⟩:=l9 _ _ _ _ _ h;split at h1
      ·rename_i v1;obtain⟨vs1,ps,st2,k1,k3,k4⟩:=jG n _ _ vs _ _ h1;refine⟨_,_,_,k1,by simp[k3],fun K β w xs hr hx=>?_⟩;simp only[VRL]at hx;obtain⟨y,ys,rfl,hy,hys⟩:=hx;obtain⟨β1,a1,a2,a3⟩:=h4 K β w [y] hr (VRL.cons hy VRL.nil);obtain⟨β2,b1,b2,b3⟩:=k4 K β1 w ys a2 (hys.mono a1);simp only[VRL]at a3;obtain⟨y',ys',e',hy',_⟩:=a3;cases e';exact⟨β2,a1.trans b1,b2,VRL.cons (hy'.mono b1) b3⟩
      ·cases h1
   |_=>exact keep _ _ vs id (fun _ _ h=>h) h
abbrev Pol:=TypeId->Option (List Fl)
def uI{α:Type}(P:Program)(pol:Pol)(n:Nat):List Nat->List Nat->St->(St->DT α)->DT α:=
 @Nat.rec (fun _=>List Nat->List Nat->St->(St->DT α)->DT α) (fun _ _ _ _=> .fail)
  (fun _ ih todo seen st k=>match todo with
   |[]=>k st
   |b::todo=>@Bool.rec (fun _=>DT α)
     (match dW (path b) st.heap with
      |some (.cells c e true)=>match pol e with
       |some fl=>mO P 60 fl (Jb P 6 e) c st fun c1 ps st1=>match dW (path b) st1.heap with
        |some (.cells c2 e2 x2)=>kN (and (Nat.beq e2 e) (and x2 (Nat.beq c1.length c2.length))) (ih (ps.append todo) (b::seen) ⟨dO (path b) st1.heap (.cells c1 e true),st1.next⟩ k)
        |_=> .fail
       |none=>ih todo (b::seen) st k
      |_=>ih todo (b::seen) st k)
     (ih todo seen st k) (oV seen b)) n
theorem jV{α:Type}{r:α}{pol:Pol}:∀ (n:Nat) (todo seen:List Nat) (st:St) (k:St->DT α),(uI P pol n todo seen st k).eval=some r->
  ∃ st1,(k st1).eval=some r/\∀ (K:Prot) (β:Env) (w:World),Rel P K β st w->∃ β1,β.le β1/\Rel P K β1 st1 w
 |0,todo,seen,st,k,h=>by cases h
 |n+1,todo,seen,st,k,h=>by
  cases todo with
  |nil=>exact⟨st,h,fun K β w hr=>⟨β,Env.le.refl _,hr⟩⟩
  |cons b todo=>
   change (@Bool.rec (fun _=>DT α)
     (match dW (path b) st.heap with
      |some (.cells c e true)=>match pol e with
       |some fl=>mO P 60 fl (Jb P 6 e) c st fun c1 ps st1=>match dW (path b) st1.heap with
        |some (.cells c2 e2 x2)=>kN (and (Nat.beq e2 e) (and x2 (Nat.beq c1.length c2.length))) (uI P pol n (ps.append todo) (b::seen) ⟨dO (path b) st1.heap (.cells c1 e true),st1.next⟩ k)
        |_=> .fail
       |none=>uI P pol n todo (b::seen) st k
      |_=>uI P pol n todo (b::seen) st k)
     (uI P pol n todo seen st k) (oV seen b)).eval=some r at h
   cases hb:oV seen b with
   |true=>rw[hb]at h; exact jV n _ _ _ _ h
   |false=>
    rw[hb]at h;simp only at h;split at h
    ·rename_i c e hg;rw[dL]at hg;split at h
     ·obtain⟨c1,ps,st1,h1,h3,h4⟩:=jG _ _ _ _ _ _ h;split at h1
      ·rename_i c2 e2 x2 hg1;rw[dL]at hg1;obtain⟨hc,h5⟩:=iM h1;clear h1;simp only[bV]at hc;obtain⟨q1,q2,q3⟩:=hc;have q1:=dF q1;have q3:=dF q3;subst q1 q2;obtain⟨st2,k1,k2⟩:=jV n _ _ _ _ h5;refine⟨st2,k1,fun K β w hr=>?_⟩;obtain⟨l,hl,hbk⟩:=hr.get_cells hg;rcases hbk with⟨_,_,hx0⟩ | ⟨hv,hnK,cc,f,g1,g2,g3,g4,g5,g6,g7⟩
       ·cases hx0
       ·obtain⟨β1,a1,a2,a3⟩:=h4 K β w _ hr g6;have hrel:Rel P K β1 ⟨dO (path b) st1.heap (.cells c1 e2 true),st1.next⟩ w:=by
         rw[dP];exact a2.update (b':= .cells c1 e2 true) hg1 rfl rfl rfl (a1 _ _ hl) rfl (fun _ _=>rfl) (Or.inr ⟨hv,cc,f,g1,g2,g3,by omega,fun _=>by rw[h3]; exact g5 rfl,by rw[h3]; exact a3,g7.1,fun h=>by cases h⟩)
        obtain⟨β2,b1,b2⟩:=k2 K β1 w hrel;exact⟨β2,a1.trans b1,b2⟩
      ·cases h1
     ·exact jV n _ _ _ _ h
    ·exact jV n _ _ _ _ h
def EH(l:List Value):List Nat:=@List.rec Value (fun _=>List Nat) [] (fun v _ ih=>match v with
 | .pointer (some a)=>a.block::ih
 |_=>ih) l
end
/-- A loop's head: slots that are looked at; of what kind the lists are that they hold; their types; the objects' fields likewise. -/
structure HeadD where
 nt:Nat
 L:List Tmp
 fl:List Fl
 ts:List TypeId
 pol:Pol
def HeadD.head(D:HeadD):Head:=⟨0,D.nt,D.L,[]⟩
section
variable{P:Program}{ct:Ct}
theorem Bj{β:Env}{s:Trie Value}{n:Nat}{tmps:Array Value}(h:jh β s n tmps)(L:List Tmp):VRL β (L.map (nP s)) (L.map fun t=>tmps.getD t undef):=
 VRL.map _ _ L fun t _=>by rw[oU]; exact h.2 t
theorem Lr{β:Env}{tmps:Array Value}:∀ (L:List Tmp) (vs:List Value) (s:Trie Value),(∀ i,VR β ((s.get i).getD undef) (tmps.getD i undef))->VRL β vs (L.map fun t=>tmps.getD t undef)->∀ i,VR β (((og L vs s).get i).getD undef) (tmps.getD i undef)
 |[],[],s,h,_,i=>by simpa [og]using h i
 |[],v::vs,s,h,hv,i=>by simpa [og]using h i
 |t::L,[],s,h,hv,i=>by simpa [og]using h i
 |t::L,v::vs,s,h,hv,i=>by
  simp only[ji,VRL]at hv;obtain⟨y,ys,e,hy,hys⟩:=hv;cases e;simp only[og];refine Lr L vs _ (fun j=>?_) hys i;rw[dP,Trie.get_set];by_cases hj:j=t
  ·subst hj; rw[if_pos rfl]; exact hy
  ·rw[if_neg hj]; exact h j
theorem Ak{β:Env}{tmps:Array Value}{nt:Nat}{L:List Tmp}{vs:List Value}(hsz:tmps.size=nt)(hv:VRL β vs (L.map fun t=>tmps.getD t undef)):jh β (mkS nt L vs) nt tmps:=by
 refine⟨hsz,fun i=>?_⟩;unfold mkS;refine Lr L vs _ (fun j=>?_) hv i;rw[oN];split
 ·rename_i hj;simp only[Ew]at hj;rw[List.getElem?_replicate,if_pos (by omega)];exact trivial
 ·rename_i hj;simp only[Ew]at hj;have hge:tmps.size<=j:=by omega
  have:tmps.getD j undef=undef:=by simp[Array.getD,rO.2 hge]
  rw[this];exact VR.flat_refl undef rfl
end
end Go.VS
end

noncomputable section
namespace Go.VS

section
/-- How a struct lies in cells. -/
structure Enc(α:Type) where
 sz:Nat
 f:α->List Value
 len:∀ a,(f a).length=sz
 pos:0<sz
 inj:∀ a b,f a=f b->a=b
 nr:∀ a,gq (f a)=true
variable{α:Type}(E:Enc α)
def Enc.all(l:List α):List Value:=l.flatMap E.f
theorem Enc.all_nil:E.all []=[]:=rfl
theorem Enc.all_cons(a:α)(l:List α):E.all (a::l)=E.f a++E.all l:=rD
theorem Enc.all_append(a b:List α):E.all (a++b)=E.all a++E.all b:=DU
theorem Enc.all_one(a:α):E.all [a]=E.f a:=by rw[E.all_cons,E.all_nil,gG]
theorem Enc.all_length(l:List α):(E.all l).length=l.length*E.sz:=by
 induction l with
 |nil=>simp[Enc.all_nil]
 |cons a l ih=>rw[E.all_cons,bP,E.len,ih,jH,qh]; omega
theorem Enc.all_nr(l:List α):gq (E.all l)=true:=by
 induction l with
 |nil=>rfl
 |cons a l ih=>rw[E.all_cons,CO,E.nr,ih]; rfl
theorem Enc.all_ren(ρ:Nat->Option Nat)(l:List α):aG true ρ (E.all l)=E.all l:=JS (E.all_nr l)
theorem Enc.all_inj(a b:List α)(h:E.all a=E.all b):a=b:=by
 induction a generalizing b with
 |nil=>
  cases b with
  |nil=>rfl
  |cons y b=>
   have:=congrArg List.length h;rw[E.all_length,E.all_length,lL,jH,Nat.zero_mul]at this;have:=Nat.mul_pos (Nat.succ_pos b.length) E.pos;simp only[Nat.succ_eq_add_one]at this;omega
 |cons x a ih=>
  cases b with
  |nil=>
   have:=congrArg List.length h;rw[E.all_length,E.all_length,lL,jH,Nat.zero_mul]at this;have:=Nat.mul_pos (Nat.succ_pos a.length) E.pos;simp only[Nat.succ_eq_add_one]at this;omega
  |cons y b=>
   rw[E.all_cons,E.all_cons]at h;obtain⟨h1,h2⟩:=List.append_inj h (by rw[E.len,E.len]);rw[E.inj _ _ h1,ih b h2]
theorem Enc.all_drop(n:Nat):∀ l:List α,(E.all l).drop (n*E.sz)=E.all (l.drop n):=by
 induction n with
 |zero=>intro l; simp
 |succ n ih=>
  intro l;cases l with
  |nil=>simp[Enc.all_nil]
  |cons a l=>
   rw[E.all_cons,qh,Nat.one_mul,Nat.add_comm,<-vH,x9 (E.len a),ih l]
   rfl
theorem Enc.all_take(n:Nat):∀ l:List α,(E.all l).take (n*E.sz)=E.all (l.take n):=by
 induction n with
 |zero=>intro l; simp[Enc.all_nil]
 |succ n ih=>
  intro l;cases l with
  |nil=>simp[Enc.all_nil]
  |cons a l=>
   rw[E.all_cons,BH,E.all_cons,List.take_append,E.len,oC (by rw[E.len,qh]; omega)];have:(n+1)*E.sz-E.sz=n*E.sz:=by rw[qh]; omega
   rw[this,ih l]
theorem Enc.all_self(l:List α):(E.all l).take (l.length*E.sz)=E.all l:=by rw[E.all_take,rC]
theorem Enc.nth{l:List α}{i j:Nat}(hi:i<l.length)(hj:j<E.sz):aV (E.all l) (i*E.sz+j)=(E.f l[i]).getD j undef:=by
 unfold aV;have h1:E.all l=E.all (l.take i)++(E.f l[i]++E.all (l.drop (i+1))):=by
  rw[<-E.all_cons,<-E.all_append];congr 1;rw[<-lu hi,sN]
 have h2:(E.all (l.take i)).length=i*E.sz:=by rw[E.all_length,fH]; congr 1; omega
 rw[h1,sQ,sQ,List.getElem?_append_right (by omega),h2,y_ (by rw[E.len]; omega)];congr 2;omega
open Classical in
def Enc.is(c:List Value):Bool:=decide (∃ l,E.all l=c)
open Classical in
def Enc.dec(c:List Value):List α:=if h:∃ l,E.all l=c then h.choose else []
open Classical in
theorem Enc.is_all(l:List α):E.is (E.all l)=true:=by unfold Enc.is; exact eU ⟨l,rfl⟩
open Classical in
theorem Enc.all_dec{c:List Value}(h:E.is c=true):E.all (E.dec c)=c:=by
 unfold Enc.is at h;have h:=lY h;unfold Enc.dec;rw[dif_pos h];exact h.choose_spec
theorem Enc.dec_all(l:List α):E.dec (E.all l)=l:=E.all_inj _ _ (E.all_dec (E.is_all l))
def Enc.fz(m t n:Nat)(c:List Value):Bool:=Nat.beq t (FZ+E.sz)&&E.is c&&Nat.beq n (E.dec c).length&&Nat.ble (E.dec c).length m
theorem Enc.fz_all{m:Nat}{l:List α}(h:l.length<=m){t n:Nat}(ht:t=FZ+E.sz)(hn:n=l.length):E.fz m t n (E.all l)=true:=by
 unfold Enc.fz;rw[E.is_all,E.dec_all,ht,hn,nR,nR,dG h]; rfl
theorem Enc.fz_of{m t n:Nat}{c:List Value}(h:E.fz m t n c=true):∃ l,t=FZ+E.sz/\c=E.all l/\n=l.length/\l.length<=m/\E.dec c=l:=by
 unfold Enc.fz at h;simp only[bV]at h;obtain⟨⟨⟨h1,h2⟩,h3⟩,h4⟩:=h;exact⟨E.dec c,dF h1,(E.all_dec h2).symm,dF h3,dR h4,rfl⟩
end
end Go.VS
end

noncomputable section
namespace Go.VS.Tryz
open Go.VS
set_option maxRecDepth 1000000
theorem ww{s n m:Nat}{a b:List Value}(h:ax s n 0 a=ax s m 0 b):a=b:=by
 unfold ax at h;simp only[Value.iface.injEq,Value.agg.injEq,Array.mk.injEq,je]at h;exact h.2.2
theorem BN(s n b:Nat)(c:List Value):jQ (ax s n b c)=true:=by
 unfold ax;simp only[jQ];rw[dG (qL FZ s)]
structure OpM where
 p:Bool
 k:ByteArray
 v:ByteArray
def EOp:Enc OpM where
 sz:=3
 f o:=[.bool o.p, .string o.k, .string o.v]
 len _:=rfl
 pos:=by decide
 inj a b h:=by
  obtain⟨p,k,v⟩:=a;obtain⟨p',k',v'⟩:=b;simp only[je,Value.bool.injEq,Value.string.injEq,jd]at h;obtain⟨rfl,rfl,rfl⟩:=h
  rfl
 nr _:=rfl
structure CmM where
 e:Int
 n:Int
 ops:List OpM
def ECm:Enc CmM where
 sz:=3
 f c:=[.int .i64 c.e, .int .i64 c.n,ax 3 c.ops.length 0 (EOp.all c.ops)]
 len _:=rfl
 pos:=by decide
 inj a b h:=by
  obtain⟨e,n,o⟩:=a;obtain⟨e',n',o'⟩:=b;simp only[je,Value.int.injEq,lM,jd]at h;obtain⟨rfl,rfl,h⟩:=h;obtain rfl:=EOp.all_inj _ _ (ww h)
  rfl
 nr c:=by simp only[gq,jQ,BN,fV]
structure RunM where
 a:Int
 b:Int
 ops:List OpM
def gI:Enc RunM where
 sz:=3
 f c:=[.int .i64 c.a, .int .i64 c.b,ax 3 c.ops.length 0 (EOp.all c.ops)]
 len _:=rfl
 pos:=by decide
 inj a b h:=by
  obtain⟨e,n,o⟩:=a;obtain⟨e',n',o'⟩:=b;simp only[je,Value.int.injEq,lM,jd]at h;obtain⟨rfl,rfl,h⟩:=h;obtain rfl:=EOp.all_inj _ _ (ww h)
  rfl
 nr c:=by simp only[gq,jQ,BN,fV]
theorem wC:∀ {a b:List UInt8},bc a=bc b->a=b:=by
 intro a b h;have:=congrArg (List.map byteOf) h;rwa [mf,mf]at this
/-- A raw step of a disk: its kind,its file,bytes,a length. -/
structure StM where
 kind:Int
 file:Int
 bytes:List UInt8
 len:Int
def ESt:Enc StM where
 sz:=4
 f s:=[.int .i64 s.kind, .int .i64 s.file,ax 1 s.bytes.length 0 (bc s.bytes), .int .i64 s.len]
 len _:=rfl
 pos:=by decide
 inj a b h:=by
  obtain⟨k,f,o,l⟩:=a;obtain⟨k',f',o',l'⟩:=b;simp only[je,Value.int.injEq,lM,jd]at h;obtain⟨rfl,rfl,h,rfl⟩:=h;obtain rfl:=wC (ww h)
  rfl
 nr c:=by simp only[gq,jQ,BN,fV]
theorem JV{l:List OpM}{i:Nat}(h:i<l.length):aV (EOp.all l) (atN (i:Int) 3) = .bool l[i].p:=by
 have e:atN (i:Int) 3=i*EOp.sz+0:=by simp[atN]; rfl
 rw[e,EOp.nth h (by decide)]; rfl
theorem Ja{l:List OpM}{i:Nat}(h:i<l.length):aV (EOp.all l) (Nat.add (atN (i:Int) 3) 1) = .string l[i].k:=by
 have e:Nat.add (atN (i:Int) 3) 1=i*EOp.sz+1:=by simp[atN]; rfl
 rw[e,EOp.nth h (by decide)]; rfl
theorem Ko{l:List OpM}{i:Nat}(h:i<l.length):aV (EOp.all l) (Nat.add (Nat.add (atN (i:Int) 3) 1) 1) = .string l[i].v:=by
 have e:Nat.add (Nat.add (atN (i:Int) 3) 1) 1=i*EOp.sz+2:=by simp[atN]; rfl
 rw[e,EOp.nth h (by decide)]; rfl
theorem jZ{l:List CmM}{i:Nat}(h:i<l.length):aV (ECm.all l) (atN (i:Int) 3) = .int .i64 l[i].e:=by
 have e:atN (i:Int) 3=i*ECm.sz+0:=by simp[atN]; rfl
 rw[e,ECm.nth h (by decide)]; rfl
theorem pR{l:List CmM}{i:Nat}(h:i<l.length):aV (ECm.all l) (Nat.add (atN (i:Int) 3) 1) = .int .i64 l[i].n:=by
 have e:Nat.add (atN (i:Int) 3) 1=i*ECm.sz+1:=by simp[atN]; rfl
 rw[e,ECm.nth h (by decide)]; rfl
theorem qH{l:List CmM}{i:Nat}(h:i<l.length):aV (ECm.all l) (Nat.add (Nat.add (atN (i:Int) 3) 1) 1)=ax 3 l[i].ops.length 0 (EOp.all l[i].ops):=by
 have e:Nat.add (Nat.add (atN (i:Int) 3) 1) 1=i*ECm.sz+2:=by simp[atN]; rfl
 rw[e,ECm.nth h (by decide)]; rfl
theorem ZX{l:List StM}{i:Nat}(h:i<l.length):aV (ESt.all l) (atN (i:Int) 4) = .int .i64 l[i].kind:=by
 have e:atN (i:Int) 4=i*ESt.sz+0:=by simp[atN]; rfl
 rw[e,ESt.nth h (by decide)]; rfl
theorem ZN{l:List StM}{i:Nat}(h:i<l.length):aV (ESt.all l) (Nat.add (atN (i:Int) 4) 1) = .int .i64 l[i].file:=by
 have e:Nat.add (atN (i:Int) 4) 1=i*ESt.sz+1:=by simp[atN]; rfl
 rw[e,ESt.nth h (by decide)]; rfl
theorem aaW{l:List StM}{i:Nat}(h:i<l.length):aV (ESt.all l) (Nat.add (Nat.add (atN (i:Int) 4) 1) 1)=ax 1 l[i].bytes.length 0 (bc l[i].bytes):=by
 have e:Nat.add (Nat.add (atN (i:Int) 4) 1) 1=i*ESt.sz+2:=by simp[atN]; rfl
 rw[e,ESt.nth h (by decide)]; rfl
theorem Zo{l:List StM}{i:Nat}(h:i<l.length):aV (ESt.all l) (Nat.add (Nat.add (Nat.add (atN (i:Int) 4) 1) 1) 1) = .int .i64 l[i].len:=by
 have e:Nat.add (Nat.add (Nat.add (atN (i:Int) 4) 1) 1) 1=i*ESt.sz+3:=by simp[atN]; rfl
 rw[e,ESt.nth h (by decide)]; rfl
theorem ED{s n b:Nat}{c:List Value}(hs:s≠0):kL (ax s n b c)=some ⟨s,n,b,c⟩:=by
 unfold kL ax;simp only;rw[if_pos (dG (by omega))];have e:FZ+s-FZ=s:=by omega
 rw[e]
theorem Ha{s n b:Nat}{c:List Value}(hs:s≠0):zN (ax s n b c)=n:=by unfold zN; rw[ED hs]
theorem abM{s n b:Nat}{c:List Value}(hs:s≠0):zB (ax s n b c)=b:=by unfold zB; rw[ED hs]
theorem MC{s n b:Nat}{c:List Value}(hs:s≠0):zC (ax s n b c)=c:=by unfold zC; rw[ED hs]
theorem Oe{s n b:Nat}{c:List Value}(hs:s≠0):isZ s (ax s n b c)=true:=by unfold isZ; rw[ED hs]; simp
theorem fzU:FZ+1=18446744073709551617:=by unfold FZ; rfl
theorem wQ:FZ+3=18446744073709551619:=by unfold FZ; rfl
theorem wS(l:List UInt8)(a k:Nat):takeC k (aO a (bc l))=bc ((l.drop a).take k):=by
 unfold takeC aO bc;rw[List.map_take,List.map_drop]
theorem dV{l:List UInt8}{k:Nat}(h:k=l.length):takeC k (aO 0 (bc l))=bc l:=by rw[wS,h,iQ,rC]
theorem fQ(n:Nat):Nat.mul n 1=n:=uQ n
theorem fB(n:Nat):Nat.add 0 n=n:=nN n
theorem Y2(n:Nat):fC 0 (ah n)=n:=by simp[fC,ah]
theorem ahg(k n:Nat):fC (k:Int) (ah n)=n-k:=by simp[fC,ah]
theorem aiJ(n:Nat):fC (ah n) (ah n)=0:=by simp[fC]
theorem cap0(n:Nat):yA 0 n=0:=by simp[yA]
theorem qC{l:List StM}{n:Nat}(h:n=l.length):takeC (Nat.mul n 4) (aO 0 (ESt.all l))=ESt.all l:=by
 subst h; exact ESt.all_self l
theorem L9{l:List UInt8}{n:Nat}(h:n=l.length):oI P 0 n 18446744073709551616 (bc l) 5=true:=by
 subst h;have he:esz P 5=1:=by kernel_rfl
 unfold oI;rw[he];have h1:gq (bc l)=true:=by
  refine qO.2 fun v hv=>?_;unfold bc at hv;obtain⟨b,_,rfl⟩:=vX.1 hv
  rfl
 rw[h1,bn];have h2:Nat.ble (Nat.add 0 (Nat.mul l.length 1)) l.length=true:=by rw[fQ,fB]; exact dG (dm _)
 rw[h2]; rfl
theorem qi(a n c:Nat):bz (.slice (some ⟨a,0,none⟩) n c) (.slice (some ⟨a,0,none⟩) n c)=true:=by simp[bz]
def fq_(n:Nat)(c:List Value)(t:Nat):Bool:=oI P 0 n 18446744073709551616 c t
end Go.VS.Tryz
end

noncomputable section
namespace Go.VS

section
/-- How a state lies in values and blocks. -/
structure Con(σ:Type) where
 enc:σ->List Value×List Blk
 ok:σ->Prop
 inj:∀ a b,enc a=enc b->a=b
 dflt:σ
variable{σ:Type}(k:Con σ)
open Classical in
def Con.C(vs:List Value)(bs:List Blk):Bool:=decide (∃ s,k.enc s=(vs,bs)/\k.ok s)
open Classical in
def Con.D(vs:List Value)(bs:List Blk):σ:=if h:∃ s,k.enc s=(vs,bs)then h.choose else k.dflt
open Classical in
theorem Con.D_enc{s:σ}{vs:List Value}{bs:List Blk}(h:k.enc s=(vs,bs)):k.D vs bs=s:=by
 have hx:∃ s,k.enc s=(vs,bs):=⟨s,h⟩
 unfold Con.D;rw[dif_pos hx];exact k.inj _ _ (hx.choose_spec.trans h.symm)
open Classical in
theorem Con.C_enc{s:σ}{vs:List Value}{bs:List Blk}(h:k.enc s=(vs,bs))(ho:k.ok s):k.C vs bs=true:=by
 unfold Con.C; exact eU ⟨s,h,ho⟩
open Classical in
theorem Con.of{vs:List Value}{bs:List Blk}(h:k.C vs bs=true):∃ s,k.enc s=(vs,bs)/\k.ok s/\k.D vs bs=s:=by
 unfold Con.C at h;obtain⟨s,h1,h2⟩:=lY h;exact⟨s,h1,h2,k.D_enc h1⟩
def wX(C:List Value->List Blk->Bool)(D:List Value->List Blk->σ)(res:σ->DT (Value×List Blk)):iC:=fun args bs=>some (.ite (C args bs) (res (D args bs)) .fail)
def DR(C:List Value->List Blk->Bool)(D:List Value->List Blk->σ)(res:σ->DT (Ex×List Value×List Blk)):lU:=fun vs bs=>some (.ite (C vs bs) (res (D vs bs)) .fail)
end
end Go.VS
end

noncomputable section
namespace Go.VS
open Go.RowKit
section
variable{P:Program}{ct:Ct}
def rM(X L:List Nat)(st:St)(bs:List Blk):St:=⟨wP (aT X st.next) X bs st.next (r_ L st.heap),st.next+(bs.length-X.length)⟩
theorem zH{K:Prot}{β:Env}{st:St}{w:World}(h:Rel P K β st w){X L:List Nat}(hndS:(X++L).Nodup)(hcells:∀ b∈X++L,∃ x,st.heap.get b=some x/\JQ x=true) :
  ∃ K':Prot,(∀ k,K k->K' k)/\(∀ i,¬K'.id i)/\Rel P K' (iR 0 (X++L) β) (ag ((X++L).map fun b=>lS true (bQ 0 (X++L)) (st.heap.get b))) w/\
   ∀ (β1:Env) (bs1:List Blk) (w1:World),leN X.length (iR 0 (X++L) β) β1->X.length<=bs1.length->Rel P K' β1 (ag bs1) w1->Bel K' w w1->
    β.le (vO X st.next β β1)/\Rel P K (vO X st.next β β1) (rM X L st bs1) w1/\RenOk true (aT X st.next) β1 (vO X st.next β β1):=by
 generalize hS:X++L=src at hndS hcells ⊢;have hnd:X.Nodup:=by rw[<-hS]at hndS; exact(List.nodup_append.1 hndS).1
 have hXs:∀ b∈X,b∈src:=fun b hb=>by rw[<-hS]; exact List.mem_append_left _ hb
 have hLs:∀ b∈L,b∈src:=fun b hb=>by rw[<-hS]; exact List.mem_append_right _ hb
 have hsX:∀ b,b∉X->b∉L->b∉src:=fun b h1 h2 h=>by rw[<-hS]at h; exact(sH.1 h).elim h1 h2
 let st0:St:=⟨Jj (src.map fun b=>(b,(st.heap.get b).getD .dead)) .leaf,st.next⟩
 have h0:∀ i,st0.heap.get i=if i∈src then st.heap.get i else none:=by
  intro i;show(Jj _ .leaf).get i=_;rw[Gn];rcases zY (src.map fun b=>(b,(st.heap.get b).getD .dead)) i ((Trie.leaf:Trie Blk).get i)with⟨n,e⟩ | ⟨n,b',hb',e⟩
  ·rw[e];have:i∉src:=fun hi=>n (by simp only[List.map_map,vX]; exact⟨i,hi,rfl⟩);rw[if_neg this]; rfl
  ·rw[e];obtain⟨j,hj,hje⟩:=vX.1 hb';simp only[dA]at hje;obtain⟨rfl,rfl⟩:=hje;obtain⟨x,hc,hcm⟩:=hcells j hj;rw[if_pos hj,hc]; rfl
 obtain⟨K1,k1,k2,k3,k4⟩:=h.part (st0:=st0) rfl (fun i b hi _=>by
  rw[h0]at hi;split at hi
  ·exact hi
  ·cases hi) (fun i o hi=>by
  rw[h0]at hi;split at hi
  ·rename_i hm;obtain⟨x,hc,hcm⟩:=hcells i hm;rw[hc]at hi; cases hi; cases hcm
  ·cases hi)
 let K':Prot:=⟨K1.blk,fun _=>False,K1.nofz,K1.obs,K1.sub⟩
 have r0:Rel P K' β st0 w:=⟨k3.base,k3.dom,k3.blk,k3.inj,fun i hi=>hi.elim,k3.nofz,k3.frz,k3.objs⟩
 have hmid:=lC (N:=0) (src:=src) r0 (fun i hi=>hi.elim) (ig _) hndS (fun b hb=>by
  obtain⟨x,hc,hcm⟩:=hcells b hb
  exact⟨x,by rw[h0,if_pos hb]; exact hc,hcm⟩)
 have hms:(src.map fun b=>lS true (bQ 0 src) (st0.heap.get b))=src.map fun b=>lS true (bQ 0 src) (st.heap.get b):=by
  apply BX;intro b hb;rw[h0,if_pos hb]
 have hsrc:∀ b∈src,∃ l,β (b:Int)=some l/\b<st.next:=by
  intro b hb;obtain⟨x,hc,hcm⟩:=hcells b hb;obtain⟨l,hl,_⟩:=h.blk b _ hc (XJ hcm);exact⟨l,hl,(h.dom b l hl).1⟩
 refine⟨K',k1,fun i hi=>hi,by rw[<-hms]; exact hmid,fun β1 bs1 w1 hle hlen h1 hb=>?_⟩;have hneg:∀ k l,β (Int.negSucc k)=some l->β1 (Int.negSucc k)=some l:=fun k l hk=>hle (Int.negSucc k) l (by have:=Int.negSucc_lt_zero k; omega) hk;have hre:∀ (j b:Nat),X[j]? = some b->β1 (j:Int)=β (b:Int):=by
  intro j b hjX;have hjl:j<X.length:=(oQ.1 hjX).1;have hj:src[j]? = some b:=by rw[<-hS,y_ hjl]; exact hjX
  obtain⟨l,hl,_⟩:=hsrc b (pW hj);rw[hl];refine hle j l (by omega) ?_;show(if j<0 then β (j:Int)else match src[j-0]? with | some b=>β (b:Int) | none=>none)=_;rw[if_neg (by omega),wu,hj]; exact hl
 have hple:β.le (vO X st.next β β1):=by
  intro i l hi;cases i with
  |negSucc k=>exact hneg k l hi
  |ofNat i=>
   have:=(h.dom i l hi).1;show(if i<st.next then β (i:Int)else _)=_;rw[if_pos this]; exact hi
 have hold:∀ i,i<st.next->vO X st.next β β1 (i:Int)=β (i:Int):=by
  intro i hi;show(if i<st.next then β (i:Int)else _)=_;rw[if_pos hi]
 have hbig:∀ i,st.next<=i->vO X st.next β β1 (i:Int)=β1 ((i-st.next+X.length:Nat):Int):=by
  intro i hi;show(if i<st.next then β (i:Int)else _)=_;rw[if_neg (by omega)]
 have hren:RenOk true (aT X st.next) β1 (vO X st.next β β1):=by
  refine⟨fun b b' l hb hl=>?_,fun _ k l hk=>hk⟩;by_cases hbl:b<X.length
  ·rw[Gu _ _ _ hbl]at hb;rw[hold b' (hsrc b' (hXs _ (pW hb))).choose_spec.2,<-hre b b' hb]; exact hl
  ·rw[F9 _ _ _ (by omega)]at hb;obtain rfl:=aC hb;rw[hbig _ (qL _ _),show st.next+(b-X.length)-st.next+X.length=b by omega]; exact hl
 have hfrom:∀ (t:Trie Blk) (i:Nat) b,(wP (aT X st.next) X bs1 st.next t).get i=some b->(∃ (j:Nat) (b0:Blk),bs1[j]? = some b0/\b=rH (aT X st.next) b0/\vO X st.next β β1 (i:Int)=β1 (j:Int)/\aT X st.next j=some i/\(i∈X\/st.next<=i/\i<st.next+(bs1.length-X.length)))\/(i∉X/\¬(st.next<=i/\i<st.next+(bs1.length-X.length))/\t.get i=some b):=by
  intro t i b hi;rcases yc X bs1 st.next t i hnd hlen (fun b hb=>(hsrc b (hXs b hb)).choose_spec.2)with⟨j,g1,g2⟩ | ⟨g1,g2⟩
  ·rw[g2]at hi;cases hx:bs1[j]? with
   |none=>rw[hx]at hi; cases hi
   |some b0=>
    rw[hx]at hi;have hm:=pW g1;refine Or.inl ⟨j,b0,hx,(aC hi).symm,?_,?_,Or.inl hm⟩
    ·rw[hold i (hsrc i (hXs i hm)).choose_spec.2,hre j i g1]
    ·rw[Gu _ _ _ (oQ.1 g1).1]; exact g1
  ·rw[g2]at hi;split at hi
   ·rename_i hr;cases hx:bs1[i-st.next+X.length]? with
    |none=>rw[hx]at hi; cases hi
    |some b0=>
     rw[hx]at hi;refine Or.inl ⟨_,b0,hx,(aC hi).symm,hbig i hr.1,?_,Or.inr hr⟩;rw[F9 _ _ _ (by omega)];congr 1;omega
   ·rename_i hr;exact Or.inr ⟨g1,hr,hi⟩
 have hlone:∀ (i:Nat) b,(rM X [] ⟨.leaf,st.next⟩ bs1).heap.get i=some b->∃ (j:Nat) (b0:Blk),(ag bs1).heap.get j=some b0/\b=rH (aT X st.next) b0/\vO X st.next β β1 (i:Int)=β1 (j:Int)/\aT X st.next j=some i:=by
  intro i b hi;rcases hfrom .leaf i b hi with⟨j,b0,g1,g2,g3,g4,_⟩ | ⟨_,_,g⟩
  ·exact⟨j,b0,by rw[yz]; exact g1,g2,g3,g4⟩
  ·cases g
 have hnx:(ag bs1).next=bs1.length:=rfl
 have rl:Rel P K1 (vO X st.next β β1) (rM X [] ⟨.leaf,st.next⟩ bs1) w1:=by
  refine⟨h1.base,fun i l hi=>?_,fun i b hi hl=>?_,fun i j bi bj li lj hi hbi hj hbj hli hlj v1 v2 e=>?_,fun i hi=>?_,fun k l hk=>h1.nofz k l hk,fun k l hk=>?_,h1.objs.1.neg fun _ _ h=>h,fun _ _=>False,fun i o hi=>?_,fun i k hk=>hk.elim⟩
  ·by_cases hin:i<st.next
   ·rw[hold i hin]at hi;obtain⟨a1,a2⟩:=h.dom i l hi;exact⟨m_ a1 (qL _ _),fun hv=>m_ (a2 hv) hb.size⟩
   ·rw[hbig i (by omega)]at hi;obtain⟨a1,a2⟩:=h1.dom _ l hi;exact⟨by show i<st.next+(bs1.length-X.length); omega,a2⟩
  ·obtain⟨j,b0,a2,rfl,a3,_⟩:=hlone i b hi;obtain⟨l,c1,c2,c3⟩:=h1.blk _ b0 a2 (oL hl);exact⟨l,by rw[a3]; exact c1,c2,O6 hren c3⟩
  ·obtain⟨i',b0,a2,rfl,a3,a4⟩:=hlone i bi hi;obtain⟨j',d0,c2,rfl,c3,c4⟩:=hlone j bj hj;rw[a3]at hli;rw[c3]at hlj;have:=h1.inj _ _ b0 d0 li lj a2 (oL hbi) c2 (oL hbj) hli hlj v1 v2 e;rw[this,c4]at a4;exact(aC a4).symm
  ·rw[k2]at hi;obtain⟨a1,a2⟩:=h.res i hi;exact⟨m_ a1 (qL _ _),by rw[hold i a1]; exact a2⟩
  ·obtain⟨f1,f2,f3⟩:=h1.frz k l hk;refine⟨f1,f2,fun j bj lj hj hbj hlj hv=>?_⟩;obtain⟨j',d0,c2,rfl,c3,_⟩:=hlone j bj hj;rw[c3]at hlj;exact f3 _ d0 lj c2 (oL hbj) hlj hv
  ·obtain⟨_,b0,_,e,_⟩:=hlone i _ hi;exact(BZ e.symm).elim
 refine⟨hple,k4 _ (rM X [] ⟨.leaf,st.next⟩ bs1) _ w1 hple rl ⟨hb.os,hb.tape,hb.output,hb.size,hb.block⟩ (qL _ _) (fun i o hi=>?_) rfl (fun i b hi hl=>?_) (fun i o hi hdead=>?_),hren⟩
 ·obtain⟨_,b0,_,e,_⟩:=hlone i _ hi;exact(BZ e.symm).elim
 ·have hq:=yc (ρ:=aT X st.next) X bs1 st.next .leaf i hnd hlen (fun b hb=>(hsrc b (hXs b hb)).choose_spec.2)
  have hq2:=yc (ρ:=aT X st.next) X bs1 st.next (r_ L st.heap) i hnd hlen (fun b hb=>(hsrc b (hXs b hb)).choose_spec.2)
  have hi:(wP (aT X st.next) X bs1 st.next (r_ L st.heap)).get i=some b:=hi;rcases hq2 with⟨j,g1,g2⟩ | ⟨g1,g2⟩
  ·refine Or.inl ?_;rcases hq with⟨j',g1',g2'⟩ | ⟨g1',_⟩
   ·have:j'=j:=Lc hnd g1' g1;subst this;show(wP _ X bs1 st.next .leaf).get i=_;rw[g2',<-g2]; exact hi
   ·exact absurd (pW g1) g1'
  ·rcases hq with⟨j',g1',g2'⟩ | ⟨g1',g2'⟩
   ·exact absurd (pW g1') g1
   ·rw[g2]at hi;split at hi
    ·rename_i hr;refine Or.inl ?_;show(wP _ X bs1 st.next .leaf).get i=_;rw[g2',if_pos hr]; exact hi
    ·rename_i hr;rw[vW]at hi;split at hi
     ·obtain rfl:=aC hi; cases hl
     ·rename_i hns;refine Or.inr ⟨fun c hc=>?_,fun c hc=>?_,hi⟩
      ·have hc:(wP _ X bs1 st.next .leaf).get i=some c:=hc;rw[g2',if_neg hr]at hc; cases hc
      ·rw[h0,if_neg (hsX i g1 hns)]at hc; cases hc
 ·obtain⟨l,hl,_⟩:=h.blk i _ hi rfl;have hlt:=(h.dom i l hl).1;show(wP _ X bs1 st.next (r_ L st.heap)).get i=_;rcases yc (ρ:=aT X st.next) X bs1 st.next (r_ L st.heap) i hnd hlen (fun b hb=>(hsrc b (hXs b hb)).choose_spec.2)with⟨j,g1,g2⟩ | ⟨g1,g2⟩
  ·obtain⟨x,hc,hcm⟩:=hcells i (hXs i (pW g1));rw[hi]at hc; cases hc; cases hcm
  ·rw[g2,if_neg (by omega),vW,if_neg]
   ·exact hi
   ·intro hm;obtain⟨x,hc,hcm⟩:=hcells i (hLs i hm);rw[hi]at hc; cases hc; cases hcm
def oZ{α:Type}(h:Nat->Option Blk)(n:Nat):List Value->List Nat->List Nat->(List Nat->List Nat->α)->α:=
 @Nat.rec (fun _=>List Value->List Nat->List Nat->(List Nat->List Nat->α)->α) (fun _ X L k=>k X L)
  (fun _ ih vs X L k=>match vs with
   |[]=>k X L
   |v::vs=>match(match v with
     | .slice (some a) _ _=>some a.block
     | .pointer (some a)=>some a.block
     | .map (some r)=>some r
     | .iface _ (.pointer (some a))=>some a.block
     |_=>none)with
    |none=>ih vs X L k
    |some b=>@Bool.rec (fun _=>α)
      (match h b with
       |some (.cells c _ true)=>ih (c.append vs) (X.append [b]) L k
       |some (.map _ _)=>ih vs (X.append [b]) L k
       |_=>ih vs X (L.append [b]) k)
      (ih vs X L k) (or (oV X b) (oV L b))) n
theorem lI{α:Type}(h:Nat->Option Blk):∀ (n:Nat) (vs:List Value) (X L:List Nat) (k:List Nat->List Nat->α),∃ X' L',oZ h n vs X L k=k X' L'
 |0,vs,X,L,k=>⟨X,L,rfl⟩
 |n+1,[],X,L,k=>⟨X,L,rfl⟩
 |n+1,v::vs,X,L,k=>by
  show ∃ X' L',(match(match v with
     | .slice (some a) _ _=>some a.block
     | .pointer (some a)=>some a.block
     | .map (some r)=>some r
     | .iface _ (.pointer (some a))=>some a.block
     |_=>none)with
    |none=>oZ h n vs X L k
    |some b=>@Bool.rec (fun _=>α)
      (match h b with
       |some (.cells c _ true)=>oZ h n (c.append vs) (X.append [b]) L k
       |some (.map _ _)=>oZ h n vs (X.append [b]) L k
       |_=>oZ h n vs X (L.append [b]) k)
      (oZ h n vs X L k) (or (oV X b) (oV L b)))=k X' L'
  split
  ·exact lI h n _ _ _ k
  ·rename_i b _;cases or (oV X b) (oV L b)with
   |true=>exact lI h n _ _ _ k
   |false=>
    simp only;split
    ·exact lI h n _ _ _ k
    ·exact lI h n _ _ _ k
    ·exact lI h n _ _ _ k
def upTo(n:Nat):List Nat->Nat->Bool:=@Nat.rec (fun _=>List Nat->Nat->Bool) (fun _ _=>true)
 (fun _ ih X i=>match X with
  |b::X=>match Nat.beq b i with
   |true=>ih X (Nat.succ i)
   |false=>false
  |[]=>false) n
theorem qJ:∀ (n:Nat) (X:List Nat) (i:Nat),upTo n X i=true->n<=X.length/\∀ j,j<n->X[j]? = some (i+j)
 |0,X,i,h=>⟨ig _,fun j hj=>by omega⟩
 |n+1,[],i,h=>by cases h
 |n+1,b::X,i,h=>by
  have h:(match Nat.beq b i with | true=>upTo n X (i+1) | false=>false)=true:=h;split at h
  ·rename_i hb;obtain rfl:=dF hb;obtain⟨h1,h2⟩:=qJ n X _ h;refine⟨by simpa using h1,fun j hj=>?_⟩;cases j with
   |zero=>rfl
   |succ j=>rw[List.getElem?_cons_succ,h2 j (by omega)]; congr 1; omega
  ·cases h
theorem vk{N:Nat}{X L:List Nat}{β:Env}(h:upTo N X 0=true):leN N β (iR 0 (X++L) β):=by
 obtain⟨h1,h2⟩:=qJ _ _ _ h;intro i l hi hl;cases i with
 |negSucc k=>exact hl
 |ofNat i=>
  have hi:i<N:=by have:((i:Nat):Int)<(N:Nat):=hi; omega
  show(if i<0 then β (i:Int)else match(X++L)[i-0]? with | some b=>β (b:Int) | none=>none)=some l;rw[if_neg (by omega),wu,y_ (by omega),h2 i hi,nN]; exact hl
/-- A loop's head: how many objects,slots,of what kind the lists are that they hold; their types; the objects' fields likewise. -/
structure HeadX where
 N:Nat
 nt:Nat
 L:List Tmp
 fl:List Fl
 ts:List TypeId
 pol:Pol
def HeadX.head(D:HeadX):Head:=⟨D.N,D.nt,D.L,[]⟩
def Ci{α:Type}(P:Program)(D:HeadX)(s:Trie Value)(st:St)(k:List Nat->List Nat->St->List Value->List Blk->DT α):DT α:=
 mO P 60 D.fl D.ts (D.L.map (nP s)) st fun vs1 ps st1=>uI P D.pol 200 ps [] st1 fun st2=>
  oZ (kz st2) 1000 vs1 [] [] fun X L=>match Nat.beq X.length D.N,jm 0 (X.append L) (fun i=>dW (path i) st2.heap) (X.append L)with
  |true,some ms=>k X L st2 (vs1.map (eP true (bQ 0 (X.append L)))) ms
  |_,_=> .fail
theorem CJ{α:Type}{r:α}{D:HeadX}{s:Trie Value}{st:St}{k:List Nat->List Nat->St->List Value->List Blk->DT α}(h:(Ci P D s st k).eval=some r) :
  ∃ X L st2 vs1 ms,(k X L st2 (vs1.map (eP true (bQ 0 (X++L)))) ms).eval=some r/\X.length=D.N/\jm 0 (X++L) (fun i=>st2.heap.get i) (X++L)=some ms/\
   ∀ (K:Prot) (β:Env) (w:World) (n:Nat) (tmps:Array Value),Rel P K β st w->jh β s n tmps->∃ β1,β.le β1/\Rel P K β1 st2 w/\VRL β1 vs1 (D.L.map fun t=>tmps.getD t undef):=by
 unfold Ci at h;obtain⟨vs1,ps,st1,h1,h3,h4⟩:=jG _ _ _ _ _ _ h;obtain⟨st2,k1,k2⟩:=jV _ _ _ _ _ h1;obtain⟨X,L,hX⟩:=lI (kz st2) 1000 vs1 [] [] fun X L=>match Nat.beq X.length D.N,jm 0 (X.append L) (fun i=>dW (path i) st2.heap) (X.append L)with
  |true,some ms=>k X L st2 (vs1.map (eP true (bQ 0 (X.append L)))) ms
  |_,_=> .fail
 rw[hX]at k1;split at k1
 ·rename_i ms hn hm;refine⟨X,L,st2,vs1,ms,k1,dF hn,by simp only[dL]at hm; exact hm,fun K β w n tmps hr hs=>?_⟩;obtain⟨β1,a1,a2,a3⟩:=h4 K β w _ hr (Bj hs D.L);obtain⟨β2,b1,b2⟩:=k2 K β1 w a2;exact⟨β2,a1.trans b1,b2,a3.mono b1⟩
 ·cases k1
def LRX(P:Program)(fid id:Nat)(B:Code)(H:Head)(vs:List Value)(bs:List Blk)(e:Ex)(vs':List Value)(bs':List Blk):Prop:=
 ∀ (K:Prot) (β:Env) (w:World) (fr:Frame) (cs:List Frame) (k:List Item),(∀ i,¬K.id i)->fr.todo = .code B:: .inLoop B:: .inBlock id::k->fr.fn=fid->FrR β (H.fr vs) fr->Rel P K β (ag bs) w->
  AQ H.N P K β fr cs w e k (H.fr vs') (ag bs')/\H.N<=bs'.length
def Yv(P:Program)(D:HeadX):Ex->Trie Value->List Deferred->St->Res:=fun e s d st=>match d with
 |[]=>DT.run (Ci P D s st fun X _ _ vs ms=>match upTo D.N X 0 with
  |true=> .leaf (vs,ms)
  |false=> .fail) fun r=>some (.tuple ⟨exV e::r.1⟩,ag r.2)
 |_=>none
def aU(P:Program)(E:Eng)(ct:Ct)(n:Nat)(fid:Nat)(B:Code)(D:HeadX)(vs:List Value)(bs:List Blk):Res:=
 qW P E ct n (xu P E ct n n) fid D.nt none B (mkS D.nt D.L vs) [] (ag bs) (Yv P D)
theorem Dj{E:Eng}(hE:EngOk P ct E)(hN:noNum P=true)(hct:CtOk P ct){n fid id:Nat}{B:Code}{D:HeadX}(hocc:Occ P fid (.block id (.loop B))){vs vs1:List Value}{bs bs1:List Blk}{e:Ex}
  (h:aU P E ct n fid B D vs bs=some (.tuple ⟨exV e::vs1⟩,ag bs1)) (K:Prot) (β:Env) (w:World) (fr:Frame) (cs:List Frame) (k:List Item) (hid:∀ i,¬K.id i) (ht:fr.todo = .code B::k) (hfid:fr.fn=fid) (hf:FrR β (D.head.fr vs) fr) (hr:Rel P K β (ag bs) w) :
  AQ D.head.N P K β fr cs w e k (D.head.fr vs1) (ag bs1)/\D.head.N<=bs1.length:=by
 unfold aU at h;obtain⟨m,e1,s1,d1,st1,h1,h2⟩:=ku hE (nT hE n n) n fid D.nt none B _ _ _ _ _ h;unfold Yv at h2;split at h2
 ·obtain⟨r,hc,h2⟩:=DT.run_spec h2;obtain⟨X,L,st2,vs2,ms,hc1,hlen,hm,hc2⟩:=CJ hc;split at hc1
  ·rename_i hup;simp only[DT.eval,dD]at hc1;subst hc1;simp only[dD,dA,Value.tuple.injEq,Array.mk.injEq,je]at h2;obtain⟨⟨he,rfl⟩,hst⟩:=h2;obtain rfl:=EX he;obtain⟨β1,fr1,w1,a1,a2,a3,a4,a5,a6,a7,a8,a9⟩:=(ja hN hct m K).code fid B _ _ _ _ _ h1 (hocc.sub (.block (.loop (.refl _)))) β w fr cs k ht hfid hf hr;obtain⟨β2,b1,b2,b3⟩:=hc2 K β1 w1 _ _ a3 a5.slots;obtain⟨m1,m2,m3⟩:=jr hm;have hmid:=lC (N:=0) (src:=X++L) b2 (fun i hi=>(hid i hi).elim) (ig _) m1 m2;have hren:=qE (X++L) β2;have hms:(ag ms).next=bs1.length:=by rw[hst]; rfl
   have hmsl:ms.length=bs1.length:=hms;refine⟨⟨iR 0 (X++L) β2,fr1,w1,a1,(a2.trans b1 |>.leN _).trans (vk hup),?_,a4,⟨Ak a5.slots.1 ?_,by have:=a5.defers; unfold nZ at this; rw[this]; rfl,by have:=a5.round; exact this,a5.mode⟩,a6,a7,a8,a9⟩,?_⟩
   ·rw[<-hst,m3]; exact hmid
   ·exact b3.mapr fun v _ x hx=>gU hren v x hx
   ·rw[<-hmsl,m3,n_,bP];show D.N<=_;omega
  ·cases hc1
 ·cases h2
theorem LRX.again{E:Eng}(hE:EngOk P ct E)(hN:noNum P=true)(hct:CtOk P ct){n fid id:Nat}{B:Code}{D:HeadX}(hocc:Occ P fid (.block id (.loop B))){vs vs1 vs':List Value}{bs bs1 bs':List Blk}{e:Ex}
  (h:aU P E ct n fid B D vs bs=some (.tuple ⟨exV .normal::vs1⟩,ag bs1)) (hl:LRX P fid id B D.head vs1 bs1 e vs' bs'):LRX P fid id B D.head vs bs e vs' bs':=by
 intro K β w fr cs k hid ht hfid hf hr;obtain⟨⟨β1,fr1,w1,a1,a2,a3,a4,a5,a6,a7,a8,a9⟩,_⟩:=Dj hE hN hct hocc h K β w fr cs _ hid ht hfid hf hr;have a9:fr1.todo = .inLoop B:: .inBlock id::k:=a9;have hs:=yN (P:=P) (cs:=cs) (w:=w1) a5.mode a9;obtain⟨⟨β2,fr2,w2,b1,b2,b3,b4,b5,b6,b7,b8,b9⟩,hb⟩:=hl K β1 w1 { fr1 with todo:= .code B:: .inLoop B:: .inBlock id::k } cs k hid rfl (a7.trans hfid) ⟨a5.slots,a5.defers,a5.round,a5.mode⟩ a3;exact⟨⟨β2,fr2,w2,a1.trans (.head hs b1),a2.trans b2,b3,a4.trans b4,b5,b6.trans a6,b7.trans a7,b8.trans a8,b9⟩,hb⟩
theorem LRX.stop{E:Eng}(hE:EngOk P ct E)(hN:noNum P=true)(hct:CtOk P ct){n fid id:Nat}{B:Code}{D:HeadX}(hocc:Occ P fid (.block id (.loop B))){vs vs1:List Value}{bs bs1:List Blk}{e:Ex}
  (h:aU P E ct n fid B D vs bs=some (.tuple ⟨exV e::vs1⟩,ag bs1)) (he:e≠ .normal):LRX P fid id B D.head vs bs (kP id e) vs1 bs1:=by
 intro K β w fr cs k hid ht hfid hf hr;obtain⟨⟨β1,fr1,w1,a1,a2,a3,a4,a5,a6,a7,a8,a9⟩,hb⟩:=Dj hE hN hct hocc h K β w fr cs _ hid ht hfid hf hr;refine⟨?_,hb⟩;have a9:=a9.under he (fun i e=>by cases e);cases e with
 |normal=>exact absurd rfl he
 |ret=>exact⟨β1,fr1,w1,a1,a2,a3,a4,a5,a6,a7,a8,a9⟩
 |exit i=>
  obtain⟨k2,h1,h2⟩:=a9;cases hb:Nat.beq i id with
  |true=>
   have hx2:kP id (.exit i) = .normal:=by simp only[kP,hb]
   rw[hx2];have:=dF hb;subst this;have hx:exitTo i k2=some k:=by rw[h2]; simp[exitTo]
   exact⟨β1,{ fr1 with todo:=k },w1,a1.trans (.one (s_exit a5.mode h1 hx)),a2,a3,a4,a5.todo k,a6,a7,a8,rfl⟩
  |false=>
   have hx2:kP id (.exit i) = .exit i:=by simp only[kP,hb]
   rw[hx2];have:=pV hb;refine⟨β1,fr1,w1,a1,a2,a3,a4,a5,a6,a7,a8,k2,h1,?_⟩;rw[h2];have:(id == i)=false:=by simp; exact fun ee=>this ee.symm
   simp[exitTo,this]
theorem LRX.iter{E:Eng}(hE:EngOk P ct E)(hN:noNum P=true)(hct:CtOk P ct){n fid id:Nat}{B:Code}{D:HeadX}(hocc:Occ P fid (.block id (.loop B))){vs:Nat->List Value}{bs:Nat->List Blk}{e:Ex}{vs':List Value}{bs':List Blk}(m:Nat)
  (h:∀ i,i<m->aU P E ct n fid B D (vs i) (bs i)=some (.tuple ⟨exV .normal::vs (i+1)⟩,ag (bs (i+1)))) (hl:LRX P fid id B D.head (vs m) (bs m) e vs' bs'):LRX P fid id B D.head (vs 0) (bs 0) e vs' bs':=by
 induction m generalizing vs bs with
 |zero=>exact hl
 |succ m ih=>exact LRX.again hE hN hct hocc (h 0 (by omega)) (ih (vs:=fun i=>vs (i+1)) (bs:=fun i=>bs (i+1)) (fun i hi=>h (i+1) (by omega)) hl)
structure LoopOkX(P:Program)(fid id:Nat)(B:Code)(H:Head)(R:lU):Prop where
 occ:∀ c,Occ P fid (.block id c)->c = .loop B
 run:∀ vs bs t,R vs bs=some t->∀ e vs' bs',t.eval=some (e,vs',bs')->LRX P fid id B H vs bs e vs' bs'
def QX(P:Program)(D:HeadX)(R:lU)(f:Fr)(st:St):Option (DT (Ex×Trie Value×St)):=
 match f.defers,f.roundOf,Nat.beq f.ntmps D.nt with
 |[],none,true=>some (Ci P D f.slots st fun X L st2 vs ms=>match R vs ms with
  |some t=>t.map fun x=>(x.1,mkS D.nt D.L (x.2.1.map (eP true (aT X st2.next))),rM X L st2 x.2.2)
  |none=> .fail)
 |_,_,_=>none
def dX(P:Program)(fid id:Nat)(D:HeadX)(R:lU)(ct:Ct):Ct where
 call:=ct.call
 loop:=fun fid' id' f st=>match and (Nat.beq fid' fid) (Nat.beq id' id)with
  |true=>QX P D R f st
  |false=>ct.loop fid' id' f st
 op:=ct.op
theorem dB{fid id:Nat}{B:Code}{D:HeadX}{R:lU}(hct:CtOk P ct)(h:LoopOkX P fid id B D.head R):CtOk P (dX P fid id D R ct) where
 opc:=hct.opc
 op:=hct.op
 call:=hct.call
 loop:=by
  intro K fid' id' c f st e s' st' hl hocc β w fr cs k ht hfid hf hr;simp only[dX]at hl;split at hl
  ·rename_i hb;simp only[bV]at hb;obtain rfl:=dF hb.1;obtain rfl:=dF hb.2;obtain rfl:=h.occ c hocc;unfold QX at hl;split at hl
   ·rename_i hd hro hnt;have hnt:=dF hnt;simp only[jf]at hl;obtain⟨X,L,st2,vs1,ms,hk,hXN,hm,hrel⟩:=CJ hl;split at hk
    ·rename_i t hR;obtain⟨⟨e1,vs2,bs2⟩,hev,heq⟩:=DT.map_eval hk;simp only[dA]at heq;obtain⟨rfl,rfl,rfl⟩:=heq;obtain⟨β0,b1,b2,b3⟩:=hrel K β w _ _ hr hf.slots;obtain⟨m1,m2,m3⟩:=jr hm;obtain⟨K',k1,k2,k3,k4⟩:=zH b2 m1 m2;have hslots:jh (iR 0 (X++L) β0) (mkS D.nt D.L (vs1.map (eP true (bQ 0 (X++L))))) D.nt fr.tmps:=
      Ak (by rw[hf.slots.1]; exact hnt) (b3.mapr fun v _ x hx=>gU (qE (X++L) β0) v x hx)
     have s1:=E5 (P:=P) (cs:=cs) (w:=w) hf.mode ht;have s2:=IQ (P:=P) (fr:={ fr with todo:= .code (.loop B):: .inBlock id'::k }) (cs:=cs) (w:=w) hf.mode rfl;have hdf:fr.defers=[]:=by have:=hf.defers; rw[hd]at this; exact this
     have hrf:fr.roundOf=none:=by have:=hf.round; rw[hro]at this; exact this
     obtain⟨⟨β1,fr1,w1,a1,a2,a3,a4,a5,a6,a7,a8,a9⟩,a10⟩:=h.run _ _ t hR _ _ _ hev K' (iR 0 (X++L) β0) w { fr with todo:= .code B:: .inLoop B:: .inBlock id'::k } cs k k2 rfl hfid ⟨hslots,hdf,hrf,hf.mode⟩ (by rw[m3]; exact k3);have a2:leN X.length (iR 0 (X++L) β0) β1:=by rw[hXN]; exact a2
     have a10:X.length<=bs2.length:=by rw[hXN]; exact a10
     obtain⟨c1,c2,c3⟩:=k4 β1 bs2 w1 a2 a10 a3 a4;refine⟨_,fr1,w1, .head s1 (.head s2 a1),b1.trans c1,c2,a4.mono k1,⟨⟨by rw[a5.slots.1]; exact hnt.symm,fun i=>?_⟩,?_,?_,a5.mode⟩,a6,a7,a8,a9⟩
     ·show VR _ (((mkS D.nt D.L (vs2.map (eP true (aT X st2.next)))).get i).getD undef) _;rw[J6 rfl D9];exact gU c3 _ _ (a5.slots.2 i)
     ·show nZ _ f.defers _;rw[hd]; exact a5.defers
     ·show qy _ f.roundOf _;rw[hro]; exact a5.round
    ·cases hk
   ·cases hl
  ·exact hct.loop K fid' id' c f st e s' st' hl hocc β w fr cs k ht hfid hf hr
def Vq(N:Nat)(P:Program)(K:Prot)(β:Env)(g:FuncId)(args':Array Value)(kind:CallKind)(cs:List Frame)(w:World)(v:Value)(st':St):Prop:=
 ∃ β' fr w' v',Steps P (lone (Frame.enter P g args' kind) cs w) (lone fr cs w')/\leN N β β'/\Rel P K β' st' w'/\Bel K w w'/\VR β' v v'/\Left P fr g kind v' w'
def CRX(P:Program)(N:Nat)(g:FuncId)(args:List Value)(bs:List Blk)(v:Value)(bs':List Blk):Prop:=
 ∀ (K:Prot) (β:Env) (w:World) (args':Array Value) (cs:List Frame),(∀ i,¬K.id i)->VRL β args args'.toList->Rel P K β (ag bs) w->Vq N P K β g args' .normal cs w v (ag bs')/\N<=bs'.length
structure CallOkX(P:Program)(N:Nat)(g:FuncId)(R:iC):Prop where
 run:∀ args bs t,R args bs=some t->∀ v bs',t.eval=some (v,bs')->CRX P N g args bs v bs'
def TM(P:Program)(pol:Pol)(N:Nat)(g:FuncId)(R:iC)(args:List Value)(st:St):DT (Value×St):=
 uI P pol 200 (EH args) [] st fun st1=>wJ P 100 (Z9 P g) args st1 fun args1 st2=>
  oZ (kz st2) 1000 args1 [] [] fun X L=>match Nat.beq X.length N,jm 0 (X.append L) (fun i=>dW (path i) st2.heap) (X.append L)with
  |true,some ms=>match R (args1.map (eP true (bQ 0 (X.append L)))) ms with
   |some t=>t.map fun x=>(eP true (aT X st2.next) x.1,rM X L st2 x.2)
   |none=> .fail
  |_,_=> .fail
def ak(P:Program)(pol:Pol)(N:Nat)(g:FuncId)(R:iC)(ct:Ct):Ct where
 call:=fun g' args st=>match Nat.beq g' g with
  |true=>some (TM P pol N g R args st)
  |false=>ct.call g' args st
 loop:=ct.loop
 op:=ct.op
theorem af{pol:Pol}{N:Nat}{g:FuncId}{R:iC}(hct:CtOk P ct)(h:CallOkX P N g R):CtOk P (ak P pol N g R ct) where
 opc:=hct.opc
 op:=hct.op
 loop:=hct.loop
 call:=by
  intro K g' args st v st' hl β w args' cs ha hr;simp only[ak]at hl;split at hl
  ·rename_i hb;obtain rfl:=dF hb;simp only[TM,jf]at hl;obtain⟨st1,h1,h2⟩:=jV _ _ _ _ _ hl;obtain⟨args1,st2,k1,k2,k3,k4⟩:=l9 _ _ _ _ _ h1;obtain⟨X,L,hX⟩:=lI (kz st2) 1000 args1 [] [] fun X L=>match Nat.beq X.length N,jm 0 (X.append L) (fun i=>dW (path i) st2.heap) (X.append L)with
    |true,some ms=>match R (args1.map (eP true (bQ 0 (X.append L)))) ms with
     |some t=>t.map fun(x:Value×List Blk)=>(eP true (aT X st2.next) x.1,rM X L st2 x.2)
     |none=> .fail
    |_,_=> .fail
   rw[hX]at k1;split at k1
   ·rename_i ms hn hm;have hm:jm 0 (X++L) (fun i=>dW (path i) st2.heap) (X++L)=some ms:=hm;have hXN:=dF hn;split at k1
    ·rename_i t hR;obtain⟨⟨v1,bs1⟩,hev,heq⟩:=DT.map_eval k1;simp only[dA]at heq;obtain⟨rfl,rfl⟩:=heq;obtain⟨β1,a1,a2⟩:=h2 K β w hr;obtain⟨β2,b1,b2,b3⟩:=k4 K β1 w args'.toList a2 (ha.mono a1);obtain⟨m1,m2,m3⟩:=jr hm;simp only[dL]at m2 m3;obtain⟨K',q1,q2,q3,q4⟩:=zH b2 m1 m2;have ha':VRL (iR 0 (X++L) β2) (args1.map (eP true (bQ 0 (X++L)))) args'.toList:=b3.mapr fun v _ x hx=>gU (qE _ _) v x hx;obtain⟨⟨β3,fr,w1,v',d1,d2,d3,d4,d5,d6⟩,d7⟩:=h.run _ _ t hR v1 bs1 hev K' _ w args' cs q2 ha' (by rw[m3]; exact q3);obtain⟨c1,c2,c3⟩:=q4 β3 bs1 w1 (by rw[hXN]; exact d2) (by rw[hXN]; exact d7) d3 d4;exact⟨_,fr,w1,v',d1,(a1.trans b1).trans c1,c2,d4.mono q1,gU c3 _ _ d5,d6⟩
    ·cases k1
   ·cases k1
  ·exact hct.call K g' args st v st' hl β w args' cs ha hr
def qB(v:Value):List Value:=match v with
 | .tuple ⟨a⟩=>a
 |v=>[v]
def xX(v:Value)(l:List Value):Value:=match v with
 | .tuple _=> .tuple ⟨l⟩
 |_=>match l with
  |[x]=>x
  |l=> .tuple ⟨l⟩
def aN(P:Program)(E:Eng)(ct:Ct)(n:Nat)(pol:Pol)(fl:List Fl)(ts:List TypeId)(N:Nat)(g:FuncId)(args:List Value)(bs:List Blk):Res:=
 (xu P E ct n n).call g args (ag bs) fun v st=>DT.run (mO P 60 fl ts (qB v) st fun vs1 ps st1=>uI P pol 200 (List.append (EH args) ps) [] st1 fun st2=>
  oZ (kz st2) 1000 (List.append args vs1) [] [] fun X L=>match upTo N X 0,Nat.beq vs1.length (qB v).length,jm 0 (X.append L) (fun i=>dW (path i) st2.heap) (X.append L)with
  |true,true,some ms=> .leaf (xX v (vs1.map (eP true (bQ 0 (X.append L)))),ms)
  |_,_,_=> .fail) fun r=>some (r.1,ag r.2)
theorem BO{β:Env}{v v':Value}(h:VR β v v'):∃ xs,VRL β (qB v) xs/\∀ (β':Env) (vs:List Value),vs.length=(qB v).length->VRL β' vs xs->VR β' (xX v vs) v':=by
 by_cases hn:∃ a,v = .tuple a
 ·obtain⟨⟨a⟩,rfl⟩:=hn;simp only[VR]at h;obtain⟨a',rfl,ha⟩:=h;refine⟨a'.toList,?_,fun β' vs _ hv=>?_⟩
  ·simp only[VRA]at ha;exact ha
  ·simp only[xX,VR];exact⟨a',rfl,by simp only[VRA]; exact hv⟩
 ·have h1:qB v=[v]:=by cases v<;>first | rfl | exact absurd ⟨_,rfl⟩ hn
  have h2:∀ x,xX v [x]=x:=by intro x; cases v<;>first | rfl | exact absurd ⟨_,rfl⟩ hn
  rw[h1];refine⟨[v'],VRL.cons h VRL.nil,fun β' vs hl hv=>?_⟩
  match vs,hl with
  |[x],_=>
   rw[h2];simp only[VRL]at hv;obtain⟨y,ys,e,hy,_⟩:=hv;cases e;exact hy
theorem CRX.of{E:Eng}(hE:EngOk P ct E)(hN:noNum P=true)(hct:CtOk P ct){n:Nat}{pol:Pol}{fl:List Fl}{ts:List TypeId}{N:Nat}{g:FuncId}{args:List Value}{bs:List Blk}{v:Value}{bs':List Blk}(h:aN P E ct n pol fl ts N g args bs=some (v,ag bs')):CRX P N g args bs v bs':=by
 intro K β w args' cs hid ha hr;unfold aN at h;obtain⟨m,v1,st1,h1,h2⟩:=(nT hE n n).call _ _ _ _ _ h;obtain⟨β1,fr,w1,v',a1,a2,a3,a4,a5,a6⟩:=(ja hN hct m K).call g args (ag bs) v1 st1 h1 β w args' .normal cs (Or.inl rfl) ha hr;obtain⟨r,hc,h2⟩:=DT.run_spec h2;obtain⟨vs1,ps,st2,f1,f2,f3⟩:=jG _ _ _ _ _ _ hc;obtain⟨st3,g1,g2⟩:=jV _ _ _ _ _ f1;obtain⟨X,L,hX⟩:=lI (kz st3) 1000 (List.append args vs1) [] [] fun X L=>match upTo N X 0,Nat.beq vs1.length (qB v1).length,jm 0 (X.append L) (fun i=>dW (path i) st3.heap) (X.append L)with
  |true,true,some ms=>DT.leaf (xX v1 (vs1.map (eP true (bQ 0 (X.append L)))),ms)
  |_,_,_=> .fail
 rw[hX]at g1;split at g1
 ·rename_i ms hup hvl hm;have hm:jm 0 (X++L) (fun i=>dW (path i) st3.heap) (X++L)=some ms:=hm;simp only[DT.eval,dD]at g1;subst g1;simp only[dD,dA]at h2;obtain⟨rfl,hst⟩:=h2;obtain⟨m1,m2,m3⟩:=jr hm;simp only[dL]at m2 m3;have hvl:=dF hvl;obtain⟨xs,x1,x2⟩:=BO a5;obtain⟨β2,c1,c2,c3⟩:=f3 K β1 w1 xs a3 x1;obtain⟨β3,d1,d2⟩:=g2 K β2 w1 c2;have hmid:=lC (N:=0) (src:=X++L) d2 (fun i hi=>(hid i hi).elim) (ig _) m1 m2;have hren:=qE (X++L) β3;have hmsl:ms.length=bs'.length:=by have:=congrArg St.next hst; exact this
  refine⟨⟨iR 0 (X++L) β3,fr,w1,v',a1,(((a2.trans c1).trans d1).leN _).trans (vk hup),?_,a4,?_,a6⟩,?_⟩
  ·rw[<-hst,m3]; exact hmid
  ·refine x2 _ _ (by rw[n_]; exact hvl) ((c3.mono d1).mapr fun v _ x hx=>gU hren v x hx)
  ·rw[<-hmsl,m3,n_,bP];have:=(qJ _ _ _ hup).1;omega
 ·cases g1
theorem tV{σ:Type}(k:Con σ){N:Nat}{g:FuncId}{res:σ->DT (Value×List Blk)}(h:∀ s,k.ok s->∀ v bs',(res s).eval=some (v,bs')->CRX P N g (k.enc s).1 (k.enc s).2 v bs'):CallOkX P N g (wX k.C k.D res):=by
 refine⟨fun args bs t hR v bs' hev=>?_⟩;unfold wX at hR;obtain rfl:=aC hR;cases hc:k.C args bs with
 |false=>rw[hc]at hev; cases hev
 |true=>
  rw[hc]at hev;obtain⟨s,h1,h2,h3⟩:=k.of hc;have hev:(res (k.D args bs)).eval=some (v,bs'):=hev;rw[h3]at hev;have:=h s h2 v bs' hev;rwa [h1]at this
theorem x_{σ:Type}(k:Con σ){fid id:Nat}{B:Code}{H:Head}{res:σ->DT (Ex×List Value×List Blk)}(hocc:∀ c,Occ P fid (.block id c)->c = .loop B)
  (h:∀ s,k.ok s->∀ e vs' bs',(res s).eval=some (e,vs',bs')->LRX P fid id B H (k.enc s).1 (k.enc s).2 e vs' bs'):LoopOkX P fid id B H (DR k.C k.D res) where
 occ:=hocc
 run:=by
  intro vs bs t hR e vs' bs' hev;unfold DR at hR;obtain rfl:=aC hR;cases hc:k.C vs bs with
  |false=>rw[hc]at hev; cases hev
  |true=>
   rw[hc]at hev;obtain⟨s,h1,h2,h3⟩:=k.of hc;have hev:(res (k.D vs bs)).eval=some (e,vs',bs'):=hev;rw[h3]at hev;have:=h s h2 e vs' bs' hev;rwa [h1]at this
open Classical in
def Con.at{σ:Type}(k:Con σ)(s:σ):List Value->List Blk->Bool:=fun vs bs=>decide (k.enc s=(vs,bs))
open Classical in
theorem Con.at_true{σ:Type}(k:Con σ){s:σ}{vs:List Value}{bs:List Blk}(h1:(k.enc s).1=vs)(h2:(k.enc s).2=bs):k.at s vs bs=true:=by
 unfold Con.at; exact eU (by rw[<-h1,<-h2])
open Classical in
theorem Con.at_of{σ:Type}(k:Con σ){s:σ}{vs:List Value}{bs:List Blk}(h:k.at s vs bs=true):k.enc s=(vs,bs):=by
 unfold Con.at at h; exact lY h
def aP(C:List Value->List Blk->Bool)(t:DT (Value×List Blk)):iC:=fun args bs=>some (.ite (C args bs) t .fail)
def gX(C:List Value->List Blk->Bool)(t:DT (Ex×List Value×List Blk)):lU:=fun vs bs=>some (.ite (C vs bs) t .fail)
theorem Jv{σ:Type}(k:Con σ){N:Nat}{g:FuncId}{res:σ->DT (Value×List Blk)}(h:CallOkX P N g (wX k.C k.D res)){s:σ}(ho:k.ok s):CallOkX P N g (aP (k.at s) (res s)):=by
 refine⟨fun args bs t hR v bs' hev=>?_⟩;unfold aP at hR;obtain rfl:=aC hR;cases hc:k.at s args bs with
 |false=>rw[hc]at hev; cases hev
 |true=>
  rw[hc]at hev;have he:=k.at_of hc;refine h.run args bs _ rfl v bs' ?_;rw[k.C_enc he ho,k.D_enc he];exact hev
theorem Ae{σ:Type}(k:Con σ){fid id:Nat}{B:Code}{H:Head}{res:σ->DT (Ex×List Value×List Blk)}(h:LoopOkX P fid id B H (DR k.C k.D res)){s:σ}(ho:k.ok s):LoopOkX P fid id B H (gX (k.at s) (res s)) where
 occ:=h.occ
 run:=by
  intro vs bs t hR e vs' bs' hev;unfold gX at hR;obtain rfl:=aC hR;cases hc:k.at s vs bs with
  |false=>rw[hc]at hev; cases hev
  |true=>
   rw[hc]at hev;have he:=k.at_of hc;refine h.run vs bs _ rfl e vs' bs' ?_;rw[k.C_enc he ho,k.D_enc he];exact hev
end
end Go.VS
end

noncomputable section
namespace Go.VS.Tryz
open Go.VS
set_option maxRecDepth 1000000
theorem ls_{ct:Ct}(hct:CtOk P ct){fid id:Nat}{B:Code}{D:HeadX}(hocc:Occ P fid (.block id (.loop B))){vs vs1:List Value}{bs bs1:List Blk}{e:Ex}(h:aU P E ct 50 fid B D vs bs=some (.tuple ⟨exV e::vs1⟩,ag bs1))(he:e≠ .normal):LRX P fid id B D.head vs bs (kP id e) vs1 bs1:=LRX.stop (dU _) bK hct hocc h he
theorem la_{ct:Ct}(hct:CtOk P ct){fid id:Nat}{B:Code}{D:HeadX}(hocc:Occ P fid (.block id (.loop B))){vs vs1 vs':List Value}{bs bs1 bs':List Blk}{e:Ex}(h:aU P E ct 50 fid B D vs bs=some (.tuple ⟨exV .normal::vs1⟩,ag bs1))(hl:LRX P fid id B D.head vs1 bs1 e vs' bs'):LRX P fid id B D.head vs bs e vs' bs':=LRX.again (dU _) bK hct hocc h hl
theorem co_{ct:Ct}(hct:CtOk P ct){pol:Pol}{fl:List Fl}{ts:List TypeId}{N:Nat}{g:FuncId}{args:List Value}{bs:List Blk}{v:Value}{bs':List Blk}(h:aN P E ct 50 pol fl ts N g args bs=some (v,ag bs')):CRX P N g args bs v bs':=CRX.of (dU _) bK hct h
def g_:Pol:=fun t=>match Nat.beq t 86 with
 |true=>some [.val, .val, .val, .val, .val, .own, .own, .own, .own, .own]
 |false=>none
theorem aW{x:Res}:ae true x=x:=rfl
def ctF:Ct:=abH P
theorem aA:CtOk P ctF:=YR bK
structure DkM where
 off:Bool
 fused:Bool
 fuse:Int
 steps:Int
 d0:List UInt8
 d1:List UInt8
 d2:List UInt8
 d3:List UInt8
 pend:List StM
def dkC(off fused:Bool)(fuse steps:Int)(n0 n1 n2 n3 np:Nat):List Value:=[.bool true, .bool off, .bool fused, .int .i64 fuse, .int .i64 steps, .slice (some ⟨1,0,none⟩) n0 18446744073709551616, .slice (some ⟨2,0,none⟩) n1 18446744073709551616, .slice (some ⟨3,0,none⟩) n2 18446744073709551616, .slice (some ⟨4,0,none⟩) n3 18446744073709551616, .slice (some ⟨5,0,none⟩) np 18446744073709551616]
def a_(m:DkM):List Blk:=[.cells (dkC m.off m.fused m.fuse m.steps m.d0.length m.d1.length m.d2.length m.d3.length m.pend.length) 86 true, .cells (bc m.d0) 5 false, .cells (bc m.d1) 5 false, .cells (bc m.d2) 5 false, .cells (bc m.d3) 5 false, .cells (ESt.all m.pend) 163 false]
def dk_(d:DkM)(a b c e f:Nat):Blk:=(Blk.cells [(Value.bool Bool.true),(Value.bool (DkM.off d)),(Value.bool (DkM.fused d)),(Value.int IntKind.i64 (DkM.fuse d)),(Value.int IntKind.i64 (DkM.steps d)),(Value.slice (Option.some (Addr.mk a 0 none)) (List.length (DkM.d0 d)) 18446744073709551616),(Value.slice (Option.some (Addr.mk b 0 none)) (List.length (DkM.d1 d)) 18446744073709551616),(Value.slice (Option.some (Addr.mk c 0 none)) (List.length (DkM.d2 d)) 18446744073709551616),(Value.slice (Option.some (Addr.mk e 0 none)) (List.length (DkM.d3 d)) 18446744073709551616),(Value.slice (Option.some (Addr.mk f 0 none)) (List.length (DkM.pend d)) 18446744073709551616)] 86 Bool.true)
def w0_(n k:Nat)(c:List Value):List Value:=c
def bk_(b:Nat->Option Nat)(W:Nat->Nat->List Value->List Value)(n k:Nat)(c:List Value):List Value:=aG true b (W n k c)
def cz_(f:Nat->Option Nat)(W:Nat->Nat->List Value->List Value)(n k:Nat)(c:List Value):List Value:=aG true f (takeC (Nat.mul n k) (aO 0 (W n k c)))
def dl_(W:Nat->Nat->List Value->List Value)(s:DkM)(r:List Blk):List Blk:=Blk.cells (W s.d0.length 1 (bc s.d0)) 5 false::Blk.cells (W s.d1.length 1 (bc s.d1)) 5 false::Blk.cells (W s.d2.length 1 (bc s.d2)) 5 false::Blk.cells (W s.d3.length 1 (bc s.d3)) 5 false::Blk.cells (W s.pend.length 4 (ESt.all s.pend)) 163 false::r
def dn_(W:Nat->Nat->List Value->List Value)(s:DkM)(x:Res):Res:=(ae (Nat.ble (Nat.add 0 (Nat.mul s.d0.length 1)) (W s.d0.length 1 (bc s.d0)).length) (ae (Nat.ble (Nat.add 0 (Nat.mul s.d1.length 1)) (W s.d1.length 1 (bc s.d1)).length) (ae (Nat.ble (Nat.add 0 (Nat.mul s.d2.length 1)) (W s.d2.length 1 (bc s.d2)).length) (ae (Nat.ble (Nat.add 0 (Nat.mul s.d3.length 1)) (W s.d3.length 1 (bc s.d3)).length) (ae (Nat.ble (Nat.add 0 (Nat.mul s.pend.length 4)) (W s.pend.length 4 (ESt.all s.pend)).length) x)))))
def p0:Value:= .pointer (some ⟨0,0,none⟩)
def Dwr:HeadX:=⟨1,44,[0,1,2,6],[.val, .val, .val, .val],[],g_⟩
def Bwr:Code:=(di P 89 0).getD .skip
theorem WU:di P 89 0=some Bwr:=by kernel_rfl
theorem EO:Occ P 89 (.block 0 (.loop Bwr)):=dN WU
theorem Xa(off fused:Bool)(fuse steps:Int)(n0 n1 n2 n3 np:Nat)(c0 c1 c2 c3 cp:List Value)(f:Int)(n b:Nat)(c:List Value)(e:Int):aU P E ctF 50 89 Bwr Dwr [.pointer (some ⟨0,0,none⟩), .int .i64 f,ax 1 n b c, .int .i64 e] [.cells (dkC off fused fuse steps n0 n1 n2 n3 np) 86 true, .cells c0 5 false, .cells c1 5 false, .cells c2 5 false, .cells c3 5 false, .cells cp 163 false] =
 (let z:=ah n;let y:=pt_ 0;let x:=io_ f;let w:=fb_ n b c;let v:=Value.bool true;let u:=Value.bool fused;let t:=io_ fuse;let s:=io_ steps;let r:=sl_ 1 n0;let q:=sl_ 2 n1;let p:=sl_ 3 n2;let o:=sl_ 4 n3;let m:=sl_ 5 np;let l:=ro_ [0,1,6,5];let k:=lb_ l n0 1 c0 5;let j:=lb_ l n1 1 c1 5;
 let i:=lb_ l n2 1 c2 5;let h:=lb_ l n3 1 c3 5;let g:=lb_ l np 4 cp 163;let d:=Nat.beq 1 1;let a:=Bool.and d (dS 0 64 n);let Z:=aO 0 c;let Y:=takeC 64 Z;let X:=List.all Y oneCell;let W:=fq_ 64 Y 5;let V:=Nat.add np 1;let U:=Nat.ble V 4194304;let T:=Nat.beq (Nat.add 0 (Nat.mul np 4)) cp.length;
 let S:=bz m m;let R:=Bool.and d (dS 64 z n);let Q:=jC 0 cp;let O:=io_ 0;let N:=List.append Q [O,x,fb_ 64 0 (takeC 64 (aO 0 Y)),O];let M:=fC 64 z;let L:=io_ e;let K:=Value.tuple ⟨[O,y,x,fb_ M (yA b 64) (takeC (Nat.mul M 1) (aO 64 c)),L]⟩;let J:=Value.bool off;let I:=io_ (bM .i64 steps 1);
 let H:=Blk.cells [v,J,u,io_ (dJ .i64 fuse 1),I,r,q,p,o,sl_ 5 V] 86 true;let G:=ro_ [0,1,24,5];let F:=lb_ G n0 1 c0 5;let D:=lb_ G n1 1 c1 5;let C:=lb_ G n2 1 c2 5;let B:=lb_ G n3 1 c3 5;let A:=lb_ G V 4 N 163;let z0:=Bool.and d (dS 0 z n);let y0:=fC 0 z;let x0:=Nat.mul y0 1;
 let w0:=takeC x0 Z;let v0:=List.all w0 oneCell;let u0:=Nat.beq 0 0;let t0:=Bool.and u0 (Bool.and u0 (Nat.ble y0 4194304));let s0:=fq_ y0 w0 5;let r0:=Bool.and d (dS z z n);let q0:=List.append Q [O,x,fb_ y0 0 (takeC x0 (aO 0 w0)),O];let p0:=Value.tuple ⟨[O,y,x,fb_ (fC z z) (yA b (Int.toNat z)) (takeC (Nat.mul (fC z z) 1) (aO (atN z 1) c)),L]⟩;
 let o0:=lb_ G V 4 q0 163;let m0:=Blk.cells [v,J,u,t,I,r,q,p,o,sl_ 5 V] 86 true;
 (aj (gtI z 0) (aj fused (aj (eqI fuse 0) (nb_ n0 1 c0 (nb_ n1 1 c1 (nb_ n2 1 c2 (nb_ n3 1 c3 (nb_ np 4 cp (some (.tuple ⟨[io_ (-1),y,x,w,io_ 6]⟩,ag [.cells [v,v,u,t,s,r,q,p,o,m] 86 true,k,j,i,h,g]))))))) (aj (ltI 64 z) (ae a (ae X (ae W (ae U (ae T (ae S (ae R (nb_ n0 1 c0 (nb_ n1 1 c1 (nb_ n2 1 c2 (nb_ n3 1 c3 (nb_ V 4 N (some (K,ag [H,F,D,C,B,A])))))))))))))) (ae z0 (ae v0 (ae t0 (ae s0 (ae U (ae T (ae S (ae r0 (nb_ n0 1 c0 (nb_ n1 1 c1 (nb_ n2 1 c2 (nb_ n3 1 c3 (nb_ V 4 q0 (some (p0,ag [H,F,D,C,B,o0]))))))))))))))))) (aj (ltI 64 z) (ae a (ae X (ae W (ae U (ae T (ae S (ae R (nb_ n0 1 c0 (nb_ n1 1 c1 (nb_ n2 1 c2 (nb_ n3 1 c3 (nb_ V 4 N (some (K,ag [m0,F,D,C,B,A])))))))))))))) (ae z0 (ae v0 (ae t0 (ae s0 (ae U (ae T (ae S (ae r0 (nb_ n0 1 c0 (nb_ n1 1 c1 (nb_ n2 1 c2 (nb_ n3 1 c3 (nb_ V 4 q0 (some (p0,ag [m0,F,D,C,B,o0]))))))))))))))))) (nb_ n0 1 c0 (nb_ n1 1 c1 (nb_ n2 1 c2 (nb_ n3 1 c3 (nb_ np 4 cp (some (.tuple ⟨[io_ 1,y,x,w,L]⟩,ag [.cells [v,J,u,t,s,r,q,p,o,m] 86 true,k,j,i,h,g]))))))))):=by kernel_rfl
def jB(m:DkM):Option DkM:=match m.fused,eqI m.fuse 0 with
 |false,_=>some { m with steps:=m.steps+1 }
 |true,true=>none
 |true,false=>some { m with fuse:=m.fuse-1,steps:=m.steps+1 }
structure DkOk(m:DkM):Prop where
 s0:0<=m.steps
 s1:m.steps<4611686018427387904
 f0:0<=m.fuse
 f1:m.fuse<9223372036854775808
 p1:m.pend.length<4194304
def wrV(f:Int)(b:List UInt8)(e:Int):List Value:=[p0, .int .i64 f,ax 1 b.length 0 (bc b), .int .i64 e]
def stW(f:Int)(b:List UInt8):StM:=⟨0,f,b.take 64,0⟩
theorem abd(l:List StM)(f:Int)(b:List UInt8)(n:Nat)(hn:n=(b.take 64).length):List.append (jC 0 (ESt.all l)) [.int .i64 0, .int .i64 f, .iface 18446744073709551617 (.agg ⟨.slice none n 0::bc (b.take 64)⟩), .int .i64 0]=ESt.all (l++[stW f b]):=by
 subst hn;rw[ESt.all_append,ESt.all_one,<-fzU]
 rfl
theorem aay{m:DkM}{f e:Int}{b:List UInt8}(hb:b≠[])(hl:b.length<=4194304)(ho:DkOk m) :
  aU P E ctF 50 89 Bwr Dwr (wrV f b e) (a_ m)=match jB m with
   |some m'=>some (.tuple ⟨exV .normal::wrV f (b.drop 64) e⟩,ag (a_ { m' with pend:=m.pend++[stW f b] }))
   |none=>some (.tuple ⟨exV .ret::wrV f b 6⟩,ag (a_ { m with off:=true })):=by
 obtain⟨off,fused,fuse,steps,d0,d1,d2,d3,pend⟩:=m;obtain⟨s0,s1,f0,f1,p1⟩:=ho;simp only at s0 s1 f0 f1 p1;have hlen:0<b.length:=kY.2 hb;unfold wrV p0 a_;simp only;rw[Xa];have g1:gtI (ah b.length) 0=true:=gT_ (by unfold ah; omega);have hs:bM .i64 steps 1=steps+1:=by unfold bM; rw[wrap64 (by omega) (by omega)]
 have hf:dJ .i64 fuse 1=fuse-1:=by unfold dJ; rw[wrap64 (by omega) (by omega)]
 have hp:(pend++[stW f b]).length=Nat.add pend.length 1:=by simp
 have t1:Nat.ble (Nat.add pend.length 1) 4194304=true:=dG (by show pend.length+1<=_; omega);have b2:∀ n,Nat.ble n n=true:=fun n=>dG (dm n);have b3:∀ n,Nat.beq n n=true:=nR;have n4:∀ l:List StM,(ESt.all l).length=Nat.mul l.length 4:=fun l=>ESt.all_length l;have fin:∀ (A B:Res),A=B->A=B:=fun _ _ h=>h;by_cases h64:64<b.length
 ·have g2:ltI 64 (ah b.length)=true:=lT_ (by unfold ah; omega);have c1:dS 0 64 b.length=true:=nJ (by omega) (by omega) (by omega);have c2:dS 64 (ah b.length) b.length=true:=nJ (by omega) (by unfold ah; omega) (by unfold ah; omega);have e1:64=(b.take 64).length:=by rw[fH]; omega
  have e2:takeC 64 (aO 0 (bc b))=bc (b.take 64):=by rw[wS,iQ]
  have e3:takeC 64 (aO 0 (bc (b.take 64)))=bc (b.take 64):=dV e1;have e4:takeC (b.length-64) (aO 64 (bc b))=bc (b.drop 64):=by rw[wS,oC (by simp)]
  have e5:(b.drop 64).length=b.length-64:=gZ;have q:=L9 (l:=b.take 64) e1;have sa:=abd pend f b 64 e1;have lk:fC 64 (ah b.length)=b.length-64:=ahg 64 b.length;simp only[fb_,fq_,io_,lb_,nb_,pt_,sl_,g1,g2,c1,c2,e2,e3,lk,fQ,e4,e5,q,ul,cap0,qi,fB,bn,b2,b3,t1,sa,n4,hp,dV rfl,qC rfl,qC hp.symm,fE,Enc.all_ren,fV,bu,aW,hs,hf];unfold ax jB;rw[fzU];cases fused with
  |false=>rfl
  |true=>
   cases hq:eqI fuse 0<;>simp only[fb_,fq_,io_,lb_,nb_,pt_,sl_,hq]<;>rfl
 ·have g2:ltI 64 (ah b.length)=false:=lF_ (by unfold ah; omega);have c1:dS 0 (ah b.length) b.length=true:=nJ (by omega) (by unfold ah; omega) (by unfold ah; omega);have c2:dS (ah b.length) (ah b.length) b.length=true:=nJ (by unfold ah; omega) (by omega) (by unfold ah; omega);have hbt:b.take 64=b:=oC (by omega);have hbd:b.drop 64=[]:=IC (by omega);have e2:takeC b.length (aO 0 (bc b))=bc b:=dV rfl;have e4:∀ k,takeC 0 (aO k (bc b))=[]:=fun k=>rfl;have q:=L9 (l:=b) rfl;have sa:=abd pend f b b.length (by rw[hbt]);rw[hbt]at sa;have t2:Nat.ble b.length 4194304=true:=dG hl;simp only[fb_,fq_,io_,lb_,nb_,pt_,sl_,g1,g2,c1,c2,e2,Y2,aiJ,fQ,e4,q,ul,cap0,qi,fB,bn,b2,b3,t1,t2,sa,n4,hp,dV rfl,qC rfl,qC hp.symm,fE,Enc.all_ren,fV,bu,bg,aW,hs,hf,hbd];unfold ax jB;rw[fzU];cases fused with
  |false=>rfl
  |true=>
   cases hq:eqI fuse 0<;>simp only[fb_,fq_,io_,lb_,nb_,pt_,sl_,hq]<;>rfl
theorem YG{m:DkM}{f e:Int}:aU P E ctF 50 89 Bwr Dwr (wrV f [] e) (a_ m)=some (.tuple ⟨exV (.exit 0)::wrV f [] e⟩,ag (a_ m)):=by
 obtain⟨off,fused,fuse,steps,d0,d1,d2,d3,pend⟩:=m;unfold wrV p0 a_;simp only;show aU P E ctF 50 _ Bwr Dwr [.pointer (some ⟨0,0,none⟩), .int .i64 f,ax 1 0 0 [], .int .i64 e] _=_;rw[Xa];have b2:∀ n,Nat.ble n n=true:=fun n=>dG (dm n);have n4:∀ l:List StM,(ESt.all l).length=Nat.mul l.length 4:=fun l=>ESt.all_length l;have g1:gtI (ah 0) 0=false:=rfl;simp only[fb_,fq_,io_,lb_,nb_,pt_,sl_,g1,fQ,fB,bn,b2,n4,dV rfl,qC rfl,fE,Enc.all_ren,fV,bg,aW];unfold ax;rw[fzU]
 rfl
def wrM:Nat->DkM->Int->List UInt8->DkM×List UInt8×Bool
 |0,m,_,b=>(m,b,true)
 |k+1,m,f,b=>match b with
  |[]=>(m,[],true)
  |_::_=>match jB m with
   |none=>({ m with off:=true },b,false)
   |some m'=>wrM k { m' with pend:=m.pend++[stW f b] } f (b.drop 64)
def qA(m:DkM)(k:Nat):Prop:=0<=m.steps/\m.steps+k<4611686018427387904/\0<=m.fuse/\m.fuse<9223372036854775808/\m.pend.length+k<4194304
theorem qA.ok{m:DkM}{k:Nat}(h:qA m (k+1)):DkOk m:=⟨h.1,by have:=h.2.1; omega,h.2.2.1,h.2.2.2.1,by have:=h.2.2.2.2; omega⟩
theorem Xp{m m':DkM}{k:Nat}{x:StM}(h:qA m (k+1))(hm:jB m=some m'):qA { m' with pend:=m.pend++[x] } k:=by
 obtain⟨h1,h2,h3,h4,h5⟩:=h;unfold jB at hm;split at hm
 ·obtain rfl:=aC hm;exact⟨by show 0<=m.steps+1; omega,by show m.steps+1+k<_; omega,h3,h4,by show(m.pend++[x]).length+k<_; rw[bP]; simp; omega⟩
 ·cases hm
 ·rename_i hq;obtain rfl:=aC hm;have:m.fuse≠0:=by simpa [eqI]using hq
  exact⟨by show 0<=m.steps+1; omega,by show m.steps+1+k<_; omega,by show 0<=m.fuse-1; omega,by show m.fuse-1<_; omega,by show(m.pend++[x]).length+k<_; rw[bP]; simp; omega⟩
theorem QU(f e:Int):∀ (k:Nat) (m:DkM) (b:List UInt8),b.length<=64*k->b.length<=4194304->qA m k->
  LRX P 89 0 Bwr Dwr.head (wrV f b e) (a_ m) (match(wrM k m f b).2.2 with | true=> .normal | false=> .ret)
   (match(wrM k m f b).2.2 with | true=>wrV f [] e | false=>wrV f (wrM k m f b).2.1 6) (a_ (wrM k m f b).1)
 |0,m,b,hl,hb,hr=>by
  obtain rfl:b=[]:=o6.1 (by omega);exact LRX.stop (n:=50) (dU ctF) bK aA EO (e:= .exit 0) YG (by intro h; cases h)
 |k+1,m,b,hl,hb,hr=>by
  cases b with
  |nil=>exact LRX.stop (n:=50) (dU ctF) bK aA EO (e:= .exit 0) YG (by intro h; cases h)
  |cons x b=>
   have q:=aay (f:=f) (e:=e) (b:=x::b) (by simp) hb hr.ok;cases hm:jB m with
   |none=>
    rw[hm]at q;have ew:wrM (k+1) m f (x::b)=({ m with off:=true },x::b,false):=by rw[wrM]; simp only[hm]
    rw[ew];exact LRX.stop (n:=50) (dU ctF) bK aA EO (e:= .ret) q (by intro h; cases h)
   |some m'=>
    rw[hm]at q;have ew:wrM (k+1) m f (x::b)=wrM k { m' with pend:=m.pend++[stW f (x::b)] } f ((x::b).drop 64):=by rw[wrM]; simp only[hm]
    rw[ew];exact LRX.again (n:=50) (dU ctF) bK aA EO q (QU f e k _ _ (by rw[gZ]; omega) (by rw[gZ]; omega) (Xp hr hm))
structure WrS where
 m:DkM
 f:Int
 b:List UInt8
 e:Int
theorem oM{a b:DkM}(h:a_ a=a_ b):a=b:=by
 obtain⟨a1,a2,a3,a4,a5,a6,a7,a8,a9⟩:=a;obtain⟨b1,b2,b3,b4,b5,b6,b7,b8,b9⟩:=b;unfold a_ dkC at h;simp only[je,Blk.cells.injEq,Value.bool.injEq,Value.int.injEq,jd,lM]at h;obtain⟨⟨h1,h2,h3,h4,_⟩,h5,h6,h7,h8,h9⟩:=h;subst h1 h2 h3 h4;obtain rfl:=wC h5;obtain rfl:=wC h6;obtain rfl:=wC h7;obtain rfl:=wC h8;obtain rfl:=ESt.all_inj _ _ h9
 rfl
def o_(n:Nat):Nat:=(n+63) / 64
def dk0:DkM:=⟨false,false,0,0,[],[],[],[],[]⟩
def kWr:Con WrS where
 enc s:=(wrV s.f s.b s.e,a_ s.m)
 ok s:=s.b.length<=4194304/\qA s.m (o_ s.b.length)
 inj a b h:=by
  obtain⟨a1,a2,a3,a4⟩:=a;obtain⟨b1,b2,b3,b4⟩:=b;simp only[dA]at h;obtain⟨h1,h2⟩:=h;obtain rfl:=oM h2;unfold wrV at h1;simp only[je,Value.int.injEq,lM,jd]at h1;obtain⟨rfl,h3,rfl⟩:=h1;obtain rfl:=wC (ww h3)
  rfl
 dflt:=⟨dk0,0,[],0⟩
def UB(W:WrS->DkM×List UInt8×Bool)(s:WrS):DT (Ex×List Value×List Blk):=
 .ite (W s).2.2 (.leaf (.normal,wrV s.f [] s.e,a_ (W s).1)) (.leaf (.ret,wrV s.f (W s).2.1 6,a_ (W s).1))
def wrW(s:WrS):DkM×List UInt8×Bool:=wrM (o_ s.b.length) s.m s.f s.b
theorem X4:LoopOkX P 89 0 Bwr Dwr.head (DR kWr.C kWr.D (UB wrW)):=
 x_ kWr (bJ WU) fun s ho e vs' bs' hev=>by
  have:=QU s.f s.e (o_ s.b.length) s.m s.b (by unfold o_; omega) ho.1 ho.2;unfold UB wrW at hev;cases hq:(wrM (o_ s.b.length) s.m s.f s.b).2.2 with
  |true=>
   rw[hq]at hev this;simp only[DT.eval,dD,dA]at hev;obtain⟨rfl,rfl,rfl⟩:=hev;exact this
  |false=>
   rw[hq]at hev this;simp only[DT.eval,dD,dA]at hev;obtain⟨rfl,rfl,rfl⟩:=hev;exact this
def ctW(C:List Value->List Blk->Bool)(ok:Bool)(v1 v2:List Value)(b1 b2:List Blk):Ct:=dX P 89 0 Dwr (gX C (.ite ok (.leaf (.normal,v1,b1)) (.leaf (.ret,v2,b2)))) ctF
theorem Yo(C:List Value->List Blk->Bool)(ok off1 fused1 off2 fused2:Bool)(fuse1 fuse2 steps1 steps2:Int)(m0 m1 m2 m3 mp k0 k1 k2 k3 kp:Nat)(d0 d1 d2 d3 dp e0 e1 e2 e3 ep:List Value)(y z:Value)(off fused:Bool)(fuse steps:Int)(n0 n1 n2 n3 np:Nat)(c0 c1 c2 c3 cp:List Value)(f:Int)(n b:Nat)(c:List Value):aN P E (ctW C ok [.pointer (some ⟨0,0,none⟩), .int .i64 f,ax 1 0 0 [], .int .i64 0] [.pointer (some ⟨0,0,none⟩), .int .i64 f,z, .int .i64 6] [.cells (dkC off1 fused1 fuse1 steps1 m0 m1 m2 m3 mp) 86 true, .cells d0 5 false, .cells d1 5 false, .cells d2 5 false, .cells d3 5 false, .cells dp 163 false] [.cells (dkC off2 fused2 fuse2 steps2 k0 k1 k2 k3 kp) 86 true, .cells e0 5 false, .cells e1 5 false, .cells e2 5 false, .cells e3 5 false, .cells ep 163 false]) 50 g_ [] [] 1 89 [.pointer (some ⟨0,0,none⟩), .int .i64 f,ax 1 n b c] [.cells (dkC off fused fuse steps n0 n1 n2 n3 np) 86 true, .cells c0 5 false, .cells c1 5 false, .cells c2 5 false, .cells c3 5 false, .cells cp 163 false] =
 (let x:=Value.bool true;let w:=ro_ [0,1,6,5];let v:=[Blk.cells [x, .bool off, .bool fused,io_ fuse,io_ steps,sl_ 1 n0,sl_ 2 n1,sl_ 3 n2,sl_ 4 n3,sl_ 5 np] 86 true,lb_ w n0 1 c0 5,lb_ w n1 1 c1 5,lb_ w n2 1 c2 5,lb_ w n3 1 c3 5,lb_ w np 4 cp 163];let u:=nb_ n0 1 c0 (nb_ n1 1 c1 (nb_ n2 1 c2 (nb_ n3 1 c3 (nb_ np 4 cp (some (io_ 2,ag v))))));
 let t:=aT [0] 11;let s:=aG true t d0;let r:=aG true t d1;let q:=aG true t d2;let p:=aG true t d3;let o:=aG true t dp;let m:=ro_ [0,1,16,5];let l:=aG true t e0;let k:=aG true t e1;let j:=aG true t e2;let i:=aG true t e3;let h:=aG true t ep;
 (aj off (nb_ n0 1 c0 (nb_ n1 1 c1 (nb_ n2 1 c2 (nb_ n3 1 c3 (nb_ np 4 cp (some (io_ 6,ag v))))))) (aj (geI f 0) (aj (eQ (ltI f 4)) u (nb_ n0 1 c0 (nb_ n1 1 c1 (nb_ n2 1 c2 (nb_ n3 1 c3 (nb_ np 4 cp (ae (C [pt_ 0,io_ f,fb_ n b c,io_ 0] v) (aj ok (nb_ m0 1 s (nb_ m1 1 r (nb_ m2 1 q (nb_ m3 1 p (nb_ mp 4 o (some (io_ 0,ag [.cells [x, .bool off1, .bool fused1,io_ fuse1,io_ steps1,sl_ 1 m0,sl_ 2 m1,sl_ 3 m2,sl_ 4 m3,sl_ 5 mp] 86 true,lb_ m m0 1 s 5,lb_ m m1 1 r 5,lb_ m m2 1 q 5,lb_ m m3 1 p 5,lb_ m mp 4 o 163]))))))) (nb_ k0 1 l (nb_ k1 1 k (nb_ k2 1 j (nb_ k3 1 i (nb_ kp 4 h (some (io_ 6,ag [.cells [x, .bool off2, .bool fused2,io_ fuse2,io_ steps2,sl_ 1 k0,sl_ 2 k1,sl_ 3 k2,sl_ 4 k3,sl_ 5 kp] 86 true,lb_ m k0 1 l 5,lb_ m k1 1 k 5,lb_ m k2 1 j 5,lb_ m k3 1 i 5,lb_ m kp 4 h 163]))))))))))))))) u))):=by kernel_rfl
theorem mg{σ:Type}{k:Con σ}{s:σ}{vs:List Value}{bs:List Blk}{x r:Res}(h1:(k.enc s).1=vs)(h2:(k.enc s).2=bs)(h:x=r):ae (k.at s vs bs) x=r:=by
 rw[k.at_true h1 h2]; exact h
structure WcS where
 m:DkM
 f:Int
 b:List UInt8
def WcS.w(s:WcS):WrS:=⟨s.m,s.f,s.b,0⟩
def kWc:Con WcS where
 enc s:=([p0, .int .i64 s.f,ax 1 s.b.length 0 (bc s.b)],a_ s.m)
 ok s:=s.b.length<=4194304/\qA s.m (o_ s.b.length)
 inj a b h:=by
  obtain⟨a1,a2,a3⟩:=a;obtain⟨b1,b2,b3⟩:=b;simp only[dA]at h;obtain⟨h1,h2⟩:=h;obtain rfl:=oM h2;simp only[je,Value.int.injEq,lM,jd]at h1;obtain⟨rfl,h3⟩:=h1;obtain rfl:=wC (ww h3)
  rfl
 dflt:=⟨dk0,0,[]⟩
def writeM(s:WcS):Int×DkM:=match s.m.off,geI s.f 0,ltI s.f 4 with
 |true,_,_=>(6,s.m)
 |false,true,true=>match(wrW s.w).2.2 with
  |true=>(0,(wrW s.w).1)
  |false=>(6,(wrW s.w).1)
 |false,_,_=>(2,s.m)
def afo(s:WcS):Ct:=dX P 89 0 Dwr (gX (kWr.at s.w) (UB wrW s.w)) ctF
theorem WX(s:WcS):aN P E (afo s) 50 g_ [] [] 1 89 (kWc.enc s).1 (kWc.enc s).2=some (.int .i64 (writeM s).1,ag (a_ (writeM s).2)):=by
 obtain⟨m,f,b⟩:=s;have q:=Yo (kWr.at (WcS.w ⟨m,f,b⟩)) (wrW (WcS.w ⟨m,f,b⟩)).2.2 (wrW (WcS.w ⟨m,f,b⟩)).1.off (wrW (WcS.w ⟨m,f,b⟩)).1.fused (wrW (WcS.w ⟨m,f,b⟩)).1.off (wrW (WcS.w ⟨m,f,b⟩)).1.fused
  (wrW (WcS.w ⟨m,f,b⟩)).1.fuse (wrW (WcS.w ⟨m,f,b⟩)).1.fuse (wrW (WcS.w ⟨m,f,b⟩)).1.steps (wrW (WcS.w ⟨m,f,b⟩)).1.steps
  (wrW (WcS.w ⟨m,f,b⟩)).1.d0.length (wrW (WcS.w ⟨m,f,b⟩)).1.d1.length (wrW (WcS.w ⟨m,f,b⟩)).1.d2.length (wrW (WcS.w ⟨m,f,b⟩)).1.d3.length (wrW (WcS.w ⟨m,f,b⟩)).1.pend.length
  (wrW (WcS.w ⟨m,f,b⟩)).1.d0.length (wrW (WcS.w ⟨m,f,b⟩)).1.d1.length (wrW (WcS.w ⟨m,f,b⟩)).1.d2.length (wrW (WcS.w ⟨m,f,b⟩)).1.d3.length (wrW (WcS.w ⟨m,f,b⟩)).1.pend.length
  (bc (wrW (WcS.w ⟨m,f,b⟩)).1.d0) (bc (wrW (WcS.w ⟨m,f,b⟩)).1.d1) (bc (wrW (WcS.w ⟨m,f,b⟩)).1.d2) (bc (wrW (WcS.w ⟨m,f,b⟩)).1.d3) (ESt.all (wrW (WcS.w ⟨m,f,b⟩)).1.pend)
  (bc (wrW (WcS.w ⟨m,f,b⟩)).1.d0) (bc (wrW (WcS.w ⟨m,f,b⟩)).1.d1) (bc (wrW (WcS.w ⟨m,f,b⟩)).1.d2) (bc (wrW (WcS.w ⟨m,f,b⟩)).1.d3) (ESt.all (wrW (WcS.w ⟨m,f,b⟩)).1.pend)
  (.bool true) (ax 1 (wrW (WcS.w ⟨m,f,b⟩)).2.1.length 0 (bc (wrW (WcS.w ⟨m,f,b⟩)).2.1)) m.off m.fused m.fuse m.steps m.d0.length m.d1.length m.d2.length m.d3.length m.pend.length (bc m.d0) (bc m.d1) (bc m.d2) (bc m.d3) (ESt.all m.pend) f b.length 0 (bc b)
 refine Eq.trans ?_ (q.trans ?_)
 ·rfl
 have b2:∀ n,Nat.ble n n=true:=fun n=>dG (dm n);have n4:∀ l:List StM,(ESt.all l).length=Nat.mul l.length 4:=fun l=>ESt.all_length l;clear q;simp only[fb_,io_,lb_,nb_,pt_,sl_,fQ,fB,bn,fE,Enc.all_ren,n4,b2,dV rfl,qC rfl,aW];unfold writeM;obtain⟨off,fused,fuse,steps,d0,d1,d2,d3,pend⟩:=m;cases off with
 |true=>rfl
 |false=>
  simp only[fb_,io_,lb_,nb_,pt_,sl_,bg];cases geI f 0 with
  |false=>rfl
  |true=>
   cases ltI f 4 with
   |false=>rfl
   |true=>
    simp only[fb_,io_,lb_,nb_,pt_,sl_,eQ,Bool.not_true,bu,bg];refine mg (k:=kWr) (s:=WcS.w ⟨⟨false,fused,fuse,steps,d0,d1,d2,d3,pend⟩,f,b⟩) (by show wrV f b 0=_; unfold wrV ax; rw[fzU]; rfl) rfl ?_;cases hW:(wrW (WcS.w ⟨⟨false,fused,fuse,steps,d0,d1,d2,d3,pend⟩,f,b⟩)).2.2<;>rfl
def Pg(s:WcS):DT (Value×List Blk):= .leaf (.int .i64 (writeM s).1,a_ (writeM s).2)
theorem PE:CallOkX P 1 89 (wX kWc.C kWc.D Pg):=tV kWc fun s ho v bs' hev=>by
 simp only[Pg,DT.eval,dD,dA]at hev;obtain⟨rfl,rfl⟩:=hev;exact CRX.of (dU (afo s)) bK (dB aA (Ae kWr X4 (s:=s.w) ho)) (WX s)
def aaX(O:Bool->ByteArray->ByteArray->Bool):Ct:=jy P 47 (JH O) ctF
def ctB:Ct:=aaX yC
theorem Ht:CtOk P ctB:=iw aA Zk
def Dbc:HeadX:=⟨0,26,[2,14,15,16],[.val, .val, .val, .val],[],g_⟩
def Bbc:Code:=(di P 33 1).getD .skip
theorem M_:di P 33 1=some Bbc:=by kernel_rfl
theorem I5:Occ P 33 (.block 1 (.loop Bbc)):=dN M_
theorem Ym(O:Bool->ByteArray->ByteArray->Bool)(n b:Nat)(c:List Value)(r z i:Int):aU P E (aaX O) 50 33 Bbc Dbc [.int .i64 r,ax 3 n b c, .int .i64 z, .int .i64 i] [] =
 (aj (ltI i z)
 (ae (Bool.and (Nat.beq 3 3) (inI i n))
 (ae (Bool.and (Nat.ble (Nat.add (atN i 3) 3) (List.length c)) (jg [Eta.bool,Eta.string,Eta.string] c (atN i 3)))
 (aj (O (asB (aV c (atN i 3))) (asS (aV c (Nat.add (atN i 3) 1))) (asS (aV c (Nat.add (Nat.add (atN i 3) 1) 1))))
 (some ((Value.tuple (Array.mk [(Value.int IntKind.i64 (0:Int)),(Value.int IntKind.i64 r),(Value.iface 18446744073709551619 (Value.agg (Array.mk ((Value.slice none n b)::c)))),(Value.int IntKind.i64 z),(Value.int IntKind.i64 (bM IntKind.i64 i (1:Int)))])),(ag [])))
 (some ((Value.tuple (Array.mk [(Value.int IntKind.i64 (-1:Int)),(Value.int IntKind.i64 (2:Int)),(Value.iface 18446744073709551619 (Value.agg (Array.mk ((Value.slice none n b)::c)))),(Value.int IntKind.i64 z),(Value.int IntKind.i64 i)])),(ag []))))))
 (some ((Value.tuple (Array.mk [(Value.int IntKind.i64 (2:Int)),(Value.int IntKind.i64 r),(Value.iface 18446744073709551619 (Value.agg (Array.mk ((Value.slice none n b)::c)))),(Value.int IntKind.i64 z),(Value.int IntKind.i64 i)])),(ag [])))):=by kernel_rfl
theorem Rl(C:List Value->List Blk->Bool)(ok:Bool)(r:Int)(z:Value)(y1 y2 y3:Int)(n b:Nat)(c:List Value):aN P E (dX P 33 1 Dbc (gX C (.ite ok (.leaf (.normal,[.int .i64 0,z, .int .i64 y1, .int .i64 y2],[])) (.leaf (.ret,[.int .i64 r,z, .int .i64 y1, .int .i64 y3],[])))) ctF) 50 g_ [] [] 0 33 [ax 3 n b c] [] =
 (aj (eqI (ah n) (0:Int))
 (some ((Value.int IntKind.i64 (2:Int)),(ag [])))
 (aj (gtI (ah n) (8:Int))
 (some ((Value.int IntKind.i64 (3:Int)),(ag [])))
 (ae (C [(Value.int IntKind.i64 (0:Int)),(Value.iface 18446744073709551619 (Value.agg (Array.mk ((Value.slice none n b)::c)))),(Value.int IntKind.i64 (ah n)),(Value.int IntKind.i64 (0:Int))] [])
 (aj ok
 (some ((Value.int IntKind.i64 (0:Int)),(ag [])))
 (some ((Value.int IntKind.i64 r),(ag []))))))):=by kernel_rfl
def G9(o:OpM):Bool:=yC o.p o.k o.v
def bD(l:List OpM):Value:=ax 3 l.length 0 (EOp.all l)
def bcV(r:Int)(l:List OpM)(i:Int):List Value:=[.int .i64 r,bD l, .int .i64 (ah l.length), .int .i64 i]
theorem Be{l:List OpM}{i:Nat}(h:i<l.length):jg [.bool, .string, .string] (EOp.all l) (atN (i:Int) 3)=true:=by
 show and (gm .bool (aV (EOp.all l) (atN (i:Int) 3))) (and (gm .string (aV (EOp.all l) (Nat.add (atN (i:Int) 3) 1))) (and (gm .string (aV (EOp.all l) (Nat.add (Nat.add (atN (i:Int) 3) 1) 1))) true))=true;rw[JV h,Ja h,Ko h]; rfl
theorem ZC{l:List OpM}{i:Nat}(hi:i<l.length)(hl:l.length<4194304):aU P E ctB 50 33 Bbc Dbc (bcV 0 l i) []=match G9 l[i]with
  |true=>some (.tuple ⟨exV .normal::bcV 0 l ((i+1:Nat):Int)⟩,ag [])
  |false=>some (.tuple ⟨exV .ret::bcV 2 l i⟩,ag []):=by
 unfold bcV bD ctB;rw[Ym];have n3:∀ l:List OpM,(EOp.all l).length=Nat.mul l.length 3:=fun l=>EOp.all_length l;have g1:ltI (i:Int) (ah l.length)=true:=lT_ (by unfold ah; omega);have g2:inI (i:Int) l.length=true:=by unfold inI; exact eU (by omega)
 have g3:Nat.ble (Nat.add (atN (i:Int) 3) 3) (Nat.mul l.length 3)=true:=dG (by
  show(i:Int).toNat*3+3<=l.length*3;have:(i:Int).toNat=i:=by omega
  omega)
 have g4:=Be hi;have a1:bM .i64 (i:Int) 1=((i+1:Nat):Int):=by unfold bM; rw[wrap64 (by omega) (by omega)]; omega
 have ab:∀ b,asB (.bool b)=b:=fun _=>rfl;have aS:∀ b,asS (.string b)=b:=fun _=>rfl;have b3:∀ n,Nat.beq n n=true:=nR;simp only[n3,g1,g2,g3,g4,JV hi,Ja hi,Ko hi,ab,aS,a1,b3,fV,bu,aW];unfold ax G9;rw[wQ];cases yC l[i].p l[i].k l[i].v<;>rfl
theorem ahs{l:List OpM}:aU P E ctB 50 33 Bbc Dbc (bcV 0 l l.length) []=some (.tuple ⟨exV (.exit 1)::bcV 0 l l.length⟩,ag []):=by
 unfold bcV bD ctB;rw[Ym];have g1:ltI (l.length:Int) (ah l.length)=false:=lF_ (by unfold ah; omega);simp only[g1,bg];unfold ax;rw[wQ]
 rfl
def badM:Nat->List OpM->Option Nat
 |_,[]=>none
 |i,o::l=>match G9 o with
  |true=>badM (i+1) l
  |false=>some i
theorem Rz(l:List OpM)(hl:l.length<4194304):∀ (k i:Nat),i+k=l.length->
  LRX P 33 1 Bbc Dbc.head (bcV 0 l i) [] (match badM i (l.drop i)with | none=> .normal | some _=> .ret) (match badM i (l.drop i)with | none=>bcV 0 l l.length | some j=>bcV 2 l j) []
 |0,i,h=>by
  obtain rfl:i=l.length:=by omega
  rw[qc];exact LRX.stop (n:=50) (dU ctB) bK Ht I5 (e:= .exit 1) ahs (by intro h; cases h)
 |k+1,i,h=>by
  have hi:i<l.length:=by omega
  have q:=ZC hi hl;rw[lu hi];simp only[badM];cases ho:G9 l[i]with
  |true=>
   rw[ho]at q;exact LRX.again (n:=50) (dU ctB) bK Ht I5 q (Rz l hl k (i+1) (by omega))
  |false=>
   rw[ho]at q;exact LRX.stop (n:=50) (dU ctB) bK Ht I5 (e:= .ret) q (by intro h; cases h)
def kBc:Con (List OpM) where
 enc l:=(bcV 0 l 0,[])
 ok l:=l.length<4194304
 inj a b h:=by
  unfold bcV bD at h;simp only[dA,je,Value.int.injEq,lM,jd]at h;exact EOp.all_inj _ _ (ww h.1)
 dflt:=[]
def UO(l:List OpM):DT (Ex×List Value×List Blk):= .ite (badM 0 l).isNone (.leaf (.normal,bcV 0 l l.length,[])) (.leaf (.ret,bcV 2 l ((badM 0 l).getD 0),[]))
theorem WW:LoopOkX P 33 1 Bbc Dbc.head (DR kBc.C kBc.D UO):=
 x_ kBc (bJ M_) fun l ho e vs' bs' hev=>by
  have q:=Rz l ho l.length 0 (by omega);rw[iQ]at q;unfold UO at hev;cases hb:badM 0 l with
  |none=>
   rw[hb]at hev q;simp only[Option.isNone_none,DT.eval,dD,dA]at hev;obtain⟨rfl,rfl,rfl⟩:=hev;exact q
  |some j=>
   rw[hb]at hev q;simp only[Option.isNone_some,sS,DT.eval,dD,dA]at hev;obtain⟨rfl,rfl,rfl⟩:=hev;exact q
def yB(l:List OpM):Int:=match eqI (ah l.length) 0,gtI (ah l.length) 8,(badM 0 l).isNone with
 |true,_,_=>2
 |false,true,_=>3
 |false,false,true=>0
 |false,false,false=>2
def kBk:Con (List OpM) where
 enc l:=([bD l],[])
 ok l:=l.length<4194304
 inj a b h:=by
  unfold bD at h;simp only[dA,je,lM,jd]at h;exact EOp.all_inj _ _ (ww h)
 dflt:=[]
def afQ(l:List OpM):Ct:=dX P 33 1 Dbc (gX (kBc.at l) (UO l)) ctF
theorem aei(l:List OpM):aN P E (afQ l) 50 g_ [] [] 0 33 (kBk.enc l).1 (kBk.enc l).2=some (.int .i64 (yB l),ag []):=by
 have q:=Rl (kBc.at l) (badM 0 l).isNone 2 (bD l) (ah l.length) l.length (((badM 0 l).getD 0:Nat):Int) l.length 0 (EOp.all l);refine Eq.trans ?_ (q.trans ?_)
 ·rfl
 clear q;unfold yB;cases eqI (ah l.length) 0 with
 |true=>rfl
 |false=>
  simp only[bg];cases gtI (ah l.length) 8 with
  |true=>rfl
  |false=>
   simp only[bg];refine mg (k:=kBc) (s:=l) (by show bcV 0 l 0=_; unfold bcV bD ax; rw[wQ]) rfl ?_;cases (badM 0 l).isNone<;>rfl
theorem YM:CallOkX P 0 33 (wX kBk.C kBk.D fun l=> .leaf (.int .i64 (yB l),[])):=tV kBk fun l ho v bs' hev=>by
 simp only[DT.eval,dD,dA]at hev;obtain⟨rfl,rfl⟩:=hev;exact CRX.of (dU (afQ l)) bK (dB aA (Ae kBc WW (s:=l) ho)) (aei l)
def Dsh:HeadX:=⟨0,26,[0,1,4,5,12,13],[.val, .val, .val, .val, .val, .val],[],g_⟩
def Bsh:Code:=(di P 134 0).getD .skip
theorem V7:di P 134 0=some Bsh:=by kernel_rfl
theorem JC:Occ P 134 (.block 0 (.loop Bsh)):=dN V7
theorem Ws(a b:ByteArray)(r x z i:Int):aU P E ctF 50 134 Bsh Dsh [.string a, .string b, .int .i64 r, .int .i64 x, .int .i64 z, .int .i64 i] [] =
 (aj (ltI i z)
 (ae (inI i (ByteArray.size a))
 (ae (inI i (ByteArray.size b))
 (aj (neI (bAt a i) (bAt b i))
 (some ((Value.tuple (Array.mk [(Value.int IntKind.i64 (-1:Int)),(Value.string a),(Value.string b),(Value.int IntKind.i64 i),(Value.int IntKind.i64 x),(Value.int IntKind.i64 z),(Value.int IntKind.i64 i)])),(ag [])))
 (some ((Value.tuple (Array.mk [(Value.int IntKind.i64 (0:Int)),(Value.string a),(Value.string b),(Value.int IntKind.i64 r),(Value.int IntKind.i64 x),(Value.int IntKind.i64 z),(Value.int IntKind.i64 (bM IntKind.i64 i (1:Int)))])),(ag []))))))
 (some ((Value.tuple (Array.mk [(Value.int IntKind.i64 (1:Int)),(Value.string a),(Value.string b),(Value.int IntKind.i64 r),(Value.int IntKind.i64 x),(Value.int IntKind.i64 z),(Value.int IntKind.i64 i)])),(ag [])))):=by kernel_rfl
theorem aeM(C:List Value->List Blk->Bool)(ok:Bool)(r x z i r1 x1 z1 i1:Int)(a b:ByteArray):aN P E (dX P 134 0 Dsh (gX C (.ite ok (.leaf (.normal,[.string a, .string b, .int .i64 r, .int .i64 x, .int .i64 z, .int .i64 i],[])) (.leaf (.ret,[.string a, .string b, .int .i64 r1, .int .i64 x1, .int .i64 z1, .int .i64 i1],[])))) ctF) 50 g_ [] [] 0 134 [.string a, .string b] [] =
 (aj (ltI (ah (ByteArray.size b)) (ah (ByteArray.size a)))
 (ae (C [(Value.string a),(Value.string b),(Value.int IntKind.i64 (0:Int)),(Value.int IntKind.i64 (ah (ByteArray.size b))),(Value.int IntKind.i64 (ah (ByteArray.size b))),(Value.int IntKind.i64 (0:Int))] [])
 (aj ok
 (some ((Value.int IntKind.i64 x),(ag [])))
 (some ((Value.int IntKind.i64 r1),(ag [])))))
 (ae (C [(Value.string a),(Value.string b),(Value.int IntKind.i64 (0:Int)),(Value.int IntKind.i64 (ah (ByteArray.size a))),(Value.int IntKind.i64 (ah (ByteArray.size a))),(Value.int IntKind.i64 (0:Int))] [])
 (aj ok
 (some ((Value.int IntKind.i64 x),(ag [])))
 (some ((Value.int IntKind.i64 r1),(ag [])))))):=by kernel_rfl
def qo(a b:ByteArray):Nat->Nat->Option Nat
 |0,_=>none
 |k+1,i=>match neI (bAt a (i:Int)) (bAt b (i:Int))with
  |true=>some i
  |false=>qo a b k (i+1)
def h_(a b:ByteArray):Nat:=match ltI (ah b.size) (ah a.size)with
 |true=>b.size
 |false=>a.size
theorem Jh(a b:ByteArray):h_ a b<=a.size/\h_ a b<=b.size:=by
 unfold h_;cases h:ltI (ah b.size) (ah a.size)with
 |true=>have:ah b.size<ah a.size:=lY h; unfold ah at this; exact⟨by simp only; omega,dm _⟩
 |false=>have:¬ah b.size<ah a.size:=of_decide_eq_false h; unfold ah at this; exact⟨dm _,by simp only; omega⟩
structure ShS where
 a:ByteArray
 b:ByteArray
def shV(s:ShS)(r i:Int):List Value:=[.string s.a, .string s.b, .int .i64 r, .int .i64 (ah (h_ s.a s.b)), .int .i64 (ah (h_ s.a s.b)), .int .i64 i]
theorem Y_{s:ShS}{i:Nat}(hi:i<h_ s.a s.b)(hl:h_ s.a s.b<4611686018427387904):aU P E ctF 50 134 Bsh Dsh (shV s 0 i) []=match neI (bAt s.a (i:Int)) (bAt s.b (i:Int))with
  |true=>some (.tuple ⟨exV .ret::shV s i i⟩,ag [])
  |false=>some (.tuple ⟨exV .normal::shV s 0 ((i+1:Nat):Int)⟩,ag []):=by
 obtain⟨h1,h2⟩:=Jh s.a s.b;unfold shV;rw[Ws];have g1:ltI (i:Int) (ah (h_ s.a s.b))=true:=lT_ (by unfold ah; omega);have g2:inI (i:Int) s.a.size=true:=by unfold inI; exact eU (by omega)
 have g3:inI (i:Int) s.b.size=true:=by unfold inI; exact eU (by omega)
 have a1:bM .i64 (i:Int) 1=((i+1:Nat):Int):=by unfold bM; rw[wrap64 (by omega) (by omega)]; omega
 simp only[g1,g2,g3,a1,bu,aW];cases neI (bAt s.a (i:Int)) (bAt s.b (i:Int))<;>rfl
theorem ahr{s:ShS}:aU P E ctF 50 134 Bsh Dsh (shV s 0 (h_ s.a s.b)) []=some (.tuple ⟨exV (.exit 0)::shV s 0 (h_ s.a s.b)⟩,ag []):=by
 unfold shV;rw[Ws];have g1:ltI (h_ s.a s.b:Int) (ah (h_ s.a s.b))=false:=lF_ (by unfold ah; omega);simp only[g1,bg]
 rfl
theorem Rh(s:ShS)(hl:h_ s.a s.b<4611686018427387904):∀ (k i:Nat),i+k=h_ s.a s.b->
  LRX P 134 0 Bsh Dsh.head (shV s 0 i) [] (match qo s.a s.b k i with | none=> .normal | some _=> .ret) (match qo s.a s.b k i with | none=>shV s 0 (h_ s.a s.b) | some j=>shV s j j) []
 |0,i,h=>by
  have e:i=h_ s.a s.b:=by omega
  rw[e];exact LRX.stop (n:=50) (dU ctF) bK aA JC (e:= .exit 0) ahr (by intro h; cases h)
 |k+1,i,h=>by
  have q:=Y_ (s:=s) (i:=i) (by omega) hl;simp only[qo];cases ho:neI (bAt s.a (i:Int)) (bAt s.b (i:Int))with
  |false=>
   rw[ho]at q;exact LRX.again (n:=50) (dU ctF) bK aA JC q (Rh s hl k (i+1) (by omega))
  |true=>
   rw[ho]at q;exact LRX.stop (n:=50) (dU ctF) bK aA JC (e:= .ret) q (by intro h; cases h)
def kSh:Con ShS where
 enc s:=(shV s 0 0,[])
 ok s:=h_ s.a s.b<4611686018427387904
 inj a b h:=by
  obtain⟨a1,a2⟩:=a;obtain⟨b1,b2⟩:=b;unfold shV at h;simp only[dA,je,Value.string.injEq,jd]at h;obtain⟨rfl,rfl,_⟩:=h
  rfl
 dflt:=⟨⟨#[]⟩,⟨#[]⟩⟩
def Vm(s:ShS):DT (Ex×List Value×List Blk):= .ite (qo s.a s.b (h_ s.a s.b) 0).isNone (.leaf (.normal,shV s 0 (h_ s.a s.b),[])) (.leaf (.ret,shV s ((qo s.a s.b (h_ s.a s.b) 0).getD 0:Nat) ((qo s.a s.b (h_ s.a s.b) 0).getD 0:Nat),[]))
theorem Xk:LoopOkX P 134 0 Bsh Dsh.head (DR kSh.C kSh.D Vm):=
 x_ kSh (bJ V7) fun s ho e vs' bs' hev=>by
  have q:=Rh s ho (h_ s.a s.b) 0 (by omega);unfold Vm at hev;cases hb:qo s.a s.b (h_ s.a s.b) 0 with
  |none=>
   rw[hb]at hev q;simp only[Option.isNone_none,DT.eval,dD,dA]at hev;obtain⟨rfl,rfl,rfl⟩:=hev;exact q
  |some j=>
   rw[hb]at hev q;simp only[Option.isNone_some,sS,DT.eval,dD,dA]at hev;obtain⟨rfl,rfl,rfl⟩:=hev;exact q
def tZ(a b:ByteArray):Nat:=(qo a b (h_ a b) 0).getD (h_ a b)
def kSk:Con ShS where
 enc s:=([.string s.a, .string s.b],[])
 ok s:=h_ s.a s.b<4611686018427387904
 inj a b h:=by
  obtain⟨a1,a2⟩:=a;obtain⟨b1,b2⟩:=b;simp only[dA,je,Value.string.injEq,jd]at h;obtain⟨rfl,rfl⟩:=h
  rfl
 dflt:=⟨⟨#[]⟩,⟨#[]⟩⟩
def afU(s:ShS):Ct:=dX P 134 0 Dsh (gX (kSh.at s) (Vm s)) ctF
theorem adW(s:ShS):aN P E (afU s) 50 g_ [] [] 0 134 (kSk.enc s).1 (kSk.enc s).2=some (.int .i64 (tZ s.a s.b),ag []):=by
 obtain⟨a,b⟩:=s;have q:=aeM (kSh.at ⟨a,b⟩) (qo a b (h_ a b) 0).isNone 0 (ah (h_ a b)) (ah (h_ a b)) (h_ a b) ((qo a b (h_ a b) 0).getD 0:Nat) (ah (h_ a b)) (ah (h_ a b)) ((qo a b (h_ a b) 0).getD 0:Nat) a b;refine Eq.trans ?_ (q.trans ?_)
 ·rfl
 clear q;have fin:∀ x:Nat,x=h_ a b->ae (kSh.at ⟨a,b⟩ [.string a, .string b, .int .i64 0, .int .i64 (ah x), .int .i64 (ah x), .int .i64 0] []) (aj (qo a b (h_ a b) 0).isNone (some (.int .i64 (ah (h_ a b)),ag [])) (some (.int .i64 (((qo a b (h_ a b) 0).getD 0:Nat):Int),ag [])))=some (.int .i64 (tZ a b),ag []):=by
  intro x hx;subst hx;refine mg (k:=kSh) (s:=⟨a,b⟩) rfl rfl ?_;unfold tZ;cases qo a b (h_ a b) 0<;>rfl
 cases h:ltI (ah b.size) (ah a.size)with
 |true=>exact fin b.size (by unfold h_; rw[h])
 |false=>exact fin a.size (by unfold h_; rw[h])
theorem agP:CallOkX P 0 134 (wX kSk.C kSk.D fun s=> .leaf (.int .i64 (tZ s.a s.b),[])):=tV kSk fun s ho v bs' hev=>by
 simp only[DT.eval,dD,dA]at hev;obtain⟨rfl,rfl⟩:=hev;exact CRX.of (dU (afU s)) bK (dB aA (Ae kSh Xk (s:=s) ho)) (adW s)
end Go.VS.Tryz
end

noncomputable section
namespace Go.VS
open Go.RowKit
section
variable{P:Program}{ct:Ct}
def nV(P:Program)(g:FuncId)(ct:Ct):Ct where
 call:=fun g' args st=>match Nat.beq g' g with
  |true=>some (wJ P 100 (Z9 P g) args st fun args1 st1=>match ct.call g args1 st1 with
   |some t=>t
   |none=> .fail)
  |false=>ct.call g' args st
 loop:=ct.loop
 op:=ct.op
theorem l_{g:FuncId}(hct:CtOk P ct):CtOk P (nV P g ct) where
 opc:=hct.opc
 op:=hct.op
 loop:=hct.loop
 call:=by
  intro K g' args st v st' hl β w args' cs ha hr;simp only[nV]at hl;split at hl
  ·rename_i hb;obtain rfl:=dF hb;simp only[jf]at hl;obtain⟨args1,st1,h1,h2,h3,h4⟩:=l9 _ _ _ _ _ hl;split at h1
   ·rename_i t ht;obtain⟨β1,a1,a2,a3⟩:=h4 K β w args'.toList hr ha;obtain⟨β2,fr,w2,v',b1,b2,b3,b4,b5,b6⟩:=hct.call K _ args1 st1 v st' (by rw[ht]; exact h1) β1 w args' cs a3 a2;exact⟨β2,fr,w2,v',b1,a1.trans b2,b3,b4,b5,b6⟩
   ·cases h1
  ·exact hct.call K g' args st v st' hl β w args' cs ha hr
end
end Go.VS
end

noncomputable section
namespace Go.VS.Tryz
open Go.VS
set_option maxRecDepth 1000000
def Vh(K:ByteArray->ByteArray->Bool)(S:ByteArray->ByteArray->Int):iC:=fun args bs=>match args,bs with
 |[.string a, .string b],[]=>some (.ite (K a b) (.leaf (.int .i64 (S a b),[])) .fail)
 |_,_=>none
def abg(V:Nat->List UInt8)(C:Int->Bool)(K:ByteArray->ByteArray->Bool)(S:ByteArray->ByteArray->Int):Ct:=
 ak P g_ 0 134 (Vh K S) (nV P 50 (jy P 50 (uq V C) ctF))
def Dap:HeadX:=⟨0,70,[7,8,23,24,25],[.own, .val, .val, .val, .val],[57,0,0,0,0],g_⟩
def Bap:Code:=(di P 96 0).getD .skip
theorem Wj:di P 96 0=some Bap:=by kernel_rfl
theorem ac_:Occ P 96 (.block 0 (.loop Bap)):=dN Wj
theorem VT(V:Nat->List UInt8)(C:Int->Bool)(K:ByteArray->ByteArray->Bool)(S:ByteArray->ByteArray->Int)(nd:Nat)(cd:List Value)(k:ByteArray)(n b:Nat)(c:List Value)(z i:Int):aU P E (abg V C K S) 50 96 Bap Dap [.slice (some ⟨0,0,none⟩) nd 18446744073709551616, .string k,ax 3 n b c, .int .i64 z, .int .i64 i] [.cells cd 5 false] =
 (let y:=atN i 3;let x:=Nat.add y 1;let w:=asS (aV c x);let v:=asB (aV c y);let u:=Nat.add nd 1;let t:=Nat.ble u 4194304;let s:=Nat.beq (Nat.add 0 (Nat.mul nd 1)) cd.length;let r:=jC 0 cd;let q:=List.append r [.int .u8 1];let p:=Nat.mul u 1;let o:=takeC p (aO 0 q);let m:=S k w;let l:=cvI .u64 m;
 let j:=V (Int.toNat l);let h:=HAppend.hAppend (List.map byteOf o) j;let g:=h.length;let f:=aG false (dQ 4) (bc h);let e:=takeC (Nat.mul g 1) (aO 0 f);let d:=ah w.size;let a:=cvI .u64 (dJ .i64 d m);let Z:=dS m d w.size;let Y:=yw w m d;let X:=Go.byteCells Y;let W:=List.all X oneCell;
 let U:=V (Int.toNat a);let T:=HAppend.hAppend (List.map byteOf e) U;let R:=Nat.add T.length Y.size;let Q:=dQ 19;let O:=aG false Q (bc T);let N:=Value.string w;let M:=Value.string Y;let L:=List.append (jC 0 O) X;let J:=takeC (Nat.mul R 1) (aO 0 L);let I:=asS (aV c (Nat.add x 1));
 let H:=cvI .u64 (ah I.size);let G:=Go.byteCells I;let F:=List.all G oneCell;let D:=V (Int.toNat H);let B:=HAppend.hAppend (List.map byteOf J) D;let A:=Nat.add B.length I.size;let z0:=dQ 31;let y0:=aG false z0 (bc B);let x0:=Value.string I;let w0:=bz x0 x0;let v0:=List.append (jC 0 y0) G;
 let u0:=io_ 0;let t0:=fa_ n b c;let s0:=io_ z;let r0:=io_ (bM .i64 i 1);let q0:=bQ 0 [33];let p0:=bQ 0 [21];let o0:=List.append r [.int .u8 0];let n0:=takeC p (aO 0 o0);let m0:=HAppend.hAppend (List.map byteOf n0) j;let l0:=m0.length;let k0:=aG false (dQ 4) (bc m0);let j0:=takeC (Nat.mul l0 1) (aO 0 k0);
 let i0:=HAppend.hAppend (List.map byteOf j0) U;let h0:=Nat.add i0.length Y.size;let g0:=aG false Q (bc i0);let f0:=List.append (jC 0 g0) X;let e0:=takeC (Nat.mul h0 1) (aO 0 f0);let d0:=HAppend.hAppend (List.map byteOf e0) D;let c0:=Nat.add d0.length I.size;let b0:=aG false z0 (bc d0);
 let a0:=List.append (jC 0 b0) G;
 (aj (ltI i z) (ae (Bool.and (Nat.beq 3 3) (inI i n)) (ae (Bool.and (Nat.ble (Nat.add y 3) c.length) (jg [.bool, .string, .string] c y)) (ae (K k w) (aj v (ae t (ae s (ae (fq_ u q 5) (ae (Bool.and (fw_ u o) (C l)) (ae (fq_ g f 5) (ae (Bool.and (fw_ g e) (C a)) (ae Z (ae W (ae (Nat.ble R 4194304) (ae (Nat.beq (Nat.add 0 (Nat.mul T.length 1)) O.length) (ae (bz N N) (ae Z (ae (bz M M) (aj v (ae (fq_ R L 5) (ae (Bool.and (fw_ R J) (C H)) (ae F (ae (Nat.ble A 4194304) (ae (Nat.beq (Nat.add 0 (Nat.mul B.length 1)) y0.length) (ae w0 (nb_ A 1 v0 (some (.tuple ⟨[u0,sl_ 0 A,N,t0,s0,r0]⟩,ag [lb_ q0 A 1 v0 5]))))))))) (nb_ R 1 L (some (.tuple ⟨[u0,sl_ 0 R,N,t0,s0,r0]⟩,ag [lb_ p0 R 1 L 5]))))))))))))))))) (ae t (ae s (ae (fq_ u o0 5) (ae (Bool.and (fw_ u n0) (C l)) (ae (fq_ l0 k0 5) (ae (Bool.and (fw_ l0 j0) (C a)) (ae Z (ae W (ae (Nat.ble h0 4194304) (ae (Nat.beq (Nat.add 0 (Nat.mul i0.length 1)) g0.length) (ae (bz N N) (ae Z (ae (bz M M) (aj v (ae (fq_ h0 f0 5) (ae (Bool.and (fw_ h0 e0) (C H)) (ae F (ae (Nat.ble c0 4194304) (ae (Nat.beq (Nat.add 0 (Nat.mul d0.length 1)) b0.length) (ae w0 (nb_ c0 1 a0 (some (.tuple ⟨[u0,sl_ 0 c0,N,t0,s0,r0]⟩,ag [lb_ q0 c0 1 a0 5]))))))))) (nb_ h0 1 f0 (some (.tuple ⟨[u0,sl_ 0 h0,N,t0,s0,r0]⟩,ag [lb_ p0 h0 1 f0 5]))))))))))))))))))))) (nb_ nd 1 cd (some (.tuple ⟨[io_ 1,sl_ 0 nd, .string k,t0,s0,io_ i]⟩,ag [lb_ (bQ 0 [1]) nd 1 cd 5]))))):=by kernel_rfl
theorem u8n{n:Nat}(h:n<256):(UInt8.ofNat n).toNat=n:=by simp only[UInt8.toNat_ofNat']; omega
theorem aaM(i:Nat):2^(7*(i+1))=128*2^(7*i):=by rw[show 7*(i+1)=7+7*i by omega,Nat.pow_add]
theorem nine{i n X:Nat}(h9:i=9)(h:X+n*2^(7*i)<18446744073709551616):n<=1:=by
 subst h9;have e:2^(7*9)=9223372036854775808:=by decide
 rw[e]at h;omega
theorem Zw:∀ (k n i X:Nat) (r:List UInt8),n<128^(k+1)->i<=9->X<2^(7*i)->X+n*2^(7*i)<18446744073709551616->(0<i->0<n)->
  iH i X (hiM k n++UInt8.ofNat (l7 k n)::r)=(true,X+n*2^(7*i),i+(hiM k n).length+1):=by
 intro k;have last:∀ (n i X:Nat) (r:List UInt8),n<128->i<=9->X+n*2^(7*i)<18446744073709551616->(0<i->0<n)->iH i X (UInt8.ofNat n::r)=(true,X+n*2^(7*i),i+0+1):=by
  intro n i X r hn hi hs h0;have hu:(UInt8.ofNat n).toNat=n:=u8n (by omega);rw[iH,hu,iW (by rintro ⟨h9,h1⟩; have:=nine h9 hs; omega),iW (by omega),iW (by rintro ⟨h1,h2⟩; have:=h0 h2; omega)];simp only[mY];have hm:n % 128=n:=Nat.mod_eq_of_lt hn;have hp:0<=X:=ig _;rw[hm,Nat.mod_eq_of_lt (by omega)]
 induction k with
 |zero=>
  intro n i X r hn hi hX hs h0;show iH i X (UInt8.ofNat n::r)=_;exact last n i X r (by simpa using hn) hi hs h0
 |succ k ih=>
  intro n i X r hn hi hX hs h0;by_cases hb:128<=n
  ·have e1:hiM (k+1) n=UInt8.ofNat (n % 128+128)::hiM k (n / 128):=by rw[hiM,dG hb]
   have e2:l7 (k+1) n=l7 k (n / 128):=by rw[l7,dG hb]
   have hi9:i≠9:=fun h9=>by have:=nine h9 hs; omega
   have hu:(UInt8.ofNat (n % 128+128)).toNat=n % 128+128:=u8n (by omega);have hpos:0<2^(7*i):=Nat.pow_pos (by decide);have hdm:n=n / 128*128+n % 128:=by omega
   have hval:X+n % 128*2^(7*i)+n / 128*(128*2^(7*i))=X+n*2^(7*i):=by
    conv=>rhs; rw[hdm]
    rw[qh,Nat.mul_assoc]; omega
   have hlt:n % 128*2^(7*i)<18446744073709551616:=by
    have:n % 128*2^(7*i)<=n*2^(7*i):=xA _ (Nat.mod_le _ _);omega
   rw[e1,e2,ql,iH,hu,iW (by rintro ⟨h9,_⟩; exact hi9 h9),eU (show 128<=n % 128+128 by omega)];have hst:mY X i (n % 128+128)=X+n % 128*2^(7*i):=by
    unfold mY;have:(n % 128+128) % 128=n % 128:=by omega
    rw[this,Nat.mod_eq_of_lt hlt]
   simp only[hst];rw[ih (n / 128) (i+1) (X+n % 128*2^(7*i)) r (by rw[Nat.div_lt_iff_lt_mul (by decide)]; rw[Nat.pow_succ]at hn; exact hn) (by omega) ?_ (by rw[aaM,hval]; exact hs) (fun _=>by omega)]
   ·rw[aaM,hval,jH];simp only[dA,lM];omega
   ·rw[aaM];have:n % 128*2^(7*i)<=127*2^(7*i):=xA _ (by omega);omega
  ·have hf:Nat.ble 128 n=false:=by
    cases hx:Nat.ble 128 n with
    |false=>rfl
    |true=>exact absurd (dR hx) hb
   have e1:hiM (k+1) n=[]:=by rw[hiM,hf]
   have e2:l7 (k+1) n=n:=by rw[l7,hf]
   rw[e1,e2];exact last n i X r (by omega) hi hs h0
theorem JX{n:Nat}(h:n<18446744073709551616)(r:List UInt8):eX (au n++r)=(n,(au n).length,0):=by
 have h1:=Zw 10 n 0 0 r (m_ h (by decide)) (by decide) (by decide) (by simpa using h) (fun h=>absurd h (by decide));unfold eX au;rw[fG,List.singleton_append,h1];simp
end Go.VS.Tryz
end
