/- Texts of the proof, merged. No conditions. -/
import Derived.WalkKit
import Derived.Deep.AppendSrc
import Derived.Laws.CopyOwn
import Derived.Below
import Derived.Great.BuildSlice
import Derived.Laws.Tables
import Derived.Laws.BytesString
import Derived.MapKept
import Derived.Deep.DeepAppendWide
import Derived.Deep.Upon
import Derived.Defers
import Derived.Orders
set_option linter.unusedSimpArgs false
set_option linter.unusedVariables false
noncomputable section
namespace Go.VS

inductive Ob where
 |none
def X6:List (Nat×(Obj->Prop)):=[]
end Go.VS
end

section
noncomputable section
namespace Go.VS
inductive Trie(α:Type) where
 |leaf
 |node (v:Option α) (l r:Trie α)
def Trie.get{α:Type}:Trie α->Nat->Option α
 | .leaf,_=>none
 | .node v _ _,0=>v
 | .node _ l r,k+1=>match k % 2 with
  |0=>l.get (k / 2)
  |_=>r.get (k / 2)
def Trie.setF{α:Type}:Nat->Trie α->Nat->α->Trie α
 |0,t,_,_=>t
 |_+1, .leaf,0,x=> .node (some x) .leaf .leaf
 |n+1, .leaf,k+1,x=>match k % 2 with
  |0=> .node none (setF n .leaf (k / 2) x) .leaf
  |_=> .node none .leaf (setF n .leaf (k / 2) x)
 |_+1, .node _ l r,0,x=> .node (some x) l r
 |n+1, .node v l r,k+1,x=>match k % 2 with
  |0=> .node v (setF n l (k / 2) x) r
  |_=> .node v l (setF n r (k / 2) x)
def Trie.set{α:Type}(t:Trie α)(k:Nat)(x:α):Trie α:=t.setF (k+1) k x
def unk:Nat:=2^64
structure ALoop where
 state:LoopState
 pending:Option Code
 fn:FuncId
 slots:Trie Value
 ntmps:Nat
 params:Array Tmp
 assign:Code
 body:Code
 defers:Nat
inductive Blk where
 |cells (c:List Value) (elem:TypeId) (exact:Bool)
 |map (es:List MapEntry) (clock:Nat)
 |siter (s:ByteArray) (pos:Nat)
 |miter (m:Option Nat) (since:Nat) (seen:List Nat) (stepped:Nat)
 |loop (l:ALoop)
 |deferred
 |dead
 |obj (o:Ob)
structure St where
 heap:Trie Blk
 next:Nat
structure Fr where
 slots:Trie Value
 ntmps:Nat
 defers:List Deferred
 roundOf:Option Nat:=none
inductive Ex where
 |normal | exit (id:Nat) | ret
inductive Out where
 |val (v:Value) (st:St)
 |skip (st:St)
 |enter (f:FuncId) (args:List Value) (st:St)
 |defer (d:Deferred) (st:St)
 |round (l:Nat) (args:List Value) (st:St)
@[irreducible] def FZ:Nat:=2^64
structure FzV where
 sz:Nat
 n:Nat
 cap:Nat
 cells:List Value
def kw:Value->Option FzV
 | .iface t (.agg ⟨.slice none n b::c⟩)=>if Nat.ble (FZ+1) t then some ⟨t-FZ,n,b,c⟩else none
 |_=>none
def wK:Value->Option (Nat×List Value)
 | .iface t (.agg ⟨.slice none a _::c⟩)=>if Nat.beq t FZ then some (a,c)else none
 |_=>none
def aX(sz n b:Nat)(c:List Value):Value:= .iface (FZ+sz) (.agg ⟨.slice none n b::c⟩)
def xR(a:Nat)(c:List Value):Value:= .iface FZ (.agg ⟨.slice none a 0::c⟩)
def sU:Fn->Bool
 | .yield _=>false
 |_=>true
mutual
def flat:Value->Bool
 | .bool _ | .int .. | .float .. | .complex .. | .string _ | .pointer none | .slice none _ _ | .map none | .chan none | .nilFunc | .nilIface=>true
 | .iface t v=>Nat.ble (t+1) FZ&&flat v
 | .agg a=>lL a
 | .tuple a=>lL a
 | .func g f c=>sU g&&lL f&&lL c
 |_=>false
def lL:Array Value->Bool
 |⟨l⟩=>gy l
def gy:List Value->Bool
 |[]=>true
 |v::l=>flat v&&gy l
end
def dN{α:Type}(P:Program):Sem α->Option α
 | .pure a=>some a
 | .program k=>dN P (k P)
 | .mark _ k=>dN P k
 |_=>none
def q_:Value:= .chan (some 1)
def lI:Value->Bool
 | .chan (some (_+1))=>true
 |_=>false
def Fr.eval(f:Fr):Operand->Value
 | .tmp t=>(f.slots.get t).getD undef
 | .const v=>if flat v then v else q_
 | .global _=> .chan (some 0)
 | .func g=> .func (.func g) #[] #[]
def Fr.put(f:Fr)(dst:Option Tmp)(v:Value):Option Fr:=
 match dst with
 |none=>some f
 |some d=>if d<f.ntmps then some { f with slots:=f.slots.set d v }else none
def St.new(st:St)(b:Blk):Nat×St:=(st.next,{ heap:=st.heap.set st.next b,next:=st.next+1 })
def newRow(st:St)(c:List Value)(e:TypeId)(exact:Bool):Addr×St:=
 let(i,st):=st.new (.cells c e exact)
 (⟨i,0,none⟩,st)
def cellsAt(st:St)(a:Addr)(n:Nat):Option (List Value):=
 if a.spot.isSome then none else
 match st.heap.get a.block with
 |some (.cells c _ _)=>if a.off+n<=c.length then some ((c.drop a.off).take n)else none
 |_=>none
def oneCell:Value->Bool
 | .agg _ | .tuple _ | .chan (some (_+1))=>false
 |_=>true
def putAt(c:List Value)(i:Nat)(vs:List Value):List Value:=c.take i++vs++c.drop (i+vs.length)
def setCells(st:St)(a:Addr)(vs:List Value):Option St:=
 if a.spot.isSome then none else
 match st.heap.get a.block with
 |some (.cells c e x)=>
  if a.off+vs.length<=c.length&&vs.all oneCell then some { st with heap:=st.heap.set a.block (.cells (putAt c a.off vs) e x) }else none
 |_=>none
def kD(P:Program)(t:TypeId):Bool:=
 match P.underlying t with
 |some (.struct _) | some (.array _ _)=>true
 |_=>false
def pV(P:Program)(st:St)(t:TypeId)(a:Addr):Option Value:=
 match P.underlying t,P.info? t with
 |some _,some i=>
  if kD P t then(cellsAt st a i.size).map fun c=> .agg ⟨c⟩
  else match cellsAt st a 1 with
   |some [v]=>some v
   |_=>none
 |_,_=>none
def Bz(P:Program)(t:TypeId)(a:Nat)(c:List Value):Option Value:=
 match P.underlying t,P.info? t with
 |some _,some i=>if kD P t then(if a+i.size<=c.length then some (.agg ⟨(c.drop a).take i.size⟩)else none)else c[a]?
 |_,_=>none
def nZ(P:Program)(st:St)(t:TypeId)(a:Addr)(v:Value):Option St:=
 match P.info? t with
 |some i=>if v.cells.size=i.size&&!lI v then setCells st a v.cells.toList else none
 |none=>none
def jh(P:Program)(t:TypeId):Option Nat:=(P.info? t).map (·.size)
def jV(P:Program)(t:TypeId):Option Value:=match P.info? t with
 |some i=>match i.zero with
  |some z=>if flat z then some z else none
  |none=>none
 |none=>none
def aeL:Value->Option Int
 | .int _ n=>some n
 |_=>none
def jG(x:Value)(y:Nat):Option Nat:=
 match x with
 | .int _ i=>if 0<=i/\i<=y then some i.toNat else none
 |_=>none
def cO(x:Option Value)(y dflt:Nat):Option Nat:=
 match x with
 |none=>some dflt
 |some v=>jG v y
def esz(P:Program)(e:TypeId):Nat:=((P.info? e).map (·.size)).getD 0
def room(P:Program)(st:St)(a:Addr)(size:Nat):Option Nat:=
 match st.heap.get a.block with
 |some (.cells c e _)=>if size=0 || size≠esz P e then none else if a.off<=c.length then some ((c.length-a.off) / size)else none
 |_=>none
def qO(P:Program)(st:St)(size:Nat)(a:Addr)(len cap:Nat)(lo hi mx:Option Value):Option Value:=
 if cap<unk then
  match cO mx cap cap with
  |some m=>match(if mx.isSome&&hi.isNone then none else cO hi (if mx.isSome then m else cap) len)with
   |some h=>match cO lo h 0 with
    |some l=>some (.slice (some (if m=l then a else a.add (l*size))) (h-l) (m-l))
    |none=>none
   |none=>none
  |none=>none
 else if cap=unk then
  match room P st a size with
  |none=>none
  |some r=>
   match mx with
   |some v=>match jG v r with
    |some m=>match hi with
     |some v=>match jG v m with
      |some h=>match cO lo h 0 with
       |some l=>if m<unk then some (.slice (some (if m=l then a else a.add (l*size))) (h-l) (m-l))else none
       |none=>none
      |none=>none
     |none=>none
    |none=>none
   |none=>match cO hi r len with
    |some h=>match cO lo h 0 with
     |some l=>if l<r then some (.slice (some (a.add (l*size))) (h-l) unk)else if h≠l || r<l then none else if l=0 then some (.slice (some a) 0 unk)else some (.slice (some a) 0 (unk+l))
     |none=>none
    |none=>none
 else if mx.isSome then none else
  match cO hi 0 0,cO lo 0 0 with
  |some _,some _=>some (.slice (some a) 0 cap)
  |_,_=>none
def yV(z:FzV)(lo hi mx:Option Value):Option Value:=
 match mx with
 |some v=>match jG v (if z.cap=0 then z.n else z.cap-1)with
  |some m=>match hi with
   |some v=>match jG v (min m z.n)with
    |some h=>match cO lo h 0 with
     |some l=>some (aX z.sz (h-l) (m-l+1) ((z.cells.drop (l*z.sz)).take ((h-l)*z.sz)))
     |none=>none
    |none=>none
   |none=>none
  |none=>none
 |none=>match cO hi z.n z.n with
  |some h=>match cO lo h 0 with
   |some l=>some (aX z.sz (h-l) (if z.cap=0 then 0 else z.cap-l) ((z.cells.drop (l*z.sz)).take ((h-l)*z.sz)))
   |none=>none
  |none=>none
def kQ(st:St)(size:Nat)(xt:TypeDesc)(x:Value):Option (Nat×List Value):=
 match xt,x with
 | .slice _, .slice (some a) n _=>match cellsAt st a (n*size)with
  |some c=>some (n,c)
  |none=>none
 | .slice _, .slice none n _=>if n=0 then some (0,[])else none
 | .string, .string s=>if size=1 then some (s.size,byteCells s)else none
 | .slice _,x=>match kw x with
  |some z=>if z.sz=size then some (z.n,z.cells)else none
  |none=>none
 |_,_=>none
def kill(st:St)(i:Nat):St:={ st with heap:=st.heap.set i .dead }
def big:Nat:=2^22
def f_(P:Program)(st:St)(e:TypeId)(size n:Nat)(new:List Value)(s:Value):Option (Value×St):=
 match s with
 | .slice none len cap=>
  if len≠0 || cap≠0 || big<n then none
  else if n=0 then some (.slice none 0 0,st)
  else some (.slice (some (newRow st new e false).1) n unk,(newRow st new e false).2)
 | .slice (some a) len cap=>
  if big<len+n/\(unk<=cap\/cap<len+n)then none else
  if cap<unk then
   if len+n<=cap then
    if n=0 then some (.slice (some a) len cap,st)else
    match setCells st (a.add (len*size)) new with
    |some st=>some (.slice (some a) (len+n) cap,st)
    |none=>none
   else match cellsAt st a (len*size)with
    |some old=>some (.slice (some (newRow st (old++new) e false).1) (len+n) unk,(newRow st (old++new) e false).2)
    |none=>none
  else
   match st.heap.get a.block with
   |some (.cells c e' exact)=>
    if exact || a.spot.isSome || e'≠e || c.length<a.off || (cap≠unk&&len≠0)then none else
    if n=0 then(if a.off+len*size<=c.length then some (.slice (some a) len cap,st)else none)else
    if a.off+(len+(cap-unk))*size=c.length then
     some (.slice (some (newRow (kill st a.block) ((c.drop a.off).take (len*size)++new) e false).1) (len+n) unk,(newRow (kill st a.block) ((c.drop a.off).take (len*size)++new) e false).2)
    else if cap=unk&&a.off+len*size+new.length<=c.length then
     match setCells st (a.add (len*size)) new with
     |some st=>some (.slice (some a) (len+n) cap,st)
     |none=>none
    else if cap=unk&&a.off+len*size<=c.length then
     some (.slice (some (newRow (kill st a.block) ((c.drop a.off).take (len*size)++new) e false).1) (len+n) unk,(newRow (kill st a.block) ((c.drop a.off).take (len*size)++new) e false).2)
    else none
   |_=>none
 |s=>match kw s with
  |some z=>if z.sz≠size || z.cap=0 || big<z.n+n then none
   else if n=0 then some (s,st)
   else if z.cap-1<z.n+n then some (.slice (some (newRow st (z.cells++new) e false).1) (z.n+n) unk,(newRow st (z.cells++new) e false).2)else none
  |none=>none
def lU(P:Program)(st:St)(sType xType:TypeId)(s x:Value):Option (Value×St):=
 match P.underlying sType,P.underlying xType with
 |some (.slice e),some xt=>match P.info? e,jV P e with
  |some ei,some z=>
   if ei.size=0 || big<ei.bytes || z.cells.size≠ei.size then none else
   match kQ st ei.size xt x with
   |some (n,new)=>if new.all oneCell then f_ P st e ei.size n new s else none
   |none=>none
  |_,_=>none
 |_,_=>none
def r_(P:Program)(t:TypeId)(i:Nat):Option (Field×Nat):=
 match P.underlying t with
 |some (.struct fs)=>match fs[i]? with
  |some f=>match P.info? f.type with
   |some fi=>some (f,fi.size)
   |none=>none
  |none=>none
 |_=>none
def partOf(P:Program)(t:TypeId)(cs:List Value)(off:Nat):Option Value:=
 match P.underlying t,P.info? t with
 |some _,some i=>if kD P t then(if off+i.size<=cs.length then some (.agg ⟨(cs.drop off).take i.size⟩)else none)else cs[off]?
 |_,_=>none
def FO:Value->Bool
 | .int .. | .string _ | .bool _=>true
 |_=>false
def ni(P:Program)(t:TypeId):Option TypeDesc:=
 match P.underlying t with
 |some (.int k)=>some (.int k)
 |some .string=>some .string
 |some .bool=>some .bool
 |_=>none
def nY(es:List MapEntry)(clock i:Nat)(key v:Value)(found:Bool):List MapEntry×Nat:=
 if found then(es.modify i (fun e=>{ e with key,val:=v }),clock)else(es++[{ key,val:=v,born:=clock }],clock+1)
def zW(P:Program)(kt:TypeId)(k:Value):List MapEntry->Nat->Option (Option (Nat×Value))
 |[],_=>some none
 |e::es,i=>match dN P (Op.equal kt k e.key)with
  |some true=>if flat e.key&&Instr.sameBits 10000 e.key k then some (some (i,e.val))else none
  |some false=>if flat e.key then zW P kt k es (i+1)else none
  |none=>none
def nK(P:Program)(b:Bool)(kt:TypeId)(k:Value)(es:List MapEntry):Option (Option (Nat×Value)):=
 match ni P kt with
 |some kd=>if FO k then Instr.findNow kd k es 0 else none
 |none=>match P.underlying kt with
  |some (.struct _)=>if flat k then(match dN P (Instr.checkKey b 10000 kt k)with
   |some _=>zW P kt k es 0
   |none=>none)else none
  |_=>none
def xg(P:Program)(st:St)(t:TypeId)(m k x:Value):Option St:=
 match P.underlying t,m with
 |some (.map kt _), .map (some r)=>match st.heap.get r with
  |some (.map es clock)=>match nK P false kt k es with
   |some (some (i,_))=>some { st with heap:=st.heap.set r (.map (nY es clock i k x true).1 (nY es clock i k x true).2) }
   |some none=>some { st with heap:=st.heap.set r (.map (nY es clock 0 k x false).1 (nY es clock 0 k x false).2) }
   |none=>none
  |_=>none
 |_,_=>none
def BB(P:Program)(t:TypeId)(x y:Value):Option Bool:=
 match P.underlying t,x,y with
 |some (.pointer _), .pointer none, .pointer b=>some b.isNone
 |some (.pointer _), .pointer (some _), .pointer none=>some false
 |some (.slice _), .slice none _ _, .slice none _ _=>some true
 |some (.slice _), .slice none _ _, .slice (some _) n _=>if n=0 then none else some false
 |some (.slice _), .slice (some _) n _, .slice none _ _=>if n=0 then none else some false
 |some (.map _ _), .map none, .map b=>some b.isNone
 |some (.map _ _), .map (some _), .map none=>some false
 |some (.func _ _ _), .nilFunc, .func _ _ _=>some false
 |some (.func _ _ _), .func _ _ _, .nilFunc=>some false
 |some (.interface _), .nilIface, .iface t _=>if t<FZ then some false else none
 |some (.interface _), .iface t _, .nilIface=>if t<FZ then some false else none
 |some (.pointer _),x, .pointer none=>match wK x with
  |some _=>some false
  |none=>none
 |some (.slice _),x, .slice none _ _=>match kw x with
  |some z=>if z.n=0 then none else some false
  |none=>none
 |_,_,_=>none
def callF(P:Program)(f:FuncId)(args:List Value)(st:St):Option Out:=
 match P.funcs[f]? with
 |some fn=>match fn.body with
  |some _=>some (.enter f args st)
  |none=>none
 |none=>none
def methodOf(P:Program)(t:TypeId)(name:String):Option FuncId:=
 match P.info? t with
 |some i=>match i.methods.find? (·.name == name)with
  |some m=>if m.path.isEmpty then match m.func,P.underlying t with
    |some (f,true),some (.pointer _)=>some f
    |some (_,false),some (.pointer _)=>none
    |some (f,false),some _=>some f
    |_,_=>none
   else none
  |none=>none
 |none=>none
def kH(P:Program)(t:Target)(args:List Value)(st:St):Option Out:=
 match t with
 | .fn (.func f) captured=>callF P f (args++captured.toList) st
 | .fn (.method name) _=>match args with
  | .iface t v::rest=>if t<FZ then match methodOf P t name with
   |some f=>callF P f (v::rest) st
   |none=>none
   else none
  |_=>none
 | .fn (.yield l) _=>some (.round l args st)
 |_=>none
def lenV(st:St):Value->Option Nat
 | .map none=>some 0
 | .map (some r)=>match st.heap.get r with
  |some (.map es _)=>some es.length
  |_=>none
 |_=>none
def iR(P:Program)(b:Builtin)(argTypes:Array TypeId)(type:TypeId)(consts:Array Bool)(args:List Value)(st:St):Option Out:=
 match b,args with
 | .append,[s,x]=>match argTypes[0]?,argTypes[1]? with
  |some sT,some xT=>match lU P st sT xT s x with
   |some (v,st)=>some (.val v st)
   |none=>none
  |_,_=>none
 | .len,[x]=>match argTypes[0]? with
  |some t=>match P.underlying t,x with
   |some .string, .string s=>some (.val (.int .i64 s.size) st)
   |some (.array n _),_=>some (.val (.int .i64 n) st)
   |some (.slice _), .slice _ n _=>some (.val (.int .i64 n) st)
   |some (.slice _),x=>match kw x with
    |some z=>some (.val (.int .i64 z.n) st)
    |none=>none
   |some (.map _ _),x=>match lenV st x with
    |some n=>some (.val (.int .i64 n) st)
    |none=>none
   |_,_=>none
  |none=>none
 | .cap,[x]=>match argTypes[0]? with
  |some t=>match P.underlying t,x with
   |some (.slice _), .slice (some _) _ c=>match Nat.ble (c+1) unk with
    |true=>some (.val (.int .i64 c) st)
    |false=>none
   |some (.slice _), .slice none _ c=>some (.val (.int .i64 c) st)
   |_,_=>none
  |none=>none
 | .clear,[x]=>match argTypes[0]? with
  |some t=>match P.underlying t,x with
   |some (.slice e), .slice (some a) n _=>
    if n=0 then some (.val (.tuple #[]) st)else match jV P e with
    |some z=>if gy (Builtin.zeroCells z.cells n).toList then match setCells st a (Builtin.zeroCells z.cells n).toList with
      |some st=>some (.val (.tuple #[]) st)
      |none=>none
     else none
    |none=>none
   |some (.slice _), .slice none _ _=>some (.val (.tuple #[]) st)
   |_,_=>none
  |none=>none
 |b,args=>if gy args then match dN P (builtin b argTypes type consts ⟨args⟩)with
   |some (.value v)=>if flat v then some (.val v st)else none
   |_=>none
  else none
def bytesOf:List Value->Option (List UInt8)
 |[]=>some []
 | .int .u8 n::l=>match bytesOf l with
  |some r=>some (UInt8.ofNat n.toNat::r)
  |none=>none
 |_::_=>none
def Am:Operand->Bool
 | .const _=>true
 |_=>false
def aY(P:Program)(ρ:Operand->Value)(o:Oper)(st:St):Option Out:=
 match o.op with
 | .move x | .assign x=>some (.val (ρ x) st)
 | .pick c a b=>match ρ c with
  | .bool t=>some (.val (if t then ρ a else ρ b) st)
  |_=>none
 | .alloc e=>match jV P e with
  |some z=>let(a,st):=newRow st z.cells.toList e true; some (.val (.pointer (some a)) st)
  |none=>none
 | .box e x=>if lI (ρ x)then none else let(a,st):=newRow st (ρ x).cells.toList e true; some (.val (.pointer (some a)) st)
 | .build t parts=>match jV P t with
  |some _=>if parts.toList.any (fun p=>lI (ρ p.2))then none else match P.built t (parts.toList.map fun p=>(p.1,ρ p.2))with
   |some c=>some (.val (.agg c) st)
   |none=>none
  |none=>none
 | .buildSlice t len parts=>match P.underlying t with
  |some (.slice e)=>match P.info? e,jV P e with
   |some ie,some z=>
    if len*ie.size>2^24 || ie.size=0 || z.cells.size≠ie.size || parts.toList.any (fun p=>lI (ρ p.2))then none
    else if len=0 then(if parts.isEmpty then let(a,st):=newRow st [] e true; some (.val (.slice (some a) 0 0) st)else none)
    else
    match Instr.fill (fun i=>some (i*ie.size,ie.size)) ((Array.range (len*ie.size)).map (z.cells[· % z.cells.size]!)) (parts.toList.map fun p=>(p.1,ρ p.2))with
    |some c=>let(a,st):=newRow st c.toList e true; some (.val (.slice (some a) len len) st)
    |none=>none
   |_,_=>none
  |_=>none
 | .load t x=>match ρ x with
  | .pointer (some a)=>match pV P st t a with
   |some v=>some (.val v st)
   |none=>none
  |p=>match wK p with
   |some (a,c)=>match Bz P t a c with
    |some v=>some (.val v st)
    |none=>none
   |none=>none
 | .store t x v=>match ρ x with
  | .pointer (some a)=>match nZ P st t a (ρ v)with
   |some st=>some (.skip st)
   |none=>none
  |_=>none
 | .nilCheck x=>match ρ x with
  | .pointer (some a)=>some (.val (.pointer (some a)) st)
  | .func (.func f) a b=>some (.val (.func (.func f) a b) st)
  | .func (.yield f) a b=>some (.val (.func (.yield f) a b) st)
  | .iface t v=>if t<=FZ then some (.val (.iface t v) st)else none
  |_=>none
 | .binOp op t x y _=>
  if flat (ρ x)&&flat (ρ y)then match dN P (do eqGuard op t x y (ρ x) (ρ y); binOp op t (ρ x) (ρ y))with
   |some v=>if flat v then some (.val v st)else none
   |none=>none
  else match op with
   | .eql=>match BB P t (ρ x) (ρ y)with
    |some b=>some (.val (.bool b) st)
    |none=>none
   | .neq=>match BB P t (ρ x) (ρ y)with
    |some b=>some (.val (.bool !b) st)
    |none=>none
   |_=>none
 | .unOp op _ x=>if flat (ρ x)then match dN P (Op.unary op (ρ x))with
   |some v=>if flat v then some (.val v st)else none
   |none=>none
  else none
 | .convert s d x=>
  match P.underlying s,P.underlying d,ρ x with
  |some (.slice e),some .string, .slice b n _=>match P.underlying e with
   |some (.int .u8)=>match b with
    |none=>if n=0 then some (.val (.string .empty) st)else none
    |some a=>match cellsAt st a n with
     |some c=>match bytesOf c with
      |some l=>some (.val (.string ⟨⟨l⟩⟩) st)
      |none=>none
     |none=>none
   |_=>none
  |some (.slice e),some .string, .iface t x=>match P.underlying e with
   |some (.int .u8)=>match kw (.iface t x)with
    |some z=>if z.sz=1 then match bytesOf z.cells with
      |some l=>some (.val (.string ⟨⟨l⟩⟩) st)
      |none=>none
     else none
    |none=>none
   |_=>none
  |some _,some (.slice e), .string s=>match P.underlying e with
   |some (.int .u8)=>
    if big<s.size || esz P e≠1 then none else
    let(a,st):=newRow st (byteCells s) e false
    some (.val (.slice (some a) s.size unk) st)
   |_=>none
  |_,_,v=>if flat v then match dN P (convert s d v)with
    |some v=>if flat v then some (.val v st)else none
    |none=>none
   else none
 | .makeInterface t x=>match P.underlying t with
  |some (.interface _)=>none
  |some _=>if t<FZ then some (.val (.iface t (ρ x)) st)else none
  |none=>none
 | .makeFunc fn first captured=>if sU fn then some (.val (.func fn (first.map ρ) (captured.map ρ)) st)else none
 | .makeMap t r=>match r with
  |none=>let(i,st):=st.new (.map [] 0); some (.val (.map (some i)) st)
  |some h=>match P.underlying t,ρ h with
   |some (.map _ _), .int _ _=>let(i,st):=st.new (.map [] 0); some (.val (.map (some i)) st)
   |_,_=>none
 | .makeSlice t l c=>match P.underlying t,ρ l,ρ c with
  |some (.slice e), .int _ l, .int _ c=>match P.info? e,jV P e with
   |some ei,some z=>
    if 0<=l/\l<=c/\c<=big/\ei.bytes<=big/\z.cells.size=ei.size/\ei.size≠0 then
     let(a,st):=newRow st ((List.range (c.toNat*ei.size)).map fun i=>z.cells[i % ei.size]!) e true
     some (.val (.slice (some a) l.toNat c.toNat) st)
    else none
   |_,_=>none
  |_,_,_=>none
 | .slice t x lo hi mx=>match P.underlying t,ρ x with
  |some .string, .string s=>if mx.isSome then none else match cO (hi.map ρ) s.size s.size with
   |some h=>match cO (lo.map ρ) h 0 with
    |some l=>some (.val (.string (s.extract l h)) st)
    |none=>none
   |none=>none
  |some (.slice e), .slice (some a) len cap=>match jh P e with
   |some n=>match qO P st n a len cap (lo.map ρ) (hi.map ρ) (mx.map ρ)with
    |some v=>some (.val v st)
    |none=>none
   |none=>none
  |some (.slice e), .slice none len cap=>
   if len=0&&cap=0 then match jh P e,cO (mx.map ρ) 0 0,cO (hi.map ρ) 0 0,cO (lo.map ρ) 0 0 with
    |some _,some _,some _,some _=>if mx.isSome&&hi.isNone then none else some (.val (.slice none 0 0) st)
    |_,_,_,_=>none
   else none
  |some (.array n e), .pointer (some a)=>match jh P e with
   |some size=>match cO (mx.map ρ) n n with
    |some m=>match(if mx.isSome&&hi.isNone then none else cO (hi.map ρ) (if mx.isSome then m else n) n)with
     |some h=>match cO (lo.map ρ) h 0 with
      |some l=>match st.heap.get a.block with
       |some (.cells _ _ true)=>if m<unk then some (.val (.slice (some (if m=l then a else a.add (l*size))) (h-l) (m-l)) st)else none
       |_=>none
      |none=>none
     |none=>none
    |none=>none
   |none=>none
  |some (.slice e),x=>match kw x,jh P e with
   |some z,some n=>if z.sz=n then match yV z (lo.map ρ) (hi.map ρ) (mx.map ρ)with
     |some v=>some (.val v st)
     |none=>none
    else none
   |_,_=>none
  |_,_=>none
 | .fieldAddr t x i=>match r_ P t i,ρ x with
  |some (f,n), .pointer (some a)=>if n=0 then none else some (.val (.pointer (some (a.add f.offset))) st)
  |some (f,n),p=>match wK p with
   |some (a,c)=>if n=0 then none else some (.val (xR (a+f.offset) c) st)
   |none=>none
  |_,_=>none
 | .field t x i=>match r_ P t i,ρ x with
  |some (f,_), .agg cs=>match partOf P f.type cs.toList f.offset with
   |some v=>some (.val v st)
   |none=>none
  |_,_=>none
 | .indexAddr t x ix=>match P.underlying t,ρ x,ρ ix with
  |some (.slice e), .slice (some a) len _, .int _ i=>match jh P e with
   |some n=>if 0<=i/\i<len then some (.val (.pointer (some (a.add (i.toNat*n)))) st)else none
   |none=>none
  |some (.array len e), .pointer (some a), .int _ i=>match jh P e with
   |some n=>if 0<=i/\i<len then some (.val (.pointer (some (a.add (i.toNat*n)))) st)else none
   |none=>none
  |some (.slice e),x, .int _ i=>match kw x,jh P e with
   |some z,some n=>if z.sz=n/\0<=i/\i<z.n then some (.val (xR (i.toNat*n) z.cells) st)else none
   |_,_=>none
  |_,_,_=>none
 | .index t x ix=>match P.underlying t,ρ x,ρ ix with
  |some (.array len e), .agg cs, .int _ i=>match jh P e with
   |some n=>if 0<=i/\i<len then match partOf P e cs.toList (i.toNat*n)with
     |some v=>some (.val v st)
     |none=>none
    else none
   |none=>none
  |some .string, .string s, .int _ i=>if 0<=i then match s[i.toNat]? with
    |some b=>some (.val (.int .u8 b.toNat) st)
    |none=>none
   else none
  |_,_,_=>none
 | .lookup t x k ok=>match P.underlying t with
  |some (.map kt e)=>match jV P e with
   |some z=>
    let es:Option (List MapEntry):=match ρ x with
     | .map none=>some []
     | .map (some r)=>match st.heap.get r with
      |some (.map es _)=>some es
      |_=>none
     |_=>none
    match es with
    |some es=>match nK P es.isEmpty kt (ρ k) es with
     |some (some (_,v))=>some (.val (if ok then .tuple #[v, .bool true]else v) st)
     |some none=>some (.val (if ok then .tuple #[z, .bool false]else z) st)
     |none=>none
    |none=>none
   |_=>none
  |_=>none
 | .mapUpdate t m k x | .insert t m k x=>(xg P st t (ρ m) (ρ k) (ρ x)).map Out.skip
 | .mapEntry t m k=>match P.underlying t,ρ m with
  |some (.map kt e), .map (some r)=>match st.heap.get r,jV P e with
   |some (.map es clock),some z=>match nK P false kt (ρ k) es with
    |some (some (i,v))=>some (.val (.tuple #[v, .int .i64 (((es[i]?).map (·.born)).getD 0)]) { st with heap:=st.heap.set r (.map (es.modify i fun e=>{ e with key:=ρ k }) clock) })
    |some none=>some (.val (.tuple #[z, .int .i64 clock]) { st with heap:=st.heap.set r (.map (es++[{ key:=ρ k,val:=z,born:=clock }]) (clock+1)) })
    |none=>none
   |_,_=>none
  |_,_=>none
 | .entryStore _ m s x=>match ρ m,ρ s with
  | .map (some r), .int _ born=>match st.heap.get r with
   |some (.map es clock)=>match es.findIdx? (fun e=>(e.born:Int) == born)with
    |some i=>some (.skip { st with heap:=st.heap.set r (.map (es.modify i fun e=>{ e with val:=ρ x }) clock) })
    |none=>none
   |_=>none
  |_,_=>none
 | .range t x=>match P.underlying t,ρ x with
  |some .string, .string s=>let(i,st):=st.new (.siter s 0); some (.val (.pointer (some ⟨i,0,none⟩)) st)
  |some (.map _ _), .map none=>let(i,st):=st.new (.miter none 0 [] 0); some (.val (.pointer (some ⟨i,0,none⟩)) st)
  |some (.map _ _), .map (some m)=>match st.heap.get m with
   |some (.map _ clock)=>let(i,st):=st.new (.miter (some m) clock [] clock); some (.val (.pointer (some ⟨i,0,none⟩)) st)
   |_=>none
  |_,_=>none
 | .next it true=>match ρ it with
  | .pointer (some ⟨r,0,_⟩)=>match st.heap.get r with
   |some (.siter s pos)=>if pos<s.size then
     some (.val (.tuple #[.bool true, .int .i64 pos, .int .i32 (Utf8.decode s pos).1]) { st with heap:=st.heap.set r (.siter s (pos+(Utf8.decode s pos).2)) })
    else some (.val (.tuple #[.bool false]) st)
   |_=>none
  |_=>none
 | .next it false=>match ρ it with
  | .pointer (some ⟨r,0,_⟩)=>match st.heap.get r with
   |some (.miter none _ _ _)=>some (.val (.tuple #[.bool false]) st)
   |some (.miter (some m) since seen last)=>match st.heap.get m with
    |some (.map es clock)=>
     if !seen.isEmpty&&!es.isEmpty&&es.all (fun e=>decide (e.born>=last))then none else
     let left:=es.filter fun e=>!seen.contains e.born
     let old:=left.filter fun e=>decide (e.born<since)
     let new:=left.filter fun e=>decide (e.born>=since)
     match old,new with
     |[],[]=>some (.val (.tuple #[.bool false]) st)
     |[e],[]=>some (.val (.tuple #[.bool true,e.key,e.val]) { st with heap:=st.heap.set r (.miter (some m) since (e.born::seen) clock) })
     |_,_=>none
    |_=>none
   |_=>none
  |_=>none
 | .entry it=>match ρ it with
  | .pointer (some ⟨r,0,_⟩)=>match st.heap.get r with
   |some (.miter (some m) _ seen stepped)=>match seen.head?,st.heap.get m with
    |some stamp,some (.map es clock)=>if clock≠stepped then none else match es.find? (fun e=>e.born == stamp)with
     |some e=>some (.val (.tuple #[e.key,e.val]) st)
     |none=>none
    |_,_=>none
   |_=>none
  |_=>none
 | .typeAssert x _ asserted ok=>match P.underlying asserted,ρ x with
  |some (.interface want), .iface t v=>if FZ<=t then none else match P.info? t with
   |some i=>match Instr.missingMethod want i.methods with
    |none=>some (.val (if ok then .tuple #[.iface t v, .bool true]else .iface t v) st)
    |some _=>if ok then none else none
   |none=>none
  |some (.interface _), .nilIface=>if ok then none else none
  |some _, .nilIface=>if ok then match jV P asserted with
    |some z=>some (.val (.tuple #[z, .bool false]) st)
    |none=>none
   else none
  |some _, .iface t v=>if FZ<=t then none else if t=asserted then some (.val (if ok then .tuple #[v, .bool true]else v) st)
   else if ok then match jV P asserted with
    |some z=>some (.val (.tuple #[z, .bool false]) st)
    |none=>none
   else none
  |_,_=>none
 | .extract t i=>match ρ t with
  | .tuple vs=>match vs[i]? with
   |some v=>some (.val v st)
   |none=>none
  |_=>none
 | .call c=>match c.callee with
  | .builtin b=>iR P b c.argTypes o.type (c.args.map Am) (c.args.toList.map ρ) st
  | .invoke r name=>kH P (.fn (.method name) #[]) (ρ r::c.args.toList.map ρ) st
  | .value f=>match ρ f with
   | .func fn first captured=>kH P (.fn fn captured) (first.toList++c.args.toList.map ρ) st
   |_=>none
 | .defer c=>match c.callee with
  | .builtin _=>none
  | .invoke r name=>some (.defer { target:= .fn (.method name) #[],args:=⟨ρ r::c.args.toList.map ρ⟩ } st)
  | .value f=>match ρ f with
   | .func fn first captured=>some (.defer { target:= .fn fn captured,args:=⟨first.toList++c.args.toList.map ρ⟩ } st)
   |_=>none
 |_=>none
def kV(ops:Array Oper)(f:Fr)(o:Oper):Option Bool:=
 match o.guard with
 |none=>some true
 |some (j,want)=>match(ops[j]?).bind (·.dst)with
  |none=>some false
  |some d=>match(f.slots.get d).getD undef with
   | .bool b=>some (b == want)
   | .tuple _=>some false
   |_=>none
inductive Kind where
 |quiet | new | chain
def kindOf(P:Program)(o:Oper):Kind:=
 match o.op with
 | .move _ | .assign _ | .pick .. | .build .. | .load .. | .nilCheck _ | .binOp .. | .unOp .. | .makeInterface .. | .makeFunc .. | .slice .. | .fieldAddr .. | .field ..
 | .indexAddr .. | .index .. | .lookup .. | .typeAssert .. | .extract .. | .entry _=> .quiet
 | .convert _ d _=>match P.underlying d with
  |some (.slice _)=> .new
  |_=> .quiet
 | .call c=>match c.callee with
  | .builtin .append=> .chain
  | .builtin .clear=> .chain
  | .builtin _=> .quiet
  |_=> .chain
 | .alloc _ | .box .. | .buildSlice ..=> .new
 |_=> .chain
def qZ(ev:(Operand->Value)->Oper->St->Option Out)(ρ:Operand->Value)(o:Oper)(r:Nat):Option (Value×Blk):=
 match ev ρ o ⟨.leaf,r⟩with
 |some (.val v st)=>match st.heap.get r with
  |some b=>some (v,b)
  |none=>none
 |_=>none
def wake(base:Nat)(sel:Nat->Bool):List (Nat×Blk)->St->St
 |[],st=>st
 |(i,b)::l,st=>wake base sel l (if sel i then { st with heap:=st.heap.set (base+i) b }else st)
def mG:List Oper->List Nat->List Nat
 |[],acc=>acc
 |o::os,acc=>mG os (acc++[o.after.toList.foldl (fun s e=>if Region.binds .any e then s ||| 2^e.on ||| acc.getD e.on 0 else s) 0])
def tmpsOf(ops:Array Oper)(o:Oper):List Tmp:=
 o.dst.toList++o.op.operands.toList.filterMap (fun x=>match x with | .tmp t=>some t | _=>none)++
  (match o.guard with | some (j,_)=>((ops[j]?).bind (·.dst)).toList | none=>[])
def oZ:List Oper->Nat->List (Nat×Tmp)
 |[],_=>[]
 |o::os,i=>match o.dst with
  |some d=>(i,d)::oZ os (i+1)
  |none=>oZ os (i+1)
def fV(P:Program)(o:Oper):Bool:=match kindOf P o with
 | .chain=>true
 |_=>false
def jW(P:Program):List Oper->Nat->List Nat
 |[],_=>[]
 |o::os,i=>if fV P o then i::jW P os (i+1)else jW P os (i+1)
def xB:List Oper->Nat->Bool
 |[],_=>true
 |o::os,i=>o.after.toList.all (fun e=>!Region.binds .any e || decide (e.on<i))&&xB os (i+1)
def fC(bs:List Nat)(i j:Nat):Bool:=(bs.getD i 0).testBit j
def w_(ops:Array Oper)(bs:List Nat)(ws:List (Nat×Tmp)):List Oper->Nat->Bool
 |[],_=>true
 |o::os,i=>(tmpsOf ops o).all (fun t=>ws.all fun p=>p.2 != t || p.1 == i || (if p.1<i then fC bs i p.1 else fC bs p.1 i))&&w_ ops bs ws os (i+1)
def xy(bs:List Nat):List Nat->Bool
 |[]=>true
 |c::cs=>cs.all (fun d=>fC bs d c)&&xy bs cs
structure Rec where
 f:Fr
 st:St
 m:Nat
 pend:List (Nat×Blk)
 rep:Nat
 v:Value
 b:Option Blk
def A7(ok:Nat->Bool)(base b:Nat):List (Nat×Blk)->Option (Nat×List Value)
 |[]=>none
 |(j, .cells c _ _)::l=>if Nat.beq b (base+j)&&ok j then some (j,c)else A7 ok base b l
 |_::l=>A7 ok base b l
def peek(P:Program)(ops:Array Oper)(bs:List Nat)(base i:Nat)(pend:List (Nat×Blk))(ρ:Operand->Value)(o:Oper):Option Value:=
 match o.op with
 | .convert s d x=>match P.underlying s with
  |some (.slice e)=>match P.underlying d with
   |some .string=>match P.underlying e with
    |some (.int .u8)=>match ρ x with
     | .slice (some a) n _=>match A7 (fun j=>fC bs i j&&(jW P ops.toList 0).all fun c=>!fC bs c j) base a.block pend with
      |some (_,c)=>if Nat.beq a.off 0&&Nat.beq n c.length then(match bytesOf c with
       |some l=>some (.string ⟨⟨l⟩⟩)
       |none=>none)else none
      |none=>none
     |_=>none
    |_=>none
   |_=>none
  |_=>none
 |_=>none
def gG(P:Program)(ev:(Operand->Value)->Oper->St->Option Out)(rd:Fr->Operand->Value)(out:Out->Option (Value×St))(ops:Array Oper)(bs:List Nat)(base:Nat):List Oper->Nat->Fr->St->Nat->List (Nat×Blk)->Nat->Option (List Rec)
 |[],_,f,st,m,pend,rep=>some [⟨f,st,m,pend,rep,undef,none⟩]
 |o::os,i,f,st,m,pend,rep=>
  match kV ops f o with
  |none=>none
  |some wd=>
   match kindOf P o with
   | .quiet=>
    match(if wd then(match peek P ops bs base i pend (rd f) o with
     |some v=>some v
     |none=>match ev (rd f) o st with
      |some (.val v _)=>some v
      |_=>none)else some undef)with
    |none=>none
    |some v=>match f.put o.dst v with
     |none=>none
     |some f'=>match gG P ev rd out ops bs base os (i+1) f' st m pend rep with
      |none=>none
      |some l=>some (⟨f,st,m,pend,rep,v,none⟩::l)
   | .new=>
    match(if wd then(match qZ ev (rd f) o (base+i)with
     |some (v,b)=>some (v,some b)
     |none=>none)else some (undef,none))with
    |none=>none
    |some (v,b)=>match f.put o.dst v with
     |none=>none
     |some f'=>match gG P ev rd out ops bs base os (i+1) f' st m (pend++(b.map fun b=>(i,b)).toList) rep with
      |none=>none
      |some l=>some (⟨f,st,m,pend,rep,v,b⟩::l)
   | .chain=>
    let st1:=wake base (fun j=>fC bs i j&&!m.testBit j) pend st
    match(if wd then(match ev (rd f) o st1 with
     |some r=>out r
     |none=>none)else some (undef,st1))with
    |none=>none
    |some (v,st')=>match f.put o.dst v with
     |none=>none
     |some f'=>match gG P ev rd out ops bs base os (i+1) f' st' (m ||| bs.getD i 0) pend (i+1)with
      |none=>none
      |some l=>some (⟨f,st,m,pend,rep,v,none⟩::l)
mutual
def bU:Value->Value->Bool
 | .bool a, .bool b=>a == b
 | .int k n, .int l m=>decide (k=l)&&decide (n=m)
 | .string a, .string b=>decide (a.data.toList=b.data.toList)
 | .pointer none, .pointer none=>true
 | .pointer (some a), .pointer (some b)=>decide (a.block=b.block)&&decide (a.off=b.off)&&a.spot.isNone&&b.spot.isNone
 | .slice none n c, .slice none n' c'=>decide (n=n')&&decide (c=c')
 | .slice (some a) n c, .slice (some b) n' c'=>decide (a.block=b.block)&&decide (a.off=b.off)&&a.spot.isNone&&b.spot.isNone&&decide (n=n')&&decide (c=c')
 | .map a, .map b=>decide (a=b)
 | .chan a, .chan b=>decide (a=b)
 | .nilFunc, .nilFunc=>true
 | .nilIface, .nilIface=>true
 | .iface t x, .iface u y=>decide (t=u)&&bU x y
 | .agg a, .agg b=>wo a b
 | .tuple a, .tuple b=>wo a b
 |_,_=>false
def wo:Array Value->Array Value->Bool
 |⟨a⟩,⟨b⟩=>jg a b
def jg:List Value->List Value->Bool
 |[],[]=>true
 |x::xs,y::ys=>bU x y&&jg xs ys
 |_,_=>false
end
def admits(bs:List Nat)(cs:List Nat)(i m:Nat):Bool:=cs.all fun c=>if c<m then !fC bs c i else !fC bs i c
def xE(o:Oper):Bool:=match o.op with
 | .move _ | .assign _ | .pick .. | .build .. | .nilCheck _ | .binOp .. | .unOp .. | .makeInterface .. | .makeFunc .. | .fieldAddr .. | .field .. | .extract .. | .indexAddr .. | .index .. | .typeAssert ..=>true
 |_=>false
def uC(P:Program)(ev:(Operand->Value)->Oper->St->Option Out)(rd:Fr->Operand->Value)(ops:Array Oper)(bs cs:List Nat)(base:Nat)(reps:List (Nat×St)):List Oper->List Rec->Nat->Bool
 |o::os,r::rs,i=>(match kindOf P o,kV ops r.f o with
  | .quiet,some true=>(peek P ops bs base i r.pend (rd r.f) o).isSome || xE o || reps.all fun p=>p.1 == r.rep || !admits bs cs i p.1 || (match ev (rd r.f) o p.2 with
   |some (.val v _)=>bU v r.v
   |_=>false)
  |_,_=>true)&&uC P ev rd ops bs cs base reps os rs (i+1)
 |_,_,_=>true
def yF(P:Program):List Oper->List Rec->Nat->List (Nat×St)
 |o::os,_::r::rs,i=>if fV P o then(i+1,r.st)::yF P os (r::rs) (i+1)else yF P os (r::rs) (i+1)
 |_,_,_=>[]
def jC(P:Program)(ev:(Operand->Value)->Oper->St->Option Out)(out:Out->Option (Value×St))(ops:Array Oper)(f:Fr)(st:St):Option (Fr×St):=
 if !P.follows .mixedOrders then none else
 let os:=ops.toList
 let bs:=mG os []
 let cs:=jW P os 0
 if !(xB os 0&&w_ ops bs (oZ os 0) os 0&&xy bs cs)then none else
 match gG P ev Fr.eval out ops bs st.next os 0 f { st with next:=st.next+ops.size } 0 [] 0 with
 |none=>none
 |some recs=>match recs.getLast? with
  |none=>none
  |some r=>
   if uC P ev Fr.eval ops bs cs st.next ((0,{ st with next:=st.next+ops.size })::yF P os recs 0) os recs 0 then
    some (r.f,wake st.next (fun j=>!r.m.testBit j) r.pend r.st)
   else none
def gK:Op->Bool
 | .defer _=>true
 |_=>false
def jS:Ex->Option Code
 | .normal=>none
 | .exit id=>some (.exit id)
 | .ret=>some .ret
def og(P:Program)(f:Fr)(st:St):ResultVar->Option Value
 | .tmp t=>some ((f.slots.get t).getD undef)
 | .cell a t=>match f.slots.get a with
  |some (.pointer (some a))=>pV P st t a
  |_=>none
def ql(P:Program)(fn:Func)(f:Fr)(st:St):Option (List Value):=fn.results.toList.mapM (og P f st)
def oM(vs:List Value):Value:=match vs with
 |[v]=>v
 |vs=> .tuple ⟨vs⟩
def mi(args:List Value)(i:Nat)(t:Trie Value):Trie Value:=
 match args with
 |[]=>t
 |v::l=>mi l (i+1) (t.set i v)
def xA(fid:FuncId)(f:Fr)(st:St)(params:Array Tmp)(assign body:Code):Option (Nat×Fr×St):=
 match f.roundOf with
 |none=>some (st.next+1,{ f with defers:={ target:= .collected st.next,args:=#[] }::f.defers },
   ((st.new .deferred).2.new (.loop { state:= .ready,pending:=none,fn:=fid,slots:=f.slots,ntmps:=f.ntmps,params,assign,body,defers:=st.next })).2)
 |some r=>match st.heap.get r with
  |some (.loop R)=>some (st.next,f,(st.new (.loop { state:= .ready,pending:=none,fn:=fid,slots:=f.slots,ntmps:=f.ntmps,params,assign,body,defers:=R.defers })).2)
  |_=>none
def FV(st:St)(l:Nat):Option (Option Code×St):=
 match st.heap.get l with
 |some (.loop r)=>if r.state = .busy then none else some (r.pending,{ st with heap:=st.heap.set l (.loop { r with state:= .exhausted }) })
 |_=>none
def uD(n:Nat):List (Tmp×Value)->Trie Value->Option (Trie Value)
 |[],t=>some t
 |(d,v)::l,t=>if d<n then uD n l (t.set d v)else none
def JI(st:St)(l:Nat):Option St:=
 match st.heap.get l with
 |some (.loop r)=>if r.state = .ready then some { st with heap:=st.heap.set l (.loop { r with state:= .busy }) }else none
 |_=>none
def zL(st:St)(l:Nat)(jump:Option Code):Option St:=
 match st.heap.get l with
 |some (.loop r)=>some { st with heap:=st.heap.set l (.loop { r with state:=if jump.isNone then .ready else .done,pending:=jump }) }
 |_=>none
/-- What something comes to,by cases. -/
inductive DT(α:Type) where
 |fail
 |leaf (a:α)
 |ite (b:Bool) (x y:DT α)
def DT.eval{α:Type}:DT α->Option α
 | .fail=>none
 | .leaf a=>some a
 | .ite true x _=>x.eval
 | .ite false _ y=>y.eval
def DT.run{α:Type}{ρ:Type}(t:DT α)(k:α->Option ρ):Option ρ:=
 @DT.rec α (fun _=>Option ρ) none k (fun b _ _ ihx ihy=>@Bool.rec (fun _=>Option ρ) ihy ihx b) t
theorem DT.run_spec{α ρ:Type}{k:α->Option ρ}{r:ρ}:∀ {t:DT α},t.run k=some r->∃ a,t.eval=some a/\k a=some r
 | .fail,h=>by cases h
 | .leaf a,h=>⟨a,rfl,h⟩
 | .ite true x y,h=>DT.run_spec (t:=x) h
 | .ite false x y,h=>DT.run_spec (t:=y) h
/-- What is known of some calls. -/
structure Ct where
 call:FuncId->List Value->St->Option (DT (Value×St))
 loop:FuncId->Nat->Fr->St->Option (DT (Ex×Trie Value×St))
 op:Oper->(Operand->Value)->St->Option (DT (Value×St))
def rZ:Ct:=⟨fun _ _ _=>none,fun _ _ _ _=>none,fun _ _ _=>none⟩
def opC(P:Program)(ct:Ct)(o:Oper)(ρ:Operand->Value)(st:St):Option (DT (Value×St)):=match kindOf P o with
 | .chain=>match gK o.op with
  |false=>ct.op o ρ st
  |true=>none
 |_=>none
def fP(P:Program)(ct:Ct)(ρ:Operand->Value)(o:Oper)(st:St):Option Out:=match opC P ct o ρ st with
 |some t=>match t.eval with
  |some x=>some (.val x.1 x.2)
  |none=>none
 |none=>aY P ρ o st
mutual
def bW(P:Program)(ct:Ct):Nat->Nat->Code->Fr->St->Option (Ex×Fr×St)
 |0,_,_,_,_=>none
 |n+1,fid,c,f,st=>match c with
  | .skip=>some (.normal,f,st)
  | .label _=>some (.normal,f,st)
  | .exit id=>some (.exit id,f,st)
  | .ret=>some (.ret,f,st)
  | .seq a b=>match bW P ct n fid a f st with
   |some (.normal,f,st)=>bW P ct n fid b f st
   |r=>r
  | .cond c a b=>match f.eval c with
   | .bool true=>bW P ct n fid a f st
   | .bool false=>bW P ct n fid b f st
   |_=>none
  | .block id c=>match ct.loop fid id f st with
   |some t=>match t.eval with
    |some (e,s,st)=>some (e,{ f with slots:=s },st)
    |none=>none
   |none=>match bW P ct n fid c f st with
   |some (.exit id',f,st)=>if id'=id then some (.normal,f,st)else some (.exit id',f,st)
   |r=>r
  | .loop c=>match bW P ct n fid c f st with
   |some (.normal,f,st)=>bW P ct n fid (.loop c) f st
   |r=>r
  | .scope c=>bW P ct n fid c f st
  | .region _ ops true=>match jC P (fP P ct) (iJ P ct n) ops f st with
   |some (f,st)=>some (.normal,f,st)
   |none=>none
  | .region _ ops false=>match gQ P ct n ops (List.range ops.size) f st with
   |some (f,st)=>some (.normal,f,st)
   |none=>none
  | .rangeFunc g params assign body=>match xA fid f st params assign body with
   |none=>none
   |some (l,f,st)=>match f.eval g with
    | .func fn first captured=>match kH P (.fn fn captured) (first.toList++[.func (.yield l) #[] #[]]) st with
     |some (.enter f' args st)=>match iE P ct n f' args st with
      |some (_,st)=>match FV st l with
       |some (none,st)=>some (.normal,f,st)
       |some (some (.exit id),st)=>some (.exit id,f,st)
       |some (some .ret,st)=>some (.ret,f,st)
       |_=>none
      |none=>none
     |_=>none
    |_=>none
  |_=>none
def gQ(P:Program)(ct:Ct):Nat->Array Oper->List Nat->Fr->St->Option (Fr×St)
 |0,_,_,_,_=>none
 |_+1,_,[],f,st=>some (f,st)
 |n+1,ops,i::rest,f,st=>match ops[i]? with
  |none=>none
  |some o=>match kV ops f o with
   |none=>none
   |some false=>match f.put o.dst undef with
    |some f=>gQ P ct n ops rest f st
    |none=>none
   |some true=>if f.roundOf.isSome&&gK o.op then none else match fP P ct f.eval o st with
    |some (.val v st)=>match f.put o.dst v with
     |some f=>gQ P ct n ops rest f st
     |none=>none
    |some (.skip st)=>match f.put o.dst undef with
     |some f=>gQ P ct n ops rest f st
     |none=>none
    |some (.defer d st)=>match Fr.put { f with defers:=d::f.defers } o.dst undef with
     |some f=>gQ P ct n ops rest f st
     |none=>none
    |some (.enter g args st)=>match iE P ct n g args st with
     |some (v,st)=>match f.put o.dst v with
      |some f=>gQ P ct n ops rest f st
      |none=>none
     |none=>none
    |some (.round l args st)=>match jA P ct n l args st with
     |some (v,st)=>match f.put o.dst v with
      |some f=>gQ P ct n ops rest f st
      |none=>none
     |none=>none
    |none=>none
def iJ(P:Program)(ct:Ct):Nat->Out->Option (Value×St)
 |0,_=>none
 |n+1,r=>match r with
  | .val v st=>some (v,st)
  | .skip st=>some (undef,st)
  | .defer ..=>none
  | .enter g args st=>iE P ct n g args st
  | .round l args st=>jA P ct n l args st
def iE(P:Program)(ct:Ct):Nat->FuncId->List Value->St->Option (Value×St)
 |0,_,_,_=>none
 |n+1,g,args,st=>match ct.call g args st with
  |some t=>t.eval
  |none=>match P.funcs[g]? with
  |none=>none
  |some fn=>match fn.body with
   |none=>none
   |some c=>match bW P ct n g c { slots:=mi args 0 .leaf,ntmps:=max fn.ntmps args.length,defers:=[] } st with
    |some (.normal,f,st) | some (.ret,f,st)=>match gp P ct n f.defers st with
     |some st=>match ql P fn f st with
      |some vs=>some (oM vs,st)
      |none=>none
     |none=>none
    |_=>none
def gp(P:Program)(ct:Ct):Nat->List Deferred->St->Option St
 |0,_,_=>none
 |_+1,[],st=>some st
 |n+1,d::ds,st=>match d.target with
  | .collected i=>match st.heap.get i with
   |some .deferred=>gp P ct n ds (kill st i)
   |_=>none
  |_=>match kH P d.target d.args.toList st with
   |some (.enter g args st)=>match ct.call g args st with
    |some _=>none
    |none=>match iE P ct n g args st with
     |some (_,st)=>gp P ct n ds st
     |none=>none
   |_=>none
def jA(P:Program)(ct:Ct):Nat->Nat->List Value->St->Option (Value×St)
 |0,_,_,_=>none
 |n+1,l,args,st=>match st.heap.get l with
  |some (.loop r)=>
   if args.length≠r.params.size || r.state≠ .ready then none else
   match uD r.ntmps (r.params.toList.zip args) r.slots with
   |none=>none
   |some slots=>match bW P ct n r.fn r.assign { slots,ntmps:=r.ntmps,defers:=[],roundOf:=some l } st with
    |some (.normal,f,st)=>match JI st l with
     |none=>none
     |some st=>match bW P ct n r.fn r.body f st with
      |some (e,f,st)=>match f.defers,zL st l (jS e)with
       |[],some st=>some (.bool (jS e).isNone,st)
       |_,_=>none
      |none=>none
    |_=>none
  |_=>none
end
def start(g:Nat):St:={ heap:= .leaf,next:=g }
end Go.VS
end

section
namespace Go.VS
theorem Trie.get_setF{α:Type}:∀ (n:Nat) (t:Trie α) (k:Nat) (x:α) (j:Nat),k<n->(t.setF n k x).get j=if j=k then some x else t.get j
 |0,_,k,_,_,h=>absurd h (Nat.not_lt_zero k)
 |n+1, .leaf,0,x,0,_=>by simp[setF,get]
 |n+1, .leaf,0,x,j+1,_=>by
  simp only[setF,get]; split<;>simp[get]
 |n+1, .node v l r,0,x,0,_=>by simp[setF,get]
 |n+1, .node v l r,0,x,j+1,_=>by simp[setF,get]
 |n+1, .leaf,k+1,x,0,_=>by
  simp only[setF]; split<;>simp[get]
 |n+1, .node v l r,k+1,x,0,_=>by
  simp only[setF]; split<;>simp[get]
 |n+1, .leaf,k+1,x,j+1,h=>by
  have ih:=get_setF n (.leaf:Trie α) (k / 2) x (j / 2) (by omega);simp only[setF];split
  ·rename_i hk;simp only[get];split
   ·rename_i hj;rw[ih];have:(j / 2=k / 2)↔(j+1=k+1):=by omega
    simp[this,get]
   ·rename_i hj;have:¬(j=k):=by rintro rfl; exact hj hk
    simp[get,this]
  ·rename_i hk;simp only[get];split
   ·rename_i hj;have:¬(j=k):=by rintro rfl; exact hk hj
    simp[get,this]
   ·rename_i hj;rw[ih];have h1:k % 2=1:=(Nat.mod_two_eq_zero_or_one k).resolve_left hk;have h2:j % 2=1:=(Nat.mod_two_eq_zero_or_one j).resolve_left hj;have:(j / 2=k / 2)↔(j+1=k+1):=by omega
    simp[this,get]
 |n+1, .node v l r,k+1,x,j+1,h=>by
  have ihl:=get_setF n l (k / 2) x (j / 2) (by omega);have ihr:=get_setF n r (k / 2) x (j / 2) (by omega);simp only[setF];split
  ·rename_i hk;simp only[get];split
   ·rename_i hj;rw[ihl];have:(j / 2=k / 2)↔(j+1=k+1):=by omega
    simp[this]
   ·rename_i hj;have:¬(j=k):=by rintro rfl; exact hj hk
    simp[this]
  ·rename_i hk;simp only[get];split
   ·rename_i hj;have:¬(j=k):=by rintro rfl; exact hk hj
    simp[this]
   ·rename_i hj;rw[ihr];have h1:k % 2=1:=(Nat.mod_two_eq_zero_or_one k).resolve_left hk;have h2:j % 2=1:=(Nat.mod_two_eq_zero_or_one j).resolve_left hj;have:(j / 2=k / 2)↔(j+1=k+1):=by omega
    simp[this]
theorem Trie.get_set{α:Type}(t:Trie α)(k:Nat)(x:α)(j:Nat):(t.set k x).get j=if j=k then some x else t.get j:=
 get_setF (k+1) t k x j (Nat.lt_succ_self k)
/-- Where a block of the evaluator lies. -/
structure Loc where
 blk:Nat
 base:Nat
 total:Nat
 esize:Nat
 obj:Option Obj
 virt:Bool
abbrev Env:=Int->Option Loc
def nM(β:Env):Env
 | .ofNat _=>none
 | .negSucc k=>β (.negSucc k)
def dW(l:Loc)(off n c:Nat)(v:Value):Prop:=
 if l.virt=true then n=0/\off=0/\(c=0\/c=unk)/\v = .slice none 0 0
 else if c<unk then v = .slice (some ⟨l.blk,l.base+off,none⟩) n c
 else if c=unk then v = .slice (some ⟨l.blk,l.base+off,none⟩) n ((l.total-off) / l.esize)/\off<=l.total
 else n=0/\c-unk<=(l.total-off) / l.esize/\off<=l.total/\
  v=(if(l.total-off) / l.esize=c-unk then .slice (some ⟨l.blk,l.base+off,none⟩) 0 0
   else .slice (some ⟨l.blk,l.base+(off+(c-unk)*l.esize),none⟩) 0 ((l.total-off) / l.esize-(c-unk)))
def FnR(β:Env):Fn->Fn->Prop
 | .yield i,f=>∃ l,β i=some l/\f = .yield l.blk
 |g,f=>f=g
def iU(β:Env)(s a b len:Nat)(R:List Value->Prop)(v:Value):Prop:=
 if s=0 then ∃ k o cs e f l,v = .pointer (some ⟨k,o+a,none⟩)/\β (Int.negSucc k)=some l/\l.obj=some (.cells cs e f)/\o+len<=cs.size/\R ((cs.toList.drop o).take len)
 else len=a*s/\((a=0/\b<=1/\v = .slice none 0 0)\/(a=0/\∃ p cap,v = .slice (some p) 0 cap/\(b≠0->b=cap+1))\/
  (0<a/\∃ k o cap cs e f l,v = .slice (some ⟨k,o,none⟩) a cap/\(b≠0->b=cap+1)/\β (Int.negSucc k)=some l/\l.obj=some (.cells cs e f)/\o+len<=cs.size/\R ((cs.toList.drop o).take len)/\a<=cap))
theorem iU.mono'{β β':Env}(h:∀ k l,β (Int.negSucc k)=some l->β' (Int.negSucc k)=some l){s a b len:Nat}{R R':List Value->Prop}(hR:∀ l,R l->R' l){v:Value}(r:iU β s a b len R v):iU β' s a b len R' v:=by
 unfold iU at r ⊢;split at r
 ·rename_i hs;rw[if_pos hs];obtain⟨k,o,cs,e,f,l,h1,h2,h3,h4,h5⟩:=r;exact⟨k,o,cs,e,f,l,h1,h _ _ h2,h3,h4,hR _ h5⟩
 ·rename_i hs;rw[if_neg hs];obtain⟨h1,h2 | h2 | ⟨h0,k,o,cap,cs,e,f,l,h2,h3,h4,h5,h6,h7,h8⟩⟩:=r
  ·exact⟨h1,Or.inl h2⟩
  ·exact⟨h1,Or.inr (Or.inl h2)⟩
  ·exact⟨h1,Or.inr (Or.inr ⟨h0,k,o,cap,cs,e,f,l,h2,h3,h _ _ h4,h5,h6,hR _ h7,h8⟩)⟩
theorem iU.mono{β β':Env}(h:∀ i l,β i=some l->β' i=some l){s a b len:Nat}{R R':List Value->Prop}(hR:∀ l,R l->R' l){v:Value}(r:iU β s a b len R v):iU β' s a b len R' v:=r.mono' (fun k=>h _) hR
theorem iU.one{β:Env}{s a b len:Nat}{R:List Value->Prop}{v:Value}(r:iU β s a b len R v):v.oneCell'=true/\v.cells=#[v]:=by
 unfold iU at r;split at r
 ·obtain⟨k,o,cs,e,f,l,h1,h2,h3,h4,h5⟩:=r;subst h1; exact⟨rfl,rfl⟩
 ·obtain⟨h1,⟨_,_,h2⟩ | ⟨_,p,cap,h2,_⟩ | ⟨h0,k,o,cap,cs,e,f,l,h2,h3,h4,h5,h6,h7⟩⟩:=r;all_goals subst h2; exact⟨rfl,rfl⟩
mutual
def VR(β:Env):Value->Value->Prop
 | .bool b,v=>v = .bool b
 | .int k n,v=>v = .int k n
 | .float k n,v=>v = .float k n
 | .complex k a b,v=>v = .complex k a b
 | .string s,v=>v = .string s
 | .pointer none,v=>v = .pointer none
 | .pointer (some a),v=>a.spot=none/\∃ l,β a.block=some l/\v = .pointer (some ⟨l.blk,l.base+a.off,none⟩)
 | .slice none n c,v=>v = .slice none n c
 | .slice (some a) n c,v=>a.spot=none/\∃ l,β a.block=some l/\dW l a.off n c v
 | .map none,v=>v = .map none
 | .map (some r),v=>∃ l,β r=some l/\v = .map (some l.blk)
 | .chan none,v=>v = .chan none
 | .chan (some 0),v=>v.oneCell'=true
 | .chan (some (_+1)),_=>True
 | .func f a b,v=>∃ f' a' b',v = .func f' a' b'/\FnR β f f'/\VRA β a a'/\VRA β b b'
 | .nilFunc,v=>v = .nilFunc
 | .iface t x,v=>if t<FZ then ∃ x',v = .iface t x'/\VR β x x' else VZ β x (t-FZ) v
 | .nilIface,v=>v = .nilIface
 | .agg a,v=>∃ a',v = .agg a'/\VRA β a a'
 | .tuple a,v=>∃ a',v = .tuple a'/\VRA β a a'
 termination_by structural x=>x
def VZ(β:Env):Value->Nat->Value->Prop
 | .agg a,s,v=>VZA β a s v
 |_,_,_=>False
 termination_by structural x=>x
def VZA(β:Env):Array Value->Nat->Value->Prop
 |⟨l⟩,s,v=>VZL β l s v
 termination_by structural x=>x
def VZL(β:Env):List Value->Nat->Value->Prop
 |[],_,_=>False
 |x::c,s,v=>∃ a b,x = .slice none a b/\iU β s a b c.length (fun l=>VRL (nM β) c l) v
 termination_by structural x=>x
def VRA(β:Env):Array Value->Array Value->Prop
 |⟨l⟩,a=>VRL β l a.toList
 termination_by structural x=>x
def VRL(β:Env):List Value->List Value->Prop
 |[],l=>l=[]
 |x::xs,l=>∃ y ys,l=y::ys/\VR β x y/\VRL β xs ys
 termination_by structural x=>x
end
def Env.le(β β':Env):Prop:=∀ i l,β i=some l->β' i=some l
theorem Env.le.refl(β:Env):β.le β:=fun _ _ h=>h
theorem Env.le.trans{a b c:Env}(h:a.le b)(k:b.le c):a.le c:=fun i l x=>k i l (h i l x)
theorem vP{β β':Env}(h:β.le β'):(nM β).le (nM β')
 | .ofNat _,_,e=>by cases e
 | .negSucc _,_,e=>h _ _ e
theorem Bh(β:Env):(nM β).le β
 | .ofNat _,_,e=>by cases e
 | .negSucc _,_,e=>e
theorem FnR.mono{β β':Env}(h:β.le β'):∀ {f g:Fn},FnR β f g->FnR β' f g
 | .yield _,_,⟨l,hl,e⟩=>⟨l,h _ _ hl,e⟩
 | .func _,_,e=>e
 | .method _,_,e=>e
 | .methodOf _ _,_,e=>e
 | .via _ _ _ _,_,e=>e
mutual
theorem VR.mono{β β':Env}(h:β.le β'):∀ (x v:Value),VR β x v->VR β' x v
 | .bool _,_,e=>e
 | .int _ _,_,e=>e
 | .float _ _,_,e=>e
 | .complex _ _ _,_,e=>e
 | .string _,_,e=>e
 | .pointer none,_,e=>e
 | .pointer (some _),_,e=>by
  simp only[VR]at e ⊢;obtain⟨hs,l,hl,e⟩:=e;exact⟨hs,l,h _ _ hl,e⟩
 | .slice none _ _,_,e=>e
 | .slice (some _) _ _,_,e=>by
  simp only[VR]at e ⊢;obtain⟨hs,l,hl,e⟩:=e;exact⟨hs,l,h _ _ hl,e⟩
 | .map none,_,e=>e
 | .map (some _),_,e=>by
  simp only[VR]at e ⊢;obtain⟨l,hl,e⟩:=e;exact⟨l,h _ _ hl,e⟩
 | .chan none,_,e=>e
 | .chan (some 0),_,e=>e
 | .chan (some (_+1)),_,e=>e
 | .func _ a b,_,e=>by
  simp only[VR]at e ⊢;obtain⟨f',a',b',e,hf,ha,hb⟩:=e;exact⟨f',a',b',e,hf.mono h,VRA.mono h a a' ha,VRA.mono h b b' hb⟩
 | .nilFunc,_,e=>e
 | .iface t x,v,e=>by
  simp only[VR]at e ⊢;split at e
  ·rename_i ht;rw[if_pos ht];obtain⟨x',e,hx⟩:=e;exact⟨x',e,VR.mono h x x' hx⟩
  ·rename_i ht;rw[if_neg ht];exact VZ.mono h x _ v e
 | .nilIface,_,e=>e
 | .agg a,_,e=>by
  simp only[VR]at e ⊢;obtain⟨a',e,ha⟩:=e;exact⟨a',e,VRA.mono h a a' ha⟩
 | .tuple a,_,e=>by
  simp only[VR]at e ⊢;obtain⟨a',e,ha⟩:=e;exact⟨a',e,VRA.mono h a a' ha⟩
theorem VZ.mono{β β':Env}(h:β.le β'):∀ (x:Value) (s:Nat) (v:Value),VZ β x s v->VZ β' x s v
 | .agg a,s,v,e=>by simp only[VZ]at e ⊢; exact VZA.mono h a s v e
 | .bool _,_,_,e=>e | .int _ _,_,_,e=>e | .float _ _,_,_,e=>e | .complex _ _ _,_,_,e=>e | .string _,_,_,e=>e | .pointer _,_,_,e=>e | .slice _ _ _,_,_,e=>e | .map _,_,_,e=>e | .chan _,_,_,e=>e
 | .func _ _ _,_,_,e=>e | .nilFunc,_,_,e=>e | .iface _ _,_,_,e=>e | .nilIface,_,_,e=>e | .tuple _,_,_,e=>e
theorem VZA.mono{β β':Env}(h:β.le β'):∀ (x:Array Value) (s:Nat) (v:Value),VZA β x s v->VZA β' x s v
 |⟨l⟩,s,v,e=>by simp only[VZA]at e ⊢; exact VZL.mono h l s v e
theorem VZL.mono{β β':Env}(h:β.le β'):∀ (x:List Value) (s:Nat) (v:Value),VZL β x s v->VZL β' x s v
 |[],_,_,e=>e
 |x::c,s,v,e=>by
  simp only[VZL]at e ⊢;obtain⟨a,b,e,r⟩:=e;exact⟨a,b,e,r.mono h fun l hl=>VRL.mono (vP h) c l hl⟩
theorem VRA.mono{β β':Env}(h:β.le β'):∀ (a b:Array Value),VRA β a b->VRA β' a b
 |⟨l⟩,_,e=>by simp only[VRA]at e ⊢; exact VRL.mono h l _ e
theorem VRL.mono{β β':Env}(h:β.le β'):∀ (a b:List Value),VRL β a b->VRL β' a b
 |[],_,e=>e
 |x::xs,_,e=>by
  simp only[VRL]at e ⊢;obtain⟨y,ys,e,hx,hxs⟩:=e;exact⟨y,ys,e,VR.mono h x y hx,VRL.mono h xs ys hxs⟩
end
mutual
theorem VR.of_flat{β:Env}:∀ (x v:Value),flat x=true->VR β x v->v=x
 | .bool _,_,_,e=>e
 | .int _ _,_,_,e=>e
 | .float _ _,_,_,e=>e
 | .complex _ _ _,_,_,e=>e
 | .string _,_,_,e=>e
 | .pointer none,_,_,e=>e
 | .pointer (some _),_,h,_=>by simp[flat]at h
 | .slice none _ _,_,_,e=>e
 | .slice (some _) _ _,_,h,_=>by simp[flat]at h
 | .map none,_,_,e=>e
 | .map (some _),_,h,_=>by simp[flat]at h
 | .chan none,_,_,e=>e
 | .chan (some _),_,h,_=>by simp[flat]at h
 | .func f a b,_,h,e=>by
  simp only[flat,Bool.and_eq_true]at h;simp only[VR]at e;obtain⟨f',a',b',e,hf,ha,hb⟩:=e;have h1:=VRA.of_flat a a' h.1.2 ha;have h2:=VRA.of_flat b b' h.2 hb;subst h1 h2;cases f<;>simp_all [FnR,sU]
 | .nilFunc,_,_,e=>e
 | .iface t x,_,h,e=>by
  simp only[flat,Bool.and_eq_true]at h;obtain⟨ht,h⟩:=h;have ht:t<FZ:=Nat.le_of_ble_eq_true ht;simp only[VR,if_pos ht]at e;obtain⟨x',e,hx⟩:=e;rw[e,VR.of_flat x x' h hx]
 | .nilIface,_,_,e=>e
 | .agg a,_,h,e=>by
  simp only[flat]at h;simp only[VR]at e;obtain⟨a',e,ha⟩:=e;rw[e,VRA.of_flat a a' h ha]
 | .tuple a,_,h,e=>by
  simp only[flat]at h;simp only[VR]at e;obtain⟨a',e,ha⟩:=e;rw[e,VRA.of_flat a a' h ha]
theorem VRA.of_flat{β:Env}:∀ (a b:Array Value),lL a=true->VRA β a b->b=a
 |⟨l⟩,⟨l'⟩,h,e=>by
  simp only[lL]at h;simp only[VRA]at e;have:=VRL.of_flat l l' h e;subst this; rfl
theorem VRL.of_flat{β:Env}:∀ (a b:List Value),gy a=true->VRL β a b->b=a
 |[],_,_,e=>e
 |x::xs,_,h,e=>by
  simp only[gy,Bool.and_eq_true]at h;simp only[VRL]at e;obtain⟨y,ys,e,hx,hxs⟩:=e;rw[e,VR.of_flat x y h.1 hx,VRL.of_flat xs ys h.2 hxs]
end
mutual
theorem VR.flat_refl{β:Env}:∀ (x:Value),flat x=true->VR β x x
 | .bool _,_=>rfl
 | .int _ _,_=>rfl
 | .float _ _,_=>rfl
 | .complex _ _ _,_=>rfl
 | .string _,_=>rfl
 | .pointer none,_=>rfl
 | .pointer (some _),h=>by simp[flat]at h
 | .slice none _ _,_=>rfl
 | .slice (some _) _ _,h=>by simp[flat]at h
 | .map none,_=>rfl
 | .map (some _),h=>by simp[flat]at h
 | .chan none,_=>rfl
 | .chan (some _),h=>by simp[flat]at h
 | .func f a b,h=>by
  simp only[flat,Bool.and_eq_true]at h;simp only[VR];refine⟨f,a,b,rfl,?_,VRA.flat_refl a h.1.2,VRA.flat_refl b h.2⟩;cases f<;>simp_all [FnR,sU]
 | .nilFunc,_=>rfl
 | .iface t x,h=>by
  simp only[flat,Bool.and_eq_true]at h;obtain⟨ht,h⟩:=h;have ht:t<FZ:=Nat.le_of_ble_eq_true ht;simp only[VR,if_pos ht]; exact⟨x,rfl,VR.flat_refl x h⟩
 | .nilIface,_=>rfl
 | .agg a,h=>by simp only[flat]at h; simp only[VR]; exact⟨a,rfl,VRA.flat_refl a h⟩
 | .tuple a,h=>by simp only[flat]at h; simp only[VR]; exact⟨a,rfl,VRA.flat_refl a h⟩
theorem VRA.flat_refl{β:Env}:∀ (a:Array Value),lL a=true->VRA β a a
 |⟨l⟩,h=>by simp only[lL]at h; simp only[VRA]; exact VRL.flat_refl l h
theorem VRL.flat_refl{β:Env}:∀ (a:List Value),gy a=true->VRL β a a
 |[],_=>rfl
 |x::xs,h=>by
  simp only[gy,Bool.and_eq_true]at h;simp only[VRL];exact⟨x,xs,rfl,VR.flat_refl x h.1,VRL.flat_refl xs h.2⟩
end
theorem jH{β:Env}:∀ {a b:List Value},VRL β a b↔a.length=b.length/\∀ (i:Nat) (v v':Value),a[i]? = some v->b[i]? = some v'->VR β v v'
 |[],b=>by
  simp only[VRL];constructor
  ·rintro rfl; exact⟨rfl,fun i v v' h=>by simp at h⟩
  ·rintro ⟨h,_⟩; cases b with
   |nil=>rfl
   |cons _ _=>simp at h
 |x::xs,b=>by
  simp only[VRL];constructor
  ·rintro ⟨y,ys,rfl,hx,hxs⟩;obtain⟨hl,hi⟩:=jH.1 hxs;refine⟨by simp[hl],fun i v v' h h'=>?_⟩;cases i with
   |zero=>simp at h h'; subst h h'; exact hx
   |succ i=>exact hi i v v' (by simpa using h) (by simpa using h')
  ·rintro ⟨hl,hi⟩;cases b with
   |nil=>simp at hl
   |cons y ys=>
    refine⟨y,ys,rfl,hi 0 x y rfl rfl,jH.2 ⟨by simpa using hl,fun i v v' h h'=>hi (i+1) v v' (by simpa using h) (by simpa using h')⟩⟩
theorem VRL.length{β:Env}{a b:List Value}(h:VRL β a b):a.length=b.length:=(jH.1 h).1
theorem VRL.get{β:Env}{a b:List Value}(h:VRL β a b){i:Nat}{v:Value}(hv:a[i]? = some v):∃ v',b[i]? = some v'/\VR β v v':=by
 obtain⟨hl,hi⟩:=jH.1 h;have:i<b.length:=by rw[<-hl]; exact(List.getElem?_eq_some_iff.1 hv).1
 exact⟨b[i],List.getElem?_eq_getElem this,hi i v _ hv (List.getElem?_eq_getElem this)⟩
theorem VRL.append{β:Env}:∀ {a b c d:List Value},VRL β a b->VRL β c d->VRL β (a++c) (b++d)
 |[],_,_,_,h,k=>by simp only[VRL]at h; subst h; simpa using k
 |x::xs,_,_,_,h,k=>by
  simp only[VRL]at h;obtain⟨y,ys,rfl,hx,hxs⟩:=h;simp only[List.cons_append,VRL];exact⟨y,_,rfl,hx,hxs.append k⟩
theorem VRL.take{β:Env}{a b:List Value}(h:VRL β a b)(n:Nat):VRL β (a.take n) (b.take n):=by
 obtain⟨hl,hi⟩:=jH.1 h;refine jH.2 ⟨by simp[hl],fun i v v' h1 h2=>?_⟩;rw[List.getElem?_take]at h1 h2;split at h1
 ·rw[if_pos ‹_›]at h2; exact hi i v v' h1 h2
 ·simp at h1
theorem VRL.drop{β:Env}{a b:List Value}(h:VRL β a b)(n:Nat):VRL β (a.drop n) (b.drop n):=by
 obtain⟨hl,hi⟩:=jH.1 h;refine jH.2 ⟨by simp[hl],fun i v v' h1 h2=>?_⟩;rw[List.getElem?_drop]at h1 h2;exact hi _ v v' h1 h2
theorem VRL.cons{β:Env}{x y:Value}{a b:List Value}(h:VR β x y)(k:VRL β a b):VRL β (x::a) (y::b):=by
 simp only[VRL]; exact⟨y,b,rfl,h,k⟩
theorem VRL.nil{β:Env}:VRL β [] []:=by simp[VRL]
theorem VRL.map{β:Env}{α:Type}(f g:α->Value):∀ (l:List α),(∀ x∈l,VR β (f x) (g x))->VRL β (l.map f) (l.map g)
 |[],_=>VRL.nil
 |x::xs,h=>VRL.cons (h x (by simp)) (VRL.map f g xs fun y hy=>h y (by simp[hy]))
theorem jy{β:Env}{a b:Array Value}:VRA β a b↔VRL β a.toList b.toList:=by cases a; simp[VRA]
theorem VZ.form{β:Env}{s:Nat}{x v:Value}(h:VZ β x s v):∃ a b c,x = .agg ⟨.slice none a b::c⟩/\iU β s a b c.length (fun l=>VRL (nM β) c l) v:=by
 cases x with
 |agg a=>
  obtain⟨l⟩:=a;cases l with
  |nil=>simp[VZ,VZA,VZL]at h
  |cons x c=>
   simp only[VZ,VZA,VZL]at h;obtain⟨a,b,e,r⟩:=h;subst e;exact⟨a,b,c,rfl,r⟩
 |_=>simp[VZ]at h
theorem VZ.one{β:Env}{s:Nat}{x v:Value}(h:VZ β x s v):v.oneCell'=true/\v.cells=#[v]:=by
 obtain⟨a,b,c,_,r⟩:=h.form;exact r.one
theorem qo{β:Env}{x v:Value}{z:FzV}(hz:kw x=some z)(h:VR β x v):z.sz≠0/\iU β z.sz z.n z.cap z.cells.length (fun l=>VRL (nM β) z.cells l) v:=by
 unfold kw at hz;split at hz
 ·rename_i t n b c;split at hz
  ·rename_i ht;have ht:FZ+1<=t:=Nat.le_of_ble_eq_true ht;simp at hz;subst hz;simp only[VR,if_neg (Nat.not_lt.2 (Nat.le_of_succ_le ht)),VZ,VZA,VZL]at h;obtain⟨a',b',e,r⟩:=h;cases e;exact⟨Nat.sub_ne_zero_of_lt ht,r⟩
  ·cases hz
 ·cases hz
theorem DN{β:Env}{x v:Value}{a:Nat}{c:List Value}(hz:wK x=some (a,c))(h:VR β x v):∃ k o cs e f l,v = .pointer (some ⟨k,o+a,none⟩)/\β (Int.negSucc k)=some l/\l.obj=some (.cells cs e f)/\o+c.length<=cs.size/\VRL (nM β) c ((cs.toList.drop o).take c.length):=by
 unfold wK at hz;split at hz
 ·rename_i t n b c';split at hz
  ·rename_i ht;have ht:t=FZ:=Nat.eq_of_beq_eq_true ht;simp at hz;obtain⟨rfl,rfl⟩:=hz;subst ht;simp only[VR,if_neg (Nat.lt_irrefl _),VZ,VZA,VZL,Nat.sub_self]at h;obtain⟨a',b',e,r⟩:=h;cases e;unfold iU at r;rw[if_pos rfl]at r;exact r
  ·cases hz
 ·cases hz
theorem sH{β:Env}{s n b:Nat}{c:List Value}{v:Value}(hs:s≠0)(r:iU β s n b c.length (fun l=>VRL (nM β) c l) v):VR β (aX s n b c) v:=by
 unfold aX;simp only[VR,if_neg (Nat.not_lt.2 (Nat.le_add_right FZ s)),VZ,VZA,VZL];have e:FZ+s-FZ=s:=by omega
 rw[e];exact⟨n,b,rfl,r⟩
theorem QT{β:Env}{a:Nat}{c:List Value}{k o:Nat}{cs:Array Value}{e:TypeId}{f:Nat×Nat}{l:Loc}(hl:β (Int.negSucc k)=some l)(hb:l.obj=some (.cells cs e f))(hle:o+c.length<=cs.size)(hc:VRL (nM β) c ((cs.toList.drop o).take c.length)) :
  VR β (xR a c) (.pointer (some ⟨k,o+a,none⟩)):=by
 unfold xR;simp only[VR,if_neg (Nat.lt_irrefl _),VZ,VZA,VZL,Nat.sub_self];refine⟨a,0,rfl,?_⟩;unfold iU;rw[if_pos rfl];exact⟨k,o,cs,e,f,l,rfl,hl,hb,hle,hc⟩
theorem VR.iface_of{β:Env}{t:TypeId}{x v:Value}(ht:t<FZ)(h:VR β (.iface t x) v):∃ x',v = .iface t x'/\VR β x x':=by
 simp only[VR,if_pos ht]at h; exact h
theorem VR.iface_mk{β:Env}{t:TypeId}{x x':Value}(ht:t<FZ)(h:VR β x x'):VR β (.iface t x) (.iface t x'):=by
 simp only[VR,if_pos ht]; exact⟨x',rfl,h⟩
theorem VR.ifaceFZ{β:Env}{x v:Value}(h:VR β (.iface FZ x) v):∃ a,v = .pointer (some a):=by
 simp only[VR,if_neg (Nat.lt_irrefl _),Nat.sub_self]at h;obtain⟨a,b,c,_,r⟩:=h.form;unfold iU at r;rw[if_pos rfl]at r;obtain⟨k,o,cs,e,f,l,h1,_⟩:=r;exact⟨_,h1⟩
theorem VRL.oneCells{β:Env}{a b:List Value}(h:VRL β a b)(k:a.all oneCell=true):∀ v∈b,v.oneCell'=true:=by
 intro v hv;obtain⟨hl,hi⟩:=jH.1 h;obtain⟨i,hib,rfl⟩:=List.getElem_of_mem hv;have hia:i<a.length:=by omega
 have r:=hi i a[i] b[i] (List.getElem?_eq_getElem hia) (List.getElem?_eq_getElem hib);have o:=List.all_eq_true.1 k a[i] (List.getElem_mem hia);revert r o;generalize a[i]=x;generalize b[i]=y;intro r o;cases x with
 |agg _=>simp[oneCell]at o
 |tuple _=>simp[oneCell]at o
 |pointer p=>cases p with
  |none=>simp only[VR]at r; subst r; rfl
  |some p=>simp only[VR]at r; obtain⟨_,l,_,e⟩:=r; subst e; rfl
 |slice p n c=>cases p with
  |none=>simp only[VR]at r; subst r; rfl
  |some p=>
   simp only[VR]at r;obtain⟨_,l,_,e⟩:=r;unfold dW at e;split at e
   ·rw[e.2.2.2]; rfl
   split at e
   ·subst e; rfl
   ·split at e
    ·rw[e.1]; rfl
    ·rw[e.2.2.2]; split<;>rfl
 |map p=>cases p with
  |none=>simp only[VR]at r; subst r; rfl
  |some p=>simp only[VR]at r; obtain⟨l,_,e⟩:=r; subst e; rfl
 |chan p=>cases p with
  |none=>simp only[VR]at r; subst r; rfl
  |some p=>cases p with
   |zero=>simpa only[VR]using r
   |succ _=>simp[oneCell]at o
 |func f p q=>simp only[VR]at r; obtain⟨_,_,_,e,_⟩:=r; subst e; rfl
 |iface t p=>
  simp only[VR]at r;split at r
  ·obtain⟨_,e,_⟩:=r; subst e; rfl
  ·exact(VZ.one r).1
 |_=>simp only[VR]at r; subst r; rfl
theorem VR.cells{β:Env}{x y:Value}(h:VR β x y)(hx:lI x=false):VRL β x.cells.toList y.cells.toList:=by
 have one:∀ {x y:Value},x.cells=#[x]->y.cells=#[y]->VR β x y->VRL β x.cells.toList y.cells.toList:=by
  intro x y e1 e2 h; rw[e1,e2]; exact VRL.cons h VRL.nil
 cases x with
 |agg a=>simp only[VR]at h; obtain⟨a',rfl,ha⟩:=h; exact jy.1 ha
 |tuple a=>have h':=h; simp only[VR]at h'; obtain⟨a',rfl,ha⟩:=h'; exact one rfl rfl h
 |chan p=>cases p with
  |none=>have h':=h; simp only[VR]at h'; subst h'; exact one rfl rfl h
  |some p=>cases p with
   |succ _=>simp[lI]at hx
   |zero=>
    refine one rfl ?_ h;simp only[VR]at h;cases y<;>first | rfl | simp[Value.oneCell']at h
 |pointer p=>
  have h':=h;cases p with
  |none=>simp only[VR]at h'; subst h'; exact one rfl rfl h
  |some p=>simp only[VR]at h'; obtain⟨_,l,_,e⟩:=h'; subst e; exact one rfl rfl h
 |slice p n c=>
  have h':=h;cases p with
  |none=>simp only[VR]at h'; subst h'; exact one rfl rfl h
  |some p=>
   simp only[VR]at h';obtain⟨_,l,_,e⟩:=h';unfold dW at e;split at e
   ·rw[e.2.2.2]at h ⊢; exact one rfl rfl h
   split at e
   ·subst e; exact one rfl rfl h
   ·split at e
    ·rw[e.1]at h ⊢; exact one rfl rfl h
    ·rw[e.2.2.2]at h ⊢; split at h<;>(rename_i hh; simp only[hh,if_true,if_false]; exact one rfl rfl h)
 |map p=>
  have h':=h;cases p with
  |none=>simp only[VR]at h'; subst h'; exact one rfl rfl h
  |some p=>simp only[VR]at h'; obtain⟨l,_,e⟩:=h'; subst e; exact one rfl rfl h
 |func f p q=>have h':=h; simp only[VR]at h'; obtain⟨_,_,_,e,_⟩:=h'; subst e; exact one rfl rfl h
 |iface t p=>
  have h':=h;simp only[VR]at h';split at h'
  ·obtain⟨_,e,_⟩:=h'; subst e; exact one rfl rfl h
  ·exact one rfl (VZ.one h').2 h
 |_=>have h':=h; simp only[VR]at h'; subst h'; exact one rfl rfl h
end Go.VS
end

noncomputable section
namespace Go.VS
open Go.RowKit
/-- What is kept out of a run's reach: blocks of the world,and numbers of the evaluator's that stand for nothing yet. -/
structure Obs where
 rel:Ob->Env->Nat->(Nat->Prop)->World->Prop
 mono:∀ o (β β':Env) b fp w w',rel o β b fp w->(nM β).le (nM β')->w.heap.size<=w'.heap.size->(∀ k,fp k->w'.heap[k]? = w.heap[k]?)->(∀ k l,β (Int.negSucc k)=some l->w'.heap[k]? = w.heap[k]?)->rel o β' b fp w'
structure Prot where
 blk:Nat->Prop
 id:Nat->Prop
 nofz:Nat->Prop
 obs:Obs
 sub:∀ k,nofz k->blk k
instance:CoeFun Prot (fun _=>Nat->Prop):=⟨Prot.blk⟩
/-- The blocks of K are as they were,and nothing has gone. -/
structure Bel(K:Prot)(w w':World):Prop where
 os:w'.os=w.os
 tape:w'.tape=w.tape
 output:w'.output=w.output
 size:w.heap.size<=w'.heap.size
 block:∀ k,K k->w'.heap[k]? = w.heap[k]?
theorem Bel.refl(K:Prot)(w:World):Bel K w w:=⟨rfl,rfl,rfl,Nat.le_refl _,fun _ _=>rfl⟩
theorem Bel.trans{K:Prot}{a b c:World}(h:Bel K a b)(k:Bel K b c):Bel K a c:=
 ⟨k.os.trans h.os,k.tape.trans h.tape,k.output.trans h.output,Nat.le_trans h.size k.size,fun i hi=>(k.block i hi).trans (h.block i hi)⟩
theorem Bel.drew{K:Prot}{a w:World}(h:Bel K a w):Bel K a w.drew:=⟨h.os,h.tape,h.output,h.size,h.block⟩
theorem Bel.alloc{K:Prot}{a w:World}(h:Bel K a w)(hB:∀ k,K k->k<w.heap.size)(o:Obj):Bel K a (w.alloc o):=
 h.trans ⟨rfl,rfl,rfl,by show w.heap.size<=(w.heap.push o).size; simp,fun k hk=>Below.heap_alloc _ _ _ (hB k hk)⟩
theorem EQ{K:Prot}{g:Nat}{w0 w:World}(h:Bel K w0 w)(hg:¬K g)(cs:Array Value):Bel K w0 (w.setRow g cs):=
 h.trans ⟨rfl,rfl,rfl,by simp,fun k hk=>setRow_other _ _ _ _ (fun e=>hg (e▸hk))⟩
theorem Bel.mono{K K':Prot}{w w':World}(h:Bel K w w')(hk:∀ k,K' k->K k):Bel K' w w':=⟨h.os,h.tape,h.output,h.size,fun k hh=>h.block k (hk k hh)⟩
theorem Bel.below{B:Nat}{i:Nat->Prop}{ob:Obs}{w w':World}{nf:Nat->Prop}{hs:∀ k,nf k->k<B}(h:Bel ⟨(·<B),i,nf,ob,hs⟩ w w'):Below B w w':=⟨h.os,h.tape,h.output,h.size,h.block⟩
def ERL(β:Env):List MapEntry->List MapEntry->Prop
 |[],l=>l=[]
 |x::xs,l=>∃ y ys,l=y::ys/\x.born=y.born/\VR β x.key y.key/\VR β x.val y.val/\ERL β xs ys
def h_(β:Env)(t:Trie Value)(n:Nat)(tmps:Array Value):Prop:=
 tmps.size=n/\∀ i,VR β ((t.get i).getD undef) (tmps.getD i undef)
structure LoopR(β:Env)(x:ALoop)(y:Loop):Prop where
 state:y.state=x.state
 pending:y.pending=x.pending
 fn:y.fn=x.fn
 params:y.params=x.params
 assign:y.assign=x.assign
 body:y.body=x.body
 slots:h_ β x.slots x.ntmps y.tmps
 defers:∃ l,β x.defers=some l/\y.defers=l.blk
/-- Codes that lie in a function's body. -/
inductive Sub:Code->Code->Prop
 |refl (c):Sub c c
 |seql {x a b}:Sub x a->Sub x (.seq a b)
 |seqr {x a b}:Sub x b->Sub x (.seq a b)
 |condl {x o a b}:Sub x a->Sub x (.cond o a b)
 |condr {x o a b}:Sub x b->Sub x (.cond o a b)
 |block {x id a}:Sub x a->Sub x (.block id a)
 |loop {x a}:Sub x a->Sub x (.loop a)
 |scope {x a}:Sub x a->Sub x (.scope a)
 |rangel {x g ps a b}:Sub x a->Sub x (.rangeFunc g ps a b)
 |ranger {x g ps a b}:Sub x b->Sub x (.rangeFunc g ps a b)
theorem Sub.trans{a b c:Code}(h:Sub a b)(k:Sub b c):Sub a c:=by
 induction k with
 |refl=>exact h
 |seql _ ih=>exact .seql ih
 |seqr _ ih=>exact .seqr ih
 |condl _ ih=>exact .condl ih
 |condr _ ih=>exact .condr ih
 |block _ ih=>exact .block ih
 |loop _ ih=>exact .loop ih
 |scope _ ih=>exact .scope ih
 |rangel _ ih=>exact .rangel ih
 |ranger _ ih=>exact .ranger ih
def Occ(P:Program)(fid:FuncId)(c:Code):Prop:=∃ fn body,P.funcs[fid]? = some fn/\fn.body=some body/\Sub c body
theorem Occ.sub{P:Program}{fid:FuncId}{c d:Code}(h:Occ P fid c)(k:Sub d c):Occ P fid d:=let⟨fn,body,h1,h2,h3⟩:=h; ⟨fn,body,h1,h2,k.trans h3⟩
def gW(P:Program)(β:Env)(l:Loc)(b:Blk)(o:Option Obj):Prop:=
 match b with
 | .cells c e x=>(l.virt=true/\c=[]/\x=false)\/(l.virt=false/\∃ cc f,o=some (.cells cc e f)/\l.esize=esz P e/\l.base+l.total<=cc.size/\c.length<=l.total/\(x=true->c.length=l.total/\l.base=0/\cc.size=l.total)/\
   VRL β c ((cc.toList.drop l.base).take c.length)/\(f.2<=f.1\/cc.size<=f.1)/\(x=false->l.total<9223372036854775808*l.esize))
 | .map es c=>l.virt=false/\∃ es',o=some (.map es' c)/\ERL β es es'.toList
 | .siter s p=>l.virt=false/\l.base=0/\o=some (.stringIter s p)
 | .miter m since seen st=>l.virt=false/\l.base=0/\∃ m',VR β (.map m) (.map m')/\o=some (.mapIter m' since ⟨seen.reverse⟩ st)
 | .loop x=>l.virt=false/\(Occ P x.fn x.assign/\Occ P x.fn x.body)/\∃ y,o=some (.loop y)/\LoopR β x y
 | .deferred=>l.virt=false/\o=some (.deferred (some []))
 | .dead=>True
 | .obj _=>l.virt=false
def Blk.live:Blk->Bool
 | .dead=>false
 |_=>true
def Blk.isObj:Blk->Bool
 | .obj _=>true
 |_=>false
def GInv(β:Env):Prop:=∀ p∈X6,∃ l o,β (Int.negSucc p.1)=some l/\l.obj=some o/\p.2 o
def GW(w:World):Prop:=∀ p∈X6,∃ o,w.heap[p.1]? = some o/\p.2 o
theorem GInv.neg{β β':Env}(h:GInv β)(hle:∀ k l,β (Int.negSucc k)=some l->β' (Int.negSucc k)=some l):GInv β':=fun p hp=>
 let⟨l,o,a,b,c⟩:=h p hp
 ⟨l,o,hle _ _ a,b,c⟩
theorem GInv.mono{β β':Env}(h:GInv β)(hle:β.le β'):GInv β':=h.neg fun _ _=>hle _ _
def EC(K:Prot)(β:Env)(st:St)(w:World):Prop:=GInv β/\∃ fp:Nat->Nat->Prop,
 (∀ (i:Nat) o,st.heap.get i=some (.obj o)->∃ l,β i=some l/\fp i l.blk/\K.obs.rel o β l.blk (fp i) w)/\
 (∀ (i:Nat) k,fp i k->(∃ o,st.heap.get i=some (.obj o))/\k<w.heap.size/\¬K k/\β (Int.negSucc k)=none/\(∀ j,fp j k->j=i)/\
  ∀ (j:Nat) bj lj,st.heap.get j=some bj->bj.live=true->β j=some lj->lj.virt=false->lj.blk=k->j=i)
structure Rel(P:Program)(K:Prot)(β:Env)(st:St)(w:World):Prop where
 base:∀ k,K k->k<w.heap.size
 dom:∀ (i:Nat) l,β i=some l->i<st.next/\(l.virt=false->l.blk<w.heap.size)
 blk:∀ (i:Nat) b,st.heap.get i=some b->b.live=true->∃ l,β i=some l/\(l.virt=false->¬K l.blk)/\gW P β l b w.heap[l.blk]?
 inj:∀ (i j:Nat) bi bj li lj,st.heap.get i=some bi->bi.live=true->st.heap.get j=some bj->bj.live=true->β i=some li->β j=some lj->li.virt=false->lj.virt=false->li.blk=lj.blk->i=j
 res:∀ (i:Nat),K.id i->i<st.next/\β i=none
 nofz:∀ k l,β (Int.negSucc k)=some l->¬K.nofz k
 frz:∀ k l,β (Int.negSucc k)=some l->(l.obj.isSome=true/\l=⟨k,0,0,0,l.obj,false⟩)/\w.heap[k]? = l.obj/\∀ (j:Nat) bj lj,st.heap.get j=some bj->bj.live=true->β j=some lj->lj.virt=false->lj.blk≠k
 objs:EC K β st w
theorem ERL.mono{β β':Env}(h:β.le β'):∀ {a b:List MapEntry},ERL β a b->ERL β' a b
 |[],_,e=>e
 |x::xs,_,⟨y,ys,e,hb,hk,hv,hr⟩=>⟨y,ys,e,hb,hk.mono h,hv.mono h,hr.mono h⟩
theorem h_.mono{β β':Env}(h:β.le β'){t:Trie Value}{n:Nat}{a:Array Value}(r:h_ β t n a):h_ β' t n a:=
 ⟨r.1,fun i=>(r.2 i).mono h⟩
theorem LoopR.mono{β β':Env}(h:β.le β'){x:ALoop}{y:Loop}(r:LoopR β x y):LoopR β' x y:=
 ⟨r.state,r.pending,r.fn,r.params,r.assign,r.body,r.slots.mono h,let⟨l,hl,e⟩:=r.defers; ⟨l,h _ _ hl,e⟩⟩
theorem gW.mono{P:Program}{β β':Env}(h:β.le β'){l:Loc}{b:Blk}{o:Option Obj}(r:gW P β l b o):gW P β' l b o:=by
 cases b with
 |cells c e x=>
  obtain r | ⟨hv,cc,f,h1,h2,h3,h4,h5,h6,h7⟩:=r
  ·exact Or.inl r
  ·exact Or.inr ⟨hv,cc,f,h1,h2,h3,h4,h5,h6.mono h,h7⟩
 |map es c=>obtain⟨hv,es',h1,h2⟩:=r; exact⟨hv,es',h1,h2.mono h⟩
 |siter s p=>exact r
 |miter m a b c=>obtain⟨hv,h0,m',h1,h2⟩:=r; exact⟨hv,h0,m',h1.mono h,h2⟩
 |loop x=>obtain⟨hv,ho,y,h1,h2⟩:=r; exact⟨hv,ho,y,h1,h2.mono h⟩
 |deferred=>exact r
 |dead=>trivial
 |obj o=>exact r
theorem gW.anywhere{P:Program}{β:Env}{l:Loc}{b:Blk}{o:Option Obj}(h:gW P β l b o)(hv:l.virt=true)(o':Option Obj):gW P β l b o':=by
 cases b with
 |cells c e x=>
  obtain h | h:=h
  ·exact Or.inl h
  ·exact absurd h.1 (by simp[hv])
 |map es c=>exact absurd h.1 (by simp[hv])
 |siter s p=>exact absurd h.1 (by simp[hv])
 |miter m a b c=>exact absurd h.1 (by simp[hv])
 |loop x=>exact absurd h.1 (by simp[hv])
 |deferred=>exact absurd h.1 (by simp[hv])
 |dead=>trivial
 |obj o=>exact h
section
variable{P:Program}{K:Prot}{β:Env}{st:St}{w:World}
theorem Rel.fresh(h:Rel P K β st w):β st.next=none:=by
 cases hb:β st.next with
 |none=>rfl
 |some l=>exact absurd (h.dom _ _ hb).1 (Nat.lt_irrefl _)
def Env.put(β:Env)(i:Nat)(l:Loc):Env:=fun j=>if j=(i:Int)then some l else β j
theorem Env.put_ne(β:Env){i:Nat}{l:Loc}{j:Int}(h:j≠i):β.put i l j=β j:=by simp[Env.put,h]
theorem Env.put_neg(β:Env)(i:Nat)(l:Loc)(k:Nat):β.put i l (Int.negSucc k)=β (Int.negSucc k):=β.put_ne (by intro e; cases e)
theorem Env.put_nat(β:Env)(i:Nat)(l:Loc)(j:Nat)(h:j≠i):β.put i l (j:Int)=β j:=β.put_ne (by omega)
theorem d_(β:Env)(i:Nat)(l:Loc):β.put i l i=some l:=by simp[Env.put]
theorem Rel.le_put(h:Rel P K β st w)(l:Loc):β.le (β.put st.next l):=by
 intro i k hi;have:i≠(st.next:Int):=by rintro rfl; rw[h.fresh]at hi; cases hi
 rw[β.put_ne this]; exact hi
theorem Rel.gw(h:Rel P K β st w):GW w:=fun p hp=>
 let⟨_,o,h1,h2,h3⟩:=h.objs.1 p hp
 ⟨o,((h.frz _ _ h1).2.1).trans h2,h3⟩
theorem Rel.drew(h:Rel P K β st w):Rel P K β st w.drew:=
 ⟨h.base,h.dom,h.blk,h.inj,h.res,h.nofz,h.frz,let⟨hg,fp,h1,h2⟩:=h.objs; ⟨hg,fp,fun i o hi=>let⟨l,a,b,c⟩:=h1 i o hi; ⟨l,a,b,K.obs.mono _ _ _ _ _ _ _ c (Env.le.refl _) (Nat.le_refl _) (fun _ _=>rfl) (fun _ _ _=>rfl)⟩,h2⟩⟩
theorem EC.step{K':Prot}{β':Env}{st':St}{w':World}(h:EC K β st w)(hK:K'.obs=K.obs)(hle:β.le β')(hs:w.heap.size<=w'.heap.size)(hfz:∀ k l,β (Int.negSucc k)=some l->w'.heap[k]? = w.heap[k]?)
  (hget:∀ (i:Nat) o,st'.heap.get i=some (.obj o)↔st.heap.get i=some (.obj o))
  (hw:∀ (i:Nat) k o l,st.heap.get i=some (.obj o)->β i=some l->k<w.heap.size->¬K k->β (Int.negSucc k)=none->(∀ (j:Nat) bj lj,st.heap.get j=some bj->bj.live=true->β j=some lj->lj.virt=false->lj.blk=k->j=i)->
   w'.heap[k]? = w.heap[k]?/\¬K' k/\β' (Int.negSucc k)=none/\∀ (j:Nat) bj lj,st'.heap.get j=some bj->bj.live=true->β' j=some lj->lj.virt=false->lj.blk=k->j=i):EC K' β' st' w':=by
 obtain⟨hg,fp,h1,h2⟩:=h;have key:∀ (i:Nat) k,fp i k->w'.heap[k]? = w.heap[k]?/\¬K' k/\β' (Int.negSucc k)=none/\∀ (j:Nat) bj lj,st'.heap.get j=some bj->bj.live=true->β' j=some lj->lj.virt=false->lj.blk=k->j=i:=by
  intro i k hk;obtain⟨⟨o,ho⟩,a,b,c,d,e⟩:=h2 i k hk;obtain⟨l,hl,_⟩:=h1 i o ho;exact hw i k o l ho hl a b c e
 refine⟨hg.mono hle,fp,fun i o hi=>?_,fun i k hk=>?_⟩
 ·obtain⟨l,a,b,c⟩:=h1 i o ((hget i o).1 hi);exact⟨l,hle _ _ a,b,by rw[hK]; exact K.obs.mono _ _ _ _ _ _ _ c (vP hle) hs (fun k hk=>(key i k hk).1) hfz⟩
 ·obtain⟨⟨o,ho⟩,a,b,c,d,e⟩:=h2 i k hk;obtain⟨_,k2,k3,k4⟩:=key i k hk;exact⟨⟨o,(hget i o).2 ho⟩,Nat.lt_of_lt_of_le a hs,k2,k3,d,k4⟩
theorem Rel.adopt(h:Rel P K β st w)(l:Loc)(b:Blk)(hl:l.virt=false->l.blk<w.heap.size)(hB:l.virt=false->¬K l.blk)(hfr:l.virt=false->β (Int.negSucc l.blk)=none)
  (hno:l.virt=false->∀ (j:Nat) bj lj,st.heap.get j=some bj->bj.live=true->β j=some lj->lj.virt=false->lj.blk≠l.blk)
  (hb:gW P (β.put st.next l) l b w.heap[l.blk]?) (ho:EC K (β.put st.next l) (st.new b).2 w):Rel P K (β.put st.next l) (st.new b).2 w:=by
 have hle:=h.le_put l;have old:∀ (i:Nat) k,i≠st.next->β.put st.next l i=some k->β i=some k:=fun i k hin hi=>by rwa [β.put_nat _ _ _ hin]at hi
 refine⟨h.base,fun i k hi=>?_,fun i bi hi hlive=>?_,fun i j bi bj li lj hi hbi hj hbj hli hlj v1 v2 e=>?_,fun i hi=>⟨Nat.lt_succ_of_lt (h.res i hi).1,?_⟩,fun k lk hk=>h.nofz k lk (by rwa [β.put_neg]at hk),fun k lk hk=>?_,ho⟩
 ·by_cases hin:i=st.next
  ·subst hin;rw[d_]at hi;cases hi;exact⟨Nat.lt_succ_self _,hl⟩
  ·obtain⟨h1,h2⟩:=h.dom i k (old i k hin hi);exact⟨Nat.lt_succ_of_lt h1,h2⟩
 ·simp only[St.new,Trie.get_set]at hi;by_cases hin:i=st.next
  ·subst hin;simp at hi;subst hi;exact⟨l,d_ _ _ _,hB,hb⟩
  ·simp[hin]at hi;obtain⟨k,h1,h2,h3⟩:=h.blk i bi hi hlive;exact⟨k,hle _ _ h1,h2,h3.mono hle⟩
 ·simp only[St.new,Trie.get_set]at hi hj;by_cases hin:i=st.next<;>by_cases hjn:j=st.next
  ·rw[hin,hjn]
  ·subst hin;rw[d_]at hli;cases hli;simp[hjn]at hj;exact absurd e.symm (hno v1 j bj lj hj hbj (old j lj hjn hlj) v2)
  ·subst hjn;rw[d_]at hlj;cases hlj;simp[hin]at hi;exact absurd e (hno v2 i bi li hi hbi (old i li hin hli) v1)
  ·simp[hin]at hi;simp[hjn]at hj;exact h.inj i j bi bj li lj hi hbi hj hbj (old i li hin hli) (old j lj hjn hlj) v1 v2 e
 ·have h1:=h.res i hi;have:i≠st.next:=Nat.ne_of_lt h1.1
  rw[β.put_nat _ _ _ this,h1.2]
 ·rw[β.put_neg]at hk;obtain⟨f1,f2,f3⟩:=h.frz k lk hk;refine⟨f1,f2,fun j bj lj hj hbj hlj hv e=>?_⟩;simp only[St.new,Trie.get_set]at hj;by_cases hjn:j=st.next
  ·subst hjn;rw[d_]at hlj;cases hlj;have:=hfr hv;rw[e,hk]at this;cases this
  ·simp[hjn]at hj;exact f3 j bj lj hj hbj (old j lj hjn hlj) hv e
theorem tV(w:World)(o:Obj){k:Nat}(h:k<w.heap.size):(w.alloc o).heap[k]? = w.heap[k]?:=Below.heap_alloc w o k h
theorem heap_alloc_new(w:World)(o:Obj):(w.alloc o).heap[w.heap.size]? = some o:=by show(w.heap.push o)[w.heap.size]? = _; simp
theorem size_alloc(w:World)(o:Obj):(w.alloc o).heap.size=w.heap.size+1:=by show(w.heap.push o).size=_; simp
theorem qJ(h:Rel P K β st w){k:Nat}{l:Loc}(hk:β (Int.negSucc k)=some l):k<w.heap.size:=by
 obtain⟨f1,f2,_⟩:=h.frz k l hk;cases hx:w.heap[k]? with
 |none=>rw[hx]at f2; rw[<-f2]at f1; simp at f1
 |some o=>exact(Array.getElem?_eq_some_iff.1 hx).1
theorem Rel.more(h:Rel P K β st w){w':World}(hs:w.heap.size<=w'.heap.size)(hw:∀ k,k<w.heap.size->w'.heap[k]? = w.heap[k]?):Rel P K β st w':=by
 refine⟨fun k hk=>Nat.lt_of_lt_of_le (h.base k hk) hs,fun i l hi=>?_,fun i b hi hb=>?_,h.inj,h.res,h.nofz,fun k l hk=>?_,?_⟩
 ·obtain⟨h1,h2⟩:=h.dom i l hi;exact⟨h1,fun hv=>Nat.lt_of_lt_of_le (h2 hv) hs⟩
 ·obtain⟨l,h1,h2,h3⟩:=h.blk i b hi hb;refine⟨l,h1,h2,?_⟩;cases hv:l.virt with
  |false=>rw[hw _ ((h.dom i l h1).2 hv)]; exact h3
  |true=>exact h3.anywhere hv _
 ·obtain⟨f1,f2,f3⟩:=h.frz k l hk;exact⟨f1,by rw[hw _ (qJ h hk)]; exact f2,f3⟩
 ·exact h.objs.step rfl (Env.le.refl _) hs (fun k l hk=>hw _ (qJ h hk)) (fun _ _=>Iff.rfl) (fun i k o l _ _ hk hK hf hj=>⟨hw k hk,hK,hf,hj⟩)
theorem Rel.alloc_only(h:Rel P K β st w)(o:Obj):Rel P K β st (w.alloc o):=
 h.more (by rw[size_alloc]; omega) fun k hk=>tV w o hk
theorem FQ{st:St}{b:Blk}(hb:b.isObj=false)(hn:∀ o,st.heap.get st.next≠some (.obj o))(i:Nat)(o:Ob):(st.new b).2.heap.get i=some (.obj o)↔st.heap.get i=some (.obj o):=by
 simp only[St.new,Trie.get_set];by_cases hi:i=st.next
 ·subst hi;simp only[if_true];constructor
  ·intro e; cases e; cases hb
  ·intro e; exact absurd e (hn o)
 ·simp[hi]
theorem Rel.no_obj(h:Rel P K β st w)(o:Ob):st.heap.get st.next≠some (.obj o):=by
 intro e;obtain⟨l,h1,_⟩:=h.blk _ _ e rfl;rw[h.fresh]at h1; cases h1
theorem Rel.alloc(h:Rel P K β st w)(o:Obj)(b:Blk)(hob:b.isObj=false)(total es:Nat)(hb:gW P β ⟨w.heap.size,0,total,es,none,false⟩ b (some o)) :
  Rel P K (β.put st.next ⟨w.heap.size,0,total,es,none,false⟩) (st.new b).2 (w.alloc o):=by
 have h1:=h.alloc_only o;have hle:=h.le_put ⟨w.heap.size,0,total,es,none,false⟩;have hneg:β (Int.negSucc w.heap.size)=none:=by
  cases hx:β (Int.negSucc w.heap.size)with
  |none=>rfl
  |some l=>exact absurd (qJ h hx) (Nat.lt_irrefl _)
 refine h1.adopt _ b (fun _=>by rw[size_alloc]; exact Nat.lt_succ_self _) (fun _ hk=>Nat.lt_irrefl _ (h.base _ hk)) (fun _=>hneg) (fun _ j bj lj _ _ hj hv=>?_) ?_ ?_
 ·have:=(h.dom j lj hj).2 hv;exact Nat.ne_of_lt this
 ·rw[heap_alloc_new]; exact hb.mono hle
 ·refine h.objs.step rfl hle (by rw[size_alloc]; omega) (fun k l hk=>tV w o (qJ h hk)) (FQ hob h.no_obj) (fun i k o' l _ _ hk hK hf hj=>⟨tV w o hk,hK,by rw[β.put_neg]; exact hf,fun j bj lj hj1 hj2 hj3 hj4 hj5=>?_⟩);simp only[St.new,Trie.get_set]at hj1;by_cases hjn:j=st.next
  ·subst hjn;rw[d_]at hj3;cases hj3;exact absurd hj5.symm (Nat.ne_of_lt hk)
  ·simp[hjn]at hj1;exact hj j bj lj hj1 hj2 (by rwa [β.put_nat _ _ _ hjn]at hj3) hj4 hj5
theorem Rel.virt(h:Rel P K β st w)(e:TypeId)(total es:Nat):Rel P K (β.put st.next ⟨0,0,total,es,none,true⟩) (st.new (.cells [] e false)).2 w:=by
 have hle:=h.le_put ⟨0,0,total,es,none,true⟩;refine h.adopt _ _ (fun e=>by cases e) (fun e=>by cases e) (fun e=>by cases e) (fun e=>by cases e) (Or.inl ⟨rfl,rfl,rfl⟩) ?_;refine h.objs.step rfl hle (Nat.le_refl _) (fun _ _ _=>rfl) (FQ rfl h.no_obj) (fun i k o' l _ _ hk hK hf hj=>⟨rfl,hK,by rw[β.put_neg]; exact hf,fun j bj lj hj1 hj2 hj3 hj4 hj5=>?_⟩);simp only[St.new,Trie.get_set]at hj1;by_cases hjn:j=st.next
 ·subst hjn;rw[d_]at hj3;cases hj3;cases hj4
 ·simp[hjn]at hj1;exact hj j bj lj hj1 hj2 (by rwa [β.put_nat _ _ _ hjn]at hj3) hj4 hj5
theorem ZF{st:St}{i:Nat}{b b':Blk}(hi:st.heap.get i=some b)(hb:b.isObj=false)(hb':b'.isObj=false)(j:Nat)(o:Ob):(st.heap.set i b').get j=some (.obj o)↔st.heap.get j=some (.obj o):=by
 rw[Trie.get_set];by_cases hj:j=i
 ·subst hj;rw[if_pos rfl,hi];constructor
  ·intro e; cases e; cases hb'
  ·intro e; cases e; cases hb
 ·rw[if_neg hj]
theorem Rel.update(h:Rel P K β st w){i:Nat}{b b':Blk}{l:Loc}{w':World}(hi:st.heap.get i=some b)(hlive:b.live=true)(ho1:b.isObj=false)(ho2:b'.isObj=false)(hl:β i=some l)
  (hs:w'.heap.size=w.heap.size) (ho:∀ k,(l.virt=true\/k≠l.blk)->w'.heap[k]? = w.heap[k]?) (hb:gW P β l b' w'.heap[l.blk]?) :
  Rel P K β { st with heap:=st.heap.set i b' } w':=by
 have hblk:∀ (j:Nat) k,β j=some k->(∃ bj,st.heap.get j=some bj/\bj.live=true)->k.virt=false->j≠i->w'.heap[k.blk]? = w.heap[k.blk]?:=by
  rintro j k hj ⟨bj,hbj,hlj⟩ hv hne;refine ho _ ?_;cases hv2:l.virt with
  |true=>exact Or.inl rfl
  |false=>exact Or.inr fun e=>hne (h.inj j i bj b k l hbj hlj hi hlive hj hl hv hv2 e)
 have live_of:∀ (m:Nat) bm,(if m=i then some b' else st.heap.get m)=some bm->bm.live=true->∃ b0,st.heap.get m=some b0/\b0.live=true:=by
  intro m bm hm hbm;by_cases hmi:m=i
  ·subst hmi; exact⟨b,hi,hlive⟩
  ·simp[hmi]at hm; exact⟨bm,hm,hbm⟩
 have hfz:∀ k lk,β (Int.negSucc k)=some lk->w'.heap[k]? = w.heap[k]?:=by
  intro k lk hk;refine ho _ ?_;cases hv2:l.virt with
  |true=>exact Or.inl rfl
  |false=>exact Or.inr fun e=>(h.frz k lk hk).2.2 i b l hi hlive hl hv2 e.symm
 refine⟨fun k hk=>by rw[hs]; exact h.base k hk,fun j k hj=>by rw[hs]; exact h.dom j k hj,fun j bj hj hlj=>?_,fun j k bj bk lj lk hj hbj hk hbk hlj hlk v1 v2 e=>?_,h.res,h.nofz,fun k lk hk=>?_,?_⟩
 ·simp only[Trie.get_set]at hj;obtain⟨l0,h1,h2,h3⟩:=h.blk i b hi hlive;obtain rfl:l0=l:=by rw[h1]at hl; exact Option.some.inj hl
  by_cases hji:j=i
  ·subst hji;simp at hj;subst hj;exact⟨l0,hl,h2,hb⟩
  ·simp[hji]at hj;obtain⟨lj,g1,g2,g3⟩:=h.blk j bj hj hlj;refine⟨lj,g1,g2,?_⟩;cases hv:lj.virt with
   |false=>rw[hblk j lj g1 ⟨bj,hj,hlj⟩ hv hji]; exact g3
   |true=>exact g3.anywhere hv _
 ·simp only[Trie.get_set]at hj hk;obtain⟨b1,g1,g2⟩:=live_of j bj hj hbj;obtain⟨b2,g3,g4⟩:=live_of k bk hk hbk;exact h.inj j k b1 b2 lj lk g1 g2 g3 g4 hlj hlk v1 v2 e
 ·obtain⟨f1,f2,f3⟩:=h.frz k lk hk;refine⟨f1,by rw[hfz k lk hk]; exact f2,fun j bj lj hj hbj hlj hv=>?_⟩;simp only[Trie.get_set]at hj;obtain⟨b1,g1,g2⟩:=live_of j bj hj hbj;exact f3 j b1 lj g1 g2 hlj hv
 ·refine h.objs.step rfl (Env.le.refl _) (by rw[hs]; exact Nat.le_refl _) hfz (ZF hi ho1 ho2) (fun j k o lo hj hlo hk hK hf hc=>⟨?_,hK,hf,fun m bm lm hm hbm hlm hv e=>?_⟩)
  ·refine ho _ ?_;cases hv2:l.virt with
   |true=>exact Or.inl rfl
   |false=>
    refine Or.inr fun e=>?_;have:=hc i b l hi hlive hl hv2 e.symm;subst this;rw[hi]at hj; cases hj; cases ho1
  ·simp only[Trie.get_set]at hm;obtain⟨b1,g1,g2⟩:=live_of m bm hm hbm;exact hc m b1 lm g1 g2 hlm hv e
theorem Rel.kill(h:Rel P K β st w)(i:Nat)(hi:∀ o,st.heap.get i≠some (.obj o)):Rel P K β (VS.kill st i) w:=by
 have old:∀ (j:Nat) bj,(VS.kill st i).heap.get j=some bj->bj.live=true->st.heap.get j=some bj:=by
  intro j bj hj hlj;simp only[VS.kill,Trie.get_set]at hj;by_cases hji:j=i
  ·simp[hji]at hj; subst hj; simp[Blk.live]at hlj
  ·simpa [hji]using hj
 refine⟨h.base,h.dom,fun j bj hj hlj=>h.blk j bj (old j bj hj hlj) hlj,fun j k bj bk lj lk hj hbj hk hbk hlj hlk v1 v2 e=>h.inj j k bj bk lj lk (old j bj hj hbj) hbj (old k bk hk hbk) hbk hlj hlk v1 v2 e,h.res,h.nofz,fun k lk hk=>?_,?_⟩
 ·obtain⟨f1,f2,f3⟩:=h.frz k lk hk;exact⟨f1,f2,fun j bj lj hj hbj hlj hv=>f3 j bj lj (old j bj hj hbj) hbj hlj hv⟩
 ·refine h.objs.step rfl (Env.le.refl _) (Nat.le_refl _) (fun _ _ _=>rfl) (fun j o=>?_) (fun j k o lo hj hlo hk hK hf hc=>⟨rfl,hK,hf,fun m bm lm hm hbm hlm hv e=>hc m bm lm (old m bm hm hbm) hbm hlm hv e⟩);constructor
  ·intro e; exact old j _ e rfl
  ·intro e;simp only[VS.kill,Trie.get_set];rw[if_neg (by rintro rfl; exact hi o e)]; exact e
theorem Rel.move(h:Rel P K β st w){i:Nat}{b b':Blk}{l l2:Loc}{w':World}(hi:st.heap.get i=some b)(hlive:b.live=true)(ho1:b.isObj=false)(ho2:b'.isObj=false)(hl:β i=some l)(hv:l.virt=false)(hl2:l2.blk=l.blk)(hv2:l2.virt=false)
  (hs:w'.heap.size=w.heap.size) (ho:∀ k,k≠l.blk->w'.heap[k]? = w.heap[k]?) (hb:gW P (β.put st.next l2) l2 b' w'.heap[l2.blk]?) :
  Rel P K (β.put st.next l2) ((VS.kill st i).new b').2 w':=by
 have hno:∀ o,st.heap.get i≠some (.obj o):=by intro o e; rw[hi]at e; cases e; cases ho1
 have old:∀ (j:Nat) bj,(VS.kill st i).heap.get j=some bj->bj.live=true->j≠i/\st.heap.get j=some bj:=by
  intro j bj hj hlj;simp only[VS.kill,Trie.get_set]at hj;by_cases hji:j=i
  ·simp[hji]at hj; subst hj; simp[Blk.live]at hlj
  ·exact⟨hji,by simpa [hji]using hj⟩
 have hk:=h.kill i hno;obtain⟨l0,h1,h2,h3⟩:=h.blk i b hi hlive;obtain rfl:l0=l:=by rw[h1]at hl; exact Option.some.inj hl
 have hfz:∀ k lk,β (Int.negSucc k)=some lk->k≠l0.blk:=fun k lk hk e=>(h.frz k lk hk).2.2 i b l0 hi hlive h1 hv e.symm;have hk2:Rel P K β (VS.kill st i) w':=by
  refine⟨fun k hk=>by rw[hs]; exact h.base k hk,fun j k hj=>by rw[hs]; exact h.dom j k hj,fun j bj hj hlj=>?_,hk.inj,hk.res,hk.nofz,fun k lk hk'=>?_,?_⟩
  ·obtain⟨lj,m1,m2,m3⟩:=hk.blk j bj hj hlj;refine⟨lj,m1,m2,?_⟩;obtain⟨hne,hj0⟩:=old j bj hj hlj;cases hvj:lj.virt with
   |false=>rw[ho _ (fun e=>hne (h.inj j i bj b lj l0 hj0 hlj hi hlive m1 h1 hvj hv e))]; exact m3
   |true=>exact m3.anywhere hvj _
  ·obtain⟨f1,f2,f3⟩:=hk.frz k lk hk';exact⟨f1,by rw[ho _ (hfz k lk hk')]; exact f2,f3⟩
  ·obtain⟨hg,fp,q1,q2⟩:=h.objs;have hfp:∀ j k,fp j k->k≠l0.blk:=by
    intro j k hjk e;obtain⟨⟨o,ho'⟩,_,_,_,_,q⟩:=q2 j k hjk;have:=q i b l0 hi hlive h1 hv e.symm;subst this;exact hno o ho'
   refine⟨hg,fp,fun j o hj=>?_,fun j k hjk=>?_⟩
   ·obtain⟨lj,a1,a2,a3⟩:=q1 j o (old j _ hj rfl).2;exact⟨lj,a1,a2,K.obs.mono _ _ _ _ _ _ _ a3 (Env.le.refl _) (by rw[hs]; exact Nat.le_refl _) (fun k hk=>ho k (hfp j k hk)) (fun k lk hk=>ho k (hfz k lk hk))⟩
   ·obtain⟨⟨o,ho'⟩,a1,a2,a3,a4,a5⟩:=q2 j k hjk;refine⟨⟨o,?_⟩,by rw[hs]; exact a1,a2,a3,a4,fun m bm lm hm hbm hlm hvm e=>a5 m bm lm (old m bm hm hbm).2 hbm hlm hvm e⟩;simp only[VS.kill,Trie.get_set];rw[if_neg (by rintro rfl; exact hno o ho')]; exact ho'
 have hnext:(VS.kill st i).next=st.next:=rfl
 have hle:=h.le_put l2;have hfz2:β (Int.negSucc l0.blk)=none:=by
  cases hx:β (Int.negSucc l0.blk)with
  |none=>rfl
  |some lk=>exact absurd rfl (hfz _ lk hx)
 have hdis:∀ (j:Nat) bj lj,(VS.kill st i).heap.get j=some bj->bj.live=true->β j=some lj->lj.virt=false->lj.blk≠l2.blk:=by
  intro j bj lj hj hbj hlj hvj e;obtain⟨hne,hj0⟩:=old j bj hj hbj;exact hne (h.inj j i bj b lj l0 hj0 hbj hi hlive hlj h1 hvj hv (by rw[e,hl2]))
 refine hk2.adopt l2 b' (fun _=>by rw[hl2,hs]; exact(h.dom i l0 h1).2 hv) (fun _=>by rw[hl2]; exact h2 hv) (fun _=>by rw[hl2]; exact hfz2) (fun _=>hdis) hb ?_;obtain⟨hg,fp,q1,q2⟩:=h.objs;have hfp:∀ j k,fp j k->k≠l0.blk:=by
  intro j k hjk e;obtain⟨⟨o,ho'⟩,_,_,_,_,q⟩:=q2 j k hjk;have:=q i b l0 hi hlive h1 hv e.symm;subst this;exact hno o ho'
 have hn:∀ (j:Nat) o,((VS.kill st i).new b').2.heap.get j=some (.obj o)↔st.heap.get j=some (.obj o):=by
  intro j o;refine(FQ (st:=VS.kill st i) ho2 (fun o e=>h.no_obj o (old _ _ e rfl).2) j o).trans ?_;constructor
  ·intro e; exact(old j _ e rfl).2
  ·intro e;simp only[VS.kill,Trie.get_set];rw[if_neg (by rintro rfl; exact hno o e)]; exact e
 refine⟨hg.mono hle,fp,fun j o hj=>?_,fun j k hjk=>?_⟩
 ·obtain⟨lj,a1,a2,a3⟩:=q1 j o ((hn j o).1 hj);exact⟨lj,hle _ _ a1,a2,K.obs.mono _ _ _ _ _ _ _ a3 (vP hle) (by rw[hs]; exact Nat.le_refl _) (fun k hk=>ho k (hfp j k hk)) (fun k lk hk=>ho k (hfz k lk hk))⟩
 ·obtain⟨⟨o,ho'⟩,a1,a2,a3,a4,a5⟩:=q2 j k hjk;refine⟨⟨o,(hn j o).2 ho'⟩,by rw[hs]; exact a1,a2,by rw[hnext,β.put_neg]; exact a3,a4,fun m bm lm hm hbm hlm hvm e=>?_⟩;simp only[St.new,Trie.get_set]at hm;rw[hnext]at hm hlm;by_cases hmn:m=st.next
  ·subst hmn;rw[d_]at hlm;cases hlm;exact absurd (by rw[<-hl2,e]) (hfp j k hjk)
  ·simp only[if_neg hmn]at hm;have hm2:(VS.kill st i).heap.get m=some bm:=by simpa only[VS.kill,Trie.get_set]using hm
   exact a5 m bm lm (old m bm hm2 hbm).2 hbm (by rwa [β.put_nat _ _ _ hmn]at hlm) hvm e
theorem Rel.get_cells(h:Rel P K β st w){i:Nat}{c:List Value}{e:TypeId}{x:Bool}(hi:st.heap.get i=some (.cells c e x)) :
  ∃ l,β i=some l/\((l.virt=true/\c=[]/\x=false)\/(l.virt=false/\¬K l.blk/\∃ cc f,w.heap[l.blk]? = some (.cells cc e f)/\l.esize=esz P e/\l.base+l.total<=cc.size/\c.length<=l.total/\(x=true->c.length=l.total/\l.base=0/\cc.size=l.total)/\
   VRL β c ((cc.toList.drop l.base).take c.length)/\(f.2<=f.1\/cc.size<=f.1)/\(x=false->l.total<9223372036854775808*l.esize))):=by
 obtain⟨l,h1,h2,h3 | ⟨hv,cc,f,h3⟩⟩:=h.blk i _ hi rfl
 ·exact⟨l,h1,Or.inl h3⟩
 ·exact⟨l,h1,Or.inr ⟨hv,h2 hv,cc,f,h3⟩⟩
theorem jm(b o n:Nat):(⟨b,o,none⟩:Addr).add n=⟨b,o+n,none⟩:=by unfold Addr.add; split<;>simp_all
theorem add_block(a:Addr)(n:Nat):(a.add n).block=a.block:=by unfold Addr.add; split<;>rfl
theorem qi(a:Addr)(n:Nat)(h:a.spot=none):(a.add n).spot=none:=by unfold Addr.add; split<;>simp_all
theorem pz(a:Addr)(n:Nat):(a.add n).off=a.off+n:=by unfold Addr.add; split<;>simp_all
theorem Rel.cellsAt(h:Rel P K β st w){a:Addr}{n:Nat}{c:List Value}(hc:cellsAt st a n=some c){l:Loc}(hl:β a.block=some l) :
  ∃ c',VRL β c c'/\c'.length=n/\c.length=n/\∀ j v,c'[j]? = some v->w.cell? ((⟨l.blk,l.base+a.off,none⟩:Addr).add j)=some v:=by
 unfold VS.cellsAt at hc;split at hc
 ·cases hc
 ·split at hc
  ·rename_i cs e x hg;split at hc
   ·rename_i hle;obtain rfl:=Option.some.inj hc;obtain⟨l',h1,⟨hv,hcs,_⟩ | ⟨hv,h2,cc,f,h3,h4,h5,h6,h7,h8,h9⟩⟩:=h.get_cells hg
    ·subst hcs;have hn:n=0:=by simp at hle; omega
     subst hn;exact⟨[],by simpa using VRL.nil,rfl,by simp,fun j v hj=>by simp at hj⟩
    obtain rfl:l'=l:=by rw[h1]at hl; exact Option.some.inj hl
    have hln:((cs.drop a.off).take n).length=n:=by simp; omega
    refine⟨(((cc.toList.drop l'.base).take cs.length).drop a.off).take n,(h8.drop _).take _,?_,hln,fun j v hj=>?_⟩
    ·rw[<-((h8.drop a.off).take n).length,hln]
    ·rw[jm];simp only[World.cell?,h3];rw[List.getElem?_take]at hj;split at hj
     ·rw[List.getElem?_drop,List.getElem?_take]at hj;split at hj
      ·rw[List.getElem?_drop]at hj;simp[Nat.add_assoc]at hj ⊢;simpa using hj
      ·cases hj
     ·cases hj
   ·cases hc
  ·cases hc
theorem rO(P:Program)(g o:Nat)(t:TypeId)(fz:Nat×Nat):∀ (vs:List Value) (i:Nat) (cur:Array Value) (w:World),w.heap[g]? = some (.cells cur t fz)->(fz.2<=fz.1\/cur.size<=fz.1)->o+i+vs.length<=cur.size->(∀ v∈vs,v.oneCell'=true)->
  (storeCells ⟨g,o,none⟩ vs i).run P w = .ok () (w.setRow g (cur.toList.take (o+i)++vs++cur.toList.drop (o+i+vs.length)).toArray)
 |[],i,cur,w,hg,_,_,_=>by
  simp only[storeCells,List.append_nil,List.length_nil,Nat.add_zero,List.take_append_drop,Array.toArray_toList];rw[setRow_self w g cur t fz hg]
  rfl
 |v::rest,i,cur,w,hg,hfz,hl,h1=>by
  have hi:o+i<cur.size:=by simp at hl; omega
  have hadd:=jm g o i;have hcell:w.cell? ⟨g,o+i,none⟩=some cur[o+i]:=by simp[World.cell?,hg,hi]
  have hfro:w.frozen? ⟨g,o+i,none⟩=false:=by
   obtain⟨lo,hi'⟩:=fz;simp only[World.frozen?,hg,Bool.and_eq_false_iff,decide_eq_false_iff_not];simp only at hfz;omega
  have hst:(store ((⟨g,o,none⟩:Addr).add i) v).run P w = .ok () (w.setRow g (cur.setIfInBounds (o+i) v)):=by
   rw[hadd,run_store P w _ v _ (h1 v (by simp)),hcell];simp[hfro,setCell_eq_setRow w g (o+i) cur t fz v hg]
  have ih:=rO P g o t fz rest (i+1) (cur.setIfInBounds (o+i) v) (w.setRow g (cur.setIfInBounds (o+i) v)) (setRow_heap w g cur _ t _ hg) (by simpa using hfz) (by simp at hl ⊢; omega) (fun x hx=>h1 x (by simp[hx]));simp only[storeCells,Sem.run_bind,hst,Result.andThen_ok,ih,setRow_setRow];congr 3;have e:=list_seg_step cur.toList (o+i) v rest (by simp at hl ⊢; omega);simpa [Array.toList_setIfInBounds,Nat.add_assoc]using e
theorem qM(c:List Value)(i:Nat)(vs:List Value)(h:i+vs.length<=c.length):(putAt c i vs).length=c.length:=by
 simp[putAt]; omega
theorem Ih(c:List Value)(i:Nat)(vs:List Value)(h:i+vs.length<=c.length)(j:Nat):(putAt c i vs)[j]? = if j<i then c[j]? else if j<i+vs.length then vs[j-i]? else c[j]?:=by
 unfold putAt;rw[List.append_assoc,List.getElem?_append];simp only[List.length_take];by_cases h1:j<i
 ·rw[if_pos (by omega),if_pos h1,List.getElem?_take,if_pos h1]
 ·rw[if_neg (by omega),if_neg h1,List.getElem?_append];have:min i c.length=i:=by omega
  rw[this];by_cases h2:j<i+vs.length
  ·rw[if_pos (by omega),if_pos h2]
  ·rw[if_neg (by omega),if_neg h2,List.getElem?_drop];congr 1; omega
theorem Rel.setCells(h:Rel P K β st w){a:Addr}{vs vs':List Value}{st':St}(hc:setCells st a vs=some st')(hv:VRL β vs vs'){l:Loc}(hl:β a.block=some l) :
  ∃ w',(storeCells ⟨l.blk,l.base+a.off,none⟩ vs').run P w = .ok () w'/\Rel P K β st' w'/\Bel K w w'/\st'.next=st.next:=by
 unfold VS.setCells at hc;split at hc
 ·cases hc
 ·split at hc
  ·rename_i cs e x hg;split at hc
   ·rename_i hle;simp only[Bool.and_eq_true,decide_eq_true_eq]at hle;obtain rfl:=Option.some.inj hc;obtain⟨l',h1,⟨hvt,hcs,hx⟩ | ⟨hvt,h2,cc,f,h3,h4,h5,h6,h7,h8,h9⟩⟩:=h.get_cells hg
    ·obtain rfl:l'=l:=by rw[h1]at hl; exact Option.some.inj hl
     subst hcs;have hvs:vs=[]:=by
      have:=hle.1;cases vs with
      |nil=>rfl
      |cons _ _=>simp at this
     subst hvs;have hvs':vs'=[]:=hv;subst hvs';refine⟨w,rfl,h.update hg rfl rfl rfl h1 rfl (fun _ _=>rfl) (Or.inl ⟨hvt,by simp[putAt],hx⟩),Bel.refl _ _,rfl⟩
    obtain rfl:l'=l:=by rw[h1]at hl; exact Option.some.inj hl
    have hlen:=hv.length;have hrun:=rO P l'.blk (l'.base+a.off) e f vs' 0 cc w h3 h9.1 (by omega) (hv.oneCells hle.2);refine⟨_,hrun,?_,EQ (Bel.refl _ _) h2 _,rfl⟩;refine h.update hg rfl rfl rfl h1 (by simp) (fun k hk=>setRow_other _ _ _ _ (hk.resolve_left (by simp[hvt]))) ?_;rw[setRow_heap w l'.blk cc _ e f h3];have hsz:(cc.toList.take (l'.base+a.off+0)++vs'++cc.toList.drop (l'.base+a.off+0+vs'.length)).length=cc.size:=by simp; omega
    refine Or.inr ⟨hvt,_,f,rfl,h4,?_,by rw[qM _ _ _ hle.1]; exact h6,fun hx=>⟨by rw[qM _ _ _ hle.1]; exact(h7 hx).1,(h7 hx).2.1,by simp only[List.size_toArray,hsz]; exact(h7 hx).2.2⟩,?_,?_⟩
    ·simp only[List.size_toArray,hsz]; exact h5
    ·rw[qM _ _ _ hle.1];refine jH.2 ⟨?_,fun j v v' hj hj'=>?_⟩
     ·rw[qM _ _ _ hle.1];simp only[List.length_take,List.length_drop,hsz]; omega
     ·rw[Ih _ _ _ hle.1]at hj;rw[List.getElem?_take]at hj';split at hj'
      ·rename_i hjc;simp only[List.getElem?_drop,Nat.add_zero]at hj';have e2:=Ih cc.toList (l'.base+a.off) vs' (by simp; omega) (l'.base+j);unfold putAt at e2;rw[e2]at hj';obtain⟨_,hvi⟩:=jH.1 hv;obtain⟨_,h8i⟩:=jH.1 h8;split at hj
       ·rename_i c1;rw[if_pos (by omega)]at hj';exact h8i j v v' hj (by rw[List.getElem?_take,if_pos hjc,List.getElem?_drop]; exact hj')
       ·rename_i c1;split at hj
        ·rename_i c2;rw[if_neg (by omega),if_pos (by omega)]at hj';exact hvi (j-a.off) v v' hj (by rw[<-hj']; congr 1; omega)
        ·rename_i c2;rw[if_neg (by omega),if_neg (by omega)]at hj';exact h8i j v v' hj (by rw[List.getElem?_take,if_pos hjc,List.getElem?_drop]; exact hj')
      ·cases hj'
    ·refine⟨?_,h9.2⟩;simp only[List.size_toArray,hsz]; exact h9.1
   ·cases hc
  ·cases hc
theorem nX(a:Addr)(c:List Value)(n:Nat)(hn:c.length=n)(h:∀ j v,c[j]? = some v->w.cell? (a.add j)=some v):(loadCells a n).run P w = .ok ⟨c⟩ w:=by
 subst hn; exact run_loadCells_list w a c h
end
def acx(β:Env):Target->Target->Prop
 | .fn f c,t=>∃ f' c',t = .fn f' c'/\FnR β f f'/\VRA β c c'
 | .collected i,t=>∃ l,β i=some l/\t = .collected l.blk
 |_,_=>False
def LK(β:Env)(d d':Deferred):Prop:=acx β d.target d'.target/\VRA β d.args d'.args
theorem VRA.mono'{β β':Env}(h:β.le β'){a b:Array Value}(r:VRA β a b):VRA β' a b:=VRA.mono h a b r
theorem VRL.mono'{β β':Env}(h:β.le β'){a b:List Value}(r:VRL β a b):VRL β' a b:=VRL.mono h a b r
theorem VR.mono'{β β':Env}(h:β.le β'){a b:Value}(r:VR β a b):VR β' a b:=VR.mono h a b r
theorem LK.mono{β β':Env}(h:β.le β'){d d':Deferred}(r:LK β d d'):LK β' d d':=by
 obtain⟨h1,h2⟩:=r;refine⟨?_,h2.mono' h⟩;generalize d.target=t at *;cases t with
 |fn f c=>obtain⟨f',c',e,hf,hc⟩:=h1; exact⟨f',c',e,hf.mono h,hc.mono' h⟩
 |collected i=>obtain⟨l,hl,e⟩:=h1; exact⟨l,h _ _ hl,e⟩
 |_=>exact h1.elim
def dK(P:Program)(K:Prot)(β:Env)(st:St)(w:World)(r:Result Next):Out->Prop
 | .val v st'=>∃ β' w' v',r = .ok (.value v') w'/\β.le β'/\Rel P K β' st' w'/\VR β' v v'/\Bel K w w'
 | .skip st'=>∃ β' w',r = .ok .skip w'/\β.le β'/\Rel P K β' st' w'/\Bel K w w'
 | .enter f args st'=>st'=st/\∃ args',r = .ok (.enter f args') w/\VRL β args args'.toList
 | .defer d st'=>st'=st/\∃ d',r = .ok (.defer d') w/\LK β d d'
 | .round l args st'=>st'=st/\∃ ll args',β l=some ll/\VRL β args args'.toList/\r=(Instr.yield ll.blk args').run P w
theorem kM{α:Type}{P:Program}:∀ (s:Sem α) (a:α) (w:World),dN P s=some a->s.run P w = .ok a w
 | .pure a,b,w,h=>by simp[dN]at h; subst h; rfl
 | .program k,b,w,h=>by simp only[dN]at h; exact kM (k P) b w h
 | .mark m k,b,w,h=>by simp only[dN]at h; exact kM k b w h
 | .load ..,_,_,h=>by simp[dN]at h
 | .store ..,_,_,h=>by simp[dN]at h
 | .new ..,_,_,h=>by simp[dN]at h
 | .shape ..,_,_,h=>by simp[dN]at h
 | .freeze ..,_,_,h=>by simp[dN]at h
 | .frozen ..,_,_,h=>by simp[dN]at h
 | .getObj ..,_,_,h=>by simp[dN]at h
 | .setObj ..,_,_,h=>by simp[dN]at h
 | .choose ..,_,_,h=>by simp[dN]at h
 | .sys ..,_,_,h=>by simp[dN]at h
 | .halt ..,_,_,h=>by simp[dN]at h
section
variable{P:Program}{K:Prot}{β:Env}{st:St}{w:World}
theorem eQ{s:Sem Value}{v:Value}{w':World}(h:s.run P w = .ok v w'):(do pure (Next.value (<-s)):Sem Next).run P w = .ok (.value v) w':=by
 simp[h]
theorem IR{s:Sem Unit}{w':World}(h:s.run P w = .ok () w'):(do s; pure Next.skip:Sem Next).run P w = .ok .skip w':=by
 simp[h]
theorem dK.same(hr:Rel P K β st w){r:Result Next}{v v':Value}(e:r = .ok (.value v') w)(hv:VR β v v'):dK P K β st w r (.val v st):=
 ⟨β,w,v',e,Env.le.refl _,hr,hv,Bel.refl _ _⟩
theorem VR.int'{k:IntKind}{n:Int}{v:Value}(h:VR β (.int k n) v):v = .int k n:=h
theorem VR.bool'{b:Bool}{v:Value}(h:VR β (.bool b) v):v = .bool b:=h
theorem VR.string'{s:ByteArray}{v:Value}(h:VR β (.string s) v):v = .string s:=h
theorem VR.ptr'{a:Addr}{v:Value}(h:VR β (.pointer (some a)) v):a.spot=none/\∃ l,β a.block=some l/\v = .pointer (some ⟨l.blk,l.base+a.off,none⟩):=h
theorem VR.ptr_mk{a:Addr}{l:Loc}(hs:a.spot=none)(hl:β a.block=some l):VR β (.pointer (some a)) (.pointer (some ⟨l.blk,l.base+a.off,none⟩)):=⟨hs,l,hl,rfl⟩
theorem iL{t:TypeId}{z:Value}(h:jV P t=some z):∃ i,P.info? t=some i/\i.zero=some z/\flat z=true:=by
 unfold jV at h;cases hi:P.info? t with
 |none=>simp[hi]at h
 |some i=>
  cases hz:i.zero with
  |none=>simp[hi,hz]at h
  |some z'=>
   simp only[hi,hz]at h;split at h
   ·simp at h; subst h; exact⟨i,rfl,hz,‹_›⟩
   ·cases h
theorem jX{t:TypeId}{i:TypeInfo}{z:Value}(hi:P.info? t=some i)(hz:i.zero=some z)(w:World):(zeroValue t).run P w = .ok z w:=by
 simp[zeroValue,typeInfo,hi,hz]
theorem fZ{t:TypeId}{i:TypeInfo}(hi:P.info? t=some i)(w:World):(sizeOf t).run P w = .ok i.size w:=by
 simp[sizeOf,typeInfo,hi]
theorem Rel.newRow(hr:Rel P K β st w){c c':List Value}(h:VRL β c c')(e:TypeId)(x:Bool)(rest:List Value)(hx:x=true->rest=[])(hcp:x=false->c'.length+rest.length<9223372036854775808*esz P e) :
  Rel P K (β.put st.next ⟨w.heap.size,0,c'.length+rest.length,esz P e,none,false⟩) (newRow st c e x).2 (w.alloc (.cells ⟨c'++rest⟩ e))/\
  (newRow st c e x).1=⟨st.next,0,none⟩/\β.le (β.put st.next ⟨w.heap.size,0,c'.length+rest.length,esz P e,none,false⟩)/\Bel K w (w.alloc (.cells ⟨c'++rest⟩ e)):=by
 refine⟨?_,rfl,hr.le_put _,(Bel.refl _ _).alloc hr.base _⟩;refine hr.alloc (.cells ⟨c'++rest⟩ e) (.cells c e x) rfl _ _ (Or.inr ⟨rfl,⟨c'++rest⟩,(0,0),rfl,rfl,by simp,?_,fun hx'=>?_,?_,Or.inl (Nat.le_refl _),hcp⟩)
 ·rw[h.length]; exact Nat.le_add_right _ _
 ·rw[h.length,hx hx']; simp
 ·simp only[List.drop_zero,h.length,List.take_left'];exact h
theorem sound_row(hr:Rel P K β st w){c c':List Value}(h:VRL β c c')(e:TypeId){r:Result Next}
  (hrun:r = .ok (.value (.pointer (some ⟨w.heap.size,0,none⟩))) (w.alloc (.cells ⟨c'⟩ e))) :
  dK P K β st w r (.val (.pointer (some (newRow st c e true).1)) (newRow st c e true).2):=by
 obtain⟨h1,h2,h3,h4⟩:=hr.newRow h e true [] (fun _=>rfl) (fun h=>by cases h);simp only[List.append_nil]at h1 h4;refine⟨_,_,_,hrun,h3,h1,?_,h4⟩;rw[h2];exact⟨rfl,_,d_ _ _ _,by simp⟩
theorem MJ(hr:Rel P K β st w){ρ ρ':Operand->Value}{o:Oper}{out:Out}{e:TypeId}(ho:o.op = .alloc e)(h:aY P ρ o st=some out) :
  dK P K β st w ((execOp ρ' o).run P w) out:=by
 simp only[aY,ho]at h;split at h
 ·rename_i z hz;obtain⟨i,hi,hzz,hfl⟩:=iL hz;obtain rfl:=Option.some.inj h;refine sound_row hr (VR.cells (VR.flat_refl z hfl) (by cases z<;>first | rfl | simp[flat]at hfl | (rename_i c; cases c<;>first | rfl | simp[flat]at hfl))) e ?_;simp only[execOp,ho];refine eQ ?_;simp[Instr.alloc,jX hi hzz,newVar,Go.newRow]
 ·cases h
theorem SV(hr:Rel P K β st w){ρ ρ':Operand->Value}(hρ:∀ x,VR β (ρ x) (ρ' x)){o:Oper}{out:Out}{e:TypeId}{x:Operand}(ho:o.op = .box e x)(h:aY P ρ o st=some out) :
  dK P K β st w ((execOp ρ' o).run P w) out:=by
 simp only[aY,ho]at h;split at h
 ·cases h
 ·rename_i hx;obtain rfl:=Option.some.inj h;refine sound_row hr (VR.cells (hρ x) (by simpa using hx)) e ?_;simp only[execOp,ho];refine eQ ?_;simp[Instr.box,newVar,Go.newRow]
theorem qA{t:TypeId}{d:TypeDesc}(hu:P.underlying t=some d)(w:World):(isAgg t).run P w = .ok (kD P t) w:=by
 unfold kD;rw[hu];cases d<;>simp[isAgg,run_underlying hu]
theorem Hw(hr:Rel P K β st w){t:TypeId}{a:Addr}{v:Value}(h:pV P st t a=some v){l:Loc}(hl:β a.block=some l) :
  ∃ v',(loadVar t ⟨l.blk,l.base+a.off,none⟩).run P w = .ok v' w/\VR β v v':=by
 unfold pV at h;split at h
 ·rename_i d i hu hi;split at h
  ·rename_i hagg;cases hc:cellsAt st a i.size with
   |none=>simp[hc]at h
   |some c=>
    simp[hc]at h;subst h;obtain⟨c',h1,h2,h3,h4⟩:=hr.cellsAt hc hl;refine⟨.agg ⟨c'⟩,?_,⟨⟨c'⟩,rfl,h1⟩⟩;simp[loadVar,qA hu,hagg,fZ hi,nX _ c' i.size h2 h4]
  ·rename_i hagg;split at h
   ·rename_i v0 hc;obtain rfl:=Option.some.inj h;obtain⟨c',h1,h2,h3,h4⟩:=hr.cellsAt hc hl;obtain⟨v',hv',hvr⟩:=h1.get (i:=0) rfl;refine⟨v',?_,hvr⟩;have:=h4 0 v' hv';rw[jm]at this;have hagg':kD P t=false:=by simpa using hagg
    simp[loadVar,qA hu,hagg']at this ⊢;simp[this]
   ·cases h
 ·cases h
theorem Ti(hr:Rel P K β st w){k:Nat}{l:Loc}{cs:Array Value}{e:TypeId}{f:Nat×Nat}(hl:β (Int.negSucc k)=some l)(hb:l.obj=some (.cells cs e f)){j:Nat}{v:Value}(hj:cs.toList[j]? = some v):w.cell? ⟨k,j,none⟩=some v:=by
 have h:=(hr.frz k l hl).2.1;rw[hb]at h;simp only[World.cell?,h];simpa using hj
theorem xe(hr:Rel P K β st w){k:Nat}{l:Loc}{cs:Array Value}{e:TypeId}{f:Nat×Nat}(hl:β (Int.negSucc k)=some l)(hb:l.obj=some (.cells cs e f)){o:Nat}{c:List Value}(hle:o+c.length<=cs.size)(hc:VRL β c ((cs.toList.drop o).take c.length)){a n:Nat}(han:a+n<=c.length) :
  ∃ c',VRL β ((c.drop a).take n) c'/\c'.length=n/\∀ j v,c'[j]? = some v->w.cell? ((⟨k,o+a,none⟩:Addr).add j)=some v:=by
 refine⟨(((cs.toList.drop o).take c.length).drop a).take n,(hc.drop a).take n,by simp; omega,fun j v hj=>?_⟩;rw[jm];refine Ti hr hl hb ?_;rw[List.getElem?_take]at hj;split at hj
 ·rw[List.getElem?_drop,List.getElem?_take]at hj;split at hj
  ·rw[List.getElem?_drop]at hj;rw[<-hj]; congr 1; omega
  ·cases hj
 ·cases hj
theorem Ub(hr:Rel P K β st w){t:TypeId}{a:Nat}{c:List Value}{v:Value}(h:Bz P t a c=some v){k o:Nat}{l:Loc}{cs:Array Value}{e:TypeId}{f:Nat×Nat}(hl:β (Int.negSucc k)=some l)(hb:l.obj=some (.cells cs e f))(hle:o+c.length<=cs.size)
  (hc:VRL β c ((cs.toList.drop o).take c.length)):∃ v',(loadVar t ⟨k,o+a,none⟩).run P w = .ok v' w/\VR β v v':=by
 unfold Bz at h;split at h
 ·rename_i d i hu hi;split at h
  ·rename_i hagg;split at h
   ·rename_i hale;obtain rfl:=Option.some.inj h;obtain⟨c',h1,h2,h4⟩:=xe hr hl hb hle hc hale;refine⟨.agg ⟨c'⟩,?_,⟨⟨c'⟩,rfl,h1⟩⟩;simp[loadVar,qA hu,hagg,fZ hi,nX _ c' i.size h2 h4]
   ·cases h
  ·rename_i hagg;have hlt:a<c.length:=(List.getElem?_eq_some_iff.1 h).1;obtain⟨c',h1,h2,h4⟩:=xe hr hl hb hle hc (a:=a) (n:=1) (by omega);have hg:((c.drop a).take 1)[0]? = some v:=by rw[List.getElem?_take,if_pos (by omega),List.getElem?_drop]; simpa using h
   obtain⟨v',hv',hvr⟩:=h1.get hg;refine⟨v',?_,hvr⟩;have:=h4 0 v' hv';rw[jm]at this;have hagg':kD P t=false:=by simpa using hagg
   simp[loadVar,qA hu,hagg']at this ⊢;simp[this]
 ·cases h
theorem Q8(hr:Rel P K β st w){ρ ρ':Operand->Value}(hρ:∀ x,VR β (ρ x) (ρ' x)){o:Oper}{out:Out}{t:TypeId}{x:Operand}(ho:o.op = .load t x)(h:aY P ρ o st=some out) :
  dK P K β st w ((execOp ρ' o).run P w) out:=by
 simp only[aY,ho]at h;split at h
 ·rename_i a ha;have hx:=hρ x;rw[ha]at hx;obtain⟨hs,l,hl,e⟩:=hx.ptr';split at h
  ·rename_i v hv;obtain rfl:=Option.some.inj h;obtain⟨v',h1,h2⟩:=Hw hr hv hl;refine dK.same hr ?_ h2;simp only[execOp,ho];refine eQ ?_;simp[Instr.loadAt,e,Instr.sureAddr,h1]
  ·cases h
 ·rename_i p hnp;split at h
  ·rename_i a c hfp;split at h
   ·rename_i v hv;obtain rfl:=Option.some.inj h;obtain⟨k,o0,cs,e,f,l,h1,h2,h3,h4,h5⟩:=DN hfp (hρ x);obtain⟨v',g1,g2⟩:=Ub hr hv h2 h3 h4 (VRL.mono (Bh _) _ _ h5);refine dK.same hr ?_ g2;simp only[execOp,ho];refine eQ ?_;simp[Instr.loadAt,h1,Instr.sureAddr,g1]
   ·cases h
  ·cases h
theorem Qi(hr:Rel P K β st w){t:TypeId}{a:Addr}{v v':Value}{st':St}(h:nZ P st t a v=some st'){l:Loc}(hl:β a.block=some l)(hv:VR β v v') :
  ∃ w',(storeVar t ⟨l.blk,l.base+a.off,none⟩ v').run P w = .ok () w'/\Rel P K β st' w'/\Bel K w w':=by
 unfold nZ at h;split at h
 ·rename_i i hi;split at h
  ·rename_i hc;simp only[Bool.and_eq_true,decide_eq_true_eq,Bool.not_eq_true']at hc;have hcells:=hv.cells hc.2;obtain⟨w',h1,h2,h3,_⟩:=hr.setCells h hcells hl;refine⟨w',?_,h2,h3⟩;have hsz:v'.cells.size=i.size:=by have:=hcells.length; simp at this; omega
   simp[storeVar,fZ hi,hsz,h1]
  ·cases h
 ·cases h
theorem MF(hr:Rel P K β st w){ρ ρ':Operand->Value}(hρ:∀ x,VR β (ρ x) (ρ' x)){o:Oper}{out:Out}{t:TypeId}{x v:Operand}(ho:o.op = .store t x v)(h:aY P ρ o st=some out) :
  dK P K β st w ((execOp ρ' o).run P w) out:=by
 simp only[aY,ho]at h;split at h
 ·rename_i a ha;have hx:=hρ x;rw[ha]at hx;obtain⟨hs,l,hl,e⟩:=hx.ptr';split at h
  ·rename_i st' hst;obtain rfl:=Option.some.inj h;obtain⟨w',h1,h2,h3⟩:=Qi hr hst hl (hρ v);refine⟨β,w',?_,Env.le.refl _,h2,h3⟩;simp only[execOp,ho];refine IR ?_;simp[Instr.storeAt,e,Instr.sureAddr,h1]
  ·cases h
 ·cases h
theorem FI(hr:Rel P K β st w){ρ ρ':Operand->Value}(hρ:∀ x,VR β (ρ x) (ρ' x)){o:Oper}{out:Out}{x:Operand}(ho:o.op = .move x\/o.op = .assign x)(h:aY P ρ o st=some out) :
  dK P K β st w ((execOp ρ' o).run P w) out:=by
 rcases ho with ho | ho<;>
 ·simp only[aY,ho]at h;obtain rfl:=Option.some.inj h;exact dK.same hr (by simp[execOp,ho]) (hρ x)
theorem PS(hr:Rel P K β st w){ρ ρ':Operand->Value}(hρ:∀ x,VR β (ρ x) (ρ' x)){o:Oper}{out:Out}{c a b:Operand}(ho:o.op = .pick c a b)(h:aY P ρ o st=some out) :
  dK P K β st w ((execOp ρ' o).run P w) out:=by
 simp only[aY,ho]at h;split at h
 ·rename_i t ht;obtain rfl:=Option.some.inj h;have hc:=hρ c;rw[ht]at hc;have hc:=hc.bool';refine dK.same hr (v':=if t then ρ' a else ρ' b) ?_ ?_
  ·simp[execOp,ho,hc,asBool]
  ·split
   ·exact hρ a
   ·exact hρ b
 ·cases h
theorem Gt(hr:Rel P K β st w){ρ ρ':Operand->Value}(hρ:∀ x,VR β (ρ x) (ρ' x)){o:Oper}{out:Out}{x:Operand}(ho:o.op = .nilCheck x)(h:aY P ρ o st=some out) :
  dK P K β st w ((execOp ρ' o).run P w) out:=by
 simp only[aY,ho]at h;have hx:=hρ x;split at h
 ·rename_i a ha;obtain rfl:=Option.some.inj h;rw[ha]at hx;obtain⟨hs,l,hl,e⟩:=hx.ptr';refine dK.same hr (v':=ρ' x) ?_ (by rw[e]; exact VR.ptr_mk hs hl);simp[execOp,ho,e]
 ·rename_i f a b ha;obtain rfl:=Option.some.inj h;rw[ha]at hx;have hx':=hx;obtain⟨f',a',b',e,hf,ha',hb'⟩:=hx';have hf2:f' = .func f:=hf;subst hf2;refine dK.same hr (v':=ρ' x) ?_ hx;simp[execOp,ho,e]
 ·rename_i f a b ha;obtain rfl:=Option.some.inj h;rw[ha]at hx;have hx':=hx;obtain⟨f',a',b',e,hf,ha',hb'⟩:=hx';obtain⟨l,hl,rfl⟩:=hf;refine dK.same hr (v':=ρ' x) ?_ hx;simp[execOp,ho,e]
 ·rename_i t v ha;split at h
  ·rename_i ht;obtain rfl:=Option.some.inj h;rw[ha]at hx;by_cases htl:t<FZ
   ·obtain⟨x',e,hv⟩:=hx.iface_of htl;refine dK.same hr (v':=ρ' x) ?_ hx;simp[execOp,ho,e]
   ·obtain rfl:t=FZ:=Nat.le_antisymm ht (Nat.not_lt.1 htl);obtain⟨a,e⟩:=hx.ifaceFZ;refine dK.same hr (v':=ρ' x) ?_ hx;simp[execOp,ho,e]
  ·cases h
 ·cases h
theorem QH(hr:Rel P K β st w){ρ ρ':Operand->Value}(hρ:∀ x,VR β (ρ x) (ρ' x)){o:Oper}{out:Out}{op:UnOp}{t:TypeId}{x:Operand}(ho:o.op = .unOp op t x)(h:aY P ρ o st=some out) :
  dK P K β st w ((execOp ρ' o).run P w) out:=by
 simp only[aY,ho]at h;split at h
 ·rename_i hfl;split at h
  ·rename_i v hv;split at h
   ·rename_i hfv;obtain rfl:=Option.some.inj h;have hx:=VR.of_flat _ _ hfl (hρ x);refine dK.same hr ?_ (VR.flat_refl v hfv);simp only[execOp,ho];refine eQ ?_;rw[hx]; exact kM _ _ _ hv
   ·cases h
  ·cases h
 ·cases h
theorem yQ(hr:Rel P K β st w){ρ ρ':Operand->Value}(hρ:∀ x,VR β (ρ x) (ρ' x)){o:Oper}{out:Out}{t:TypeId}{x:Operand}(ho:o.op = .makeInterface t x)(h:aY P ρ o st=some out) :
  dK P K β st w ((execOp ρ' o).run P w) out:=by
 simp only[aY,ho]at h;split at h
 ·cases h
 ·rename_i d hni hu;split at h
  case isFalse=>cases h
  rename_i ht;obtain rfl:=Option.some.inj h;refine dK.same hr (v':= .iface t (ρ' x)) ?_ ((hρ x).iface_mk ht);simp only[execOp,ho];refine eQ ?_;cases d<;>first | (simp[Instr.makeInterface,run_underlying hu]; done) | exact absurd rfl (hni _)
 ·cases h
theorem VRA.map{ρ ρ':Operand->Value}(hρ:∀ x,VR β (ρ x) (ρ' x))(a:Array Operand):VRA β (a.map ρ) (a.map ρ'):=by
 rw[jy];simp only[Array.toList_map];exact VRL.map _ _ _ fun x _=>hρ x
theorem Gh(hr:Rel P K β st w){ρ ρ':Operand->Value}(hρ:∀ x,VR β (ρ x) (ρ' x)){o:Oper}{out:Out}{fn:Fn}{a b:Array Operand}(ho:o.op = .makeFunc fn a b)(h:aY P ρ o st=some out) :
  dK P K β st w ((execOp ρ' o).run P w) out:=by
 simp only[aY,ho]at h;split at h
 case isFalse=>cases h
 rename_i hfn;obtain rfl:=Option.some.inj h;refine dK.same hr (v':= .func fn (a.map ρ') (b.map ρ')) ?_ ⟨_,_,_,rfl,?_,VRA.map hρ a,VRA.map hρ b⟩
 ·simp[execOp,ho,Instr.makeFunc]
 ·cases fn<;>simp_all [FnR,sU]
theorem IL(hr:Rel P K β st w){ρ ρ':Operand->Value}(hρ:∀ x,VR β (ρ x) (ρ' x)){o:Oper}{out:Out}{t:Operand}{i:Nat}(ho:o.op = .extract t i)(h:aY P ρ o st=some out) :
  dK P K β st w ((execOp ρ' o).run P w) out:=by
 simp only[aY,ho]at h;have hx:=hρ t;split at h
 ·rename_i vs hvs;rw[hvs]at hx;obtain⟨vs',e,hvr⟩:=hx;split at h
  ·rename_i v hv;obtain rfl:=Option.some.inj h;obtain⟨v',h1,h2⟩:=(jy.1 hvr).get (i:=i) (v:=v) (by simpa using hv);have h1':vs'[i]? = some v':=by simpa using h1
   refine dK.same hr ?_ h2;simp only[execOp,ho];refine eQ ?_;simp[Instr.extract,e,h1']
  ·cases h
 ·cases h
end
section
variable{P:Program}{K:Prot}{β:Env}{st:St}{w:World}
theorem Ey(off:Nat):∀ (vs vs':List Value) (k:Nat) (cs cs':Array Value),VRL β vs vs'->VRL β cs.toList cs'.toList->
  VRL β ((vs.zipIdx k).foldl (fun cs (x:Value×Nat)=>cs.setIfInBounds (off+x.2) x.1) cs).toList ((vs'.zipIdx k).foldl (fun cs (x:Value×Nat)=>cs.setIfInBounds (off+x.2) x.1) cs').toList
 |[],vs',k,cs,cs',h,hc=>by simp only[VRL]at h; subst h; simpa using hc
 |v::vs,_,k,cs,cs',h,hc=>by
  simp only[VRL]at h;obtain⟨v',vs',rfl,hv,hvs⟩:=h;simp only[List.zipIdx_cons,List.foldl_cons];refine Ey off vs vs' (k+1) _ _ hvs ?_;obtain⟨hl,hi⟩:=jH.1 hc;refine jH.2 ⟨by simp[Array.toList_setIfInBounds,hl],fun i x x' hx hx'=>?_⟩;rw[Array.toList_setIfInBounds]at hx hx';rw[List.getElem?_set]at hx hx';split at hx
  ·rename_i e;rw[if_pos e]at hx';split at hx
   ·simp at hx;split at hx'
    ·simp at hx'; subst hx hx'; exact hv
    ·cases hx'
   ·cases hx
  ·rename_i e;rw[if_neg e]at hx';exact hi i x x' hx hx'
theorem u_(places:Nat->Option (Nat×Nat)){ρ ρ':Operand->Value}(hρ:∀ x,VR β (ρ x) (ρ' x)):∀ (parts:List (Nat×Operand)) (z z' c:Array Value),VRL β z.toList z'.toList->
  (∀ p∈parts,lI (ρ p.2)=false)->Instr.fill places z (parts.map fun p=>(p.1,ρ p.2))=some c->∃ c',Instr.fill places z' (parts.map fun p=>(p.1,ρ' p.2))=some c'/\VRL β c.toList c'.toList
 |[],z,z',c,hz,_,h=>by
  simp only[List.map_nil,Instr.fill,Option.some.injEq]at h;subst h;exact⟨z',rfl,hz⟩
 |p::parts,z,z',c,hz,hp,h=>by
  simp only[List.map_cons,Instr.fill]at h ⊢;cases hpl:places p.1 with
  |none=>simp[hpl]at h
  |some os=>
   obtain⟨off,size⟩:=os;simp only[hpl]at h ⊢;have hc:=(hρ p.2).cells (hp p (by simp));have hl:=hc.length;have hzl:=hz.length;simp only[Array.length_toList]at hl hzl;rw[<-hl,<-hzl];split at h
   ·cases h
   ·rename_i hcond;rw[if_neg hcond];rw[<-Array.foldl_toList,Array.toList_zipIdx]at h ⊢;refine u_ places hρ parts _ _ c (Ey off _ _ 0 _ _ hc hz) (fun q hq=>hp q (by simp[hq])) ?_;exact h
theorem Ur{t:TypeId}{z:Value}(hz:jV P t=some z){ρ ρ':Operand->Value}(hρ:∀ x,VR β (ρ x) (ρ' x)){parts:List (Nat×Operand)}(hp:∀ p∈parts,lI (ρ p.2)=false){c:Array Value}
  (h:P.built t (parts.map fun p=>(p.1,ρ p.2))=some c):∃ c',P.built t (parts.map fun p=>(p.1,ρ' p.2))=some c'/\VRA β c c':=by
 obtain⟨i,hi,hzz,hfl⟩:=iL hz;have hzc:VRL β z.cells.toList z.cells.toList:=VR.cells (VR.flat_refl z hfl) (by cases z<;>first | rfl | simp[flat]at hfl | (rename_i c; cases c<;>first | rfl | simp[flat]at hfl));unfold Program.built at h ⊢;simp only[hi,hzz]at h ⊢;cases hu:P.underlying t with
 |none=>simp[hu]at h
 |some d=>
  cases d<;>simp only[hu]at h ⊢<;>try (cases h; done)
  ·rename_i n e;cases hie:P.info? e with
   |none=>simp[hie]at h
   |some ie=>
    simp only[hie,hzz]at h ⊢;obtain⟨c',h1,h2⟩:=u_ _ hρ parts _ _ c hzc hp h;exact⟨c',h1,jy.2 h2⟩
  ·rename_i fields;cases hm:fields.toList.mapM (fun f=>(P.info? f.type).map fun i=>(f.offset,i.size))with
   |none=>simp[hm]at h
   |some places=>
    simp only[hm,hzz]at h ⊢;obtain⟨c',h1,h2⟩:=u_ _ hρ parts _ _ c hzc hp h;exact⟨c',h1,jy.2 h2⟩
theorem Ai{ρ:Operand->Value}{parts:List (Nat×Operand)}(h:parts.any (fun p=>lI (ρ p.2))=false):∀ p∈parts,lI (ρ p.2)=false:=by
 intro p hp;have:=List.any_eq_false.1 h p hp;simpa using this
theorem L9(hr:Rel P K β st w){ρ ρ':Operand->Value}(hρ:∀ x,VR β (ρ x) (ρ' x)){o:Oper}{out:Out}{t:TypeId}{parts:Array (Nat×Operand)}(ho:o.op = .build t parts)(h:aY P ρ o st=some out) :
  dK P K β st w ((execOp ρ' o).run P w) out:=by
 simp only[aY,ho]at h;split at h
 ·rename_i z hz;split at h
  ·cases h
  ·rename_i hany;split at h
   ·rename_i c hc;obtain rfl:=Option.some.inj h;obtain⟨c',h1,h2⟩:=Ur hz hρ (Ai (by simpa using hany)) hc;refine dK.same hr (v':= .agg c') ?_ ⟨c',rfl,h2⟩;simp only[execOp,ho];refine eQ (run_build w t _ c' ?_);rw[<-h1]; congr 1; simp
   ·cases h
 ·cases h
theorem D6(hr:Rel P K β st w){ρ ρ':Operand->Value}(hρ:∀ x,VR β (ρ x) (ρ' x)){o:Oper}{out:Out}{t:TypeId}{len:Nat}{parts:Array (Nat×Operand)}(ho:o.op = .buildSlice t len parts)(h:aY P ρ o st=some out) :
  dK P K β st w ((execOp ρ' o).run P w) out:=by
 simp only[aY,ho]at h;split at h
 ·rename_i e hu;split at h
  ·rename_i ie z hie hz;obtain⟨i,hi,hzz,hfl⟩:=iL hz;obtain rfl:i=ie:=by rw[hi]at hie; exact Option.some.inj hie
   have hzc:VRL β z.cells.toList z.cells.toList:=VR.cells (VR.flat_refl z hfl) (by cases z<;>first | rfl | simp[flat]at hfl | (rename_i c; cases c<;>first | rfl | simp[flat]at hfl));split at h
   ·cases h
   ·rename_i hc;simp only[Bool.or_eq_true,decide_eq_true_eq,not_or,Bool.not_eq_true]at hc;obtain⟨⟨⟨hc1,hc2⟩,hc3⟩,hc4⟩:=hc;split at h
    ·rename_i h0;split at h
     ·rename_i hemp;obtain rfl:=Option.some.inj h;obtain⟨h1,h2,h3,h4⟩:=hr.newRow VRL.nil e true [] (fun _=>rfl) (fun h=>by cases h);refine⟨_,_, .slice (some ⟨w.heap.size,0,none⟩) 0 0,?_,h3,h1,?_,h4⟩
      ·simp only[execOp,ho];refine eQ ?_;have hpe:parts=#[]:=by simpa using hemp
       subst h0 hpe;simp[Instr.buildSlice,run_underlying hu,fZ hi,Instr.fill,Go.newRow];congr 2;apply Array.ext<;>simp
      ·rw[h2]; refine⟨rfl,_,d_ _ _ _,?_⟩; simp[dW,unk]
     ·cases h
    ·rename_i h0;split at h
     ·rename_i c hfill;obtain rfl:=Option.some.inj h;have hz0:VRL β ((Array.range (len*i.size)).map (z.cells[· % z.cells.size]!)).toList ((Array.range (len*i.size)).map (z.cells[· % z.cells.size]!)).toList:=by
       simp only[Array.toList_map];refine VRL.map _ _ _ fun j _=>?_;have hpos:0<z.cells.size:=by omega
       have hlt:j % z.cells.size<z.cells.size:=Nat.mod_lt _ hpos;have hg:z.cells.toList[j % z.cells.size]? = some (z.cells[j % z.cells.size]!):=by
        rw[Array.getElem?_toList,getElem!_pos z.cells _ hlt]; exact Array.getElem?_eq_getElem hlt
       exact(jH.1 hzc).2 _ _ _ hg hg
      obtain⟨c',h1,h2⟩:=u_ _ hρ parts.toList _ _ c hz0 (Ai (by simpa using hc4)) hfill;obtain⟨g1,g2,g3,g4⟩:=hr.newRow h2 e true [] (fun _=>rfl) (fun h=>by cases h);simp only[List.append_nil]at g1 g4;refine⟨_,_, .slice (some ⟨w.heap.size,0,none⟩) len len,?_,g3,g1,?_,g4⟩
      ·simp only[execOp,ho];refine eQ ?_;exact run_buildSlice w t e len _ c' i z hu hi hzz (by omega) (by rw[Nat.mul_eq_zero]; omega) (by rw[<-h1]; congr 1; simp)
      ·rw[g2]; refine⟨rfl,_,d_ _ _ _,?_⟩;have:len<unk:=by
        have hlen:len<=len*i.size:=Nat.le_mul_of_pos_right _ (by omega);unfold unk; omega
       simp[dW,this]
     ·cases h
  ·cases h
 ·cases h
theorem vw{t:TypeId}{i:Nat}{f:Field}{n:Nat}(h:r_ P t i=some (f,n)):∃ fs fi,P.underlying t=some (.struct fs)/\fs[i]? = some f/\P.info? f.type=some fi/\fi.size=n:=by
 unfold r_ at h;split at h
 ·rename_i fs hu;split at h
  ·rename_i f' hf;split at h
   ·rename_i fi hfi;simp at h;obtain⟨rfl,rfl⟩:=h;exact⟨fs,fi,hu,hf,hfi,rfl⟩
   ·cases h
  ·cases h
 ·cases h
theorem FK(hr:Rel P K β st w){ρ ρ':Operand->Value}(hρ:∀ x,VR β (ρ x) (ρ' x)){o:Oper}{out:Out}{t:TypeId}{x:Operand}{i:Nat}(ho:o.op = .fieldAddr t x i)(h:aY P ρ o st=some out) :
  dK P K β st w ((execOp ρ' o).run P w) out:=by
 simp only[aY,ho]at h;have hx:=hρ x;split at h
 ·rename_i f n a hf ha;split at h
  ·cases h
  ·rename_i hn;obtain rfl:=Option.some.inj h;rw[ha]at hx;obtain⟨hs,l,hl,e⟩:=hx.ptr';obtain⟨fs,fi,hu,hfs,hfi,hsz⟩:=vw hf;refine dK.same hr (v':= .pointer (some ((⟨l.blk,l.base+a.off,none⟩:Addr).add f.offset))) ?_ ⟨qi _ _ hs,l,by rw[add_block]; exact hl,by rw[jm,pz,Nat.add_assoc]⟩;simp only[execOp,ho];refine eQ ?_;have hn':¬fi.size=0:=by rw[hsz]; exact hn
   simp[Instr.fieldAt,run_underlying hu,hfs,e,Instr.sureAddr,fieldPlace,fZ hfi,hn']
 ·rename_i p f n hf hnp;split at h
  ·rename_i a c hfp;split at h
   ·cases h
   ·rename_i hn;obtain rfl:=Option.some.inj h;obtain⟨k,o0,cs,e0,f0,l,h1,h2,h3,h4,h5⟩:=DN hfp hx;obtain⟨fs,fi,hu,hfs,hfi,hsz⟩:=vw hf;refine dK.same hr (v':= .pointer (some ((⟨k,o0+a,none⟩:Addr).add f.offset))) ?_ ?_
    ·simp only[execOp,ho];refine eQ ?_;have hn':¬fi.size=0:=by rw[hsz]; exact hn
     simp[Instr.fieldAt,run_underlying hu,hfs,h1,Instr.sureAddr,fieldPlace,fZ hfi,hn']
    ·rw[jm,Nat.add_assoc];exact QT h2 h3 h4 h5
  ·cases h
 ·cases h
theorem Ep{t:TypeId}{cs:List Value}{cs':Array Value}{off:Nat}{v:Value}(h:partOf P t cs off=some v)(hc:VRL β cs cs'.toList)(w:World) :
  ∃ v',(part t cs' off).run P w = .ok v' w/\VR β v v':=by
 unfold partOf at h;split at h
 ·rename_i d i hu hi;split at h
  ·rename_i hagg;split at h
   ·rename_i hle;obtain rfl:=Option.some.inj h;refine⟨.agg (cs'.extract off (off+i.size)),?_,⟨_,rfl,?_⟩⟩
    ·simp[part,qA hu,hagg,fZ hi]
    ·rw[jy];simp only[Array.toList_extract,List.extract_eq_take_drop];have:off+i.size-off=i.size:=by omega
     rw[this];exact(hc.drop off).take _
   ·cases h
  ·rename_i hagg;have hagg':kD P t=false:=by simpa using hagg
   obtain⟨v',h1,h2⟩:=hc.get h;refine⟨v',?_,h2⟩;have h1':cs'[off]? = some v':=by simpa using h1
   simp[part,qA hu,hagg',h1']
 ·cases h
theorem Nc(hr:Rel P K β st w){ρ ρ':Operand->Value}(hρ:∀ x,VR β (ρ x) (ρ' x)){o:Oper}{out:Out}{t:TypeId}{x:Operand}{i:Nat}(ho:o.op = .field t x i)(h:aY P ρ o st=some out) :
  dK P K β st w ((execOp ρ' o).run P w) out:=by
 simp only[aY,ho]at h;have hx:=hρ x;split at h
 ·rename_i f n cs hf ha;rw[ha]at hx;obtain⟨cs',e,hcs⟩:=hx;obtain⟨fs,fi,hu,hfs,hfi,hsz⟩:=vw hf;split at h
  ·rename_i v hv;obtain rfl:=Option.some.inj h;obtain⟨v',h1,h2⟩:=Ep hv (jy.1 hcs) w;refine dK.same hr ?_ h2;simp only[execOp,ho];refine eQ ?_;simp[Instr.field,run_underlying hu,hfs,e,asAgg,h1]
  ·cases h
 ·cases h
theorem EF(hr:Rel P K β st w){ρ ρ':Operand->Value}(hρ:∀ x,VR β (ρ x) (ρ' x)){o:Oper}{out:Out}{t:TypeId}{x ix:Operand}(ho:o.op = .indexAddr t x ix)(h:aY P ρ o st=some out) :
  dK P K β st w ((execOp ρ' o).run P w) out:=by
 simp only[aY,ho]at h;have hx:=hρ x;have hix:=hρ ix;split at h
 ·rename_i e a len cap k i hu ha hi;rw[ha]at hx;rw[hi]at hix;have hix:=hix.int';split at h
  ·rename_i n hn;split at h
   ·rename_i hb;obtain rfl:=Option.some.inj h;obtain⟨ie,hie,rfl⟩:∃ ie,P.info? e=some ie/\ie.size=n:=by
     unfold jh at hn; cases hie:P.info? e with
     |none=>simp[hie]at hn
     |some ie=>simp[hie]at hn; exact⟨ie,rfl,hn⟩
    obtain⟨hs,l,hl,hsl⟩:=hx;have hsl':∃ c',ρ' x = .slice (some ⟨l.blk,l.base+a.off,none⟩) len c':=by
     unfold dW at hsl;split at hsl
     ·exact absurd hsl.1 (by omega)
     split at hsl
     ·exact⟨_,hsl⟩
     ·split at hsl
      ·exact⟨_,hsl.1⟩
      ·exact absurd hsl.1 (by omega)
    obtain⟨c',hx'⟩:=hsl';refine dK.same hr (v':= .pointer (some ((⟨l.blk,l.base+a.off,none⟩:Addr).add (i.toNat*ie.size)))) ?_ ⟨qi _ _ hs,l,by rw[add_block]; exact hl,by rw[jm,pz,Nat.add_assoc]⟩;simp only[execOp,ho];refine eQ ?_;simp[Instr.indexAt,hix,asIntOf,run_underlying hu,hx',hb.1,hb.2,fZ hie]
   ·cases h
  ·cases h
 ·rename_i len e a k i hu ha hi;rw[ha]at hx;rw[hi]at hix;have hix:=hix.int';split at h
  ·rename_i n hn;split at h
   ·rename_i hb;obtain rfl:=Option.some.inj h;obtain⟨ie,hie,rfl⟩:∃ ie,P.info? e=some ie/\ie.size=n:=by
     unfold jh at hn; cases hie:P.info? e with
     |none=>simp[hie]at hn
     |some ie=>simp[hie]at hn; exact⟨ie,rfl,hn⟩
    obtain⟨hs,l,hl,hx'⟩:=hx.ptr';refine dK.same hr (v':= .pointer (some ((⟨l.blk,l.base+a.off,none⟩:Addr).add (i.toNat*ie.size)))) ?_ ⟨qi _ _ hs,l,by rw[add_block]; exact hl,by rw[jm,pz,Nat.add_assoc]⟩;simp only[execOp,ho];refine eQ ?_;simp[Instr.indexAt,hix,asIntOf,run_underlying hu,hx',Instr.sureAddr,hb.1,hb.2,fZ hie]
   ·cases h
  ·cases h
 ·rename_i x0 e k i hu hi hns;rw[hi]at hix;have hix:=hix.int';split at h
  ·rename_i z n hz hn;split at h
   ·rename_i hb;obtain⟨hb1,hb2,hb3⟩:=hb;obtain rfl:=Option.some.inj h;obtain⟨ie,hie,rfl⟩:∃ ie,P.info? e=some ie/\ie.size=n:=by
     unfold jh at hn; cases hie:P.info? e with
     |none=>simp[hie]at hn
     |some ie=>simp[hie]at hn; exact⟨ie,rfl,hn⟩
    obtain⟨hs0,r⟩:=qo hz hx;unfold iU at r;rw[if_neg hs0]at r;obtain⟨r0,⟨r1,_⟩ | ⟨r1,_⟩ | ⟨_,k0,o0,cap,cs,e0,f0,l,r2,r3,r4,r5,r6,r7,_⟩⟩:=r
    ·omega
    ·omega
    refine dK.same hr (v':= .pointer (some ((⟨k0,o0,none⟩:Addr).add (i.toNat*ie.size)))) ?_ ?_
    ·simp only[execOp,ho];refine eQ ?_;simp[Instr.indexAt,hix,asIntOf,run_underlying hu,r2,hb2,hb3,fZ hie]
    ·rw[jm];exact QT r4 r5 r6 r7
   ·cases h
  ·cases h
 ·cases h
theorem Nh(hr:Rel P K β st w){ρ ρ':Operand->Value}(hρ:∀ x,VR β (ρ x) (ρ' x)){o:Oper}{out:Out}{t:TypeId}{x ix:Operand}(ho:o.op = .index t x ix)(h:aY P ρ o st=some out) :
  dK P K β st w ((execOp ρ' o).run P w) out:=by
 simp only[aY,ho]at h;have hx:=hρ x;have hix:=hρ ix;split at h
 ·rename_i len e cs k i hu ha hi;rw[ha]at hx;rw[hi]at hix;have hix:=hix.int';obtain⟨cs',hx',hcs⟩:=hx;split at h
  ·rename_i n hn;split at h
   ·rename_i hb;obtain⟨ie,hie,rfl⟩:∃ ie,P.info? e=some ie/\ie.size=n:=by
     unfold jh at hn; cases hie:P.info? e with
     |none=>simp[hie]at hn
     |some ie=>simp[hie]at hn; exact⟨ie,rfl,hn⟩
    split at h
    ·rename_i v hv;obtain rfl:=Option.some.inj h;obtain⟨v',h1,h2⟩:=Ep hv (jy.1 hcs) w;refine dK.same hr ?_ h2;simp only[execOp,ho];refine eQ ?_;simp[Instr.index,hix,asIntOf,run_underlying hu,hx',hb.1,hb.2,fZ hie,h1]
    ·cases h
   ·cases h
  ·cases h
 ·rename_i s k i hu ha hi;rw[ha]at hx;rw[hi]at hix;have hix:=hix.int';have hx:=hx.string';split at h
  ·rename_i h0;split at h
   ·rename_i b hb;obtain rfl:=Option.some.inj h;refine dK.same hr (v':= .int .u8 b.toNat) ?_ rfl;simp only[execOp,ho];refine eQ ?_;simp[Instr.index,hix,asIntOf,run_underlying hu,hx,h0,hb]
   ·cases h
  ·cases h
 ·cases h
end
section
variable{P:Program}{K:Prot}{β:Env}{st:St}{w:World}
theorem dW.form{l:Loc}{off n c:Nat}{v:Value}(h:dW l off n c v):(n=0/\off=0/\l.virt=true/\v = .slice none 0 0)\/∃ a c',v = .slice (some a) n c'/\(n≠0->a=⟨l.blk,l.base+off,none⟩):=by
 unfold dW at h;split at h
 ·exact Or.inl ⟨h.1,h.2.1,‹_›,h.2.2.2⟩
 refine Or.inr ?_;split at h
 ·exact⟨_,_,h,fun _=>rfl⟩
 ·split at h
  ·exact⟨_,_,h.1,fun _=>rfl⟩
  ·obtain⟨h0,_,_,e⟩:=h;subst h0;split at e
   ·exact⟨_,_,e,fun h=>absurd rfl h⟩
   ·exact⟨_,_,e,fun h=>absurd rfl h⟩
theorem lG{t:TypeId}{x y:Value}{b:Bool}{w:World}(h:∀ d,(Op.equalIn (d+1) t x y).run P w = .ok b w):(Op.equal t x y).run P w = .ok b w:=h 9999
theorem Iy{t:TypeId}{x y x' y':Value}{b:Bool}(h:BB P t x y=some b)(hx:VR β x x')(hy:VR β y y')(w:World) :
  (Op.equal t x' y').run P w = .ok b w/\(∀ (op:BinOp) (ox oy:Operand),(eqGuard op t ox oy x' y').run P w = .ok () w)/\
  binOp .eql t x' y'=(do pure (.bool (<-Op.equal t x' y')))/\binOp .neq t x' y'=(do pure (.bool (!(<-Op.equal t x' y')))):=by
 unfold BB at h;split at h
 ·rename_i e b' hu;simp at h; subst h;have hx:x' = .pointer none:=hx;subst hx;cases b' with
  |none=>have hy:y' = .pointer none:=hy; subst hy; refine⟨lG fun d=>by simp[Op.equalIn,run_underlying hu],fun op _ _=>by cases op<;>simp[eqGuard],rfl,rfl⟩
  |some a=>obtain⟨_,l,_,hy⟩:=hy.ptr'; subst hy; refine⟨lG fun d=>by simp[Op.equalIn,run_underlying hu],fun op _ _=>by cases op<;>simp[eqGuard],rfl,rfl⟩
 ·rename_i e a hu;simp at h; subst h;obtain⟨_,l,_,hx⟩:=hx.ptr';have hy:y' = .pointer none:=hy;subst hx hy;refine⟨lG fun d=>by simp[Op.equalIn,run_underlying hu],fun op _ _=>by cases op<;>simp[eqGuard],rfl,rfl⟩
 ·rename_i e n c n' c' hu;simp at h; subst h;have hx:x' = .slice none n c:=hx;have hy:y' = .slice none n' c':=hy;subst hx hy;refine⟨lG fun d=>by simp[Op.equalIn,run_underlying hu],fun op _ _=>by cases op<;>simp[eqGuard],rfl,rfl⟩
 ·rename_i e n c a n' c' hu;split at h
  ·cases h
  ·rename_i hn;simp at h; subst h;have hx:x' = .slice none n c:=hx;obtain⟨_,l,_,hy⟩:=hy;obtain hy | ⟨a',c'',hy,_⟩:=hy.form
   ·exact absurd hy.1 hn
   subst hx hy;refine⟨lG fun d=>by simp[Op.equalIn,run_underlying hu],fun op _ _=>by cases op<;>simp[eqGuard],rfl,rfl⟩
 ·rename_i e a n c n' c' hu;split at h
  ·cases h
  ·rename_i hn;simp at h; subst h;obtain⟨_,l,_,hx⟩:=hx;obtain hx | ⟨a',c'',hx,_⟩:=hx.form
   ·exact absurd hx.1 hn
   have hy:y' = .slice none n' c':=hy;subst hx hy;refine⟨lG fun d=>by simp[Op.equalIn,run_underlying hu],fun op _ _=>by cases op<;>simp[eqGuard],rfl,rfl⟩
 ·rename_i k e b' hu;simp at h; subst h;have hx:x' = .map none:=hx;subst hx;cases b' with
  |none=>have hy:y' = .map none:=hy; subst hy; refine⟨lG fun d=>by simp[Op.equalIn,run_underlying hu],fun op _ _=>by cases op<;>simp[eqGuard],rfl,rfl⟩
  |some a=>obtain⟨l,_,hy⟩:=hy; subst hy; refine⟨lG fun d=>by simp[Op.equalIn,run_underlying hu],fun op _ _=>by cases op<;>simp[eqGuard],rfl,rfl⟩
 ·rename_i k e a hu;simp at h; subst h;obtain⟨l,_,hx⟩:=hx;have hy:y' = .map none:=hy;subst hx hy;refine⟨lG fun d=>by simp[Op.equalIn,run_underlying hu],fun op _ _=>by cases op<;>simp[eqGuard],rfl,rfl⟩
 ·rename_i p r v f a b' hu;simp at h; subst h;have hx:x' = .nilFunc:=hx;obtain⟨f',a',b'',hy,_⟩:=hy;subst hx hy;refine⟨lG fun d=>by simp[Op.equalIn,run_underlying hu],fun op _ _=>by cases op<;>simp[eqGuard],rfl,rfl⟩
 ·rename_i p r v f a b' hu;simp at h; subst h;have hy:y' = .nilFunc:=hy;obtain⟨f',a',b'',hx,_⟩:=hx;subst hx hy;refine⟨lG fun d=>by simp[Op.equalIn,run_underlying hu],fun op _ _=>by cases op<;>simp[eqGuard],rfl,rfl⟩
 ·rename_i ms t' v' hu;split at h
  case isFalse=>cases h
  rename_i ht;simp at h; subst h;have hx:x' = .nilIface:=hx;obtain⟨z,hy,_⟩:=hy.iface_of ht;subst hx hy;refine⟨lG fun d=>by simp[Op.equalIn,run_underlying hu],fun op _ _=>by cases op<;>simp[eqGuard],rfl,rfl⟩
 ·rename_i ms t' v' hu;split at h
  case isFalse=>cases h
  rename_i ht;simp at h; subst h;have hy:y' = .nilIface:=hy;obtain⟨z,hx,_⟩:=hx.iface_of ht;subst hx hy;refine⟨lG fun d=>by simp[Op.equalIn,run_underlying hu],fun op _ _=>by cases op<;>simp[eqGuard],rfl,rfl⟩
 ·rename_i e hu _ _;split at h
  ·rename_i z hz;simp at h; subst h;obtain⟨a,c⟩:=z;obtain⟨k,o,cs,e',f,l,hx,_⟩:=DN hz hx;have hy:y' = .pointer none:=hy;subst hx hy;refine⟨lG fun d=>by simp[Op.equalIn,run_underlying hu],fun op _ _=>by cases op<;>simp[eqGuard],rfl,rfl⟩
  ·cases h
 ·rename_i e n' c' hu _ _;split at h
  ·rename_i z hz;split at h
   ·cases h
   ·rename_i hn;simp at h; subst h;obtain⟨hs,r⟩:=qo hz hx;unfold iU at r;rw[if_neg hs]at r;obtain⟨_,⟨r0,_⟩ | ⟨r0,_⟩ | ⟨_,k,o,cap,cs,e',f,l,hx,_⟩⟩:=r
    ·exact absurd r0 hn
    ·exact absurd r0 hn
    have hy:y' = .slice none n' c':=hy;subst hx hy;refine⟨lG fun d=>by simp[Op.equalIn,run_underlying hu],fun op _ _=>by cases op<;>simp[eqGuard],rfl,rfl⟩
  ·cases h
 ·cases h
theorem Nr(hr:Rel P K β st w){ρ ρ':Operand->Value}(hρ:∀ x,VR β (ρ x) (ρ' x)){o:Oper}{out:Out}{op:BinOp}{t t':TypeId}{x y:Operand}(ho:o.op = .binOp op t x y t')(h:aY P ρ o st=some out) :
  dK P K β st w ((execOp ρ' o).run P w) out:=by
 simp only[aY,ho]at h;split at h
 ·rename_i hfl;simp only[Bool.and_eq_true]at hfl;split at h
  ·rename_i v hv;split at h
   ·rename_i hfv;obtain rfl:=Option.some.inj h;have hx:=VR.of_flat _ _ hfl.1 (hρ x);have hy:=VR.of_flat _ _ hfl.2 (hρ y);refine dK.same hr ?_ (VR.flat_refl v hfv);simp only[execOp,ho];refine eQ ?_;rw[hx,hy]; exact kM _ _ _ hv
   ·cases h
  ·cases h
 ·split at h
  ·split at h
   ·rename_i b hb;obtain rfl:=Option.some.inj h;obtain⟨h1,h2,h3,h4⟩:=Iy hb (hρ x) (hρ y) w;refine dK.same hr (v':= .bool b) ?_ rfl;simp only[execOp,ho];refine eQ ?_;simp[h2,h3,h1]
   ·cases h
  ·split at h
   ·rename_i b hb;obtain rfl:=Option.some.inj h;obtain⟨h1,h2,h3,h4⟩:=Iy hb (hρ x) (hρ y) w;refine dK.same hr (v':= .bool !b) ?_ rfl;simp only[execOp,ho];refine eQ ?_;simp[h2,h4,h1]
   ·cases h
  ·cases h
theorem rC:∀ {c:List Value} {l:List UInt8},bytesOf c=some l->∃ ns:List Int,c=ns.map (Value.int .u8)/\l=ns.map fun n=>UInt8.ofNat n.toNat
 |[],l,h=>by simp[bytesOf]at h; subst h; exact⟨[],rfl,rfl⟩
 |v::c,l,h=>by
  unfold bytesOf at h;split at h
  ·rename_i e; cases e
  ·rename_i n l' e;cases e;split at h
   ·rename_i r hr;obtain rfl:=Option.some.inj h;obtain⟨ns,h1,h2⟩:=rC hr;exact⟨n::ns,by simp[h1],by simp[h2]⟩
   ·cases h
  ·cases h
theorem xG(ns:List Int):∀ (s:ByteArray),ns.foldl (fun r n=>r.push (UInt8.ofNat n.toNat)) s=⟨⟨s.data.toList++ns.map fun n=>UInt8.ofNat n.toNat⟩⟩:=by
 induction ns with
 |nil=>intro s; simp
 |cons n ns ih=>
  intro s;simp only[List.foldl_cons,ih,List.map_cons];congr 2;simp[ByteArray.push]
theorem VRL.ints{k:IntKind}:∀ {ns:List Int} {c:List Value},VRL β (ns.map (Value.int k)) c->c=ns.map (Value.int k)
 |[],c,h=>h
 |n::ns,c,h=>by
  simp only[List.map_cons,VRL]at h;obtain⟨y,ys,rfl,hy,hys⟩:=h;rw[hy.int',VRL.ints hys]; rfl
theorem tZ(s:ByteArray):VRL β (byteCells s) (byteCells s):=by
 unfold byteCells;exact VRL.map _ _ _ fun b _=>rfl
theorem t_(e:TypeId)(s:ByteArray)(w:World)(hs:s.size<=big):∃ (cap:Nat) (fz:Nat×Nat),(s.size<=cap/\cap<9223372036854775808)/\(fz.2<=fz.1\/cap<=fz.1)/\
  (Conv.stringToBytes e s).run P w = .ok (.slice (some ⟨w.heap.size,0,none⟩) s.size cap) (w.drew.alloc (.cells ⟨byteCells s++List.replicate (cap-s.size) (.int .u8 0)⟩ e fz)):=by
 have hb:s.size<=2^22:=hs;refine⟨(Question.appendCap s.size 0 e).cut (w.tape w.drawn (.appendCap s.size 0 e)),((Question.appendCap s.size 0 e).cut (w.tape w.drawn (.appendCap s.size 0 e)),(Question.appendCap s.size 0 e).cut (w.tape w.drawn (.appendCap s.size 0 e))+1),?_,Or.inr (Nat.le_refl _),?_⟩
 ·have:=Nat.mod_lt (w.tape w.drawn (.appendCap s.size 0 e)) (show 0<2^63-s.size by omega);simp only[Question.cut]; omega
 ·generalize hcap:(Question.appendCap s.size 0 e).cut (w.tape w.drawn (.appendCap s.size 0 e))=cap;have hle:s.size<=cap:=by rw[<-hcap]; simp[Question.cut]
  have hdata:(s.data.map fun b=>Value.int .u8 b.toNat)++Array.replicate (cap-s.size) (.int .u8 0)=⟨byteCells s++List.replicate (cap-s.size) (.int .u8 0)⟩:=by
   apply Array.ext';simp[byteCells]
  have hsz:(byteCells s++List.replicate (cap-s.size) (Value.int .u8 0)).length=cap:=by
   rw[List.length_append,byteCells_length,List.length_replicate]; omega
  have hsh:(w.drew.alloc (.cells ⟨byteCells s++List.replicate (cap-s.size) (.int .u8 0)⟩ e)).shape? w.heap.size=some (e,cap):=by
   have:=heap_alloc_new w.drew (.cells ⟨byteCells s++List.replicate (cap-s.size) (.int .u8 0)⟩ e);have h2:w.drew.heap.size=w.heap.size:=rfl;rw[h2]at this;unfold World.shape?;rw[this];simp[hsz]
  have hfr:(w.drew.alloc (.cells ⟨byteCells s++List.replicate (cap-s.size) (.int .u8 0)⟩ e)).freeze ⟨w.heap.size,cap,none⟩ 1=w.drew.alloc (.cells ⟨byteCells s++List.replicate (cap-s.size) (.int .u8 0)⟩ e (cap,cap+1)):=by
   unfold World.freeze World.alloc;simp only[Nat.one_ne_zero,if_false];congr 1;apply Array.ext';have h2:w.drew.heap=w.heap:=rfl;rw[h2];apply List.ext_getElem?;intro i;simp only[Array.getElem?_toList,Array.getElem?_modify,Array.getElem?_push];by_cases hi:w.heap.size=i
   ·subst hi;simp
   ·have hi':¬i=w.heap.size:=fun e=>hi e.symm;simp[hi,hi']
  have hnew:(Go.newRow e ⟨byteCells s++List.replicate (cap-s.size) (.int .u8 0)⟩).run P w.drew = .ok ⟨w.heap.size,0,none⟩ (w.drew.alloc (.cells ⟨byteCells s++List.replicate (cap-s.size) (.int .u8 0)⟩ e)):=by
   simp[Go.newRow]
  have hmark:(markStringish ⟨w.heap.size,0,none⟩).run P (w.drew.alloc (.cells ⟨byteCells s++List.replicate (cap-s.size) (.int .u8 0)⟩ e)) = .ok () (w.drew.alloc (.cells ⟨byteCells s++List.replicate (cap-s.size) (.int .u8 0)⟩ e (cap,cap+1))):=by
   rw[<-hfr];unfold markStringish;simp only[Sem.run_bind,run_shape,hsh,Result.andThen]
   rfl
  unfold Conv.stringToBytes;simp only[Sem.run_bind,run_choose_drew,Question.forced,hcap,Bool.false_eq_true,if_false,Result.andThen,hdata,hnew,hmark]
  rfl
end
section
variable{P:Program}{K:Prot}{β:Env}{st:St}{w:World}
theorem IA(hr:Rel P K β st w){ρ ρ':Operand->Value}(hρ:∀ x,VR β (ρ x) (ρ' x)){o:Oper}{out:Out}{s d:TypeId}{x:Operand}(ho:o.op = .convert s d x)(h:aY P ρ o st=some out) :
  dK P K β st w ((execOp ρ' o).run P w) out:=by
 simp only[aY,ho]at h;have hx:=hρ x;split at h
 ·rename_i e b n c hs hd ha;rw[ha]at hx;split at h
  ·rename_i he;split at h
   ·split at h
    ·rename_i hn;obtain rfl:=Option.some.inj h;have hx:ρ' x = .slice none n c:=hx;refine dK.same hr (v':= .string .empty) ?_ rfl;simp only[execOp,ho];refine eQ ?_;rw[hx,run_convert_bytes_string w s d e none n c hs he hd];simp[Conv.bytesToString]
    ·cases h
   ·rename_i a;split at h
    ·rename_i cs hcs;split at h
     ·rename_i l hl;obtain rfl:=Option.some.inj h;obtain⟨hsp,lo,hlo,hsl⟩:=hx;obtain⟨c2,h1,h2,h3,h4⟩:=hr.cellsAt hcs hlo;obtain⟨ns,hns,hln⟩:=rC hl;obtain⟨hn0,_,_,hx'⟩ | ⟨a',c',hx',ha'⟩:=hsl.form
      ·subst hns hln hn0;have hns0:ns=[]:=by simpa using h3
       subst hns0;refine dK.same hr (v':= .string .empty) ?_ rfl;simp only[execOp,ho];refine eQ ?_;rw[hx',run_convert_bytes_string w s d e none 0 0 hs he hd];simp[Conv.bytesToString]
      subst hns hln;have hc2:=h1.ints;subst hc2;refine dK.same hr (v':= .string ⟨⟨ns.map fun(n:Int)=>UInt8.ofNat n.toNat⟩⟩) ?_ rfl;simp only[execOp,ho];refine eQ ?_;rw[hx',run_convert_bytes_string w s d e _ n c' hs he hd,run_bytesToString w a' n c' ns ?_,xG]
      ·simp
      ·by_cases hn0:n=0
       ·subst hn0;have hns0:ns=[]:=by simpa using h2
        subst hns0;simp[loadCells,loadCellsFrom]
       ·rw[ha' hn0];exact nX _ _ n h2 h4
     ·cases h
    ·cases h
  ·cases h
 ·rename_i e t0 x0 hs hd ha;split at h
  ·rename_i he;split at h
   ·rename_i z hz;split at h
    ·rename_i hz1;split at h
     ·rename_i l hl;obtain rfl:=Option.some.inj h;rw[<-ha]at hz;obtain⟨hs0,r⟩:=qo hz hx;obtain⟨ns,hns,hln⟩:=rC hl;unfold iU at r;rw[if_neg hs0]at r;obtain⟨r0,r⟩:=r;rw[hz1,Nat.mul_one]at r0;have done:∀ (p:Option Addr) (cap:Nat),ρ' x = .slice p z.n cap->(Conv.bytesToString (.slice p z.n cap)).run P w = .ok (.string ⟨⟨l⟩⟩) w->dK P K β st w ((execOp ρ' o).run P w) (.val (.string ⟨⟨l⟩⟩) st):=by
       intro p cap hx' hrun;refine dK.same hr (v':= .string ⟨⟨l⟩⟩) ?_ rfl;simp only[execOp,ho];refine eQ ?_;rw[hx',run_convert_bytes_string w s d e p z.n cap hs he hd];exact hrun
      have empty:z.n=0->l=[]/\ns=[]:=by
       intro h0;have:ns=[]:=by rw[h0,hns]at r0; simpa using r0
       exact⟨by rw[hln,this]; rfl,this⟩
      obtain⟨r1,_,r2⟩ | ⟨r1,p,cap,r2,_⟩ | ⟨_,k0,o0,cap,cs,e0,f0,lo,r2,r3,r4,r5,r6,r7,_⟩:=r
      ·obtain⟨rfl,_⟩:=empty r1;refine done none 0 (by rw[r2,r1]) ?_;simp[Conv.bytesToString,r1]
       rfl
      ·obtain⟨e1,e2⟩:=empty r1;subst e1;refine done (some p) cap (by rw[r2,r1]) ?_;rw[run_bytesToString w p z.n cap [] (by rw[r1]; simp[loadCells,loadCellsFrom])]
       rfl
      ·refine done _ cap r2 ?_;obtain⟨c',g1,g2,g4⟩:=xe hr r4 r5 r6 (VRL.mono (Bh _) _ _ r7) (a:=0) (n:=z.n) (by omega);simp only[Nat.add_zero]at g4;have hg:c'=ns.map (Value.int .u8):=by
        rw[hns,List.drop_zero,List.take_of_length_le (by rw[<-hns]; omega)]at g1;exact g1.ints
       subst hg;rw[run_bytesToString w _ z.n cap ns (nX _ _ z.n g2 g4),xG,hln];simp
     ·cases h
    ·cases h
   ·cases h
  ·cases h
 ·rename_i ds e s' hsu hd ha;rw[ha]at hx;have hx:=hx.string';split at h
  ·rename_i he;split at h
   ·cases h
   ·rename_i hbig;simp only[Bool.or_eq_true,decide_eq_true_eq,not_or]at hbig;obtain rfl:=Option.some.inj h;obtain⟨cap,fz,⟨h1,h1b⟩,h2,h3⟩:=t_ (P:=P) e s' w (by omega);have hrow:Rel P K (β.put st.next ⟨w.heap.size,0,cap,esz P e,none,false⟩) (newRow st (byteCells s') e false).2 (w.drew.alloc (.cells ⟨byteCells s'++List.replicate (cap-s'.size) (.int .u8 0)⟩ e fz)):=by
     refine hr.drew.alloc (.cells ⟨byteCells s'++List.replicate (cap-s'.size) (.int .u8 0)⟩ e fz) (.cells (byteCells s') e false) rfl cap (esz P e) (Or.inr ⟨rfl,_,fz,rfl,rfl,?_,?_,fun hx=>(by cases hx),?_,?_,fun _=>by have:=hbig.2; show cap<9223372036854775808*esz P e; omega⟩)
     ·simp[byteCells_length]; omega
     ·rw[byteCells_length]; exact h1
     ·simp only[List.drop_zero];rw[List.take_left' rfl]; exact tZ s'
     ·simp[byteCells_length]; omega
    refine⟨_,_, .slice (some ⟨w.heap.size,0,none⟩) s'.size cap,?_,hr.le_put _,hrow,?_,?_⟩
    ·simp only[execOp,ho];refine eQ ?_;rw[hx];have:(convert s d (.string s')).run P w=(Conv.stringToBytes e s').run P w:=by
      cases ds<;>simp[convert,run_underlying hsu,run_underlying hd,run_underlying he]
     rw[this]; exact h3
    ·refine⟨rfl,_,d_ _ _ _,?_⟩;have he1:esz P e=1:=by have:=hbig.2; omega
     unfold dW;rw[if_neg (by simp),if_neg (by simp),if_pos rfl];refine⟨?_,Nat.zero_le _⟩;have e0:(newRow st (byteCells s') e false).fst=⟨st.next,0,none⟩:=rfl;simp[he1,e0]
    ·exact(Bel.refl _ _).drew.alloc hr.base _
  ·cases h
 ·rename_i v hv1 hv2;split at h
  ·rename_i hfl;split at h
   ·rename_i v' hv;split at h
    ·rename_i hfv;obtain rfl:=Option.some.inj h;have hx:=VR.of_flat _ _ hfl hx;refine dK.same hr ?_ (VR.flat_refl v' hfv);simp only[execOp,ho];refine eQ ?_;rw[hx]; exact kM _ _ _ hv
    ·cases h
   ·cases h
  ·cases h
end
section
variable{P:Program}{K:Prot}{β:Env}{st:St}{w:World}
theorem rq{e:TypeId}{n:Nat}(hn:jh P e=some n):∃ ie,P.info? e=some ie/\ie.size=n:=by
 unfold jh at hn;cases hie:P.info? e with
 |none=>simp[hie]at hn
 |some ie=>simp[hie]at hn; exact⟨ie,rfl,hn⟩
theorem iO{x x':Value}{y y' n:Nat}(h:jG x y=some n)(hx:VR β x x')(hy:y<=y')(code:BoundsCode)(w:World):(Instr.sliceBound x' y' code).run P w = .ok n w/\n<=y:=by
 unfold jG at h;split at h
 ·rename_i k i;split at h
  ·rename_i hi;obtain rfl:=Option.some.inj h;have hx:=hx.int';subst hx;refine⟨?_,by omega⟩;have h2:i<=(y':Int):=by omega
   simp[Instr.sliceBound,asIntOf,hi.1,h2]
  ·cases h
 ·cases h
def pJ(β:Env):Option Value->Option Value->Prop
 |none,y=>y=none
 |some x,y=>∃ x',y=some x'/\VR β x x'
theorem pJ.map{ρ ρ':Operand->Value}(hρ:∀ x,VR β (ρ x) (ρ' x))(o:Option Operand):pJ β (o.map ρ) (o.map ρ'):=by
 cases o with
 |none=>rfl
 |some x=>exact⟨_,rfl,hρ x⟩
def uT(mx:Option Value)(cap cap' m:Nat):Prop:=match mx with
 |none=>m=cap'
 |some v=>jG v cap=some m
def HiB(mx hi:Option Value)(cap len m h:Nat):Prop:=match hi with
 |none=>h=len/\mx=none
 |some v=>jG v (match mx with | none=>cap | some _=>m)=some h
theorem iD(isSlice:Bool){lo hi mx lo' hi' mx':Option Value}(hlo:pJ β lo lo')(hhi:pJ β hi hi')(hmx:pJ β mx mx'){len cap cap' m h l:Nat}
  (e1:uT mx cap cap' m) (hcap:cap<=cap')
  (e2:HiB mx hi cap len m h)
  (e3:cO lo h 0=some l) (w:World):(Instr.sliceBounds isSlice len cap' lo' hi' mx').run P w = .ok (l,h,m) w:=by
 have r3:∀ code,(match lo' with | some v=>Instr.sliceBound v h code | none=>pure 0).run P w = .ok l w:=by
  intro code;cases lo with
  |none=>have hlo:lo'=none:=hlo; subst hlo; simp[cO]at e3; subst e3; simp
  |some v=>obtain⟨v',rfl,hv⟩:=hlo; exact(iO e3 hv (Nat.le_refl _) code w).1
 cases mx with
 |none=>
  have hmx:mx'=none:=hmx;subst hmx;simp only[uT,HiB]at e1 e2;subst e1;cases hi with
  |none=>
   have hhi:hi'=none:=hhi;subst hhi;simp only at e2;obtain⟨rfl,_⟩:=e2;simp[Instr.sliceBounds];have:=r3 (.sliceB);cases lo'<;>simp_all
  |some v=>
   obtain⟨v',rfl,hv⟩:=hhi;simp only at e2;have:=iO (P:=P) e2 hv hcap (if isSlice then .sliceAcap else .sliceAlen) w;have r:=r3 (.sliceB);cases lo'<;>simp_all [Instr.sliceBounds]
 |some vm=>
  obtain⟨vm',rfl,hvm⟩:=hmx;simp only[uT,HiB]at e1 e2;have h1:=iO (P:=P) e1 hvm hcap (if isSlice then .slice3Acap else .slice3Alen) w;cases hi with
  |none=>simp at e2
  |some v=>
   obtain⟨v',rfl,hv⟩:=hhi;simp only at e2;have h2:=iO (P:=P) e2 hv (Nat.le_refl _) .slice3B w;have r:=r3 (.slice3C);cases lo'<;>simp_all [Instr.sliceBounds]
theorem Tc(hr:Rel P K β st w){a:Addr}{size r:Nat}(h:room P st a size=some r){l:Loc}(hl:β a.block=some l)(hv:l.virt=false) :
  size=l.esize/\size≠0/\a.off<=l.total/\r<=(l.total-a.off) / l.esize:=by
 unfold room at h;split at h
 ·rename_i c e x hg;split at h
  ·cases h
  ·rename_i hs;simp only[Bool.or_eq_true,decide_eq_true_eq,not_or,ne_eq,Decidable.not_not]at hs;split at h
   ·rename_i hle;obtain rfl:=Option.some.inj h;obtain⟨l',h1,⟨hv',_⟩ | ⟨_,h2,cc,f,h3,h4,h5,h6,h7,h8,h9⟩⟩:=hr.get_cells hg
    ·rw[h1]at hl; obtain rfl:=Option.some.inj hl; rw[hv]at hv'; cases hv'
    obtain rfl:l'=l:=by rw[h1]at hl; exact Option.some.inj hl
    refine⟨by rw[hs.2,h4],hs.1,by omega,?_⟩;rw[hs.2,h4];exact Nat.div_le_div_right (by omega)
   ·cases h
 ·cases h
theorem QM(hr:Rel P K β st w){t e:TypeId}{ie:TypeInfo}(hu:P.underlying t=some (.slice e))(hie:P.info? e=some ie){a:Addr}{len cap:Nat}{lo hi mx lo' hi' mx':Option Value}(hlo:pJ β lo lo')(hhi:pJ β hi hi')(hmx:pJ β mx mx')
  {v x':Value} (hx:VR β (.slice (some a) len cap) x') (h:qO P st ie.size a len cap lo hi mx=some v) :
  ∃ v',(Instr.sliceAt t x' lo' hi' mx').run P w = .ok v' w/\VR β v v':=by
 obtain⟨hs,l,hl,hsl⟩:=hx;have hslice:∀ y,(Instr.sliceAt t y lo' hi' mx').run P w=(Instr.slice t y lo' hi' mx').run P w:=by
  intro y; simp[Instr.sliceAt,run_underlying hu]
 have mk:∀ {a':Option Addr} {len' cap' l0 h0 m0:Nat},(Instr.sliceBounds true len' cap' lo' hi' mx').run P w = .ok (l0,h0,m0) w->
   (Instr.slice t (.slice a' len' cap') lo' hi' mx').run P w = .ok (.slice (if m0=l0 then a' else a'.map (·.add (l0*ie.size))) (h0-l0) (m0-l0)) w:=by
  intro a' len' cap' l0 h0 m0 hb;simp[Instr.slice,run_underlying hu,hb,fZ hie]
 cases hv:l.virt with
 |true=>
  unfold dW at hsl;rw[if_pos hv]at hsl;obtain⟨hn0,hoff0,hcap,hx'⟩:=hsl;subst hn0 hx';have zero:∀ {o o':Option Value} {n:Nat},pJ β o o'->cO o 0 0=some n->n=0:=by
   intro o o' n ho hn;cases o with
   |none=>simp[cO]at hn; exact hn.symm
   |some v=>obtain⟨v',_,hv⟩:=ho; have:=(iO (P:=P) hn hv (Nat.le_refl _) .index w).2; omega
  have fin:∀ {m h0 l0:Nat},uT mx 0 0 m->HiB mx hi 0 0 m h0->cO lo h0 0=some l0->m=0->(Instr.sliceAt t (.slice none 0 0) lo' hi' mx').run P w = .ok (.slice none 0 0) w/\h0=0/\l0=0:=by
   intro m h0 l0 e1 e2 e3 hm;subst hm;have h00:h0=0:=by
    unfold HiB at e2;cases hi with
    |none=>simp only at e2; exact e2.1
    |some v=>
     simp only at e2;obtain⟨v',_,hv⟩:=hhi;have:=(iO (P:=P) e2 hv (Nat.le_refl _) .index w).2;cases mx<;>simp at this<;>omega
   subst h00;have l00:l0=0:=zero hlo e3;subst l00;have hb:=iD (P:=P) true hlo hhi hmx e1 (Nat.le_refl _) e2 e3 w;exact⟨(hslice _).trans (by simpa using mk hb),rfl,rfl⟩
  have ans:∀ (c:Nat),(c=0\/c=unk)->VR β (.slice (some a) 0 c) (.slice none 0 0):=by
   intro c hc;refine⟨hs,l,hl,?_⟩;unfold dW;rw[if_pos hv];exact⟨rfl,hoff0,hc,rfl⟩
  unfold qO at h;rcases hcap with rfl | rfl
  ·rw[if_pos (by unfold unk; omega)]at h;split at h
   ·rename_i m hm;split at h
    ·rename_i hh hhh;split at h
     ·rename_i ll hll;obtain rfl:=Option.some.inj h;have hm0:=zero hmx hm;obtain⟨r1,r2,r3⟩:=fin (m:=m) (by cases mx<;>simp_all [uT,cO]) (by cases mx<;>cases hi<;>simp_all [HiB,cO]) hll hm0;subst hm0 r2 r3;exact⟨_,r1,by simpa using ans 0 (Or.inl rfl)⟩
     ·cases h
    ·cases h
   ·cases h
  ·rw[if_neg (Nat.lt_irrefl _),if_pos rfl]at h;split at h
   ·cases h
   ·rename_i r hroom;have hr0:r=0:=by
     unfold room at hroom;split at hroom
     ·rename_i c e' x hg;split at hroom
      ·cases hroom
      ·split at hroom
       ·obtain⟨l',q1,⟨_,q2,_⟩ | ⟨q2,_⟩⟩:=hr.get_cells hg
        ·subst q2; simp at hroom; exact hroom.symm
        ·rw[q1]at hl; obtain rfl:=Option.some.inj hl; rw[hv]at q2; cases q2
       ·cases hroom
     ·cases hroom
    subst hr0;split at h
    ·rename_i vm;split at h
     ·rename_i m hm;split at h
      ·rename_i vh;split at h
       ·rename_i hh hhh;split at h
        ·rename_i ll hll;split at h
         ·obtain rfl:=Option.some.inj h;have hm0:=zero (o:=some vm) hmx hm;obtain⟨r1,r2,r3⟩:=fin (m:=m) hm hhh hll hm0;subst hm0 r2 r3;exact⟨_,r1,by simpa using ans 0 (Or.inl rfl)⟩
         ·cases h
        ·cases h
       ·cases h
      ·cases h
     ·cases h
    ·split at h
     ·rename_i hh hhh;split at h
      ·rename_i ll hll;obtain⟨r1,r2,r3⟩:=fin (m:=0) rfl (by cases hi<;>simp_all [HiB,cO]) hll rfl;subst r2 r3;simp at h;subst h;exact⟨_,r1,ans unk (Or.inr rfl)⟩
      ·cases h
     ·cases h
 |false=>
 unfold qO at h;unfold dW at hsl;rw[if_neg (by simp[hv])]at hsl;split at h
 ·rename_i hc;rw[if_pos hc]at hsl;subst hsl;split at h
  ·rename_i m hm;split at h
   ·rename_i hh hhh;split at h
    ·rename_i ll hll;obtain rfl:=Option.some.inj h;have e1:uT mx cap cap m:=by
      cases mx with
      |none=>simp[cO]at hm; exact hm.symm
      |some v=>exact hm
     have e2:HiB mx hi cap len m hh:=by
      cases mx<;>cases hi<;>simp[cO,HiB]at hhh ⊢<;>first | exact hhh.symm | exact hhh
     have hb:=iD (P:=P) true hlo hhi hmx e1 (Nat.le_refl _) e2 hll w;have hml:m<=cap:=by
      cases mx with
      |none=>simp[uT]at e1; omega
      |some v=>
       simp only[uT]at e1;obtain⟨v',_,hv⟩:=hmx;exact(iO (P:=P) e1 hv (Nat.le_refl _) .index w).2
     refine⟨_,(hslice _).trans (mk hb),?_⟩;by_cases hmeq:m=ll
     ·subst hmeq;simp only[if_pos];refine⟨hs,l,hl,?_⟩;simp[dW,unk,hv]
     ·simp only[if_neg hmeq,Option.map_some];refine⟨qi _ _ hs,l,by rw[add_block]; exact hl,?_⟩;unfold dW;rw[if_neg (by simp[hv]),if_pos (by omega),jm,pz,Nat.add_assoc]
    ·cases h
   ·cases h
  ·cases h
 ·rename_i hc;rw[if_neg hc]at hsl;split at h
  ·rename_i hceq;rw[if_pos hceq]at hsl;obtain⟨hxe,hoff⟩:=hsl;subst hxe;split at h
   ·cases h
   ·rename_i r hroom;obtain⟨hse,hs0,_,hrle⟩:=Tc hr hroom hl hv;split at h
    ·rename_i vm;obtain⟨vm',hmx',hvm⟩:=hmx;split at h
     ·rename_i m hm;split at h
      ·rename_i vh;split at h
       ·rename_i hh hhh;split at h
        ·rename_i ll hll;split at h
         ·rename_i hmu;obtain rfl:=Option.some.inj h;have hb:=iD (P:=P) true (mx:=some vm) (mx':=mx') (len:=len) (cap:=r) (cap':=(l.total-a.off) / l.esize) hlo hhi ⟨vm',hmx',hvm⟩ hm hrle hhh hll w;refine⟨_,(hslice _).trans (mk hb),?_⟩;by_cases hmeq:m=ll
          ·subst hmeq;simp only[if_pos];refine⟨hs,l,hl,?_⟩;simp[dW,unk,hv]
          ·simp only[if_neg hmeq,Option.map_some];refine⟨qi _ _ hs,l,by rw[add_block]; exact hl,?_⟩;unfold dW;rw[if_neg (by simp[hv]),if_pos (by omega),jm,pz,Nat.add_assoc]
         ·cases h
        ·cases h
       ·cases h
      ·cases h
     ·cases h
    ·have hmx':mx'=none:=hmx;split at h
     ·rename_i hh hhh;split at h
      ·rename_i ll hll;have e2:HiB none hi r len ((l.total-a.off) / l.esize) hh:=by
        cases hi<;>simp[cO,HiB]at hhh ⊢<;>first | exact hhh.symm | exact hhh
       have hb:=iD (P:=P) true (mx:=none) (mx':=mx') (m:=(l.total-a.off) / l.esize) (len:=len) (cap:=r) (cap':=(l.total-a.off) / l.esize) hlo hhi hmx' rfl hrle e2 hll w;generalize hT:(l.total-a.off) / l.esize=T at *;have hlh:ll<=hh:=by
        cases lo with
        |none=>simp[cO]at hll; omega
        |some v=>obtain⟨v',_,hv⟩:=hlo; exact(iO (P:=P) hll hv (Nat.le_refl _) .index w).2
       split at h
       ·rename_i hlr;obtain rfl:=Option.some.inj h;refine⟨_,(hslice _).trans (mk hb),?_⟩;have hne:¬T=ll:=by omega
        simp only[if_neg hne,Option.map_some];refine⟨qi _ _ hs,l,by rw[add_block]; exact hl,?_⟩;unfold dW;rw[if_neg (by simp[hv]),if_neg (by omega),if_pos rfl,jm,pz,Nat.add_assoc,hse];have hle2:(ll+1)*l.esize<=l.total-a.off:=by
         have:(ll+1)<=(l.total-a.off) / l.esize:=by rw[hT]; omega
         exact(Nat.le_div_iff_mul_le (by omega)).1 this
        have hle3:ll*l.esize<=(ll+1)*l.esize:=Nat.mul_le_mul_right _ (by omega);refine⟨?_,by omega⟩;congr 1;rw[<-hT,Nat.sub_add_eq,Nat.mul_comm ll l.esize,Nat.sub_mul_div]
       ·rename_i hlr;split at h
        ·cases h
        ·rename_i hcond;simp only[Bool.or_eq_true,decide_eq_true_eq,not_or,ne_eq,Decidable.not_not]at hcond;obtain⟨c1,c2⟩:=hcond;have hlr':ll=r:=by omega
         subst c1;split at h
         ·rename_i hl0;obtain rfl:=Option.some.inj h;refine⟨_,(hslice _).trans (mk hb),?_⟩;subst hl0;refine⟨hs,l,hl,?_⟩;unfold dW;rw[if_neg (by simp[hv]),if_neg (by omega),if_pos rfl,hT];refine⟨?_,hoff⟩;split<;>simp[Addr.add]
         ·rename_i hl0;obtain rfl:=Option.some.inj h;refine⟨_,(hslice _).trans (mk hb),?_⟩;refine⟨hs,l,hl,?_⟩;unfold dW;rw[if_neg (by simp[hv]),if_neg (by omega),if_neg (by omega),hT];refine⟨rfl,by omega,hoff,?_⟩;have hu2:unk+hh-unk=hh:=by omega
          rw[hu2];by_cases hTe:T=hh
          ·rw[if_pos hTe,if_pos hTe,hTe]; simp
          ·rw[if_neg hTe,if_neg hTe,Option.map_some,jm,Nat.add_assoc,hse]; simp
      ·cases h
     ·cases h
  ·rename_i hceq;rw[if_neg hceq]at hsl;obtain⟨hn0,hle,hoff,hxe⟩:=hsl;subst hn0;split at h
   ·cases h
   ·rename_i hmxn;have hmx0:mx=none:=by cases mx<;>simp_all
    subst hmx0;have hmx':mx'=none:=hmx;split at h
    ·rename_i h1 l1 hh hll;obtain rfl:=Option.some.inj h;have hh0:cO hi 0 0=some 0:=by
      cases hi with
      |none=>rfl
      |some v=>obtain⟨v',_,hv⟩:=hhi; have:=(iO (P:=P) hh hv (Nat.le_refl _) .index w).2; simp only[cO]at hh ⊢; rw[hh]; congr 1; omega
     have hl0:cO lo 0 0=some 0:=by
      cases lo with
      |none=>rfl
      |some v=>obtain⟨v',_,hv⟩:=hlo; have:=(iO (P:=P) hll hv (Nat.le_refl _) .index w).2; simp only[cO]at hll ⊢; rw[hll]; congr 1; omega
     have hb:∀ cap',(Instr.sliceBounds true 0 cap' lo' hi' mx').run P w = .ok (0,0,cap') w:=fun cap'=>
      iD (P:=P) true (mx:=none) (mx':=mx') (m:=cap') (len:=0) (cap:=0) (cap':=cap') hlo hhi hmx' rfl (Nat.zero_le _) (by cases hi<;>simp_all [cO,HiB]) hl0 w
     have hkeep:∀ (b:Addr) (c':Nat),(Instr.sliceAt t (.slice (some b) 0 c') lo' hi' mx').run P w = .ok (.slice (some b) 0 c') w:=by
      intro b c';rw[hslice,mk (hb c')];congr 1;split<;>simp[Addr.add]
     refine⟨x',?_,⟨hs,l,hl,?_⟩⟩
     ·rw[hxe]; split<;>exact hkeep _ _
     ·unfold dW; rw[if_neg (by simp[hv]),if_neg hc,if_neg hceq]; exact⟨rfl,hle,hoff,hxe⟩
    ·cases h
end
section
variable{P:Program}{K:Prot}{β:Env}{st:St}{w:World}
theorem PU{t e:TypeId}{ie:TypeInfo}(hu:P.underlying t=some (.slice e))(hie:P.info? e=some ie){x x':Value}{z:FzV}(hsz:z.sz=ie.size){lo hi mx lo' hi' mx':Option Value}(hlo:pJ β lo lo')(hhi:pJ β hi hi')(hmx:pJ β mx mx')
  (hz:kw x=some z) (hx:VR β x x') {v:Value} (h:yV z lo hi mx=some v):∃ v',(Instr.sliceAt t x' lo' hi' mx').run P w = .ok v' w/\VR β v v':=by
 obtain⟨hs0,r⟩:=qo hz hx;have hslice:∀ y,(Instr.sliceAt t y lo' hi' mx').run P w=(Instr.slice t y lo' hi' mx').run P w:=by
  intro y; simp[Instr.sliceAt,run_underlying hu]
 have mk:∀ {a':Option Addr} {len' cap' l0 h0 m0:Nat},(Instr.sliceBounds true len' cap' lo' hi' mx').run P w = .ok (l0,h0,m0) w->
   (Instr.slice t (.slice a' len' cap') lo' hi' mx').run P w = .ok (.slice (if m0=l0 then a' else a'.map (·.add (l0*ie.size))) (h0-l0) (m0-l0)) w:=by
  intro a' len' cap' l0 h0 m0 hb;simp[Instr.slice,run_underlying hu,hb,fZ hie]
 unfold iU at r;rw[if_neg hs0]at r;obtain⟨r0,r⟩:=r;have hform:∃ p cap,x' = .slice p z.n cap/\z.n<=cap/\(z.cap≠0->z.cap=cap+1)/\((p=none/\cap=0)\/∃ a,p=some a/\(0<z.n->∃ k o cs e f l,a=⟨k,o,none⟩/\β (Int.negSucc k)=some l/\l.obj=some (.cells cs e f)/\o+z.cells.length<=cs.size/\VRL (nM β) z.cells ((cs.toList.drop o).take z.cells.length))):=by
  obtain⟨r1,r2,r3⟩ | ⟨r1,p,cap,r2,r3⟩ | ⟨rp,k0,o0,cap,cs,e0,f0,lc,r2,r3,r4,r5,r6,r7,r8⟩:=r
  ·exact⟨none,0,by rw[r3,r1],by omega,by omega,Or.inl ⟨rfl,rfl⟩⟩
  ·exact⟨some p,cap,by rw[r2,r1],by omega,r3,Or.inr ⟨p,rfl,by omega⟩⟩
  ·exact⟨_,cap,r2,r8,r3,Or.inr ⟨_,rfl,fun _=>⟨k0,o0,cs,e0,f0,lc,rfl,r4,r5,r6,r7⟩⟩⟩
 clear r;obtain⟨p,cap,hx',hnc,hcap,hp⟩:=hform;have fin:∀ {m h0 l0 b:Nat},l0<=h0->h0<=z.n->h0<=m->m<=cap->(b≠0->b=m-l0+1)->(Instr.sliceBounds true z.n cap lo' hi' mx').run P w = .ok (l0,h0,m) w->
   ∃ v',(Instr.sliceAt t x' lo' hi' mx').run P w = .ok v' w/\VR β (aX z.sz (h0-l0) b ((z.cells.drop (l0*z.sz)).take ((h0-l0)*z.sz))) v':=by
  intro m h0 l0 b hl hh hm hmc hb g1;have h2:l0*z.sz+(h0-l0)*z.sz<=z.n*z.sz:=by rw[<-Nat.add_mul]; exact Nat.mul_le_mul_right _ (by omega)
  have hlen:((z.cells.drop (l0*z.sz)).take ((h0-l0)*z.sz)).length=(h0-l0)*z.sz:=by simp; omega
  refine⟨_,by rw[hx']; exact(hslice _).trans (mk g1),sH hs0 ?_⟩;unfold iU;rw[if_neg hs0,hlen];refine⟨rfl,?_⟩;obtain⟨rfl,rfl⟩ | ⟨a,rfl,ha⟩:=hp
  ·refine Or.inl ⟨by omega,by omega,?_⟩;have e1:h0-l0=0:=by omega
   have e2:m-l0=0:=by omega
   rw[e1,e2]; simp
  ·by_cases h00:h0-l0=0
   ·refine Or.inr (Or.inl ⟨h00,?_⟩);rw[h00];by_cases hml:m=l0
    ·exact⟨a,m-l0,by rw[if_pos hml],hb⟩
    ·exact⟨a.add (l0*ie.size),m-l0,by rw[if_neg hml]; rfl,hb⟩
   ·obtain⟨k,o,cs,e0,f,l,rfl,q1,q2,q3,q4⟩:=ha (by omega);refine Or.inr (Or.inr ⟨by omega,k,o+l0*z.sz,m-l0,cs,e0,f,l,?_,hb,q1,q2,by omega,?_,by omega⟩)
    ·rw[if_neg (by omega),Option.map_some,jm,hsz]
    ·have q5:=(q4.drop (l0*z.sz)).take ((h0-l0)*z.sz);have e:(((cs.toList.drop o).take z.cells.length).drop (l0*z.sz)).take ((h0-l0)*z.sz)=(cs.toList.drop (o+l0*z.sz)).take ((h0-l0)*z.sz):=by
      rw[List.drop_take,List.take_take,List.drop_drop];congr 1;omega
     rw[e]at q5;exact q5
 clear hp;have lole:∀ {h0 l0:Nat},cO lo h0 0=some l0->l0<=h0:=by
  intro h0 l0 hn;cases lo with
  |none=>simp[cO]at hn; omega
  |some v=>obtain⟨v',_,hv⟩:=hlo; exact(iO (P:=P) hn hv (Nat.le_refl _) .index w).2
 have mono:∀ {v:Value} {y y' n:Nat},jG v y=some n->y<=y'->jG v y'=some n/\n<=y:=by
  intro v y y' n hb hy;unfold jG at hb ⊢;split at hb
  ·split at hb
   ·rename_i hc;obtain rfl:=Option.some.inj hb;exact⟨if_pos (by omega),by omega⟩
   ·cases hb
  ·cases hb
 unfold yV at h;split at h
 ·rename_i vm;obtain⟨vm',hmx',hvm⟩:=hmx;split at h
  ·rename_i m hm;split at h
   ·rename_i vh;split at h
    ·rename_i h0 hh;split at h
     ·rename_i l0 hl;obtain rfl:=Option.some.inj h;obtain⟨m1,m2⟩:=mono hm (show _<=cap by split<;>omega);obtain⟨k1,k2⟩:=mono hh (Nat.min_le_left m z.n);have hb:=iD (P:=P) true (mx:=some vm) (mx':=mx') (len:=z.n) (cap:=if z.cap=0 then z.n else z.cap-1) (cap':=cap) hlo hhi ⟨vm',hmx',hvm⟩ hm (by split<;>omega) k1 hl w;exact fin (lole hl) (by omega) (by omega) (by split at m2<;>omega) (fun _=>rfl) hb
     ·cases h
    ·cases h
   ·cases h
  ·cases h
 ·have hmx':mx'=none:=hmx;split at h
  ·rename_i h0 hh;split at h
   ·rename_i l0 hl;obtain rfl:=Option.some.inj h;have hle:h0<=z.n:=by
     cases hi with
     |none=>simp[cO]at hh; omega
     |some v=>obtain⟨v',_,hv⟩:=hhi; exact(iO (P:=P) hh hv (Nat.le_refl _) .index w).2
    have hl2:=lole hl;have hb:=iD (P:=P) true (mx:=none) (mx':=mx') (m:=cap) (len:=z.n) (cap:=z.n) (cap':=cap) hlo hhi hmx' rfl hnc (by cases hi<;>simp_all [HiB,cO]) hl w;exact fin hl2 hle (by omega) (Nat.le_refl _) (by split<;>omega) hb
   ·cases h
  ·cases h
theorem Nk(hr:Rel P K β st w){ρ ρ':Operand->Value}(hρ:∀ x,VR β (ρ x) (ρ' x)){o:Oper}{out:Out}{t:TypeId}{x:Operand}{lo hi mx:Option Operand}(ho:o.op = .slice t x lo hi mx)(h:aY P ρ o st=some out) :
  dK P K β st w ((execOp ρ' o).run P w) out:=by
 simp only[aY,ho]at h;have hx:=hρ x;have hlo:=pJ.map hρ lo;have hhi:=pJ.map hρ hi;have hmx:=pJ.map hρ mx;split at h
 ·rename_i s hu ha;split at h
  ·cases h
  ·rename_i hmxn;have hmx0:mx=none:=by cases mx<;>simp_all
   subst hmx0;split at h
   ·rename_i hh hhh;split at h
    ·rename_i ll hll;obtain rfl:=Option.some.inj h;rw[ha]at hx;have hx:=hx.string';have hb:=iD (P:=P) false (len:=s.size) (cap:=s.size) (cap':=s.size) (m:=s.size) (h:=hh) (l:=ll) hlo hhi hmx (by simp[uT]) (Nat.le_refl _) (by cases hi<;>simp_all [HiB,cO]) hll w;refine dK.same hr (v':= .string (s.extract ll hh)) ?_ rfl;simp only[execOp,ho];refine eQ ?_;simp[hx,Instr.sliceAt,run_underlying hu,Instr.slice]at hb ⊢;simp[hb]
    ·cases h
   ·cases h
 ·rename_i e a len cap hu ha;split at h
  ·rename_i n hn;obtain⟨ie,hie,rfl⟩:=rq hn;split at h
   ·rename_i v hv;obtain rfl:=Option.some.inj h;rw[ha]at hx;obtain⟨v',h1,h2⟩:=QM hr hu hie hlo hhi hmx hx hv;refine dK.same hr ?_ h2;simp only[execOp,ho];exact eQ h1
   ·cases h
  ·cases h
 ·rename_i e len cap hu ha;split at h
  ·rename_i hz;simp only[Bool.and_eq_true,decide_eq_true_eq]at hz;obtain⟨rfl,rfl⟩:=hz;split at h
   ·rename_i n m hh ll hn hm hhh hll;split at h
    ·cases h
    ·rename_i hc;obtain rfl:=Option.some.inj h;obtain⟨ie,hie,rfl⟩:=rq hn;rw[ha]at hx;have hx:ρ' x = .slice none 0 0:=hx;have zero:∀ {o o':Option Value} {n:Nat},pJ β o o'->cO o 0 0=some n->n=0:=by
      intro o o' n ho hn;cases o with
      |none=>simp[cO]at hn; exact hn.symm
      |some v=>obtain⟨v',_,hv⟩:=ho; have:=(iO (P:=P) hn hv (Nat.le_refl _) .index w).2; omega
     have m0:=zero hmx hm;have h0:=zero hhi hhh;have l0:=zero hlo hll;subst m0 h0 l0;have hb:=iD (P:=P) true (len:=0) (cap:=0) (cap':=0) (m:=0) (h:=0) (l:=0) hlo hhi hmx (by cases mx<;>simp_all [uT,cO]) (Nat.le_refl _) (by cases mx<;>cases hi<;>simp_all [HiB,cO]) hll w;refine dK.same hr (v':= .slice none 0 0) ?_ rfl;simp only[execOp,ho];refine eQ ?_;simp[hx,Instr.sliceAt,run_underlying hu,Instr.slice,hb,fZ hie]
   ·cases h
  ·cases h
 ·rename_i n e a hu ha;split at h
  ·rename_i size hn;obtain⟨ie,hie,rfl⟩:=rq hn;split at h
   ·rename_i m hm;split at h
    ·rename_i hh hhh;split at h
     ·rename_i ll hll;split at h
      case h_2=>cases h
      rename_i gc ge hg;split at h
      ·rename_i hmu;obtain rfl:=Option.some.inj h;rw[ha]at hx;obtain⟨hs,l,hl,hx⟩:=hx.ptr';have hv:l.virt=false:=by
        obtain⟨l',q1,⟨_,_,q⟩ | ⟨q,_⟩⟩:=hr.get_cells hg
        ·cases q
        ·rw[q1]at hl; obtain rfl:=Option.some.inj hl; exact q
       have hb:=iD (P:=P) false (len:=n) (cap:=n) (cap':=n) (m:=m) (h:=hh) (l:=ll) hlo hhi hmx (by cases mx<;>simp_all [uT,cO]) (Nat.le_refl _) (by cases mx<;>cases hi<;>simp_all [HiB,cO]) hll w;refine dK.same hr (v':= .slice (some (if m=ll then⟨l.blk,l.base+a.off,none⟩else(⟨l.blk,l.base+a.off,none⟩:Addr).add (ll*ie.size))) (hh-ll) (m-ll)) ?_ ?_
       ·simp only[execOp,ho];refine eQ ?_;simp[hx,Instr.sliceAt,run_underlying hu,Instr.sureAddr,hb,fZ hie]
       ·by_cases hmeq:m=ll
        ·subst hmeq;simp only[if_pos];refine⟨hs,l,hl,?_⟩;simp[dW,unk,hv]
        ·simp only[if_neg hmeq];refine⟨qi _ _ hs,l,by rw[add_block]; exact hl,?_⟩;unfold dW;rw[if_neg (by simp[hv]),if_pos (by omega),jm,pz,Nat.add_assoc]
      ·cases h
     ·cases h
    ·cases h
   ·cases h
  ·cases h
 ·rename_i e x0 hu hn1 hn2;split at h
  ·rename_i z n hz hn;split at h
   ·rename_i hzn;split at h
    ·rename_i v hv;obtain rfl:=Option.some.inj h;obtain⟨ie,hie,rfl⟩:=rq hn;obtain⟨v',h1,h2⟩:=PU (w:=w) hu hie hzn hlo hhi hmx hz hx hv;refine dK.same hr ?_ h2;simp only[execOp,ho];exact eQ h1
    ·cases h
   ·cases h
  ·cases h
 ·cases h
theorem LW(w:World)(r:Nat)(o:Obj)(h:¬K r):Bel K w { w with heap:=w.heap.setIfInBounds r o }:=
 ⟨rfl,rfl,rfl,by simp,fun k hk=>by simp only[Array.getElem?_setIfInBounds]; rw[if_neg (by rintro rfl; exact h hk)]⟩
theorem Rel.putObj(hr:Rel P K β st w){i:Nat}{b b':Blk}{l:Loc}{o:Obj}(hi:st.heap.get i=some b)(hlive:b.live=true)(hl:β i=some l)(hb:gW P β l b' (some o))(hnc:∀ c e x,b≠ .cells c e x:=by intros; simp)(ho1:b.isObj=false:=by rfl)(ho2:b'.isObj=false:=by rfl) :
  Rel P K β { st with heap:=st.heap.set i b' } { w with heap:=w.heap.setIfInBounds l.blk o }/\Bel K w { w with heap:=w.heap.setIfInBounds l.blk o }:=by
 obtain⟨l0,h1,h2,h3⟩:=hr.blk i b hi hlive;obtain rfl:l0=l:=by rw[h1]at hl; exact Option.some.inj hl
 have hv:l0.virt=false:=by
  cases b with
  |cells c e x=>exact absurd rfl (hnc _ _ _)
  |dead=>cases hlive
  |obj o=>cases ho1
  |_=>exact h3.1
 refine⟨hr.update hi hlive ho1 ho2 hl (by simp) (fun k hk=>?_) ?_,LW w _ o (h2 hv)⟩
 ·simp only[Array.getElem?_setIfInBounds];rw[if_neg (fun e=>hk.resolve_left (by simp[hv]) e.symm)]
 ·have:=(hr.dom i l0 h1).2 hv;simp[this,hb]
theorem Rel.get_map(hr:Rel P K β st w){i:Nat}{es:List MapEntry}{c:Nat}(hi:st.heap.get i=some (.map es c)) :
  ∃ l es',β i=some l/\¬K l.blk/\w.heap[l.blk]? = some (.map es' c)/\ERL β es es'.toList:=by
 obtain⟨l,h1,h2,hv,es',h3,h4⟩:=hr.blk i _ hi rfl;exact⟨l,es',h1,h2 hv,h3,h4⟩
theorem Rel.map_virt(hr:Rel P K β st w){i:Nat}{es:List MapEntry}{c:Nat}{l:Loc}(hi:st.heap.get i=some (.map es c))(hl:β i=some l):l.virt=false:=by
 obtain⟨l',h1,h2,hv,_⟩:=hr.blk i _ hi rfl;rw[h1]at hl; obtain rfl:=Option.some.inj hl; exact hv
theorem Jj{kd:TypeDesc}{k x x':Value}{b:Bool}(h:Instr.sameNow kd k x=some b)(hx:VR β x x'):x'=x:=by
 unfold Instr.sameNow at h;split at h
 ·exact hx
 ·exact hx
 ·exact hx
 ·cases h
theorem BX{kd:TypeDesc}{k:Value}:∀ {es es':List MapEntry} {i:Nat} {r:Option (Nat×Value)},ERL β es es'->Instr.findNow kd k es i=some r->
  ∃ r',Instr.findNow kd k es' i=some r'/\(match r,r' with | none,none=>True | some (a,v),some (b,v')=>a=b/\VR β v v'/\i<=a/\∃ e',es'[a-i]? = some e'/\Instr.sameNow kd k e'.key=some true | _,_=>False)
 |[],es',i,r,h,hf=>by
  have h:es'=[]:=h;subst h;simp[Instr.findNow]at hf;subst hf;exact⟨none,rfl,trivial⟩
 |e::es,_,i,r,⟨e',es',he,hb,hk,hv,hrest⟩,hf=>by
  subst he;unfold Instr.findNow at hf ⊢;cases hs:Instr.sameNow kd k e.key with
  |none=>simp[hs]at hf
  |some b=>
   have hke:=Jj hs hk;rw[hke];rw[hs]at hf ⊢;cases b with
   |true=>
    simp at hf;subst hf;exact⟨_,rfl,rfl,hv,Nat.le_refl _,e',by simp,by rw[hke]; exact hs⟩
   |false=>
    simp only at hf ⊢;obtain⟨r',h1,h2⟩:=BX hrest hf;refine⟨r',h1,?_⟩;cases r with
    |none=>cases r'<;>simp_all
    |some p=>
     cases r' with
     |none=>simp at h2
     |some p'=>
      obtain⟨a,v⟩:=p;obtain⟨b,v'⟩:=p';simp only at h2 ⊢;obtain⟨g1,g2,g3,e2,g4,g5⟩:=h2;refine⟨g1,g2,by omega,e2,?_,g5⟩;have:a-i=(a-(i+1))+1:=by omega
      rw[this]; simpa using g4
theorem zt{t:TypeId}{kd:TypeDesc}(h:ni P t=some kd):P.underlying t=some kd/\((∃ k,kd = .int k)\/kd = .string\/kd = .bool):=by
 unfold ni at h;split at h
 ·simp at h; subst h; exact⟨‹_›,Or.inl ⟨_,rfl⟩⟩
 ·simp at h; subst h; exact⟨‹_›,Or.inr (Or.inl rfl)⟩
 ·simp at h; subst h; exact⟨‹_›,Or.inr (Or.inr rfl)⟩
 ·cases h
theorem Jm{t:TypeId}{kd:TypeDesc}(h:ni P t=some kd)(b:Bool)(k:Value)(w:World):(Instr.checkKey b 10000 t k).run P w = .ok () w:=by
 obtain⟨hu,hk⟩:=zt h;have:∀ n,(Instr.checkKey b (n+1) t k).run P w = .ok () w:=by
  intro n;rcases hk with⟨j,rfl⟩ | rfl | rfl<;>simp[Instr.checkKey,run_underlying hu]
 exact this 9999
theorem Nw{t:TypeId}{kd:TypeDesc}(h:ni P t=some kd){k:Value}{es:List MapEntry}{r:Option (Nat×Value)}(hf:Instr.findNow kd k es 0=some r)(w:World):(Instr.findKey t k es).run P w = .ok r w:=by
 obtain⟨hu,_⟩:=zt h;simp[Instr.findKey,run_underlying hu,hf]
theorem Rj{x x':Value}(h:FO x=true)(hx:VR β x x'):x'=x:=by
 unfold FO at h;split at h
 ·exact hx
 ·exact hx
 ·exact hx
 ·cases h
theorem Ez{a b:ByteArray}(h:(a == b)=true):a=b:=by
 cases a; cases b;rename_i x y;have:(x == y)=true:=h;simp at this; rw[this]
theorem Gi(a:ByteArray):(a == a)=true:=by
 cases a;rename_i x;show(x == x)=true;simp
theorem yR{kd:TypeDesc}{k x:Value}(h:Instr.sameNow kd k x=some true)(n:Nat):Instr.sameBits n x k=true:=by
 unfold Instr.sameNow at h;split at h
 ·split at h
  ·rename_i hk; simp at h; subst hk h; simp[Instr.sameBits]
  ·cases h
 ·have h:=Ez (Option.some.inj h); subst h; simp[Instr.sameBits,Gi]
 ·simp at h; subst h; simp[Instr.sameBits]
 ·cases h
theorem ERL.isEmpty':∀ {a b:List MapEntry},ERL β a b->a.isEmpty=b.isEmpty
 |[],_,h=>by have h:_=[]:=h; subst h; rfl
 |x::xs,_,⟨y,ys,e,_⟩=>by subst e; rfl
def xw(β:Env)(k:Value)(es':List MapEntry)(i:Nat):Option (Nat×Value)->Option (Nat×Value)->Prop
 |none,none=>True
 |some (a,v),some (b,v')=>a=b/\VR β v v'/\i<=a/\∃ e',es'[a-i]? = some e'/\Instr.sameBits 10000 e'.key k=true
 |_,_=>False
theorem xw.step{k:Value}{e':MapEntry}{es':List MapEntry}{i:Nat}{r r':Option (Nat×Value)}(h:xw β k es' (i+1) r r'):xw β k (e'::es') i r r':=by
 cases r with
 |none=>cases r' with
  |none=>trivial
  |some p=>exact h.elim
 |some p=>
  cases r' with
  |none=>exact h.elim
  |some p'=>
   obtain⟨a,v⟩:=p;obtain⟨b,v'⟩:=p';obtain⟨g1,g2,g3,e2,g4,g5⟩:=h;refine⟨g1,g2,by omega,e2,?_,g5⟩;have:a-i=(a-(i+1))+1:=by omega
   rw[this]; simpa using g4
theorem ET{kt:TypeId}{k:Value}(w:World):∀ {es es':List MapEntry} {i:Nat} {r:Option (Nat×Value)},ERL β es es'->zW P kt k es i=some r->
  ∃ r',(Instr.findAsking kt k es' i).run P w = .ok r' w/\xw β k es' i r r'
 |[],es',i,r,h,hf=>by
  have h:es'=[]:=h;subst h;simp[zW]at hf;subst hf;exact⟨none,rfl,trivial⟩
 |e::es,_,i,r,⟨e',es',he,hb,hk,hv,hrest⟩,hf=>by
  subst he;simp only[zW]at hf;split at hf
  ·rename_i hp;split at hf
   ·rename_i hc;simp only[Bool.and_eq_true]at hc;have hke:=VR.of_flat _ _ hc.1 hk;simp only[Option.some.injEq]at hf;subst hf;refine⟨some (i,e'.val),?_,rfl,hv,Nat.le_refl _,e',by simp,by rw[hke]; exact hc.2⟩;simp[Instr.findAsking,hke,kM _ _ w hp]
   ·cases hf
  ·rename_i hp;split at hf
   ·rename_i hc;have hke:=VR.of_flat _ _ hc hk;obtain⟨r',h1,h2⟩:=ET w hrest hf;refine⟨r',?_,h2.step⟩;simp[Instr.findAsking,hke,kM _ _ w hp,h1]
   ·cases hf
  ·cases hf
theorem IB{kd:TypeDesc}{k:Value}{es es':List MapEntry}{i:Nat}{r:Option (Nat×Value)}(h:ERL β es es')(hf:Instr.findNow kd k es i=some r):∃ r',Instr.findNow kd k es' i=some r'/\xw β k es' i r r':=by
 obtain⟨r',f1,f2⟩:=BX h hf;refine⟨r',f1,?_⟩;cases r with
 |none=>cases r' with
  |none=>trivial
  |some p=>exact f2.elim
 |some p=>
  cases r' with
  |none=>exact f2.elim
  |some p'=>
   obtain⟨a,v⟩:=p;obtain⟨b,v'⟩:=p';obtain⟨g1,g2,g3,e2,g4,g5⟩:=f2;exact⟨g1,g2,g3,e2,g4,yR g5 _⟩
theorem qC{b:Bool}{kt:TypeId}{k k':Value}{es es':List MapEntry}{r:Option (Nat×Value)}(h:nK P b kt k es=some r)(hk:VR β k k')(hes:ERL β es es')(w:World) :
  k'=k/\(Instr.checkKey b 10000 kt k).run P w = .ok () w/\∃ r',(Instr.findKey kt k es').run P w = .ok r' w/\xw β k es' 0 r r':=by
 unfold nK at h;split at h
 ·rename_i kd hkd;split at h
  ·rename_i hkf;obtain⟨r',f1,f2⟩:=IB hes h;exact⟨Rj hkf hk,Jm hkd b k w,r',Nw hkd f1 w,f2⟩
  ·cases h
 ·split at h
  ·rename_i fs hu;split at h
   ·rename_i hfl;split at h
    ·rename_i u hp;obtain⟨r',f1,f2⟩:=ET w hes h;refine⟨VR.of_flat _ _ hfl hk,kM _ _ w hp,r',?_,f2⟩;cases es' with
     |nil=>
      have:r'=none:=by simpa [Instr.findAsking]using f1.symm
      subst this;simp[Instr.findKey,run_underlying hu,Instr.findNow]
     |cons e1 es1=>
      have hn:Instr.findNow (.struct fs) k (e1::es1) 0=none:=by simp[Instr.findNow,Instr.sameNow]
      simp[Instr.findKey,run_underlying hu,hn,f1]
    ·cases h
   ·cases h
  ·cases h
theorem Ky(hr:Rel P K β st w){ρ ρ':Operand->Value}(hρ:∀ x,VR β (ρ x) (ρ' x)){o:Oper}{out:Out}{t:TypeId}{x k:Operand}{ok:Bool}(ho:o.op = .lookup t x k ok)(h:aY P ρ o st=some out) :
  dK P K β st w ((execOp ρ' o).run P w) out:=by
 simp only[aY,ho]at h;have hx:=hρ x;split at h
 ·rename_i kt e hu;split at h
  ·rename_i z hz;obtain⟨i,hi,hzz,hfl⟩:=iL hz;split at h
   ·rename_i es hes;have hes':∃ es':Array MapEntry,ERL β es es'.toList/\(Instr.lookup t (ρ' x) (ρ k) ok).run P w =
      ((do
       Instr.checkKey es'.isEmpty 10000 kt (ρ k)
       let(v,ok') <-match <-Instr.findKey kt (ρ k) es'.toList with
        |some (_,v)=>pure (v,true)
        |none=>pure (<-zeroValue e,false)
       pure (if ok then .tuple #[v, .bool ok']else v):Sem Value)).run P w:=by
     split at hes
     ·rename_i hxv;simp at hes;subst hes;rw[hxv]at hx;have hx:ρ' x = .map none:=hx;exact⟨#[],rfl,by simp[Instr.lookup,run_underlying hu,hx]; rfl⟩
     ·rename_i r hxv;rw[hxv]at hx;obtain⟨l,hl,hx⟩:=hx;split at hes
      ·rename_i es0 c hg;simp at hes;subst hes;obtain⟨l',es',g1,g2,g3,g4⟩:=hr.get_map hg;obtain rfl:l'=l:=by rw[g1]at hl; exact Option.some.inj hl
       exact⟨es',g4,by simp[Instr.lookup,run_underlying hu,hx,MapKept.run_getObj_map g3]; rfl⟩
      ·cases hes
     ·cases hes
    obtain⟨es',hrl,hrun⟩:=hes';have hemp:es'.isEmpty=es.isEmpty:=by rw[hrl.isEmpty']; simp
    split at h
    ·rename_i j v hf;obtain rfl:=Option.some.inj h;obtain⟨hk,hck,r',f1,f2⟩:=qC hf (hρ k) hrl w;rw[<-hemp]at hck;cases r' with
     |none=>exact f2.elim
     |some p=>
      obtain⟨b,v'⟩:=p;obtain⟨f3,f4,_⟩:=f2;refine dK.same hr (v':=if ok then .tuple #[v', .bool true]else v') ?_ ?_
      ·simp only[execOp,ho];refine eQ ?_;rw[hk,hrun];simp[hck,f1]
      ·split
       ·exact⟨_,rfl,VRL.cons f4 (VRL.cons rfl VRL.nil)⟩
       ·exact f4
    ·rename_i hf;obtain rfl:=Option.some.inj h;obtain⟨hk,hck,r',f1,f2⟩:=qC hf (hρ k) hrl w;rw[<-hemp]at hck;cases r' with
     |some p=>exact f2.elim
     |none=>
      refine dK.same hr (v':=if ok then .tuple #[z, .bool false]else z) ?_ ?_
      ·simp only[execOp,ho];refine eQ ?_;rw[hk,hrun];simp[hck,f1,jX hi hzz]
      ·split
       ·exact⟨_,rfl,VRL.cons (VR.flat_refl z hfl) (VRL.cons rfl VRL.nil)⟩
       ·exact VR.flat_refl z hfl
    ·cases h
   ·cases h
  ·cases h
 ·cases h
theorem ERL.append:∀ {a b c d:List MapEntry},ERL β a b->ERL β c d->ERL β (a++c) (b++d)
 |[],_,_,_,h,k=>by have h:_=[]:=h; subst h; exact k
 |x::xs,_,_,_,⟨y,ys,e,h1,h2,h3,h4⟩,k=>by subst e; exact⟨y,_,rfl,h1,h2,h3,h4.append k⟩
theorem ERL.modify{k v v':Value}(hk:VR β k k)(hv:VR β v v'):∀ {a b:List MapEntry} (i:Nat),ERL β a b->ERL β (a.modify i fun e=>{ e with key:=k,val:=v }) (b.modify i fun e=>{ e with key:=k,val:=v' })
 |[],_,i,h=>by have h:_=[]:=h; subst h; simp[ERL]
 |x::xs,_,0,⟨y,ys,e,h1,h2,h3,h4⟩=>by subst e; exact⟨_,_,rfl,h1,hk,hv,h4⟩
 |x::xs,_,i+1,⟨y,ys,e,h1,h2,h3,h4⟩=>by subst e; exact⟨_,_,rfl,h1,h2,h3,h4.modify hk hv i⟩
theorem vN(hr:Rel P K β st w){ρ ρ':Operand->Value}(hρ:∀ x,VR β (ρ x) (ρ' x)){o:Oper}{out:Out}{t:TypeId}{m k x:Operand}(ho:o.op = .mapUpdate t m k x\/o.op = .insert t m k x)(h:aY P ρ o st=some out) :
  dK P K β st w ((execOp ρ' o).run P w) out:=by
 have hrun0:(execOp ρ' o).run P w=(do Instr.mapUpdate t (ρ' m) (ρ' k) (ρ' x); pure Next.skip:Sem Next).run P w:=by
  rcases ho with ho | ho<;>simp only[execOp,ho]
 rw[hrun0];have h0:(xg P st t (ρ m) (ρ k) (ρ x)).map Out.skip=some out:=by
  rcases ho with ho | ho<;>simpa only[aY,ho]using h
 clear h;cases h':xg P st t (ρ m) (ρ k) (ρ x)with
 |none=>simp[h']at h0
 |some st'=>
 simp only[h']at h0;obtain rfl:=Option.some.inj h0;unfold xg at h';have hm:=hρ m;split at h'
 ·rename_i kt e r hu hmv;split at h'
  ·rename_i es clock hg;obtain⟨l,es',g1,g2,g3,g4⟩:=hr.get_map hg;rw[hmv]at hm;obtain⟨l',hl',hm⟩:=hm;obtain rfl:l'=l:=by rw[g1]at hl'; exact(Option.some.inj hl').symm
   split at h'
   ·rename_i i v hf;simp only[nY,if_true]at h';obtain rfl:=Option.some.inj h';obtain⟨hk,hck,r',f1,f2⟩:=qC hf (hρ k) g4 w;have hkk:VR β (ρ k) (ρ k):=by have:=hρ k; rwa [hk]at this
    cases r' with
    |none=>exact f2.elim
    |some p=>
     obtain⟨b,v'⟩:=p;obtain⟨rfl,f4,_,e',f5,f6⟩:=f2;have hb:gW P β l' (.map (es.modify i fun e=>{ e with key:=ρ k,val:=ρ x }) clock) (some (.map (es'.modify i fun e=>{ e with key:=ρ k,val:=ρ' x }) clock)):=
      ⟨hr.map_virt hg g1,_,rfl,by simpa using g4.modify hkk (hρ x) i⟩
     obtain⟨q1,q2⟩:=hr.putObj hg rfl g1 hb;refine⟨β,_,?_,Env.le.refl _,q1,q2⟩;refine IR ?_;have hold:((es'[i]?).map (·.key)).getD (ρ k)=e'.key:=by
      have:es'[i]? = some e':=by simpa using f5
      simp[this]
     simp[Instr.mapUpdate,run_underlying hu,hm,MapKept.run_getObj_map g3,hk,hck,f1,hold,Instr.keyThatStays,f6,MapKept.run_setObj_map _ g3]
   ·rename_i hf;simp only[nY,Bool.false_eq_true,if_false]at h';obtain rfl:=Option.some.inj h';obtain⟨hk,hck,r',f1,f2⟩:=qC hf (hρ k) g4 w;have hkk:VR β (ρ k) (ρ k):=by have:=hρ k; rwa [hk]at this
    cases r' with
    |some p=>exact f2.elim
    |none=>
     have hb:gW P β l' (.map (es++[{ key:=ρ k,val:=ρ x,born:=clock }]) (clock+1)) (some (.map (es'.push { key:=ρ k,val:=ρ' x,born:=clock }) (clock+1))):=
      ⟨hr.map_virt hg g1,_,rfl,by simpa using g4.append (c:=[⟨ρ k,ρ x,clock⟩]) (d:=[⟨ρ k,ρ' x,clock⟩]) ⟨_,_,rfl,rfl,hkk,hρ x,rfl⟩⟩
     obtain⟨q1,q2⟩:=hr.putObj hg rfl g1 hb;refine⟨β,_,?_,Env.le.refl _,q1,q2⟩;refine IR ?_;simp[Instr.mapUpdate,run_underlying hu,hm,MapKept.run_getObj_map g3,hk,hck,f1,MapKept.run_setObj_map _ g3]
   ·cases h'
  ·cases h'
 ·cases h'
theorem ERL.modifyKey{k:Value}(hk:VR β k k):∀ {a b:List MapEntry} (i:Nat),ERL β a b->ERL β (a.modify i fun e=>{ e with key:=k }) (b.modify i fun e=>{ e with key:=k })
 |[],_,i,h=>by have h:_=[]:=h; subst h; simp[ERL]
 |x::xs,_,0,⟨y,ys,e,h1,h2,h3,h4⟩=>by subst e; exact⟨_,_,rfl,h1,hk,h3,h4⟩
 |x::xs,_,i+1,⟨y,ys,e,h1,h2,h3,h4⟩=>by subst e; exact⟨_,_,rfl,h1,h2,h3,h4.modifyKey hk i⟩
theorem ERL.modifyVal{v v':Value}(hv:VR β v v'):∀ {a b:List MapEntry} (i:Nat),ERL β a b->ERL β (a.modify i fun e=>{ e with val:=v }) (b.modify i fun e=>{ e with val:=v' })
 |[],_,i,h=>by have h:_=[]:=h; subst h; simp[ERL]
 |x::xs,_,0,⟨y,ys,e,h1,h2,h3,h4⟩=>by subst e; exact⟨_,_,rfl,h1,h2,hv,h4⟩
 |x::xs,_,i+1,⟨y,ys,e,h1,h2,h3,h4⟩=>by subst e; exact⟨_,_,rfl,h1,h2,h3,h4.modifyVal hv i⟩
theorem ERL.born:∀ {a b:List MapEntry} (i:Nat),ERL β a b->(a[i]?).map (·.born)=(b[i]?).map (·.born)
 |[],_,i,h=>by have h:_=[]:=h; subst h; simp
 |x::xs,_,0,⟨y,ys,e,h1,h2,h3,h4⟩=>by subst e; simp[h1]
 |x::xs,_,i+1,⟨y,ys,e,h1,h2,h3,h4⟩=>by subst e; simpa using h4.born i
theorem ERL.findIdx(p:Nat->Bool):∀ {a b:List MapEntry},ERL β a b->a.findIdx? (fun e=>p e.born)=b.findIdx? (fun e=>p e.born)
 |[],_,h=>by have h:_=[]:=h; subst h; rfl
 |x::xs,_,⟨y,ys,e,h1,h2,h3,h4⟩=>by subst e; simp only[List.findIdx?_cons,h1,ERL.findIdx p h4]
theorem FX(hr:Rel P K β st w){ρ ρ':Operand->Value}(hρ:∀ x,VR β (ρ x) (ρ' x)){o:Oper}{out:Out}{t:TypeId}{m k:Operand}(ho:o.op = .mapEntry t m k)(h:aY P ρ o st=some out) :
  dK P K β st w ((execOp ρ' o).run P w) out:=by
 simp only[aY,ho]at h;have hm:=hρ m;split at h
 ·rename_i kt e r hu hmv;split at h
  ·rename_i es clock z hg hz;obtain⟨ii,hi,hzz,hfl⟩:=iL hz;obtain⟨l,es',g1,g2,g3,g4⟩:=hr.get_map hg;rw[hmv]at hm;obtain⟨l',hl',hm⟩:=hm;obtain rfl:l'=l:=by rw[g1]at hl'; exact(Option.some.inj hl').symm
   split at h
   ·rename_i i v hf;obtain rfl:=Option.some.inj h;obtain⟨hk,hck,r',f1,f2⟩:=qC hf (hρ k) g4 w;have hkk:VR β (ρ k) (ρ k):=by have:=hρ k; rwa [hk]at this
    cases r' with
    |none=>exact f2.elim
    |some p=>
     obtain⟨b,v'⟩:=p;obtain⟨rfl,f4,_,e',f5,f6⟩:=f2;have hb:gW P β l' (.map (es.modify i fun e=>{ e with key:=ρ k }) clock) (some (.map (es'.modify i fun e=>{ e with key:=ρ k }) clock)):=
      ⟨hr.map_virt hg g1,_,rfl,by simpa using g4.modifyKey hkk i⟩
     obtain⟨q1,q2⟩:=hr.putObj hg rfl g1 hb;have hold:es'[i]? = some e':=by simpa using f5
     obtain⟨e0,he0,hb0⟩:∃ e0,es[i]? = some e0/\e0.born=e'.born:=by
      have:=g4.born i;simp only[Array.getElem?_toList,hold]at this;cases he:es[i]? with
      |none=>rw[he]at this; cases this
      |some e0=>rw[he]at this; exact⟨e0,rfl,by simpa using this⟩
     refine⟨β,_, .tuple #[v', .int .i64 (e'.born:Int)],?_,Env.le.refl _,q1,?_,q2⟩
     ·simp only[execOp,ho];refine eQ ?_;simp[Instr.mapEntry,run_underlying hu,hm,MapKept.run_getObj_map g3,hk,hck,f1,hold,Instr.keyThatStays,f6,MapKept.run_setObj_map _ g3,goInt]
     ·refine⟨_,rfl,VRL.cons f4 (VRL.cons ?_ VRL.nil)⟩;rw[he0];simp[hb0,VR]
   ·rename_i hf;obtain rfl:=Option.some.inj h;obtain⟨hk,hck,r',f1,f2⟩:=qC hf (hρ k) g4 w;have hkk:VR β (ρ k) (ρ k):=by have:=hρ k; rwa [hk]at this
    cases r' with
    |some p=>exact f2.elim
    |none=>
     have hb:gW P β l' (.map (es++[{ key:=ρ k,val:=z,born:=clock }]) (clock+1)) (some (.map (es'.push { key:=ρ k,val:=z,born:=clock }) (clock+1))):=
      ⟨hr.map_virt hg g1,_,rfl,by simpa using g4.append (c:=[⟨ρ k,z,clock⟩]) (d:=[⟨ρ k,z,clock⟩]) ⟨_,_,rfl,rfl,hkk,VR.flat_refl z hfl,rfl⟩⟩
     obtain⟨q1,q2⟩:=hr.putObj hg rfl g1 hb;refine⟨β,_, .tuple #[z, .int .i64 clock],?_,Env.le.refl _,q1,⟨_,rfl,VRL.cons (VR.flat_refl z hfl) (VRL.cons rfl VRL.nil)⟩,q2⟩;simp only[execOp,ho];refine eQ ?_;simp[Instr.mapEntry,run_underlying hu,hm,MapKept.run_getObj_map g3,hk,hck,f1,MapKept.run_setObj_map _ g3,jX hi hzz,goInt]
   ·cases h
  ·cases h
 ·cases h
theorem DI(hr:Rel P K β st w){ρ ρ':Operand->Value}(hρ:∀ x,VR β (ρ x) (ρ' x)){o:Oper}{out:Out}{t:TypeId}{m s x:Operand}(ho:o.op = .entryStore t m s x)(h:aY P ρ o st=some out) :
  dK P K β st w ((execOp ρ' o).run P w) out:=by
 simp only[aY,ho]at h;have hm:=hρ m;have hs:=hρ s;split at h
 ·rename_i r kk born hmv hsv;rw[hmv]at hm;rw[hsv]at hs;have hs:ρ' s = .int kk born:=hs;split at h
  ·rename_i es clock hg;obtain⟨l,es',g1,g2,g3,g4⟩:=hr.get_map hg;obtain⟨l',hl',hm⟩:=hm;obtain rfl:l'=l:=by rw[g1]at hl'; exact(Option.some.inj hl').symm
   split at h
   ·rename_i i hf;obtain rfl:=Option.some.inj h;have hf':es'.findIdx? (fun e=>(e.born:Int) == born)=some i:=by
     rw[<-hf];have:=(g4.findIdx (fun n=>(n:Int) == born))
     rw[this];obtain⟨l0⟩:=es';exact List.findIdx?_toArray _ _
    have hb:gW P β l' (.map (es.modify i fun e=>{ e with val:=ρ x }) clock) (some (.map (es'.modify i fun e=>{ e with val:=ρ' x }) clock)):=
     ⟨hr.map_virt hg g1,_,rfl,by simpa using g4.modifyVal (hρ x) i⟩
    obtain⟨q1,q2⟩:=hr.putObj hg rfl g1 hb;refine⟨β,_,?_,Env.le.refl _,q1,q2⟩;simp only[execOp,ho];refine IR ?_;simp[Instr.entryStore,hm,hs,asInt,asIntOf,MapKept.run_getObj_map g3,hf',MapKept.run_setObj_map _ g3]
   ·cases h
  ·cases h
 ·cases h
end
section
variable{P:Program}{K:Prot}{β:Env}{st:St}{w:World}
theorem IM(hr:Rel P K β st w){ρ ρ':Operand->Value}(hρ:∀ x,VR β (ρ x) (ρ' x)){o:Oper}{out:Out}{t:TypeId}{r:Option Operand}(ho:o.op = .makeMap t r)(h:aY P ρ o st=some out) :
  dK P K β st w ((execOp ρ' o).run P w) out:=by
 have fin:∀ {res:Result Next},res = .ok (.value (.map (some w.heap.size))) (w.alloc (.map #[] 0))->dK P K β st w res (.val (.map (some st.next)) (st.new (.map [] 0)).2):=by
  intro res e;have:=hr.alloc (.map #[] 0) (.map [] 0) rfl 0 0 ⟨rfl,#[],rfl,rfl⟩;exact⟨_,_,_,e,hr.le_put _,this,⟨_,d_ _ _ _,rfl⟩,(Bel.refl _ _).alloc hr.base _⟩
 simp only[aY,ho]at h;split at h
 ·obtain rfl:=Option.some.inj h;refine fin ?_;simp only[execOp,ho];refine eQ ?_;simp[Instr.makeMap]
 ·rename_i hd;split at h
  ·rename_i k e i n hu hv;obtain rfl:=Option.some.inj h;have hx:=hρ hd;rw[hv]at hx;have hx:=hx.int';refine fin ?_;simp only[execOp,ho];refine eQ ?_;simp[Instr.makeMap,run_underlying hu,hx,asInt,asIntOf]
  ·cases h
theorem wrap_small{n:Int}(h0:0<=n)(h1:n<=4194304):IntKind.i64.wrap n=n:=IntWalk.i64_in _ (by omega)
theorem E8(hr:Rel P K β st w){ρ ρ':Operand->Value}(hρ:∀ x,VR β (ρ x) (ρ' x)){o:Oper}{out:Out}{t:TypeId}{l c:Operand}(ho:o.op = .makeSlice t l c)(h:aY P ρ o st=some out) :
  dK P K β st w ((execOp ρ' o).run P w) out:=by
 simp only[aY,ho]at h;have hl:=hρ l;have hc:=hρ c;split at h
 ·rename_i e k1 n1 k2 n2 hu hlv hcv;rw[hlv]at hl;rw[hcv]at hc;have hl:=hl.int';have hc:=hc.int';split at h
  ·rename_i ei z hie hz;obtain⟨i,hi,hzz,hfl⟩:=iL hz;obtain rfl:i=ei:=by rw[hi]at hie; exact Option.some.inj hie
   have hzc:VRL β z.cells.toList z.cells.toList:=VR.cells (VR.flat_refl z hfl) (by cases z<;>first | rfl | simp[flat]at hfl | (rename_i c; cases c<;>first | rfl | simp[flat]at hfl));split at h
   ·rename_i hb;obtain⟨b1,b2,b3,b4,b5,b6⟩:=hb;obtain rfl:=Option.some.inj h;have hbig:(big:Int)=4194304:=rfl;have hbign:big=4194304:=rfl;rw[hbig]at b3;rw[hbign]at b4;have hw1:=wrap_small (n:=n1) b1 (by omega);have hw2:=wrap_small (n:=n2) (by omega) b3;have hmul:(i.bytes:Int)*n2<=4194304*4194304:=Int.mul_le_mul (by omega) b3 (by omega) (by omega);have hcells:VRL β ((List.range (n2.toNat*i.size)).map fun j=>z.cells[j % i.size]!) ((List.range (n2.toNat*i.size)).map fun j=>z.cells[j % i.size]!):=by
     refine VRL.map _ _ _ fun j _=>?_;have hlt:j % i.size<z.cells.size:=by rw[b5]; exact Nat.mod_lt _ (by omega)
     have hg:z.cells.toList[j % i.size]? = some (z.cells[j % i.size]!):=by
      rw[Array.getElem?_toList,getElem!_pos z.cells _ hlt]; exact Array.getElem?_eq_getElem hlt
     exact(jH.1 hzc).2 _ _ _ hg hg
    obtain⟨g1,g2,g3,g4⟩:=hr.newRow hcells e true [] (fun _=>rfl) (fun h=>by cases h);simp only[List.append_nil]at g1 g4;refine⟨_,_, .slice (some ⟨w.heap.size,0,none⟩) n1.toNat n2.toNat,?_,g3,g1,?_,g4⟩
    ·simp only[execOp,ho];refine eQ ?_;have t1:¬n2<0:=by omega
     have t2:¬(281474976710656:Int)<(i.bytes:Int)*n2:=by omega
     have t3:¬n1<0:=by omega
     have t4:¬n2<n1:=by omega
     have ecells:(Array.range (n2.toNat*i.size)).map (fun j=>z.cells[j % i.size]!)=⟨(List.range (n2.toNat*i.size)).map fun j=>z.cells[j % i.size]!⟩:=by
      apply Array.ext'; simp
     by_cases h0:n2.toNat*i.size=0
     ·have e0:(List.range (n2.toNat*i.size)).map (fun j=>z.cells[j % i.size]!)=[]:=by rw[h0]; rfl
      rw[e0];have h0':n2.toNat=0:=by rcases Nat.mul_eq_zero.1 h0 with h | h; exact h; exact absurd h b6
      simp[Instr.makeSlice,run_underlying hu,hl,hc,asInt,asIntOf,typeInfo,hi,hw1,hw2,t1,t2,t3,t4,fZ hi,h0',Go.newRow];congr 2;apply Array.ext<;>simp
     ·have h0':¬(n2.toNat=0\/i.size=0):=by rw[<-Nat.mul_eq_zero]; exact h0
      rw[<-ecells];simp[Instr.makeSlice,run_underlying hu,hl,hc,asInt,asIntOf,typeInfo,hi,hw1,hw2,t1,t2,t3,t4,fZ hi,h0',jX hi hzz,b5,Go.newRow];exact fun e=>absurd e h0
    ·rw[g2];refine⟨rfl,_,d_ _ _ _,?_⟩;have:n2.toNat<unk:=by unfold unk; omega
     simp[dW,this]
   ·cases h
  ·cases h
 ·cases h
theorem ML(hr:Rel P K β st w){ρ ρ':Operand->Value}(hρ:∀ x,VR β (ρ x) (ρ' x)){o:Oper}{out:Out}{t:TypeId}{x:Operand}(ho:o.op = .range t x)(h:aY P ρ o st=some out) :
  dK P K β st w ((execOp ρ' o).run P w) out:=by
 have fin:∀ {res:Result Next} {b:Blk} {o:Obj},b.isObj=false->gW P β ⟨w.heap.size,0,0,0,none,false⟩ b (some o)->res = .ok (.value (.pointer (some ⟨w.heap.size,0,none⟩))) (w.alloc o)->dK P K β st w res (.val (.pointer (some ⟨st.next,0,none⟩)) (st.new b).2):=by
  intro res b o hno hb e;have:=hr.alloc o b hno 0 0 hb;exact⟨_,_,_,e,hr.le_put _,this,⟨rfl,_,d_ _ _ _,by simp⟩,(Bel.refl _ _).alloc hr.base _⟩
 simp only[aY,ho]at h;have hx:=hρ x;split at h
 ·rename_i s hu ha;rw[ha]at hx;have hx:=hx.string';obtain rfl:=Option.some.inj h;refine fin (b:= .siter s 0) (o:= .stringIter s 0) rfl ⟨rfl,rfl,rfl⟩ ?_;simp only[execOp,ho];refine eQ ?_;simp[Instr.range,run_underlying hu,hx]
 ·rename_i k e hu ha;rw[ha]at hx;have hx:ρ' x = .map none:=hx;obtain rfl:=Option.some.inj h;refine fin (b:= .miter none 0 [] 0) (o:= .mapIter none 0 #[] 0) rfl ⟨rfl,rfl,none,rfl,rfl⟩ ?_;simp only[execOp,ho];refine eQ ?_;simp[Instr.range,run_underlying hu,hx]
 ·rename_i k e m hu ha;rw[ha]at hx;obtain⟨l,hl,hx⟩:=hx;split at h
  ·rename_i es clock hg;obtain rfl:=Option.some.inj h;obtain⟨l',es',g1,g2,g3,g4⟩:=hr.get_map hg;obtain rfl:l'=l:=by rw[g1]at hl; exact Option.some.inj hl
   refine fin (b:= .miter (some m) clock [] clock) (o:= .mapIter (some l'.blk) clock #[] clock) rfl ⟨rfl,rfl,some l'.blk,⟨l',g1,rfl⟩,rfl⟩ ?_;simp only[execOp,ho];refine eQ ?_;simp[Instr.range,run_underlying hu,hx,MapKept.run_getObj_map g3]
  ·cases h
 ·cases h
theorem iw{r:Nat}{o:Obj}(h:w.heap[r]? = some o)(hc:∀ c e f,o≠ .cells c e f):(getObj r).run P w = .ok o w:=by
 unfold getObj;cases o<;>simp_all [Sem.run]
theorem lV{r:Nat}{o o':Obj}(h:w.heap[r]? = some o)(hc:∀ c e f,o≠ .cells c e f):(setObj r o').run P w = .ok () { w with heap:=w.heap.setIfInBounds r o' }:=by
 unfold setObj;cases o<;>simp_all [Sem.run]
theorem qL(p:Nat->Bool):∀ {a b:List MapEntry},ERL β a b->ERL β (a.filter fun e=>p e.born) (b.filter fun e=>p e.born)
 |[],_,h=>by have h:_=[]:=h; subst h; exact rfl
 |x::xs,_,⟨y,ys,e,h1,h2,h3,h4⟩=>by
  subst e;simp only[List.filter_cons,h1];split
  ·exact⟨y,_,rfl,h1,h2,h3,qL p h4⟩
  ·exact qL p h4
theorem Pm(p:Nat->Bool):∀ {a b:List MapEntry},ERL β a b->(a.all fun e=>p e.born)=b.all fun e=>p e.born
 |[],_,h=>by have h:_=[]:=h; subst h; rfl
 |x::xs,_,⟨y,ys,e,h1,h2,h3,h4⟩=>by subst e; simp only[List.all_cons,h1,Pm p h4]
theorem Kr(p:Nat->Bool):∀ {a b:List MapEntry} {e:MapEntry},ERL β a b->a.find? (fun e=>p e.born)=some e->∃ e',b.find? (fun e=>p e.born)=some e'/\VR β e.key e'.key/\VR β e.val e'.val
 |[],_,_,_,h=>by simp at h
 |x::xs,_,e,⟨y,ys,he,h1,h2,h3,h4⟩,h=>by
  subst he;simp only[List.find?_cons,h1]at h ⊢;split at h
  ·simp at h; subst h; exact⟨y,rfl,h2,h3⟩
  ·exact Kr p h4 h
theorem ERL.isEmpty:∀ {a b:List MapEntry},ERL β a b->a.isEmpty=b.isEmpty
 |[],_,h=>by have h:_=[]:=h; subst h; rfl
 |x::xs,_,⟨y,ys,e,_⟩=>by subst e; rfl
theorem BR(hr:Rel P K β st w){ρ ρ':Operand->Value}(hρ:∀ x,VR β (ρ x) (ρ' x)){o:Oper}{out:Out}{it:Operand}(ho:o.op = .next it true)(h:aY P ρ o st=some out) :
  dK P K β st w ((execOp ρ' o).run P w) out:=by
 simp only[aY,ho]at h;have hx:=hρ it;split at h
 ·rename_i r sp hv;rw[hv]at hx;obtain⟨hs,l,hl,hx⟩:=hx.ptr';have hs:sp=none:=hs;subst hs;split at h
  ·rename_i s pos hg;obtain⟨l',g1,g2,g3⟩:=hr.blk _ _ hg rfl;obtain rfl:l'=l:=by rw[g1]at hl; exact Option.some.inj hl
   obtain⟨hvt,hbase,g3⟩:l'.virt=false/\l'.base=0/\w.heap[l'.blk]? = some (.stringIter s pos):=g3;split at h
   ·rename_i hp;obtain rfl:=Option.some.inj h;have hb:gW P β l' (.siter s (pos+(Utf8.decode s pos).2)) (some (.stringIter s (pos+(Utf8.decode s pos).2))):=⟨hvt,hbase,rfl⟩
    obtain⟨q1,q2⟩:=hr.putObj hg rfl g1 hb;refine⟨β,_, .tuple #[.bool true, .int .i64 pos, .int .i32 (Utf8.decode s pos).1],?_,Env.le.refl _,q1,?_,q2⟩
    ·simp only[execOp,ho];refine eQ ?_;simp[hx,hbase,Instr.next,iw g3 (by intros; simp),lV g3 (by intros; simp),hp,goInt]
    ·exact⟨_,rfl,VRL.cons rfl (VRL.cons rfl (VRL.cons rfl VRL.nil))⟩
   ·rename_i hp;obtain rfl:=Option.some.inj h;refine dK.same hr (v':= .tuple #[.bool false]) ?_ ⟨_,rfl,VRL.cons rfl VRL.nil⟩;simp only[execOp,ho];refine eQ ?_;simp[hx,hbase,Instr.next,iw g3 (by intros; simp),hp]
  ·cases h
 ·cases h
end
section
variable{P:Program}{K:Prot}{β:Env}{st:St}{w:World}
theorem Gf(hr:Rel P K β st w){ρ ρ':Operand->Value}(hρ:∀ x,VR β (ρ x) (ρ' x)){o:Oper}{out:Out}{it:Operand}(ho:o.op = .next it false)(h:aY P ρ o st=some out) :
  dK P K β st w ((execOp ρ' o).run P w) out:=by
 simp only[aY,ho]at h;have hx:=hρ it;have over:VR β (.tuple #[.bool false]) (.tuple #[.bool false]):=⟨_,rfl,VRL.cons rfl VRL.nil⟩
 split at h
 ·rename_i r sp hv;rw[hv]at hx;obtain⟨hs,l,hl,hx⟩:=hx.ptr';have hs:sp=none:=hs;subst hs;split at h
  ·rename_i a b c hg;obtain⟨l',g1,g2,g3⟩:=hr.blk _ _ hg rfl;obtain rfl:l'=l:=by rw[g1]at hl; exact Option.some.inj hl
   obtain⟨hvt,hbase,m',hm,g3⟩:=g3;have hm:m'=none:=by have:Value.map m' = .map none:=hm; simpa using this
   subst hm;obtain rfl:=Option.some.inj h;refine dK.same hr (v':= .tuple #[.bool false]) ?_ over;simp only[execOp,ho];refine eQ ?_;simp[hx,hbase,Instr.next,iw g3 (by intros; simp)]
  ·rename_i m since seen last hg;obtain⟨l',g1,g2,g3⟩:=hr.blk _ _ hg rfl;obtain rfl:l'=l:=by rw[g1]at hl; exact Option.some.inj hl
   obtain⟨hvt,hbase,m',hm,g3⟩:=g3;obtain⟨lm,hlm,hm⟩:=hm;have hm:m'=some lm.blk:=by simpa using hm
   subst hm;split at h
   ·rename_i es clock hgm;obtain⟨lm',es',k1,k2,k3,k4⟩:=hr.get_map hgm;obtain rfl:lm'=lm:=by rw[k1]at hlm; exact Option.some.inj hlm
    split at h
    ·cases h
    ·rename_i hguard;have hguard':(!seen.isEmpty&&!es'.isEmpty&&es'.all (fun e=>decide (e.born>=last)))=false:=by
      have e1:=k4.isEmpty;have e2:=Pm (fun b=>decide (b>=last)) k4;have e3:es'.isEmpty=es'.toList.isEmpty:=by simp
      have e4:es'.all (fun e=>decide (e.born>=last))=es'.toList.all (fun e=>decide (e.born>=last)):=by simp
      rw[e3,e4,<-e1,<-e2];simpa using hguard
     have hleft:=qL (fun b=>!seen.contains b) k4;have hold:=qL (fun b=>decide (b<since)) hleft;have hnew:=qL (fun b=>decide (b>=since)) hleft;generalize hL:es.filter (fun e=>!seen.contains e.born)=left at *;have hL':(es'.filter fun e=>!(⟨seen.reverse⟩:Array Nat).contains e.born)=⟨es'.toList.filter fun e=>!seen.contains e.born⟩:=by
      apply Array.ext'; simp
     generalize hLc:es'.toList.filter (fun e=>!seen.contains e.born)=left' at *;split at h
     ·rename_i ho0 hn0;obtain rfl:=Option.some.inj h;rw[ho0]at hold;rw[hn0]at hnew;have hold:left'.filter (fun e=>decide (e.born<since))=[]:=hold;have hnew:left'.filter (fun e=>decide (e.born>=since))=[]:=hnew;refine dK.same hr (v':= .tuple #[.bool false]) ?_ over;simp only[execOp,ho];refine eQ ?_;simp only[Instr.next,hx,hbase,Nat.zero_add];simp only[Sem.run_bind,iw g3 (by intros; simp),Result.andThen,MapKept.run_getObj_map k3];have hg2:(!(⟨seen.reverse⟩:Array Nat).isEmpty&&!es'.isEmpty&&es'.all (fun e=>decide (e.born>=last)))=false:=by simpa using hguard'
      simp only[hg2,Bool.false_eq_true,if_false,hL'];simp only[List.filter_toArray,hold,hnew,List.append_toArray,List.append_nil,List.map_toArray,List.map_nil,List.isEmpty_toArray,List.isEmpty_nil,if_true];simp[Question.forced]
     ·rename_i e0 ho1 hn0;obtain rfl:=Option.some.inj h;rw[ho1]at hold;rw[hn0]at hnew;obtain⟨e',es2,he,hb,hk,hvv,hrest⟩:=hold;have hrest:es2=[]:=hrest;subst hrest;have hnew:left'.filter (fun e=>decide (e.born>=since))=[]:=hnew;have hbk:gW P β l' (.miter (some m) since (e0.born::seen) clock) (some (.mapIter (some lm'.blk) since ((⟨seen.reverse⟩:Array Nat).push e'.born) clock)):=
       ⟨hvt,hbase,some lm'.blk,⟨lm',k1,rfl⟩,by simp[hb]⟩
      obtain⟨q1,q2⟩:=hr.putObj hg rfl g1 hbk;refine⟨β,_, .tuple #[.bool true,e'.key,e'.val],?_,Env.le.refl _,q1,⟨_,rfl,VRL.cons rfl (VRL.cons hk (VRL.cons hvv VRL.nil))⟩,q2⟩;simp only[execOp,ho];refine eQ ?_;simp only[Instr.next,hx,hbase,Nat.zero_add];simp only[Sem.run_bind,iw g3 (by intros; simp),Result.andThen,MapKept.run_getObj_map k3];have hg2:(!(⟨seen.reverse⟩:Array Nat).isEmpty&&!es'.isEmpty&&es'.all (fun e=>decide (e.born>=last)))=false:=by simpa using hguard'
      simp only[hg2,Bool.false_eq_true,if_false,hL'];simp only[List.filter_toArray,he,hnew,List.append_toArray,List.append_nil,List.map_toArray,List.map_nil,List.isEmpty_toArray,List.isEmpty_cons,List.map_cons,if_false,Bool.false_eq_true,List.nil_append];simp[Question.forced,lV g3 (by intros; simp)]
     ·cases h
   ·cases h
  ·cases h
 ·cases h
theorem MQ(hr:Rel P K β st w){ρ ρ':Operand->Value}(hρ:∀ x,VR β (ρ x) (ρ' x)){o:Oper}{out:Out}{it:Operand}(ho:o.op = .entry it)(h:aY P ρ o st=some out) :
  dK P K β st w ((execOp ρ' o).run P w) out:=by
 simp only[aY,ho]at h;have hx:=hρ it;split at h
 ·rename_i r sp hv;rw[hv]at hx;obtain⟨hs,l,hl,hx⟩:=hx.ptr';have hs:sp=none:=hs;subst hs;split at h
  ·rename_i m since seen stepped hg;obtain⟨l',g1,g2,g3⟩:=hr.blk _ _ hg rfl;obtain rfl:l'=l:=by rw[g1]at hl; exact Option.some.inj hl
   obtain⟨hvt,hbase,m',hm,g3⟩:=g3;obtain⟨lm,hlm,hm⟩:=hm;have hm:m'=some lm.blk:=by simpa using hm
   subst hm;split at h
   ·rename_i stamp es clock hst hgm;obtain⟨lm',es',k1,k2,k3,k4⟩:=hr.get_map hgm;obtain rfl:lm'=lm:=by rw[k1]at hlm; exact Option.some.inj hlm
    split at h
    ·cases h
    ·rename_i hck;have hck:clock=stepped:=by simpa using hck
     split at h
     ·rename_i e he;obtain rfl:=Option.some.inj h;obtain⟨e',f1,f2,f3⟩:=Kr (fun b=>b == stamp) k4 he;refine dK.same hr (v':= .tuple #[e'.key,e'.val]) ?_ ⟨_,rfl,VRL.cons f2 (VRL.cons f3 VRL.nil)⟩;simp only[execOp,ho];refine eQ ?_;have hback:(⟨seen.reverse⟩:Array Nat).back? = some stamp:=by simpa using hst
      have f1':es'.find? (fun e=>e.born == stamp)=some e':=by simpa using f1
      simp[hx,hbase,Instr.entry,iw g3 (by intros; simp),MapKept.run_getObj_map k3,hback,f1',hck]
     ·cases h
   ·cases h
  ·cases h
 ·cases h
theorem Dl(hr:Rel P K β st w){ρ ρ':Operand->Value}(hρ:∀ x,VR β (ρ x) (ρ' x)){o:Oper}{out:Out}{x:Operand}{t asserted:TypeId}{ok:Bool}(ho:o.op = .typeAssert x t asserted ok)(h:aY P ρ o st=some out) :
  dK P K β st w ((execOp ρ' o).run P w) out:=by
 simp only[aY,ho]at h;have hx:=hρ x;have fin:∀ {v v':Value},VR β v v'->VR β (if ok then .tuple #[v, .bool true]else v) (if ok then .tuple #[v', .bool true]else v'):=by
  intro v v' hv;split
  ·exact⟨_,rfl,VRL.cons hv (VRL.cons rfl VRL.nil)⟩
  ·exact hv
 split at h
 ·rename_i want u v hu ha;split at h
  ·cases h
  rename_i htl;have htl:u<FZ:=Nat.not_le.1 htl;rw[ha]at hx;obtain⟨v',hx,hv⟩:=hx.iface_of htl;split at h
  ·rename_i i hi;split at h
   ·rename_i hm;obtain rfl:=Option.some.inj h;refine dK.same hr ?_ (fin (v:= .iface u v) (v':= .iface u v') (hv.iface_mk htl));simp only[execOp,ho];refine eQ ?_;simp[Instr.typeAssert,run_underlying hu,hx,typeInfo,hi,hm]
   ·rename_i miss hm;split at h
    ·cases h
    ·cases h
  ·cases h
 ·split at h
  ·cases h
  ·cases h
 ·rename_i d hni hu ha;split at h
  ·rename_i hok;split at h
   ·rename_i z hz;obtain rfl:=Option.some.inj h;obtain⟨i,hi,hzz,hfl⟩:=iL hz;rw[ha]at hx;have hx:ρ' x = .nilIface:=hx;refine dK.same hr (v':= .tuple #[z, .bool false]) ?_ ⟨_,rfl,VRL.cons (VR.flat_refl z hfl) (VRL.cons rfl VRL.nil)⟩;simp only[execOp,ho];refine eQ ?_;cases d<;>first | exact absurd rfl (hni _) | simp[Instr.typeAssert,run_underlying hu,hx,hok,jX hi hzz]
   ·cases h
  ·cases h
 ·rename_i d u v hni hu ha;split at h
  ·cases h
  rename_i htl;have htl:u<FZ:=Nat.not_le.1 htl;rw[ha]at hx;obtain⟨v',hx,hv⟩:=hx.iface_of htl;split at h
  ·rename_i htu;obtain rfl:=Option.some.inj h;refine dK.same hr ?_ (fin hv);simp only[execOp,ho];refine eQ ?_;cases d<;>first | exact absurd rfl (hni _) | simp[Instr.typeAssert,run_underlying hu,hx,htu]
  ·rename_i htu;split at h
   ·rename_i hok;split at h
    ·rename_i z hz;obtain rfl:=Option.some.inj h;obtain⟨i,hi,hzz,hfl⟩:=iL hz;refine dK.same hr (v':= .tuple #[z, .bool false]) ?_ ⟨_,rfl,VRL.cons (VR.flat_refl z hfl) (VRL.cons rfl VRL.nil)⟩;simp only[execOp,ho];refine eQ ?_;cases d<;>first | exact absurd rfl (hni _) | simp[Instr.typeAssert,run_underlying hu,hx,htu,hok,jX hi hzz]
    ·cases h
   ·cases h
 ·cases h
end
section
variable{P:Program}{K:Prot}{β:Env}{st:St}{w:World}
theorem EG(hr:Rel P K β st w){size n:Nat}{new:List Value}{xt:TypeDesc}{tx:TypeId}{x x':Value}(hx:VR β x x')(hu:P.underlying tx=some xt)(h:kQ st size xt x=some (n,new))(h1:new.all oneCell=true) :
  ∃ new',Src P size tx x' n new' w/\VRL β new new':=by
 unfold kQ at h;split at h
 ·rename_i e a n0 c;split at h
  ·rename_i cs hcs;simp at h;obtain⟨rfl,rfl⟩:=h;obtain⟨hs,l,hl,hsl⟩:=hx;obtain⟨c2,g1,g2,g3,g4⟩:=hr.cellsAt hcs hl;obtain⟨q1,_,_,q2⟩ | ⟨a',c',e1,e2⟩:=hsl.form
   ·subst q1 q2;have hc2:c2=[]:=by simpa using g2
    subst hc2;exact⟨[],Src.ofNil w hu 0,g1⟩
   subst e1;refine⟨c2,Src.ofSlice w hu a' n0 c' c2 g2 (fun j u hj=>?_) (g1.oneCells h1),g1⟩;by_cases hn:n0=0
   ·subst hn;have:c2=[]:=by simpa using g2
    subst this; simp at hj
   ·rw[e2 hn]; exact g4 j u hj
  ·cases h
 ·rename_i e n0 c;split at h
  ·rename_i hn;simp at h;obtain⟨rfl,rfl⟩:=h;have hx:x' = .slice none n0 c:=hx;subst hx hn;exact⟨[],Src.ofNil w hu c,VRL.nil⟩
  ·cases h
 ·rename_i s;split at h
  ·rename_i hsz;simp at h;obtain⟨rfl,rfl⟩:=h;have hx:=hx.string';subst hx hsz;exact⟨byteCells s,Src.ofString w hu s,tZ s⟩
  ·cases h
 ·split at h
  ·rename_i z hz;split at h
   ·rename_i hsz;simp at h;obtain⟨rfl,rfl⟩:=h;obtain⟨hs0,r⟩:=qo hz hx;unfold iU at r;rw[if_neg hs0]at r;obtain⟨r0,r⟩:=r;obtain⟨r1,r2,r3⟩ | ⟨r1,p,cap,r2,r3⟩ | ⟨rp,k0,o0,cap,cs,e0,f0,lc,r2,r3,r4,r5,r6,r7,r8⟩:=r
    ·have hc:z.cells=[]:=by rw[r1]at r0; simpa using r0
     rw[r1,hc,r3];exact⟨[],Src.ofNil w hu 0,VRL.nil⟩
    ·have hc:z.cells=[]:=by rw[r1]at r0; simpa using r0
     rw[r1,hc,r2];exact⟨[],Src.ofSlice w hu p 0 cap [] (by simp) (fun j u hj=>by simp at hj) (by simp),VRL.nil⟩
    ·obtain⟨c',g1,g2,g4⟩:=xe hr r4 r5 r6 (VRL.mono (Bh _) _ _ r7) (a:=0) (n:=z.n*z.sz) (by omega);rw[List.drop_zero,List.take_of_length_le (by omega)]at g1;simp only[Nat.add_zero]at g4;rw[r2];exact⟨c',Src.ofSlice w hu _ z.n cap c' (by rw[g2,hsz]) g4 (g1.oneCells h1),g1⟩
   ·cases h
  ·cases h
 ·cases h
theorem rD{t tx ty e:TypeId}{i:TypeInfo}(ht:P.underlying t=some (.slice e))(hi:P.info? e=some i){a:Addr}{sLen sCap:Nat}{x:Value}{n:Nat}{news:List Value}(hs:Src P i.size tx x n news w)
  (hroom:sLen+n<=sCap) {w':World} (hst:(storeCells (a.add (sLen*i.size)) news).run P w = .ok () w') :
  (Builtin.append_ #[t,tx] ty #[.slice (some a) sLen sCap,x]).run P w = .ok (.slice (some a) (sLen+n) sCap) w':=by
 rcases hs.kind with⟨e',hk⟩ | hk<;>simp[Builtin.append_,run_underlying ht,run_underlying hk,sizeOf,typeInfo,hi,hs.len,hroom,hs.cells,hst]
theorem XG{need old bytes:Nat}(h:old<need)(h1:need<=big)(h2:bytes<=big):Builtin.nextslicecap need old*bytes<=281474976710656:=by
 have hb:big=4194304:=rfl;rw[hb]at h1 h2;refine growslice_fits_wide h ?_
 calc (need+need / 4+192)*bytes<=(4194304+1048576+192)*4194304:=Nat.mul_le_mul (by omega) h2
  _<=281474976710656:=by decide
theorem Tt(hr:Rel P K β st w){e:TypeId}{i:TypeInfo}{z:Value}(hi:P.info? e=some i)(hz:z.cells.size=i.size)(hs0:i.size≠0){need cap:Nat}(hcap:need<=cap)(hcap2:cap<9223372036854775808){c c':List Value}(hc:VRL β c c')(hlen:c'.length=need*i.size) :
  ∃ β',β.le β'/\Rel P K β' (newRow st c e false).2 (w.drew.alloc (.cells (c'.toArray++Builtin.zeroCells z.cells (cap-need)) e))/\
   VR β' (.slice (some (newRow st c e false).1) need unk) (.slice (some ⟨w.heap.size,0,none⟩) need cap)/\Bel K w (w.drew.alloc (.cells (c'.toArray++Builtin.zeroCells z.cells (cap-need)) e)):=by
 have e2:c'.length+(Builtin.zeroCells z.cells (cap-need)).toList.length=cap*i.size:=by
  have e4:(Builtin.zeroCells z.cells (cap-need)).toList.length=(cap-need)*i.size:=by rw[Array.length_toList,size_zeroCells,hz]
  rw[e4,hlen,<-Nat.add_mul]; congr 1; omega
 have e3:esz P e=i.size:=by simp[esz,hi]
 obtain⟨g1,g2,g3,g4⟩:=hr.drew.newRow hc e false (Builtin.zeroCells z.cells (cap-need)).toList (fun h=>by cases h) (fun _=>by
  rw[e2,e3]; exact Nat.mul_lt_mul_of_pos_right hcap2 (Nat.pos_of_ne_zero hs0))
 have e1:(⟨c'++(Builtin.zeroCells z.cells (cap-need)).toList⟩:Array Value)=c'.toArray++Builtin.zeroCells z.cells (cap-need):=by
  apply Array.ext'; simp
 rw[e1]at g1 g4;refine⟨_,g3,g1,?_,(Bel.refl _ _).drew.trans g4⟩;rw[g2];refine⟨rfl,_,d_ _ _ _,?_⟩;unfold dW;rw[if_neg (by simp),if_neg (by simp),if_pos rfl];refine⟨?_,Nat.zero_le _⟩;simp only[e2,e3,Nat.sub_zero,Nat.mul_div_cancel _ (Nat.pos_of_ne_zero hs0),Nat.add_zero]
 rfl
theorem Mc(l new rest:List Value)(p k:Nat)(hk:p+k<=l.length):((l.take (p+k)++new++rest).drop p).take (k+new.length)=(l.drop p).take k++new:=by
 have e1:(l.take (p+k)).drop p=(l.drop p).take k:=by rw[List.drop_take]; congr 1; omega
 have e2:((l.drop p).take k).length=k:=by simp; omega
 rw[List.append_assoc,List.drop_append_of_le_length (by simp; omega),e1,<-List.append_assoc,List.take_append_of_le_length (by simp; omega),List.take_of_length_le (by simp; omega)]
theorem Ls(hr:Rel P K β st w){t tx ty e:TypeId}{i:TypeInfo}{z:Value}(ht:P.underlying t=some (.slice e))(hi:P.info? e=some i)(hzz:i.zero=some z)(hz:z.cells.size=i.size)(hs0:i.size≠0)(hby:i.bytes<=big)
  {s s' x' v:Value} {n:Nat} {new new':List Value} {st':St} (hs:VR β s s') (hsrc:Src P i.size tx x' n new' w) (hnew:VRL β new new') (h:f_ P st e i.size n new s=some (v,st')) :
  ∃ β' w' v',(Builtin.append_ #[t,tx] ty #[s',x']).run P w = .ok v' w'/\β.le β'/\Rel P K β' st' w'/\VR β' v v'/\Bel K w w':=by
 have hnl:=hsrc.newsLen;have hbig:big=4194304:=rfl;have hgrow:∀ (base:Option Addr) (sLen sCap:Nat) (old olds:List Value),VRL β old olds->olds.length=sLen*i.size->(Builtin.firstCells i.size sLen (.slice base sLen sCap)).run P w.drew = .ok olds.toArray w.drew->sCap<sLen+n->sLen+n<=big->
   ∀ st0,Rel P K β st0 w->∃ β' w' v',(Builtin.append_ #[t,tx] ty #[.slice base sLen sCap,x']).run P w = .ok v' w'/\β.le β'/\Rel P K β' (newRow st0 (old++new) e false).2 w'/\VR β' (.slice (some (newRow st0 (old++new) e false).1) (sLen+n) unk) v'/\Bel K w w':=by
  intro base sLen sCap old olds hold hol hfirst hg hb st0 hr0;have hrun:=run_append_grow_src (ty:=ty) w t tx e i z ht hi hzz base sLen sCap olds hfirst x' n new' hsrc hg (by omega) (XG hg hb hby);obtain⟨β',h1,h2,h3,h4⟩:=Tt hr0 hi hz hs0 (grownCap_ge w (sLen+n) sCap e) (by
   have:=Nat.mod_lt (w.tape w.drawn (.appendCap (sLen+n) sCap e)) (show 0<2^63-(sLen+n) by omega)
   simp only[grownCap,Question.cut]; omega) (hold.append hnew) (by rw[List.length_append,hol,hnl,Nat.add_mul])
  exact⟨β',_,_,hrun,h1,h2,h3,h4⟩
 unfold f_ at h;split at h
 ·rename_i len cap;split at h
  ·cases h
  ·rename_i hc;simp only[Bool.or_eq_true,decide_eq_true_eq,not_or,ne_eq,Decidable.not_not]at hc;obtain⟨⟨c1,c2⟩,c3⟩:=hc;have hs:s' = .slice none len cap:=hs;subst hs c1 c2;split at h
   ·rename_i hn;simp at h;obtain⟨rfl,rfl⟩:=h;subst hn;have hnil:new'=[]:=by simpa using hnl
    subst hnil;exact⟨β,w,_,run_append_nothing w t tx ty e i ht hi none 0 0 (Nat.le_refl _) x' hsrc,Env.le.refl _,hr,rfl,Bel.refl _ _⟩
   ·rename_i hn;simp at h;obtain⟨rfl,rfl⟩:=h;have:=hgrow none 0 0 [] [] VRL.nil (by simp) (by simp[Builtin.firstCells]) (by omega) (by omega) st hr;simpa using this
 ·rename_i a len cap;split at h
  ·cases h
  ·rename_i hlb;obtain⟨hsp,l,hl,hsl⟩:=hs;cases hvt:l.virt with
   |true=>
    have hsl':=hsl;unfold dW at hsl;rw[if_pos hvt]at hsl;obtain⟨h0,hoff0,hcap,hs'⟩:=hsl;subst h0 hs';have same:n=0->v = .slice (some a) 0 cap/\st'=st->∃ β' w' v',(Builtin.append_ #[t,tx] ty #[.slice none 0 0,x']).run P w = .ok v' w'/\β.le β'/\Rel P K β' st' w'/\VR β' v v'/\Bel K w w':=by
     rintro hn ⟨rfl,rfl⟩;subst hn;have hnil:new'=[]:=by simpa using hnl
     subst hnil;exact⟨β,w,_,run_append_nothing w t tx ty e i ht hi none 0 0 (Nat.le_refl _) x' hsrc,Env.le.refl _,hr,⟨hsp,l,hl,hsl'⟩,Bel.refl _ _⟩
    have grow:∀ st0,Rel P K β st0 w->n≠0->∃ β' w' v',(Builtin.append_ #[t,tx] ty #[.slice none 0 0,x']).run P w = .ok v' w'/\β.le β'/\Rel P K β' (newRow st0 new e false).2 w'/\VR β' (.slice (some (newRow st0 new e false).1) (0+n) unk) v'/\Bel K w w':=by
     intro st0 hr0 hn;have:=hgrow none 0 0 [] [] VRL.nil (by simp) (by simp[Builtin.firstCells]) (by omega) (by omega) st0 hr0;simpa using this
    split at h
    ·rename_i hcu;have hc0:cap=0:=by unfold unk at *; omega
     subst hc0;split at h
     ·have hn:n=0:=by omega
      rw[if_pos hn]at h;simp at h;exact same hn ⟨h.1.symm,h.2.symm⟩
     ·rename_i hroom;split at h
      ·rename_i old hold;have ho:old=[]:=by
        obtain⟨c',g1,g2,g3,g4⟩:=hr.cellsAt hold hl;simpa using g3
       subst ho;simp at h;obtain⟨rfl,rfl⟩:=h;have:=grow st hr (by omega);simpa using this
      ·cases h
    ·rename_i hcu;have hc0:cap=unk:=hcap.resolve_left (by rintro rfl; exact hcu (by unfold unk; omega));subst hc0;split at h
     ·rename_i c e' ex hg;have k:c=[]/\ex=false:=by
       obtain⟨l',k1,⟨_,k2,k3⟩ | ⟨k2,_⟩⟩:=hr.get_cells hg
       ·exact⟨k2,k3⟩
       ·rw[k1]at hl; obtain rfl:=Option.some.inj hl; rw[hvt]at k2; cases k2
      obtain⟨k2,k3⟩:=k;subst k2 k3;split at h
      ·cases h
      ·rename_i hcond;simp only[Bool.or_eq_true,decide_eq_true_eq,not_or,ne_eq,Decidable.not_not,Bool.and_eq_true,not_and,Bool.not_eq_true,Nat.not_lt]at hcond;obtain⟨⟨⟨⟨d1,d2⟩,d3⟩,d4⟩,d5⟩:=hcond;subst d3;have hkill:=hr.kill a.block (by intro o e; rw[hg]at e; cases e);split at h
       ·rename_i hn;split at h
        ·simp at h;exact same hn ⟨h.1.symm,h.2.symm⟩
        ·cases h
       ·rename_i hn;rw[if_pos (by simp[hoff0])]at h;simp at h;obtain⟨rfl,rfl⟩:=h;have:=grow _ hkill hn;simpa using this
     ·cases h
   |false=>
   split at h
   ·rename_i hcu;unfold dW at hsl;rw[if_neg (by simp[hvt]),if_pos hcu]at hsl;subst hsl;split at h
    ·rename_i hroom;split at h
     ·rename_i hn;simp at h;obtain⟨rfl,rfl⟩:=h;subst hn;have hnil:new'=[]:=by simpa using hnl
      subst hnil;refine⟨β,w,_,run_append_nothing w t tx ty e i ht hi _ len cap (by omega) x' hsrc,Env.le.refl _,hr,⟨hsp,l,hl,?_⟩,Bel.refl _ _⟩;unfold dW; rw[if_neg (by simp[hvt]),if_pos hcu]
     ·split at h
      ·rename_i st2 hset;simp at h;obtain⟨rfl,rfl⟩:=h;obtain⟨w',q1,q2,q3,_⟩:=hr.setCells hset hnew (l:=l) (by rw[add_block]; exact hl);refine⟨β,w',_,rD ht hi hsrc hroom ?_,Env.le.refl _,q2,⟨hsp,l,hl,?_⟩,q3⟩
       ·rw[jm,Nat.add_assoc,<-pz]; exact q1
       ·unfold dW; rw[if_neg (by simp[hvt]),if_pos hcu]
      ·cases h
    ·rename_i hroom;split at h
     ·rename_i old hold;simp at h;obtain⟨rfl,rfl⟩:=h;obtain⟨c2,g1,g2,g3,g4⟩:=hr.cellsAt hold hl;exact hgrow _ len cap old c2 g1 g2 (run_firstCells_some w.drew i.size len _ len cap c2 g2 g4) (by omega) (by omega) st hr
     ·cases h
   ·rename_i hcu;split at h
    ·rename_i c e' exact hg;obtain⟨l',k1,⟨kv,_⟩ | ⟨kv,k2,cc,f,k3,k4,k5,k6,k7,k8,k9⟩⟩:=hr.get_cells hg
     ·rw[k1]at hl; obtain rfl:=Option.some.inj hl; rw[hvt]at kv; cases kv
     obtain rfl:l'=l:=by rw[k1]at hl; exact Option.some.inj hl
     split at h
     ·cases h
     ·rename_i hcond;simp only[Bool.or_eq_true,decide_eq_true_eq,not_or,ne_eq,Decidable.not_not,Bool.and_eq_true,not_and,Bool.not_eq_true,Nat.not_lt]at hcond;obtain⟨⟨⟨⟨d1,d2⟩,d3⟩,d4⟩,d5⟩:=hcond;subst d3;have hes:l'.esize=i.size:=by rw[k4]; simp[esz,hi]
      unfold dW at hsl;rw[if_neg (by simp[hvt]),if_neg hcu]at hsl;have hdiv:∀ m,m*i.size<=l'.total-a.off->m<=(l'.total-a.off) / l'.esize:=fun m hm=>by
       rw[hes]; exact(Nat.le_div_iff_mul_le (Nat.pos_of_ne_zero hs0)).2 hm
      split at h
      ·rename_i hn;subst hn;have hnil:new'=[]:=by simpa using hnl
       subst hnil;split at h
       ·rename_i hfit;simp at h;obtain⟨rfl,rfl⟩:=h;refine⟨β,w,s',?_,Env.le.refl _,hr,⟨hsp,l',k1,?_⟩,Bel.refl _ _⟩
        ·split at hsl
         ·obtain⟨rfl,_⟩:=hsl;exact run_append_nothing w t tx ty e' i ht hi _ len _ (hdiv _ (by omega)) x' hsrc
         ·obtain⟨rfl,_,_,rfl⟩:=hsl;split<;>exact run_append_nothing w t tx ty e' i ht hi _ 0 _ (Nat.zero_le _) x' hsrc
        ·unfold dW; rw[if_neg (by simp[hvt]),if_neg hcu]; exact hsl
       ·cases h
      ·rename_i hn;have hkill:=hr.kill a.block (by intro o e; rw[hg]at e; cases e);have hfirst:a.off+len*i.size<=c.length->∃ c2,VRL β ((c.drop a.off).take (len*i.size)) c2/\c2.length=len*i.size/\((c.drop a.off).take (len*i.size)).length=len*i.size/\∀ j v,c2[j]? = some v->w.cell? ((⟨l'.blk,l'.base+a.off,none⟩:Addr).add j)=some v:=by
        intro hlenle;have hcells:cellsAt st a (len*i.size)=some ((c.drop a.off).take (len*i.size)):=by
         unfold cellsAt; rw[if_neg (by simp[d2]),hg]; simp[hlenle]
        exact hr.cellsAt hcells k1
       have hfits:∀ (off2 cap2:Nat),a.off+len*i.size<=c.length->off2+len*i.size<=c.length->a.off<=off2->(len≠0->off2=a.off)->s' = .slice (some ⟨l'.blk,l'.base+off2,none⟩) len cap2->cap2=(l'.total-off2) / l'.esize->len+n<=cap2->
         ∃ β' w' v',(Builtin.append_ #[t,tx] ty #[s',x']).run P w = .ok v' w'/\β.le β'/\Rel P K β' (newRow (kill st a.block) ((c.drop a.off).take (len*i.size)++new) e' false).2 w'/\
          VR β' (.slice (some (newRow (kill st a.block) ((c.drop a.off).take (len*i.size)++new) e' false).1) (len+n) unk) v'/\Bel K w w':=by
        intro off2 cap2 h0 h1 h2 h3 h4 h5 h6;subst h4;obtain⟨c2,g1,g2,g3,g4⟩:=hfirst h0;have hmul:(len+n)*i.size<=l'.total-off2:=by
         rw[h5,hes]at h6;exact(Nat.le_div_iff_mul_le (Nat.pos_of_ne_zero hs0)).1 h6
        have hnpos:0<n*i.size:=Nat.mul_pos (Nat.pos_of_ne_zero hn) (Nat.pos_of_ne_zero hs0);have hmul2:len*i.size+n*i.size<=l'.total-off2:=by rw[<-Nat.add_mul]; exact hmul
        have hoff:off2<=l'.total:=by omega
        have hfitcc:l'.base+off2+len*i.size+0+new'.length<=cc.size:=by rw[hnl]; omega
        have hst:=rO P l'.blk (l'.base+off2+len*i.size) e' f new' 0 cc w k3 k9.1 hfitcc (fun u hu=>hsrc.one u hu);generalize hW:(w.setRow l'.blk (cc.toList.take (l'.base+off2+len*i.size+0)++new'++cc.toList.drop (l'.base+off2+len*i.size+0+new'.length)).toArray)=W at hst;have hrunA:(Builtin.append_ #[t,tx] ty #[.slice (some ⟨l'.blk,l'.base+off2,none⟩) len cap2,x']).run P w = .ok (.slice (some ⟨l'.blk,l'.base+off2,none⟩) (len+n) cap2) W:=
         rD ht hi hsrc h6 (by rw[jm]; exact hst)
        have hbelow:Bel K w W:=by rw[<-hW]; exact EQ (Bel.refl _ _) k2 _
        have hWsz:W.heap.size=w.heap.size:=by rw[<-hW]; simp
        have hWo:∀ k,k≠l'.blk->W.heap[k]? = w.heap[k]?:=fun k hk=>by rw[<-hW]; exact setRow_other _ _ _ _ hk
        have hWat:W.heap[l'.blk]? = some (.cells (cc.toList.take (l'.base+off2+len*i.size+0)++new'++cc.toList.drop (l'.base+off2+len*i.size+0+new'.length)).toArray e' f):=by
         rw[<-hW]; exact setRow_heap w l'.blk cc _ e' f k3
        have hnl':new'.length=n*i.size:=hnl;have hclen:((c.drop a.off).take (len*i.size)++new).length=len*i.size+n*i.size:=by
         rw[List.length_append,g3,hnew.length,hnl']
        have hadopt:=hr.move (b':= .cells ((c.drop a.off).take (len*i.size)++new) e' false) (l2:=⟨l'.blk,l'.base+off2,l'.total-off2,l'.esize,none,false⟩) hg rfl rfl rfl k1 hvt rfl rfl hWsz hWo ?_
        ·refine⟨_,W,_,hrunA,hr.le_put _,hadopt,?_,hbelow⟩;refine⟨rfl,_,d_ _ _ _,?_⟩;unfold dW;rw[if_neg (by simp),if_neg (by simp),if_pos rfl,h5];exact⟨rfl,Nat.zero_le _⟩
        ·refine gW.mono (hr.le_put _) ?_;have htot:(cc.toList.take (l'.base+off2+len*i.size+0)++new'++cc.toList.drop (l'.base+off2+len*i.size+0+new'.length)).length=cc.size:=by
          rw[Nat.add_mul]at hmul;simp only[List.length_append,List.length_take,List.length_drop,Array.length_toList,hnl']; omega
         refine Or.inr ⟨rfl,_,f,hWat,k4,?_,?_,fun hx=>(by cases hx),?_,?_⟩
         ·simp only[List.size_toArray,htot]; omega
         ·rw[hclen,<-Nat.add_mul]; exact hmul
         ·have hcells2:VRL β ((c.drop a.off).take (len*i.size)) ((cc.toList.drop (l'.base+off2)).take (len*i.size)):=by
           by_cases hl0:len=0
           ·subst hl0; simp[VRL]
           ·rw[h3 hl0];have hh:=(k8.drop a.off).take (len*i.size);have e5:(((cc.toList.drop l'.base).take c.length).drop a.off).take (len*i.size)=(cc.toList.drop (l'.base+a.off)).take (len*i.size):=by
             rw[List.drop_take,List.drop_drop,List.take_take];congr 1; omega
            rw[e5]at hh; exact hh
          have e6:(((cc.toList.take (l'.base+off2+len*i.size+0)++new'++cc.toList.drop (l'.base+off2+len*i.size+0+new'.length)).toArray.toList.drop (l'.base+off2)).take ((c.drop a.off).take (len*i.size)++new).length)=(cc.toList.drop (l'.base+off2)).take (len*i.size)++new':=by
           have e7:=Mc cc.toList new' (cc.toList.drop (l'.base+off2+len*i.size+0+new'.length)) (l'.base+off2) (len*i.size) (by simp only[Array.length_toList]; omega);rw[hclen,<-hnl',<-e7];simp only[Nat.add_zero]
          rw[e6];exact hcells2.append hnew
         ·refine⟨by simp only[List.size_toArray,htot]; exact k9.1,fun _=>?_⟩;have:=k9.2 d1;show l'.total-off2<9223372036854775808*l'.esize;omega
       have hmoves:cap=unk->a.off+len*i.size<=c.length->∃ β' w' v',(Builtin.append_ #[t,tx] ty #[s',x']).run P w = .ok v' w'/\β.le β'/\Rel P K β' (newRow (kill st a.block) ((c.drop a.off).take (len*i.size)++new) e' false).2 w'/\
          VR β' (.slice (some (newRow (kill st a.block) ((c.drop a.off).take (len*i.size)++new) e' false).1) (len+n) unk) v'/\Bel K w w':=by
        intro hce hlenle;rw[if_pos hce]at hsl;obtain⟨hs',hoffl⟩:=hsl;subst hce;obtain⟨c2,g1,g2,g3,g4⟩:=hfirst hlenle;by_cases hroom:len+n<=(l'.total-a.off) / l'.esize
        ·exact hfits a.off _ hlenle hlenle (Nat.le_refl _) (fun _=>rfl) hs' rfl hroom
        ·rw[hs'];exact hgrow _ len _ _ c2 g1 g2 (run_firstCells_some w.drew i.size len _ len _ c2 g2 g4) (by omega) (by omega) _ hkill
       split at h
       ·rename_i hend;simp at h;obtain⟨rfl,rfl⟩:=h;have hlenle:a.off+len*i.size<=c.length:=by
         rw[<-hend,Nat.add_mul]; omega
        by_cases hce:cap=unk
        ·exact hmoves hce hlenle
        ·rw[if_neg hce]at hsl;obtain⟨c2,g1,g2,g3,g4⟩:=hfirst hlenle;obtain⟨hl0,hle,hoffl,hs'⟩:=hsl;subst hl0;simp only[Nat.zero_add]at hend;by_cases hT:(l'.total-a.off) / l'.esize=cap-unk
         ·rw[if_pos hT]at hs';rw[hs'];clear hmoves hfits hfirst;exact hgrow _ 0 0 _ c2 g1 g2 (run_firstCells_some w.drew i.size 0 _ 0 0 c2 g2 g4) (by omega) (by omega) _ hkill
         ·rw[if_neg hT]at hs';by_cases hroom:0+n<=(l'.total-a.off) / l'.esize-(cap-unk)
          ·refine hfits (a.off+(cap-unk)*l'.esize) _ hlenle (by rw[hes]; clear hmoves hfirst; omega) (by clear hmoves hfirst; omega) (fun h=>absurd rfl h) hs' ?_ hroom;rw[Nat.sub_add_eq,Nat.mul_comm (cap-unk) l'.esize,Nat.sub_mul_div]
          ·rw[hs'];have g2':c2=[]:=by simpa using g2
           subst g2';clear hmoves hfits hfirst;exact hgrow _ 0 _ _ [] g1 (by simp) (by simp[Builtin.firstCells,loadCells,loadCellsFrom]) (by omega) (by omega) _ hkill
       ·split at h
        ·rename_i hfit;simp only[Bool.and_eq_true,decide_eq_true_eq]at hfit;obtain⟨hce,hfit⟩:=hfit;rw[if_pos hce]at hsl;obtain⟨hs',hoffl⟩:=hsl;split at h
         ·rename_i st2 hset;simp at h;obtain⟨rfl,rfl⟩:=h;obtain⟨w',q1,q2,q3,_⟩:=hr.setCells hset hnew (l:=l') (by rw[add_block]; exact k1);have hroom:len+n<=(l'.total-a.off) / l'.esize:=hdiv _ (by
           have:new.length=n*i.size:=by rw[hnew.length,hnl]
           rw[Nat.add_mul]; omega)
          rw[hs'];refine⟨β,w',_,rD ht hi hsrc hroom ?_,Env.le.refl _,q2,⟨hsp,l',k1,?_⟩,q3⟩
          ·rw[jm,Nat.add_assoc,<-pz]; exact q1
          ·unfold dW; rw[if_neg (by simp[hvt]),if_neg hcu,if_pos hce]; exact⟨rfl,hoffl⟩
         ·cases h
        ·split at h
         ·rename_i hlast;simp only[Bool.and_eq_true,decide_eq_true_eq]at hlast;simp at h;obtain⟨rfl,rfl⟩:=h;exact hmoves hlast.1 hlast.2
         ·cases h
    ·cases h
 ·split at h
  ·rename_i z hz;split at h
   ·cases h
   ·rename_i hc;simp only[Bool.or_eq_true,decide_eq_true_eq,not_or,ne_eq,Decidable.not_not]at hc;obtain⟨⟨c1,c2⟩,c3⟩:=hc;obtain⟨hsz0,r⟩:=qo hz hs;have r':=r;unfold iU at r;rw[if_neg hsz0]at r;obtain⟨r0,r⟩:=r;split at h
    ·rename_i hn;simp at h;obtain⟨rfl,rfl⟩:=h;subst hn;have hnil:new'=[]:=by simpa using hnl
     subst hnil;refine⟨β,w,s',?_,Env.le.refl _,hr,hs,Bel.refl _ _⟩;obtain⟨r1,r2,r3⟩ | ⟨r1,p,cap,r2,r3⟩ | ⟨rp,k0,o0,cap,cs,e0,f0,lc,r2,r3,r4,r5,r6,r7,r8⟩:=r
     ·rw[r3]; exact run_append_nothing w t tx ty e i ht hi none 0 0 (Nat.le_refl _) x' hsrc
     ·rw[r2]; exact run_append_nothing w t tx ty e i ht hi (some p) 0 cap (Nat.zero_le _) x' hsrc
     ·rw[r2]; exact run_append_nothing w t tx ty e i ht hi _ z.n cap (by omega) x' hsrc
    ·rename_i hn;split at h
     ·rename_i hgr;simp at h;obtain⟨rfl,rfl⟩:=h;obtain⟨r1,r2,r3⟩ | ⟨r1,p,cap,r2,r3⟩ | ⟨rp,k0,o0,cap,cs,e0,f0,lc,r2,r3,r4,r5,r6,r7,r8⟩:=r
      ·have hcz:z.cells=[]:=by rw[r1]at r0; simpa using r0
       rw[r3,hcz,r1];exact hgrow none 0 0 [] [] VRL.nil (by simp) (by simp[Builtin.firstCells]) (by omega) (by omega) st hr
      ·have hcz:z.cells=[]:=by rw[r1]at r0; simpa using r0
       have:=r3 c2;rw[r2,hcz,r1];exact hgrow (some p) 0 cap [] [] VRL.nil (by simp) (by simp[Builtin.firstCells,loadCells,loadCellsFrom]) (by omega) (by omega) st hr
      ·obtain⟨c',g1,g2,g4⟩:=xe hr r4 r5 r6 (VRL.mono (Bh _) _ _ r7) (a:=0) (n:=z.n*z.sz) (by omega);rw[List.drop_zero,List.take_of_length_le (by omega)]at g1;simp only[Nat.add_zero]at g4;have:=r3 c2;rw[r2];rw[c1]at g2;exact hgrow _ z.n cap z.cells c' g1 g2 (run_firstCells_some w.drew i.size z.n _ z.n cap c' g2 g4) (by omega) (by omega) st hr
     ·cases h
  ·cases h
end
def noNum(P:Program):Bool:=P.funcs.toList.all fun f=>f.name != "runtime.NumGoroutine"
section
variable{P:Program}{K:Prot}{β:Env}{st:St}{w:World}
theorem Hl(hN:noNum P=true){f:FuncId}{args:List Value}{args':Array Value}{out:Out}(ha:VRL β args args'.toList)(h:callF P f args st=some out) :
  dK P K β st w ((callFunc f args').run P w) out:=by
 unfold callF at h;split at h
 ·rename_i fn hf;split at h
  ·rename_i c hb;obtain rfl:=Option.some.inj h;refine⟨rfl,args',?_,ha⟩;have hn:¬fn.name= "runtime.NumGoroutine" :=by
    have hm:fn∈P.funcs.toList:=by
     have:=Array.mem_of_getElem? hf;exact Array.mem_toList_iff.2 this
    have:=List.all_eq_true.1 hN fn hm;simpa using this
   simp[callFunc,hf,hn,hb]
  ·cases h
 ·cases h
theorem QE{t:TypeId}{name:String}{f:FuncId}(h:methodOf P t name=some f)(k:Nat)(v:Value)(w:World):(method (k+1) t v name).run P w = .ok (f,v) w:=by
 unfold methodOf at h;split at h
 ·rename_i i hi;split at h
  ·rename_i m hm;split at h
   ·rename_i hp;have hp':m.path.toList=[]:=by simpa using hp
    split at h
    ·rename_i g e hf hu;obtain rfl:=Option.some.inj h;simp[method,typeInfo,hi,hm,hp',follow,hf,receiverAt,run_underlying hu,Place.get]
    ·cases h
    ·rename_i g d hne hf hu;obtain rfl:=Option.some.inj h;cases d<;>first | exact absurd rfl (hne _) | simp[method,typeInfo,hi,hm,hp',follow,hf,receiverAt,run_underlying hu,Place.get]
    ·cases h
   ·cases h
  ·cases h
 ·cases h
theorem sO(hN:noNum P=true){tg tg':Target}{args:List Value}{args':Array Value}{out:Out}(ht:acx β tg tg')(ha:VRL β args args'.toList)(h:kH P tg args st=some out) :
  dK P K β st w ((invoke tg' args').run P w) out:=by
 unfold kH at h;split at h
 ·rename_i f captured;obtain⟨f',c',rfl,hf,hc⟩:=ht;have hf:f' = .func f:=hf;subst hf;simp only[invoke];refine Hl hN ?_ h;simp only[Array.toList_append];exact ha.append (jy.1 hc)
 ·rename_i name captured;obtain⟨f',c',rfl,hf,hc⟩:=ht;have hf:f' = .method name:=hf;subst hf;split at h
  ·rename_i t v rest;split at h
   case isFalse=>cases h
   rename_i htl;split at h
   ·rename_i f hm;simp only[VRL]at ha;obtain⟨y,ys,hy,hiv,hrest⟩:=ha;obtain⟨v',rfl,hv⟩:=hiv.iface_of htl;have h0:args'[0]? = some (.iface t v'):=by
     rw[<-Array.getElem?_toList,hy]; rfl
    have h1:(args'.extract 1 args'.size).toList=ys:=by
     have hsz:args'.size=ys.length+1:=by rw[<-Array.length_toList,hy]; simp
     simp[hy,hsz]
    obtain⟨k,hk⟩:∃ k,P.types.size+Made.depth=k+1:=by
     unfold Made.depth; exact⟨_,rfl⟩
    have hrun:(invoke (.fn (.method name) c') args').run P w=(callFunc f (#[v']++args'.extract 1 args'.size)).run P w:=by
     simp only[invoke,h0,callMethod];simp only[Sem.run_bind,run_program,Result.andThen,hk,QE hm]
    rw[hrun];refine Hl hN ?_ h;simp only[Array.toList_append,h1];exact VRL.cons hv hrest
   ·cases h
  ·cases h
 ·rename_i l captured;obtain⟨f',c',rfl,hf,hc⟩:=ht;obtain⟨ll,hl,rfl⟩:=hf;obtain rfl:=Option.some.inj h;exact⟨rfl,ll,args',hl,ha,rfl⟩
 ·cases h
theorem IJ(hr:Rel P K β st w){b:Builtin}{argTypes:Array TypeId}{type:TypeId}{consts:Array Bool}{args:List Value}{args':Array Value}{out:Out}(ha:VRL β args args'.toList)(h:iR P b argTypes type consts args st=some out) :
  dK P K β st w ((builtin b argTypes type consts args').run P w) out:=by
 unfold iR at h;split at h
 ·rename_i s x;simp only[VRL]at ha;obtain⟨s',ys,hy,hs,x',zs,hz,hx,hzs⟩:=ha;subst hz hzs;have hargs:args'=#[s',x']:=by apply Array.ext'; simpa using hy
  subst hargs;split at h
  ·rename_i sT xT h0 h1;split at h
   ·rename_i v st2 hap;obtain rfl:=Option.some.inj h;unfold lU at hap;split at hap
    ·rename_i e xt hu hux;split at hap
     ·rename_i ei z hie hz;obtain⟨i,hi,hzz,hfl⟩:=iL hz;obtain rfl:i=ei:=by rw[hi]at hie; exact Option.some.inj hie
      split at hap
      ·cases hap
      ·rename_i hc;simp only[Bool.or_eq_true,decide_eq_true_eq,not_or,ne_eq,Decidable.not_not]at hc;obtain⟨⟨c1,c2⟩,c3⟩:=hc;split at hap
       ·rename_i n new htail;split at hap
        ·rename_i hone;obtain⟨new',hsrc,hnew⟩:=EG hr hx hux htail hone;obtain⟨β',w',v',r1,r2,r3,r4,r5⟩:=Ls (ty:=type) hr hu hi hzz c3 c1 (by omega) hs hsrc hnew hap;refine⟨β',w',v',?_,r2,r3,r4,r5⟩;have r1':(Builtin.append_ argTypes type #[s',x']).run P w = .ok v' w':=by
          rw[<-r1];unfold Builtin.append_;simp[h0,h1]
         simp[builtin,r1']
        ·cases hap
       ·cases hap
     ·cases hap
    ·cases hap
   ·cases h
  ·cases h
 ·rename_i x;simp only[VRL]at ha;obtain⟨x',ys,hy,hx,hys⟩:=ha;subst hys;have hargs:args'=#[x']:=by apply Array.ext'; simpa using hy
  subst hargs;split at h
  ·rename_i t h0;split at h
   ·rename_i s hu;obtain rfl:=Option.some.inj h;have hx:=hx.string';subst hx;exact dK.same hr (v':= .int .i64 s.size) (by simp[builtin,Builtin.len_,h0,run_underlying hu,goInt]) rfl
   ·rename_i n e hu;obtain rfl:=Option.some.inj h;exact dK.same hr (v':= .int .i64 n) (by simp[builtin,Builtin.len_,h0,run_underlying hu,goInt]) rfl
   ·rename_i e a n c hu;obtain rfl:=Option.some.inj h;have:∃ a' c',x' = .slice a' n c':=by
     cases a with
     |none=>exact⟨none,c,hx⟩
     |some a=>
      obtain⟨_,l,_,hsl⟩:=hx;obtain⟨h0,_,_,e1⟩ | ⟨a',c',e1,_⟩:=hsl.form
      ·exact⟨none,0,by rw[e1,h0]⟩
      ·exact⟨_,_,e1⟩
    obtain⟨a',c',rfl⟩:=this;exact dK.same hr (v':= .int .i64 n) (by simp[builtin,Builtin.len_,h0,run_underlying hu,goInt]) rfl
   ·rename_i x0 e hu hns;split at h
    ·rename_i z hz;obtain rfl:=Option.some.inj h;obtain⟨hs0,r⟩:=qo hz hx;have:∃ a' c',x' = .slice a' z.n c':=by
      unfold iU at r;rw[if_neg hs0]at r;obtain⟨r0,⟨r1,_,r3⟩ | ⟨r1,p,cap,r2,r3⟩ | ⟨rp,k0,o0,cap,cs,e0,f0,lc,r2,r3⟩⟩:=r
      ·exact⟨_,_,by rw[r3,r1]⟩
      ·exact⟨_,_,by rw[r2,r1]⟩
      ·exact⟨_,_,r2⟩
     obtain⟨a',c',rfl⟩:=this;exact dK.same hr (v':= .int .i64 z.n) (by simp[builtin,Builtin.len_,h0,run_underlying hu,goInt]) rfl
    ·cases h
   ·rename_i k e x0 hu;split at h
    ·rename_i n hn;obtain rfl:=Option.some.inj h;unfold lenV at hn;split at hn
     ·obtain rfl:=Option.some.inj hn;have hx:x' = .map none:=hx;subst hx;exact dK.same hr (v':= .int .i64 (0:Nat)) (by simp[builtin,Builtin.len_,h0,run_underlying hu,goInt]) rfl
     ·rename_i r;split at hn
      ·rename_i es c hg;obtain rfl:=Option.some.inj hn;obtain⟨l,hl,rfl⟩:=hx;obtain⟨l',es',g1,g2,g3,g4⟩:=hr.get_map hg;obtain rfl:l'=l:=by rw[g1]at hl; exact Option.some.inj hl
       have hlen:∀ {a b:List MapEntry},ERL β a b->a.length=b.length:=by
        intro a
        induction a with
        |nil=>intro b h; have h:b=[]:=h; subst h; rfl
        |cons x xs ih=>rintro b ⟨y,ys,rfl,_,_,_,h4⟩; simp[ih h4]
       refine dK.same hr (v':= .int .i64 es'.size) (by simp[builtin,Builtin.len_,h0,run_underlying hu,goInt,MapKept.run_getObj_map g3]) ?_;have:=hlen g4;simp at this;rw[this]; rfl
      ·cases hn
     ·cases hn
    ·cases h
   ·cases h
  ·cases h
 ·rename_i x;simp only[VRL]at ha;obtain⟨x',ys,hy,hx,hys⟩:=ha;subst hys;have hargs:args'=#[x']:=by apply Array.ext'; simpa using hy
  subst hargs;split at h
  ·rename_i t h0;split at h
   ·rename_i e a n c hu;split at h
    ·rename_i hb;obtain rfl:=Option.some.inj h;have hcu:c<unk:=Nat.le_of_ble_eq_true hb;obtain⟨_,l,_,hsl⟩:=hx;have:∃ a',x' = .slice a' n c:=by
      unfold dW at hsl;split at hsl
      ·obtain⟨q1,_,q2,q3⟩:=hsl;rcases q2 with q2 | q2
       ·exact⟨none,by rw[q3,q1,q2]⟩
       ·omega
      ·first
       |exact⟨_,hsl⟩
       |(rw[if_pos hcu]at hsl; exact⟨_,hsl⟩)
     obtain⟨a',rfl⟩:=this;exact dK.same hr (v':= .int .i64 c) (by simp[builtin,Builtin.cap_,h0,run_underlying hu,goInt]) rfl
    ·cases h
   ·rename_i e n c hu;obtain rfl:=Option.some.inj h;obtain rfl:x' = .slice none n c:=hx;exact dK.same hr (v':= .int .i64 c) (by simp[builtin,Builtin.cap_,h0,run_underlying hu,goInt]) rfl
   ·cases h
  ·cases h
 ·rename_i x;simp only[VRL]at ha;obtain⟨x',ys,hy,hx,hys⟩:=ha;subst hys;have hargs:args'=#[x']:=by apply Array.ext'; simpa using hy
  subst hargs;split at h
  ·rename_i t h0;split at h
   ·rename_i e a n c hu;obtain⟨hs,l,hl,hsl⟩:=hx;split at h
    ·rename_i hn;subst hn;obtain rfl:=Option.some.inj h;obtain⟨_,_,_,e1⟩ | ⟨a',c',e1,_⟩:=hsl.form
     ·exact dK.same hr (v':= .tuple #[]) (by simp[builtin,Builtin.clear_,h0,run_underlying hu,e1]) ⟨#[],rfl,VRL.nil (β:=β)⟩
     exact dK.same hr (v':= .tuple #[]) (by simp[builtin,Builtin.clear_,h0,run_underlying hu,e1]) ⟨#[],rfl,VRL.nil (β:=β)⟩
    ·rename_i hn;split at h
     ·rename_i z hz;obtain⟨i,hi,hzz,hfl⟩:=iL hz;split at h
      ·rename_i hfc;split at h
       ·rename_i st2 hset;obtain rfl:=Option.some.inj h;obtain⟨w',r1,r2,r3,_⟩:=hr.setCells hset (VRL.flat_refl _ hfc) hl;have hx':∃ c',x' = .slice (some ⟨l.blk,l.base+a.off,none⟩) n c':=by
         unfold dW at hsl;split at hsl
         ·exact absurd hsl.1 hn
         split at hsl
         ·exact⟨_,hsl⟩
         ·split at hsl
          ·exact⟨_,hsl.1⟩
          ·exact absurd hsl.1 hn
        obtain⟨c',hx'⟩:=hx';refine⟨β,w', .tuple #[],?_,Env.le.refl _,r2,⟨#[],rfl,VRL.nil (β:=β)⟩,r3⟩;obtain⟨m,rfl⟩:∃ m,n=m+1:=⟨n-1,by omega⟩
        simp[builtin,Builtin.clear_,h0,run_underlying hu,hx',jX hi hzz,r1]
       ·cases h
      ·cases h
     ·cases h
   ·rename_i e n c hu;obtain rfl:=Option.some.inj h;have hx:x' = .slice none n c:=hx;exact dK.same hr (v':= .tuple #[]) (by simp[builtin,Builtin.clear_,h0,run_underlying hu,hx]) ⟨#[],rfl,VRL.nil (β:=β)⟩
   ·cases h
  ·cases h
 ·split at h
  ·rename_i hfl;split at h
   ·rename_i v hv;split at h
    ·rename_i hfv;obtain rfl:=Option.some.inj h;have:=VRL.of_flat _ _ hfl ha;have e:args'=⟨args⟩:=by apply Array.ext'; exact this
     rw[e];exact dK.same hr (kM _ _ _ hv) (VR.flat_refl v hfv)
    ·cases h
   ·cases h
  ·cases h
theorem VRL.mapArgs{ρ ρ':Operand->Value}(hρ:∀ x,VR β (ρ x) (ρ' x))(a:Array Operand):VRL β (a.toList.map ρ) (a.map ρ').toList:=by
 simp only[Array.toList_map];exact VRL.map _ _ _ fun x _=>hρ x
theorem Rt(hN:noNum P=true)(hr:Rel P K β st w){ρ ρ':Operand->Value}(hρ:∀ x,VR β (ρ x) (ρ' x)){o:Oper}{out:Out}{c:Call}(ho:o.op = .call c)(h:aY P ρ o st=some out) :
  dK P K β st w ((execOp ρ' o).run P w) out:=by
 simp only[aY,ho]at h;obtain⟨callee,args,argTypes⟩:=c;have hargs:=VRL.mapArgs hρ args;cases callee with
 |builtin b=>
  simp only at h;have:=IJ (w:=w) hr hargs h;have e2:∀ (g:Operand->Bool),(∀ x,g x=Am x)->args.map g=args.map Am:=fun g hg=>by rw[funext hg]
  simp only[execOp,ho,resolve,invoke,Sem.run_bind,Sem.run_pure,Result.andThen];rw[e2 _ (fun x=>by cases x<;>rfl)];exact this
 |invoke recv name=>
  simp only at h;have:=sO (K:=K) (w:=w) (st:=st) hN (tg:= .fn (.method name) #[]) (tg':= .fn (.method name) #[]) (args':=#[ρ' recv]++args.map ρ') ⟨_,_,rfl,rfl,VRL.nil (β:=β)⟩ (by simpa using VRL.cons (hρ recv) (by simpa using hargs)) h;simpa [execOp,ho,resolve]using this
 |value f=>
  simp only at h;have hf:=hρ f;split at h
  ·rename_i fn first captured hfv
   rw[hfv]at hf;obtain⟨fn',first',captured',hf',hfn,hfirst,hcap⟩:=hf;have:=sO (K:=K) (w:=w) (st:=st) hN (tg:= .fn fn captured) (tg':= .fn fn' captured') (args':=first'++args.map ρ') ⟨_,_,rfl,hfn,hcap⟩ (by simpa using(jy.1 hfirst).append (by simpa using hargs)) h;simpa [execOp,ho,resolve,Deferred.ofValue,hf']using this
  ·cases h
theorem MZ(hr:Rel P K β st w){ρ ρ':Operand->Value}(hρ:∀ x,VR β (ρ x) (ρ' x)){o:Oper}{out:Out}{c:Call}(ho:o.op = .defer c)(h:aY P ρ o st=some out) :
  dK P K β st w ((execOp ρ' o).run P w) out:=by
 simp only[aY,ho]at h;obtain⟨callee,args,argTypes⟩:=c;have hargs:=VRL.mapArgs hρ args;cases callee with
 |builtin b=>simp at h
 |invoke recv name=>
  simp only at h;obtain rfl:=Option.some.inj h;refine⟨rfl,{ target:= .fn (.method name) #[],args:=#[ρ' recv]++args.map ρ' },by simp[execOp,ho,resolve],⟨_,_,rfl,rfl,VRL.nil (β:=β)⟩,?_⟩;rw[jy];simpa using VRL.cons (hρ recv) (by simpa using hargs)
 |value f=>
  simp only at h;have hf:=hρ f;split at h
  ·rename_i fn first captured hfv
   obtain rfl:=Option.some.inj h;rw[hfv]at hf;obtain⟨fn',first',captured',hf',hfn,hfirst,hcap⟩:=hf;refine⟨rfl,{ target:= .fn fn' captured',args:=first'++args.map ρ' },by simp[execOp,ho,resolve,Deferred.ofValue,hf'],⟨_,_,rfl,hfn,hcap⟩,?_⟩;rw[jy];simpa using(jy.1 hfirst).append (by simpa using hargs)
  ·cases h
theorem qV(hN:noNum P=true)(hr:Rel P K β st w){ρ ρ':Operand->Value}(hρ:∀ x,VR β (ρ x) (ρ' x)){o:Oper}{out:Out}(h:aY P ρ o st=some out) :
  dK P K β st w ((execOp ρ' o).run P w) out:=by
 cases ho:o.op with
 |move x=>exact FI hr hρ (Or.inl ho) h
 |assign x=>exact FI hr hρ (Or.inr ho) h
 |pick c a b=>exact PS hr hρ ho h
 |alloc e=>exact MJ hr ho h
 |box e x=>exact SV hr hρ ho h
 |build t p=>exact L9 hr hρ ho h
 |buildSlice t l p=>exact D6 hr hρ ho h
 |insert t m k x=>exact vN hr hρ (Or.inr ho) h
 |load t x=>exact Q8 hr hρ ho h
 |store t x v=>exact MF hr hρ ho h
 |nilCheck x=>exact Gt hr hρ ho h
 |binOp op t x y t'=>exact Nr hr hρ ho h
 |unOp op t x=>exact QH hr hρ ho h
 |convert s d x=>exact IA hr hρ ho h
 |makeInterface t x=>exact yQ hr hρ ho h
 |makeFunc f a b=>exact Gh hr hρ ho h
 |makeMap t r=>exact IM hr hρ ho h
 |makeSlice t l c=>exact E8 hr hρ ho h
 |slice t x l h' m=>exact Nk hr hρ ho h
 |fieldAddr t x i=>exact FK hr hρ ho h
 |field t x i=>exact Nc hr hρ ho h
 |indexAddr t x i=>exact EF hr hρ ho h
 |index t x i=>exact Nh hr hρ ho h
 |lookup t x k b=>exact Ky hr hρ ho h
 |mapUpdate t m k x=>exact vN hr hρ (Or.inl ho) h
 |mapEntry t m k=>exact FX hr hρ ho h
 |entryStore t m k x=>exact DI hr hρ ho h
 |range t x=>exact ML hr hρ ho h
 |next it b=>cases b with
  |true=>exact BR hr hρ ho h
  |false=>exact Gf hr hρ ho h
 |entry it=>exact MQ hr hρ ho h
 |typeAssert x t a b=>exact Dl hr hρ ho h
 |extract t i=>exact IL hr hρ ho h
 |call c=>exact Rt hN hr hρ ho h
 |defer c=>exact MZ hr hρ ho h
 |_=>simp[aY,ho]at h
end
section
variable{P:Program}{fr:Frame}{cs:List Frame}{w:World}{k:List Item}
theorem adi(hm:fr.mode = .run)(ht:fr.todo = .code .skip::k):step P (lone fr cs w) = .next (lone { fr with todo:=k } cs w):=by
 obtain⟨fn,tmps,todo,defers,mode,kind,ro⟩:=fr;simp only at hm ht; subst hm ht;exact step_lone_go (by simp[stepG,stepG.exec])
theorem ZC{l:Nat}(hm:fr.mode = .run)(ht:fr.todo = .code (.label l)::k):step P (lone fr cs w) = .next (lone { fr with todo:=k } cs w):=by
 obtain⟨fn,tmps,todo,defers,mode,kind,ro⟩:=fr;simp only at hm ht; subst hm ht;exact step_lone_go (by simp[stepG,stepG.exec])
theorem U4{id:Nat}(hm:fr.mode = .run)(ht:fr.todo = .inBlock id::k):step P (lone fr cs w) = .next (lone { fr with todo:=k } cs w):=by
 obtain⟨fn,tmps,todo,defers,mode,kind,ro⟩:=fr;simp only at hm ht; subst hm ht;exact step_lone_go (by simp[stepG,stepG.exec])
theorem Tf{c:Code}(hm:fr.mode = .run)(ht:fr.todo = .inScope c::k):step P (lone fr cs w) = .next (lone { fr with todo:=k } cs w):=by
 obtain⟨fn,tmps,todo,defers,mode,kind,ro⟩:=fr;simp only at hm ht; subst hm ht;exact step_lone_go (by simp[stepG,stepG.exec])
theorem adF{a b:Code}(hm:fr.mode = .run)(ht:fr.todo = .code (.seq a b)::k):step P (lone fr cs w) = .next (lone { fr with todo:= .code a:: .code b::k } cs w):=by
 obtain⟨fn,tmps,todo,defers,mode,kind,ro⟩:=fr;simp only at hm ht; subst hm ht;exact step_lone_go (by simp[stepG,stepG.exec])
theorem s_cond{c:Operand}{a b:Code}{t:Bool}(hm:fr.mode = .run)(ht:fr.todo = .code (.cond c a b)::k)(hc:fr.eval c = .bool t):step P (lone fr cs w) = .next (lone { fr with todo:= .code (if t then a else b)::k } cs w):=by
 obtain⟨fn,tmps,todo,defers,mode,kind,ro⟩:=fr;simp only at hm ht; subst hm ht;exact step_lone_go (by simp[stepG,stepG.exec,hc])
theorem wQ{id:Nat}{c:Code}(hm:fr.mode = .run)(ht:fr.todo = .code (.block id c)::k):step P (lone fr cs w) = .next (lone { fr with todo:= .code c:: .inBlock id::k } cs w):=by
 obtain⟨fn,tmps,todo,defers,mode,kind,ro⟩:=fr;simp only at hm ht; subst hm ht;exact step_lone_go (by simp[stepG,stepG.exec])
theorem zA{c:Code}(hm:fr.mode = .run)(ht:fr.todo = .code (.loop c)::k):step P (lone fr cs w) = .next (lone { fr with todo:= .code c:: .inLoop c::k } cs w):=by
 obtain⟨fn,tmps,todo,defers,mode,kind,ro⟩:=fr;simp only at hm ht; subst hm ht;exact step_lone_go (by simp[stepG,stepG.exec])
theorem uX{c:Code}(hm:fr.mode = .run)(ht:fr.todo = .inLoop c::k):step P (lone fr cs w) = .next (lone { fr with todo:= .code c:: .inLoop c::k } cs w):=by
 obtain⟨fn,tmps,todo,defers,mode,kind,ro⟩:=fr;simp only at hm ht; subst hm ht;exact step_lone_go (by simp[stepG,stepG.exec])
theorem YW{c:Code}(hm:fr.mode = .run)(ht:fr.todo = .code (.scope c)::k):step P (lone fr cs w) = .next (lone { fr with todo:= .code c:: .inScope c::k } cs w):=by
 obtain⟨fn,tmps,todo,defers,mode,kind,ro⟩:=fr;simp only at hm ht; subst hm ht;exact step_lone_go (by simp[stepG,stepG.exec])
theorem s_exit{id:Nat}{k':List Item}(hm:fr.mode = .run)(ht:fr.todo = .code (.exit id)::k)(hk:exitTo id k=some k'):step P (lone fr cs w) = .next (lone { fr with todo:=k' } cs w):=by
 obtain⟨fn,tmps,todo,defers,mode,kind,ro⟩:=fr;simp only at hm ht; subst hm ht;exact step_lone_go (by simp[stepG,stepG.exec,hk])
theorem Vx{id:Nat}{ops:Array Oper}(hm:fr.mode = .run)(ht:fr.todo = .code (.region id ops false)::k):step P (lone fr cs w) = .next (lone { fr with todo:= .inRegion ops (List.range ops.size)::k } cs w):=by
 obtain⟨fn,tmps,todo,defers,mode,kind,ro⟩:=fr;simp only at hm ht; subst hm ht;exact step_lone_go (by simp[stepG,stepG.exec])
theorem IK{id:Nat}{ops:Array Oper}(hm:fr.mode = .run)(ht:fr.todo = .code (.region id ops true)::k):∃ t,step P (lone fr cs w) = .next (lone { fr with todo:= .inRegion ops (Region.schedule (P.follows .mixedOrders) ops t)::k } cs w.drew):=by
 obtain⟨fn,tmps,todo,defers,mode,kind,ro⟩:=fr;simp only at hm ht; subst hm ht;exact⟨w.tape w.drawn (.order fn id),step_lone_go (by simp[stepG,stepG.exec,choose,Sem.run,Question.forced,Question.cut])⟩
theorem zg{ops:Array Oper}(hm:fr.mode = .run)(ht:fr.todo = .inRegion ops []::k):step P (lone fr cs w) = .next (lone { fr with todo:=k } cs w):=by
 obtain⟨fn,tmps,todo,defers,mode,kind,ro⟩:=fr;simp only at hm ht; subst hm ht;exact step_lone_go (by simp[stepG,stepG.exec])
def mQ(fr:Frame)(o:Oper)(v:Value)(todo:List Item):Frame:=
 { fr with tmps:=(match o.dst with | some d=>fr.tmps.setIfInBounds d v | none=>fr.tmps),todo }
theorem jY{ops:Array Oper}{i:Nat}{rest:List Nat}{o:Oper}(ht:fr.todo = .inRegion ops (i::rest)::k)(ho:ops[i]? = some o)(v:Value):fr.finish v=mQ fr o v (.inRegion ops rest::k):=by
 obtain⟨fn,tmps,todo,defers,mode,kind,ro⟩:=fr;simp only at ht; subst ht;cases hd:o.dst<;>simp[Frame.finish,mQ,ho,hd]
theorem vG{ops:Array Oper}{i:Nat}{rest:List Nat}{o:Oper}(hm:fr.mode = .run)(ht:fr.todo = .inRegion ops (i::rest)::k)(ho:ops[i]? = some o)(hw:Region.wanted o (yielded ops fr.tmps)=false) :
  step P (lone fr cs w) = .next (lone (mQ fr o undef (.inRegion ops rest::k)) cs w):=by
 rw[<-jY ht ho];obtain⟨fn,tmps,todo,defers,mode,kind,ro⟩:=fr;simp only at hm ht; subst hm ht;exact step_lone_go (by simp[stepG,stepG.exec,ho,hw])
theorem Lh{ops:Array Oper}{i:Nat}{rest:List Nat}{o:Oper}(hm:fr.mode = .run)(ht:fr.todo = .inRegion ops (i::rest)::k)(ho:ops[i]? = some o)(hw:Region.wanted o (yielded ops fr.tmps)=true)
  (hd:fr.roundOf=none\/gK o.op=false) :
  stepG P true { frame:=fr,callers:=cs,status:= .running,dying:=none } w=stepG.apply P true fr cs none (execOp fr.eval o) w:=by
 obtain⟨fn,tmps,todo,defers,mode,kind,ro⟩:=fr;simp only at hm ht hd; subst hm ht;simp only[stepG,stepG.exec,ho,Option.map_some,Option.getD_some];simp only at hw;rw[if_pos hw];simp only[stepG.oper,Frame.oper?,ho];cases ro with
 |none=>rfl
 |some l=>
  have hd:gK o.op=false:=by simpa using hd
  cases hop:o.op<;>first | rfl | simp[hop,gK]at hd
theorem qP{ops:Array Oper}{i:Nat}{rest:List Nat}{o:Oper}{v:Value}{w':World}(hm:fr.mode = .run)(ht:fr.todo = .inRegion ops (i::rest)::k)(ho:ops[i]? = some o)(hw:Region.wanted o (yielded ops fr.tmps)=true)
  (hd:fr.roundOf=none\/gK o.op=false) (hr:(execOp fr.eval o).run P w = .ok (.value v) w'):step P (lone fr cs w) = .next (lone (mQ fr o v (.inRegion ops rest::k)) cs w'):=by
 rw[<-jY ht ho];exact step_lone_go (by rw[Lh hm ht ho hw hd]; simp[stepG.apply,hr])
theorem Il{ops:Array Oper}{i:Nat}{rest:List Nat}{o:Oper}{w':World}(hm:fr.mode = .run)(ht:fr.todo = .inRegion ops (i::rest)::k)(ho:ops[i]? = some o)(hw:Region.wanted o (yielded ops fr.tmps)=true)
  (hd:fr.roundOf=none\/gK o.op=false) (hr:(execOp fr.eval o).run P w = .ok .skip w'):step P (lone fr cs w) = .next (lone (mQ fr o undef (.inRegion ops rest::k)) cs w'):=by
 rw[<-jY ht ho];exact step_lone_go (by rw[Lh hm ht ho hw hd]; simp[stepG.apply,hr])
theorem QZ{ops:Array Oper}{i:Nat}{rest:List Nat}{o:Oper}{d:Deferred}{w':World}(hm:fr.mode = .run)(ht:fr.todo = .inRegion ops (i::rest)::k)(ho:ops[i]? = some o)(hw:Region.wanted o (yielded ops fr.tmps)=true)
  (hd:fr.roundOf=none\/gK o.op=false) (hr:(execOp fr.eval o).run P w = .ok (.defer d) w'):step P (lone fr cs w) = .next (lone (mQ { fr with defers:=d::fr.defers } o undef (.inRegion ops rest::k)) cs w'):=by
 rw[<-jY (fr:={ fr with defers:=d::fr.defers }) ht ho];exact step_lone_go (by rw[Lh hm ht ho hw hd]; simp[stepG.apply,hr])
theorem Fq{ops:Array Oper}{i:Nat}{rest:List Nat}{o:Oper}{f:FuncId}{args:Array Value}{w':World}(hm:fr.mode = .run)(ht:fr.todo = .inRegion ops (i::rest)::k)(ho:ops[i]? = some o)(hw:Region.wanted o (yielded ops fr.tmps)=true)
  (hd:fr.roundOf=none\/gK o.op=false) (hr:(execOp fr.eval o).run P w = .ok (.enter f args) w'):step P (lone fr cs w) = .next (lone (Frame.enter P f args .normal) (fr::cs) w'):=by
 exact step_lone_go (by rw[Lh hm ht ho hw hd]; simp[stepG.apply,hr,ht])
theorem Ej{ops:Array Oper}{i:Nat}{rest:List Nat}{o:Oper}{l:Nat}{f:FuncId}{tmps:Array Value}{a b:Code}{w':World}(hm:fr.mode = .run)(ht:fr.todo = .inRegion ops (i::rest)::k)(ho:ops[i]? = some o)(hw:Region.wanted o (yielded ops fr.tmps)=true)
  (hd:fr.roundOf=none\/gK o.op=false) (hr:(execOp fr.eval o).run P w = .ok (.round l f tmps a b) w'):step P (lone fr cs w) = .next (lone (Frame.round l f tmps a b .normal) (fr::cs) w'):=by
 exact step_lone_go (by rw[Lh hm ht ho hw hd]; simp[stepG.apply,hr])
theorem Nv(hm:fr.mode = .run)(ht:fr.todo=[])(hro:fr.roundOf=none):step P (lone fr cs w) = .next (lone { fr with mode:= .returning } cs w):=by
 obtain⟨fn,tmps,todo,defers,mode,kind,ro⟩:=fr;simp only at hm ht hro; subst hm ht hro;exact step_lone_go (by simp[stepG,stepG.exec])
theorem MP(hm:fr.mode = .run)(ht:fr.todo = .code .ret::k)(hro:fr.roundOf=none):step P (lone fr cs w) = .next (lone { fr with mode:= .returning } cs w):=by
 obtain⟨fn,tmps,todo,defers,mode,kind,ro⟩:=fr;simp only at hm ht hro; subst hm ht hro;exact step_lone_go (by simp[stepG,stepG.exec])
theorem Dk{c:Frame}{v:Value}{fn:Func}(hm:fr.mode = .returning)(hd:fr.defers=[])(hk:fr.kind = .normal)(hf:P.funcs[fr.fn]? = some fn)(hr:(results fn fr.tmps).run P w = .ok v w) :
  step P (lone fr (c::cs) w) = .next (lone (c.finish v) cs w):=
 step_lone_go (by simp[stepG,unwind,doReturn,hm,hd,hk,hf,hr])
theorem BU{c:Frame}{v:Value}{fn:Func}(hm:fr.mode = .returning)(hd:fr.defers=[])(hk:fr.kind = .deferred)(hf:P.funcs[fr.fn]? = some fn)(hr:(results fn fr.tmps).run P w = .ok v w)(hc:c.mode = .returning) :
  step P (lone fr (c::cs) w) = .next (lone c cs w):=
 step_lone_go (by simp[stepG,unwind,doReturn,hm,hd,hk,hf,hr,hc])
theorem YE{d:Deferred}{ds:List Deferred}{f:FuncId}{args:Array Value}{w':World}(hm:fr.mode = .returning)(hd:fr.defers=d::ds)(hc:∀ r,d.target≠ .collected r)(hn:d.target≠ .nil)(hr:(invoke d.target d.args).run P w = .ok (.enter f args) w') :
  step P (lone fr cs w) = .next (lone (Frame.enter P f args .deferred) ({ fr with defers:=ds }::cs) w'):=by
 obtain⟨tg,as⟩:=d;refine step_lone_go ?_;cases tg<;>first
  |exact absurd rfl (hc _)
  |exact absurd rfl hn
  |(simp only[stepG,hm,unwind,hd,callDeferred]; simp[hr])
theorem Nz{d:Deferred}{ds:List Deferred}{r:Nat}(hm:fr.mode = .returning)(hd:fr.defers=d::ds)(ht:d.target = .collected r)(hr:w.heap[r]? = some (.deferred (some []))) :
  step P (lone fr cs w) = .next (lone { fr with defers:=ds } cs { w with heap:=w.heap.setIfInBounds r (.deferred none) }):=by
 obtain⟨tg,as⟩:=d;simp only at ht;subst ht;have hrun:(Instr.takeDeferred r).run P w = .ok [] { w with heap:=w.heap.setIfInBounds r (.deferred none) }:=by
  simp[Instr.takeDeferred,iw hr (by intros; simp),lV hr (by intros; simp)]
 refine step_lone_go ?_;simp only[stepG,hm,unwind,hd];simp[hrun]
theorem MS{g:Operand}{params:Array Tmp}{assign body:Code}{l:Nat}{mark:List Deferred}{w1:World}{fn:Fn}{first captured:Array Value}{f:FuncId}{args:Array Value}(hm:fr.mode = .run)(ht:fr.todo = .code (.rangeFunc g params assign body)::k)
  (he:(Instr.enterLoop fr.fn fr.tmps params assign body fr.roundOf).run P w = .ok (l,mark) w1) (hg:fr.eval g = .func fn first captured)
  (hi:(invoke (.fn fn captured) (first++#[.func (.yield l) #[] #[]])).run P w1 = .ok (.enter f args) w1) :
  step P (lone fr cs w) = .next (lone (Frame.enter P f args .normal) ({ fr with todo:= .inRangeFunc l::k,defers:=mark++fr.defers }::cs) w1):=by
 obtain⟨fn',tmps,todo,defers,mode,kind,ro⟩:=fr;simp only at hm ht he; subst hm ht;have hg':∀ td ds,Frame.eval { fn:=fn',tmps,todo:=td,defers:=ds,mode:= .run,kind,roundOf:=ro } g = .func fn first captured:=by
  intro td ds;rw[<-hg];cases g<;>rfl
 have hs:∀ td ds,(do let d <-resolve (Frame.eval { fn:=fn',tmps,todo:=td,defers:=ds,mode:= .run,kind,roundOf:=ro }) { callee:= .value g,args:=#[.const (.func (.yield l) #[] #[])],argTypes:=#[] } 0; invoke d.target d.args:Sem Next).run P w1 = .ok (.enter f args) w1:=by
  intro td ds;have hmap:(#[.const (.func (.yield l) #[] #[])]:Array Operand).map (Frame.eval { fn:=fn',tmps,todo:=td,defers:=ds,mode:= .run,kind,roundOf:=ro })=#[.func (.yield l) #[] #[]]:=by simp[Frame.eval]
  simp only[resolve,hg',Deferred.ofValue,Sem.run_bind,Sem.run_pure,Result.andThen,hmap];exact hi
 refine step_lone_go ?_;simp only[stepG,stepG.exec];simp only[Sem.runT_eq,he,GStep.bare_after,stepG.apply,if_true,hs]
 rfl
theorem Gx{l:Nat}{jump:Option Code}{w':World}(hm:fr.mode = .run)(ht:fr.todo = .endRangeFunc l::k)(hr:(Instr.endLoop l).run P w = .ok jump w') :
  step P (lone fr cs w) = .next (lone { fr with todo:=(jump.map Item.code).toList++k } cs w'):=by
 obtain⟨fn',tmps,todo,defers,mode,kind,ro⟩:=fr;simp only at hm ht; subst hm ht;exact step_lone_go (by simp[stepG,stepG.exec,hr])
theorem LV{l:Nat}{w':World}(hm:fr.mode = .run)(ht:fr.todo = .beginRound::k)(hro:fr.roundOf=some l)(hr:(Instr.beginRound l).run P w = .ok () w') :
  step P (lone fr cs w) = .next (lone { fr with todo:=k } cs w'):=by
 obtain⟨fn',tmps,todo,defers,mode,kind,ro⟩:=fr;simp only at hm ht hro; subst hm ht hro;exact step_lone_go (by simp[stepG,stepG.exec,stepG.apply,hr,Frame.finish])
theorem P7{c:Frame}{l:Nat}{jump:Option Code}{v:Value}{w':World}(hm:fr.mode = .run)(hro:fr.roundOf=some l)(hk:fr.kind = .normal)
  (ht:(jump=none/\fr.todo=[])\/(jump=some .ret/\∃ k2,fr.todo = .code .ret::k2)\/(∃ id k2,jump=some (.exit id)/\fr.todo = .code (.exit id)::k2/\exitTo id k2=none))
  (hr:(Instr.endRound l jump).run P w = .ok v w'):step P (lone fr (c::cs) w) = .next (lone (c.finish v) cs w'):=by
 obtain⟨fn',tmps,todo,defers,mode,kind,ro⟩:=fr;simp only at hm hro hk ht; subst hm hro hk;rcases ht with⟨rfl,rfl⟩ | ⟨rfl,k2,rfl⟩ | ⟨id,k2,rfl,rfl,hx⟩
 ·exact step_lone_go (by simp[stepG,stepG.exec,hr,doReturn])
 ·exact step_lone_go (by simp[stepG,stepG.exec,hr,doReturn])
 ·exact step_lone_go (by simp[stepG,stepG.exec,hr,doReturn,hx])
end
def l9(β:Env):List Deferred->List Deferred->Prop
 |[],l=>l=[]
 |d::ds,l=>∃ d' ds',l=d'::ds'/\LK β d d'/\l9 β ds ds'
theorem l9.mono{β β':Env}(h:β.le β'):∀ {a b:List Deferred},l9 β a b->l9 β' a b
 |[],_,e=>e
 |d::ds,_,⟨d',ds',e,h1,h2⟩=>⟨d',ds',e,h1.mono h,h2.mono h⟩
def nG(β:Env):Option Nat->Option Nat->Prop
 |none,r=>r=none
 |some i,r=>∃ l,β i=some l/\r=some l.blk
theorem nG.mono{β β':Env}(h:β.le β'):∀ {a b:Option Nat},nG β a b->nG β' a b
 |none,_,e=>e
 |some _,_,⟨l,hl,e⟩=>⟨l,h _ _ hl,e⟩
structure FrR(β:Env)(f:Fr)(fr:Frame):Prop where
 slots:h_ β f.slots f.ntmps fr.tmps
 defers:l9 β f.defers fr.defers
 round:nG β f.roundOf fr.roundOf
 mode:fr.mode = .run
theorem FrR.mono{β β':Env}(h:β.le β'){f:Fr}{fr:Frame}(r:FrR β f fr):FrR β' f fr:=⟨r.slots.mono h,r.defers.mono h,r.round.mono h,r.mode⟩
section
variable{P:Program}{K:Prot}{β:Env}{st:St}{w:World}
theorem FrR.eval{f:Fr}{fr:Frame}(h:FrR β f fr):∀ x,VR β (f.eval x) (fr.eval x)
 | .tmp t=>h.slots.2 t
 | .const v=>by
  simp only[Fr.eval,Frame.eval];split
  ·exact VR.flat_refl v ‹_›
  ·exact trivial
 | .global g=>rfl
 | .func g=>⟨_,_,_,rfl,rfl,VRL.nil (β:=β),VRL.nil (β:=β)⟩
theorem Hz{t:Trie Value}{n d:Nat}{tmps:Array Value}{v v':Value}(h:h_ β t n tmps)(hd:d<n)(hv:VR β v v'):h_ β (t.set d v) n (tmps.setIfInBounds d v'):=by
 obtain⟨h1,h2⟩:=h;refine⟨by simp[h1],fun i=>?_⟩;rw[Trie.get_set];by_cases hi:i=d
 ·subst hi;rw[if_pos rfl];have:(tmps.setIfInBounds i v').getD i undef=v':=by
   simp[Array.getD_eq_getD_getElem?,Array.getElem?_setIfInBounds,h1,hd]
  rw[this]; exact hv
 ·rw[if_neg hi];have:(tmps.setIfInBounds d v').getD i undef=tmps.getD i undef:=by
   have hne:¬d=i:=fun e=>hi e.symm;simp[Array.getD_eq_getD_getElem?,Array.getElem?_setIfInBounds,hne]
  rw[this]; exact h2 i
theorem FrR.put{f f':Fr}{fr:Frame}{o:Oper}{v v':Value}(h:FrR β f fr)(hp:f.put o.dst v=some f')(hv:VR β v v')(todo:List Item):FrR β f' (mQ fr o v' todo):=by
 unfold Fr.put at hp;cases hd:o.dst with
 |none=>
  simp only[hd]at hp;obtain rfl:=Option.some.inj hp;refine⟨?_,h.defers,h.round,h.mode⟩;simpa [mQ,hd]using h.slots
 |some d=>
  simp only[hd]at hp;split at hp
  ·rename_i hlt;obtain rfl:=Option.some.inj hp;refine⟨?_,h.defers,h.round,h.mode⟩;simp only[mQ,hd];exact Hz h.slots hlt hv
  ·cases hp
def Bd(e:Ex)(k t:List Item):Prop:=
 match e with
 | .normal=>t=k
 | .exit id=>∃ k2,t = .code (.exit id)::k2/\exitTo id k2=exitTo id k
 | .ret=>∃ k2,t = .code .ret::k2
def Reaches(P:Program)(K:Prot)(β:Env)(fr:Frame)(cs:List Frame)(w:World)(e:Ex)(k:List Item)(f':Fr)(st':St):Prop:=
 ∃ β' fr' w',Steps P (lone fr cs w) (lone fr' cs w')/\β.le β'/\Rel P K β' st' w'/\Bel K w w'/\FrR β' f' fr'/\fr'.kind=fr.kind/\fr'.fn=fr.fn/\fr'.roundOf=fr.roundOf/\Bd e k fr'.todo
theorem Reaches.steps{fr fr1:Frame}{cs:List Frame}{w w1:World}{β1:Env}{e:Ex}{k:List Item}{f':Fr}{st':St}(hs:Steps P (lone fr cs w) (lone fr1 cs w1))(hle:β.le β1)(hb:Bel K w w1)(hk:fr1.kind=fr.kind)(hf:fr1.fn=fr.fn)(hr:fr1.roundOf=fr.roundOf)
  (h:Reaches P K β1 fr1 cs w1 e k f' st'):Reaches P K β fr cs w e k f' st':=by
 obtain⟨β',fr',w',h1,h2,h3,h4,h5,h6,h7,h8,h9⟩:=h;exact⟨β',fr',w',hs.trans h1,hle.trans h2,h3,hb.trans h4,h5,h6.trans hk,h7.trans hf,h8.trans hr,h9⟩
theorem Reaches.step{fr:Frame}{cs:List Frame}{w:World}{td:List Item}{e:Ex}{k:List Item}{f':Fr}{st':St}(hs:step P (lone fr cs w) = .next (lone { fr with todo:=td } cs w))
  (h:Reaches P K β { fr with todo:=td } cs w e k f' st'):Reaches P K β fr cs w e k f' st':=
 h.steps (.one hs) (Env.le.refl _) (Bel.refl _ _) rfl rfl rfl
theorem FrR.todo{f:Fr}{fr:Frame}(h:FrR β f fr)(td:List Item):FrR β f { fr with todo:=td }:=⟨h.slots,h.defers,h.round,h.mode⟩
def Left(P:Program)(fr:Frame)(g:FuncId)(kind:CallKind)(v:Value)(w:World):Prop:=
 fr.mode = .returning/\fr.defers=[]/\fr.kind=kind/\fr.fn=g/\∃ fn,P.funcs[g]? = some fn/\(results fn fr.tmps).run P w = .ok v w
def oJ(P:Program)(K:Prot)(β:Env)(g:FuncId)(args':Array Value)(kind:CallKind)(cs:List Frame)(w:World)(v:Value)(st':St):Prop:=
 ∃ β' fr w' v',Steps P (lone (Frame.enter P g args' kind) cs w) (lone fr cs w')/\β.le β'/\Rel P K β' st' w'/\Bel K w w'/\VR β' v v'/\Left P fr g kind v' w'
theorem CV{f:Fr}{fr:Frame}(ops:Array Oper){o:Oper}{b:Bool}(h:∀ d,d∈tmpsOf ops o->VR β ((f.slots.get d).getD undef) (fr.tmps.getD d undef))(hw:kV ops f o=some b):Region.wanted o (yielded ops fr.tmps)=b:=by
 unfold kV at hw;unfold Region.wanted;split at hw
 ·rename_i hg; rw[hg]; simpa using hw
 ·rename_i j want hg;rw[hg];simp only;unfold yielded;split at hw
  ·rename_i hd;rw[hd];simp at hw; subst hw; rfl
  ·rename_i d hd;rw[hd];have hv:=h d (by simp[tmpsOf,hg,hd]);simp only[Option.bind_some];split at hw
   ·rename_i b' hb;rw[hb]at hv;have hv:=hv.bool';have:fr.tmps[d]? = some (.bool b'):=by
     rw[Array.getD_eq_getD_getElem?]at hv;cases hx:fr.tmps[d]? with
     |none=>simp[hx,undef]at hv
     |some y=>simp[hx]at hv; rw[hv]
    rw[this];simp at hw ⊢; exact hw
   ·rename_i a hb;rw[hb]at hv;obtain⟨a',hv,_⟩:=hv;have:∀ b',fr.tmps[d]?≠some (.bool b'):=by
     intro b' hx;rw[Array.getD_eq_getD_getElem?,hx]at hv;simp at hv
    simp at hw; subst hw;cases hx:fr.tmps[d]? with
    |none=>rfl
    |some y=>cases y<;>first | rfl | exact absurd hx (this _)
   ·cases hw
theorem Ef{f:Fr}{fr:Frame}(h:FrR β f fr)(ops:Array Oper){o:Oper}{b:Bool}(hw:kV ops f o=some b):Region.wanted o (yielded ops fr.tmps)=b:=
 CV ops (fun d _=>h.slots.2 d) hw
def GU(tmps:Array Value):ResultVar->Sem Value
 | .tmp t=>pure (tmps.getD t undef)
 | .cell a t=>do loadVar t (<-asAddr (tmps.getD a undef))
theorem MK(hr:Rel P K β st w){f:Fr}{tmps:Array Value}(hf:h_ β f.slots f.ntmps tmps){r:ResultVar}{v:Value}(h:og P f st r=some v):∃ v',(GU tmps r).run P w = .ok v' w/\VR β v v':=by
 cases r with
 |tmp t=>simp[og]at h; subst h; exact⟨_,rfl,hf.2 t⟩
 |cell a t=>
  simp only[og]at h;have hv:=hf.2 a;cases hg:f.slots.get a with
  |none=>simp[hg]at h
  |some x=>
   rw[hg]at hv h;simp only[Option.getD_some]at hv;split at h
   ·rename_i ad e;cases e;obtain⟨_,lo,hlo,e⟩:=hv.ptr';obtain⟨v',g1,g2⟩:=Hw hr h hlo;exact⟨v',by simp[GU,e,asAddr,g1],g2⟩
   ·cases h
theorem Ad(hr:Rel P K β st w){f:Fr}{tmps:Array Value}(hf:h_ β f.slots f.ntmps tmps):∀ {rs:List ResultVar} {vs:List Value},rs.mapM (og P f st)=some vs->∃ vs',(rs.mapM (GU tmps)).run P w = .ok vs' w/\VRL β vs vs'
 |[],vs,h=>by simp at h; subst h; exact⟨[],by simp,VRL.nil⟩
 |r::rs,vs,h=>by
  simp only[List.mapM_cons,Option.bind_eq_bind,Option.pure_def]at h;cases h1:og P f st r with
  |none=>simp[h1]at h
  |some v=>
   cases h2:rs.mapM (og P f st)with
   |none=>simp[h1,h2]at h
   |some vs0=>
    simp[h1,h2]at h;subst h;obtain⟨v',g1,g2⟩:=MK hr hf h1;obtain⟨vs',g3,g4⟩:=Ad hr hf h2;exact⟨v'::vs',by simp[List.mapM_cons,g1,g3],VRL.cons g2 g4⟩
theorem MG(hr:Rel P K β st w){fn:Func}{f:Fr}{tmps:Array Value}(hf:h_ β f.slots f.ntmps tmps){vs:List Value}(h:ql P fn f st=some vs) :
  ∃ v',(results fn tmps).run P w = .ok v' w/\VR β (oM vs) v':=by
 unfold ql at h;obtain⟨vs',h1,h2⟩:=Ad hr hf h;have hfun:results fn tmps=(do let vs <-fn.results.mapM (GU tmps); pure (if h:vs.size=1 then vs[0]else .tuple vs)):=by
  unfold results;have:(fun r=>match r with | .tmp t=>(pure (tmps.getD t undef):Sem Value) | .cell a t=>do loadVar t (<-asAddr (tmps.getD a undef)))=GU tmps:=by
   funext r; cases r<;>rfl
  rfl
 have hrun:(fn.results.mapM (GU tmps)).run P w = .ok ⟨vs'⟩ w:=by
  rw[Array.mapM_eq_mapM_toList];simp[h1]
 refine⟨if h:(⟨vs'⟩:Array Value).size=1 then(⟨vs'⟩:Array Value)[0]else .tuple ⟨vs'⟩,?_,?_⟩
 ·simp only[hfun,Sem.run_bind,hrun,Result.andThen,Sem.run_pure]
 ·have hl:=h2.length
  match vs,vs',h2,hl with
  |[],[],h2,_=>exact⟨_,rfl,h2⟩
  |[v],[v'],h2,_=>
   simp only[VRL]at h2;obtain⟨y,ys,e,hy,_⟩:=h2;simp at e;obtain⟨rfl,_⟩:=e;simpa [oM]using hy
  |v::v2::vs,v'::v2'::vs',h2,_=>
   simp only[List.size_toArray,List.length_cons];rw[dif_neg (by omega)];exact⟨_,rfl,h2⟩
end
end Go.VS
end

section
namespace Go.VS
open Go.RowKit
section
variable{P:Program}
theorem CU{ρ ρ':Operand->Value}{ps:Array (Nat×Operand)}(h:∀ x∈ps.map (·.2),ρ x=ρ' x) :
  (ps.toList.map fun p=>(p.1,ρ p.2))=(ps.toList.map fun p=>(p.1,ρ' p.2))/\ps.toList.any (fun p=>lI (ρ p.2))=ps.toList.any (fun p=>lI (ρ' p.2)):=by
 have h':∀ p∈ps.toList,ρ p.2=ρ' p.2:=fun p hp=>h p.2 (Array.mem_map.2 ⟨p,by simpa using hp,rfl⟩);generalize ps.toList=l at h';clear h
 induction l with
 |nil=>exact⟨rfl,rfl⟩
 |cons a l ih=>
  obtain⟨h1,h2⟩:=ih (fun p hp=>h' p (by simp[hp]));have:=h' a (by simp);simp[this,h1,h2]
theorem QU{ρ ρ':Operand->Value}(o:Oper)(st:St)(h:∀ x∈o.op.operands,ρ x=ρ' x):aY P ρ o st=aY P ρ' o st:=by
 obtain⟨dst,op,type,pos,after,guard⟩:=o;cases op<;>simp only[Op.operands]at h
 case next it ok=>cases ok<;>simp only[aY,h it (by simp)]
 all_goals simp only[aY]
 case build t ps=>obtain⟨h1,h2⟩:=CU (ps:=ps) (fun x hx=>h x (by simpa using hx)); rw[h1,h2]
 case buildSlice t n ps=>obtain⟨h1,h2⟩:=CU (ps:=ps) (fun x hx=>h x (by simpa using hx)); rw[h1,h2]
 case makeFunc fn first captured=>
  rw[Array.map_congr_left (xs:=first) fun x hx=>h x (by simp[hx]),Array.map_congr_left (xs:=captured) fun x hx=>h x (by simp[hx])]
 case call c=>
  have hargs:c.args.toList.map ρ=c.args.toList.map ρ':=List.map_congr_left fun x hx=>h x (by simp[Call.operands]; exact(by first | exact Or.inr (by simpa using hx) | exact Or.inl (by simpa using hx)));rw[hargs];cases hc:c.callee with
  |value f=>have hf:ρ f=ρ' f:=h f (by simp[Call.operands,hc]); simp only[hf]
  |invoke r m=>have hr:ρ r=ρ' r:=h r (by simp[Call.operands,hc]); simp only[hr]
  |builtin b=>rfl
 case defer c=>
  have hargs:c.args.toList.map ρ=c.args.toList.map ρ':=List.map_congr_left fun x hx=>h x (by simp[Call.operands]; exact(by first | exact Or.inr (by simpa using hx) | exact Or.inl (by simpa using hx)));rw[hargs];cases hc:c.callee with
  |value f=>have hf:ρ f=ρ' f:=h f (by simp[Call.operands,hc]); simp only[hf]
  |invoke r m=>have hr:ρ r=ρ' r:=h r (by simp[Call.operands,hc]); simp only[hr]
  |builtin b=>rfl
 case makeMap t r=>cases r<;>simp_all
 case slice t x lo hi mx=>cases lo<;>cases hi<;>cases mx<;>simp_all
 all_goals (first | rfl | (simp_all; done))
theorem rH{a b:Value}{s t:St}(h:some (Out.val a s)=some (Out.val b t)):s=t:=by cases h; rfl
theorem GX{b:Builtin}(hb:b≠ .append)(hb2:b≠ .clear){at':Array TypeId}{t:TypeId}{cs:Array Bool}{args:List Value}{st st':St}{v:Value}(h:iR P b at' t cs args st=some (.val v st')):st'=st:=by
 unfold iR at h;split at h
 ·exact absurd rfl hb
 ·repeat' split at h
  all_goals first | (cases h; done) | exact(rH h).symm
 ·repeat' split at h
  all_goals first | (cases h; done) | exact(rH h).symm
 ·exact absurd rfl hb2
 ·repeat' split at h
  all_goals first | (cases h; done) | exact(rH h).symm
theorem Rq{ρ:Operand->Value}{o:Oper}{st st':St}{v:Value}(hk:kindOf P o = .quiet)(h:aY P ρ o st=some (.val v st')):st'=st:=by
 obtain⟨dst,op,type,pos,after,guard⟩:=o;cases op
 case next it ok=>cases hk
 case convert s d x=>
  simp only[kindOf]at hk;simp only[aY]at h;split at h
  ·repeat' split at h
   all_goals first | (cases h; done) | exact(rH h).symm
  ·repeat' split at h
   all_goals first | (cases h; done) | exact(rH h).symm
  ·rename_i hd _;rw[hd]at hk;cases hk
  ·repeat' split at h
   all_goals first | (cases h; done) | exact(rH h).symm
 case call c=>
  simp only[kindOf]at hk;simp only[aY]at h;cases hc:c.callee with
  |value f=>simp[hc]at hk
  |invoke r m=>simp[hc]at hk
  |builtin b=>
   simp only[hc]at hk h;exact GX (by rintro rfl; cases hk) (by rintro rfl; cases hk) h
 all_goals first
  |(cases hk; done)
  |(simp only[aY]at h
    repeat' split at h
    all_goals first | (cases h; done) | exact(rH h).symm)
theorem EX{v x:Value}{st st1 st':St}(h:some (Out.val x st)=some (Out.val v st1)):∃ st2,some (Out.val x st')=some (Out.val v st2):=by
 cases h; exact⟨_,rfl⟩
theorem MC{ρ:Operand->Value}{o:Oper}{st st1:St}{v:Value}(hn:xE o=true)(h:aY P ρ o st=some (.val v st1))(st':St):∃ st2,aY P ρ o st'=some (.val v st2):=by
 obtain⟨dst,op,type,pos,after,guard⟩:=o;cases op
 case binOp op t x y t'=>
  simp only[aY]at h ⊢;by_cases c:(flat (ρ x)&&flat (ρ y))=true
  ·rw[if_pos c]at h ⊢;repeat' split at h
   all_goals first | (cases h; done) | exact EX h | (simp_all; done)
  ·rw[if_neg c]at h ⊢;repeat' split at h
   all_goals first | (cases h; done) | exact EX h | (simp only[*]; exact EX h)
 all_goals first
  |(cases hn; done)
  |(simp only[aY]at h ⊢
    repeat' split at h
    all_goals first
     |(cases h; done)
     |exact EX h
     |(simp_all; done))
theorem addr_eq{a b:Addr}(h1:a.block=b.block)(h2:a.off=b.off)(h3:a.spot.isNone=true)(h4:b.spot.isNone=true):a=b:=by
 obtain⟨x,y,z⟩:=a;obtain⟨x',y',z'⟩:=b;simp at h1 h2 h3 h4;subst h1 h2 h3 h4; rfl
mutual
theorem rY:∀ (x y:Value),bU x y=true->x=y
 | .bool a,y,h=>by cases y<;>simp[bU]at h; simp[h]
 | .int a b,y,h=>by cases y<;>simp[bU]at h; simp[h]
 | .float a b,y,h=>by simp[bU]at h
 | .complex a b c,y,h=>by simp[bU]at h
 | .string a,y,h=>by
  cases y<;>simp[bU]at h;rename_i b;obtain⟨⟨a⟩⟩:=a; obtain⟨⟨b⟩⟩:=b;simp at h; rw[h]
 | .pointer none,y,h=>by
  cases y<;>try (simp[bU]at h; done)
  rename_i b; cases b<;>simp[bU]at h; rfl
 | .pointer (some a),y,h=>by
  cases y<;>try (simp[bU]at h; done)
  rename_i b;cases b with
  |none=>simp[bU]at h
  |some b=>
   simp only[bU,Bool.and_eq_true,decide_eq_true_eq]at h;rw[addr_eq h.1.1.1 h.1.1.2 h.1.2 h.2]
 | .slice none n c,y,h=>by
  cases y<;>try (simp[bU]at h; done)
  rename_i b _ _; cases b<;>simp[bU]at h; simp[h]
 | .slice (some a) n c,y,h=>by
  cases y<;>try (simp[bU]at h; done)
  rename_i b _ _;cases b with
  |none=>simp[bU]at h
  |some b=>
   simp only[bU,Bool.and_eq_true,decide_eq_true_eq]at h;rw[addr_eq h.1.1.1.1.1 h.1.1.1.1.2 h.1.1.1.2 h.1.1.2,h.1.2,h.2]
 | .map a,y,h=>by cases y<;>simp[bU]at h; simp[h]
 | .chan a,y,h=>by cases y<;>simp[bU]at h; simp[h]
 | .func a b c,y,h=>by simp[bU]at h
 | .nilFunc,y,h=>by cases y<;>simp[bU]at h; rfl
 | .nilIface,y,h=>by cases y<;>simp[bU]at h; rfl
 | .iface t x,y,h=>by
  cases y<;>try (simp[bU]at h; done)
  simp only[bU,Bool.and_eq_true,decide_eq_true_eq]at h;rw[h.1,rY x _ h.2]
 | .agg a,y,h=>by
  cases y<;>try (simp[bU]at h; done)
  simp only[bU]at h;rw[J8 a _ h]
 | .tuple a,y,h=>by
  cases y<;>try (simp[bU]at h; done)
  simp only[bU]at h;rw[J8 a _ h]
theorem J8:∀ (x y:Array Value),wo x y=true->x=y
 |⟨a⟩,⟨b⟩,h=>by simp only[wo]at h; rw[Di a b h]
theorem Di:∀ (x y:List Value),jg x y=true->x=y
 |[],[],_=>rfl
 |[],_::_,h=>by simp[jg]at h
 |_::_,[],h=>by simp[jg]at h
 |x::xs,y::ys,h=>by
  simp only[jg,Bool.and_eq_true]at h;rw[rY x y h.1,Di xs ys h.2]
end
end
end Go.VS
end

noncomputable section
namespace Go.VS
open Go.RowKit
section
variable{P:Program}{β:Env}{w:World}
def acP(P:Program)(β:Env)(w:World)(r:Nat)(res:Result Next)(v:Value)(b:Blk):Prop:=
 ∃ l o v' w',res = .ok (.value v') w'/\(l.virt=false/\b.isObj=false/\l.blk=w.heap.size)/\w'.heap=w.heap.push o/\w'.os=w.os/\w'.tape=w.tape/\w'.output=w.output/\b.live=true/\gW P (β.put r l) l b (some o)/\VR (β.put r l) v v'
theorem OX{r:Nat}(hr:β r=none)(l:Loc):β.le (β.put r l):=by
 intro i k hi;have:i≠(r:Int):=by rintro rfl; rw[hr]at hi; cases hi
 rw[β.put_ne this]; exact hi
theorem ui{r:Nat}{c:List Value}{e:TypeId}{x:Bool}{b:Blk}(h:(newRow ⟨.leaf,r⟩ c e x).2.heap.get r=some b):b = .cells c e x:=by
 have:(newRow ⟨.leaf,r⟩ c e x).2.heap.get r=some (.cells c e x):=by
  show(Trie.set .leaf r (Blk.cells c e x)).get r=_;rw[Trie.get_set,if_pos rfl]
 rw[this]at h; exact(Option.some.inj h).symm
theorem sQ{r:Nat}{c:List Value}{e:TypeId}{x:Bool}:(newRow ⟨.leaf,r⟩ c e x).1=⟨r,0,none⟩:=rfl
theorem Gy{r:Nat}(hr:β r=none){c c':List Value}(h:VRL β c c')(e:TypeId):gW P (β.put r ⟨w.heap.size,0,c'.length,esz P e,none,false⟩) ⟨w.heap.size,0,c'.length,esz P e,none,false⟩ (.cells c e true) (some (.cells ⟨c'⟩ e)):=by
 refine Or.inr ⟨rfl,⟨c'⟩,(0,0),rfl,rfl,by simp,?_,fun _=>?_,?_,Or.inl (Nat.le_refl _),fun h=>by cases h⟩
 ·rw[h.length]; exact Nat.le_refl _
 ·exact⟨h.length.symm▸rfl,rfl,rfl⟩
 ·simp only[List.drop_zero,h.length,List.take_length];exact h.mono' (OX hr _)
theorem PK{r:Nat}(hr:β r=none){c c':List Value}(h:VRL β c c')(e:TypeId){res:Result Next}{b:Blk}(hb:(newRow ⟨.leaf,r⟩ c e true).2.heap.get r=some b)
  (hrun:res = .ok (.value (.pointer (some ⟨w.heap.size,0,none⟩))) (w.alloc (.cells ⟨c'⟩ e))) :
  acP P β w r res (.pointer (some (newRow ⟨.leaf,r⟩ c e true).1)) b:=by
 obtain rfl:=ui hb;refine⟨⟨w.heap.size,0,c'.length,esz P e,none,false⟩,_,_,_,hrun,⟨rfl,rfl,rfl⟩,rfl,rfl,rfl,rfl,rfl,Gy hr h e,?_⟩;exact⟨rfl,_,d_ _ _ _,by simp[sQ]⟩
theorem QI{ρ:Operand->Value}{o:Oper}{r:Nat}{v:Value}{b:Blk}(h:qZ (aY P) ρ o r=some (v,b)):∃ st,aY P ρ o ⟨.leaf,r⟩=some (.val v st)/\st.heap.get r=some b:=by
 unfold qZ at h;split at h
 ·rename_i v st hop;split at h
  ·rename_i b hb;simp at h;obtain⟨rfl,rfl⟩:=h;exact⟨st,hop,hb⟩
  ·cases h
 ·cases h
theorem Ve{r:Nat}(hr:β r=none){ρ ρ':Operand->Value}(hρ:∀ x,VR β (ρ x) (ρ' x)){o:Oper}(hk:kindOf P o = .new){v:Value}{b:Blk}(h:qZ (aY P) ρ o r=some (v,b)) :
  acP P β w r ((execOp ρ' o).run P w) v b:=by
 obtain⟨st,h,hb⟩:=QI h;cases ho:o.op
 case alloc e=>
  simp only[aY,ho]at h;split at h
  ·rename_i z hz;obtain⟨i,hi,hzz,hfl⟩:=iL hz;simp only[Option.some.injEq,Out.val.injEq]at h;obtain⟨rfl,rfl⟩:=h;refine PK hr (VR.cells (VR.flat_refl z hfl) (by cases z<;>first | rfl | simp[flat]at hfl | (rename_i c; cases c<;>first | rfl | simp[flat]at hfl))) e hb ?_;simp only[execOp,ho];refine eQ ?_;simp[Instr.alloc,jX hi hzz,newVar,Go.newRow]
  ·cases h
 case box e x=>
  simp only[aY,ho]at h;split at h
  ·cases h
  ·rename_i hx;simp only[Option.some.injEq,Out.val.injEq]at h;obtain⟨rfl,rfl⟩:=h;refine PK hr (VR.cells (hρ x) (by simpa using hx)) e hb ?_;simp only[execOp,ho];refine eQ ?_;simp[Instr.box,newVar,Go.newRow]
 case buildSlice t len parts=>
  simp only[aY,ho]at h;split at h
  ·rename_i e hu;split at h
   ·rename_i ie z hie hz;obtain⟨i,hi,hzz,hfl⟩:=iL hz;obtain rfl:i=ie:=by rw[hi]at hie; exact Option.some.inj hie
    have hzc:VRL β z.cells.toList z.cells.toList:=VR.cells (VR.flat_refl z hfl) (by cases z<;>first | rfl | simp[flat]at hfl | (rename_i c; cases c<;>first | rfl | simp[flat]at hfl));split at h
    ·cases h
    ·rename_i hc;simp only[Bool.or_eq_true,decide_eq_true_eq,not_or,Bool.not_eq_true]at hc;obtain⟨⟨⟨hc1,hc2⟩,hc3⟩,hc4⟩:=hc;split at h
     ·rename_i h0;split at h
      ·rename_i hemp;simp only[Option.some.injEq,Out.val.injEq]at h;obtain⟨rfl,rfl⟩:=h;obtain rfl:=ui hb;refine⟨⟨w.heap.size,0,0,esz P e,none,false⟩, .cells ⟨[]⟩ e, .slice (some ⟨w.heap.size,0,none⟩) 0 0,w.alloc (.cells ⟨[]⟩ e),?_,⟨rfl,rfl,rfl⟩,rfl,rfl,rfl,rfl,rfl,Gy hr VRL.nil e,?_⟩
       ·simp only[execOp,ho];refine eQ ?_;have hpe:parts=#[]:=by simpa using hemp
        subst h0 hpe;simp[Instr.buildSlice,run_underlying hu,fZ hi,Instr.fill,Go.newRow];congr 2;apply Array.ext<;>simp
       ·refine⟨rfl,_,d_ _ _ _,?_⟩; simp[dW,unk,sQ]
      ·cases h
     ·rename_i h0;split at h
      ·rename_i c hfill;simp only[Option.some.injEq,Out.val.injEq]at h;obtain⟨rfl,rfl⟩:=h;obtain rfl:=ui hb;have hz0:VRL β ((Array.range (len*i.size)).map (z.cells[· % z.cells.size]!)).toList ((Array.range (len*i.size)).map (z.cells[· % z.cells.size]!)).toList:=by
        simp only[Array.toList_map];refine VRL.map _ _ _ fun j _=>?_;have hpos:0<z.cells.size:=by omega
        have hlt:j % z.cells.size<z.cells.size:=Nat.mod_lt _ hpos;have hg:z.cells.toList[j % z.cells.size]? = some (z.cells[j % z.cells.size]!):=by
         rw[Array.getElem?_toList,getElem!_pos z.cells _ hlt]; exact Array.getElem?_eq_getElem hlt
        exact(jH.1 hzc).2 _ _ _ hg hg
       obtain⟨c',h1,h2⟩:=u_ _ hρ parts.toList _ _ c hz0 (Ai (by simpa using hc4)) hfill;refine⟨⟨w.heap.size,0,c'.toList.length,esz P e,none,false⟩, .cells c' e, .slice (some ⟨w.heap.size,0,none⟩) len len,w.alloc (.cells c' e),?_,⟨rfl,rfl,rfl⟩,rfl,rfl,rfl,rfl,rfl,Gy hr h2 e,?_⟩
       ·simp only[execOp,ho];refine eQ ?_;exact run_buildSlice w t e len _ c' i z hu hi hzz (by omega) (by rw[Nat.mul_eq_zero]; omega) (by rw[<-h1]; congr 1; simp)
       ·refine⟨rfl,_,d_ _ _ _,?_⟩;have:len<unk:=by
         have hlen:len<=len*i.size:=Nat.le_mul_of_pos_right _ (by omega);unfold unk; omega
        simp[dW,this,sQ]
      ·cases h
   ·cases h
  ·cases h
 case convert s d x=>
  simp only[kindOf,ho]at hk;have hd:∃ e,P.underlying d=some (.slice e):=by
   split at hk
   ·exact⟨_,‹_›⟩
   ·cases hk
  obtain⟨e0,hd⟩:=hd;have hx:=hρ x;simp only[aY,ho]at h;split at h
  ·rename_i hd' _;rw[hd]at hd'; cases hd'
  ·rename_i hd' _;rw[hd]at hd'; cases hd'
  ·rename_i ds e s' hsu hd' ha;rw[ha]at hx;have hx:=hx.string';split at h
   ·rename_i he;split at h
    ·cases h
    ·rename_i hbig;simp only[Bool.or_eq_true,decide_eq_true_eq,not_or]at hbig;simp only[Option.some.injEq,Out.val.injEq]at h;obtain⟨rfl,rfl⟩:=h;obtain rfl:=ui hb;obtain⟨cap,fz,⟨h1,h1b⟩,h2,h3⟩:=t_ (P:=P) e s' w (by omega);refine⟨⟨w.heap.size,0,cap,esz P e,none,false⟩, .cells ⟨byteCells s'++List.replicate (cap-s'.size) (.int .u8 0)⟩ e fz, .slice (some ⟨w.heap.size,0,none⟩) s'.size cap,w.drew.alloc (.cells ⟨byteCells s'++List.replicate (cap-s'.size) (.int .u8 0)⟩ e fz),?_,⟨rfl,rfl,rfl⟩,rfl,rfl,rfl,rfl,rfl,?_,?_⟩
     ·simp only[execOp,ho];refine eQ ?_;rw[hx];have:(convert s d (.string s')).run P w=(Conv.stringToBytes e s').run P w:=by
       cases ds<;>simp[convert,run_underlying hsu,run_underlying hd',run_underlying he]
      rw[this]; exact h3
     ·refine Or.inr ⟨rfl,_,fz,rfl,rfl,?_,?_,fun hx=>(by cases hx),?_,?_,fun _=>by have:=hbig.2; show cap<9223372036854775808*esz P e; omega⟩
      ·simp[byteCells_length]; omega
      ·rw[byteCells_length]; exact h1
      ·simp only[List.drop_zero];rw[List.take_left' rfl]; exact tZ s'
      ·simp[byteCells_length]; omega
     ·refine⟨rfl,_,d_ _ _ _,?_⟩;have he1:esz P e=1:=by have:=hbig.2; omega
      unfold dW;rw[if_neg (by simp),if_neg (by simp),if_pos rfl];refine⟨?_,Nat.zero_le _⟩;simp[he1,sQ]
   ·cases h
  ·rename_i v1 hv1 hv2;split at h
   ·rename_i hfl;split at h
    ·rename_i v' hv;split at h
     ·simp only[Option.some.injEq,Out.val.injEq]at h;obtain⟨rfl,rfl⟩:=h;simp[Trie.get]at hb
     ·cases h
    ·cases h
   ·cases h
 case call c=>
  simp only[kindOf,ho]at hk;repeat' split at hk
  all_goals cases hk
 all_goals (simp only[kindOf,ho]at hk; cases hk)
end
end Go.VS
end
