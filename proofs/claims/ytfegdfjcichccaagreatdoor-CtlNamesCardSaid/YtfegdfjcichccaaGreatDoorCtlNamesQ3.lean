/- Texts of the proof, merged: VsDrawM, VsSym, VsSym2, VsSym3, VsSymDraw, VsLaws, VsMemo, VsSwap, VsCallM, VsApp, OpB, VsDeep, VsFrzC, VsCan, VsCanL, VsEnc, VsCon, VsX, VsShelf, Sc1, Ra0, Op1, Op2, Op3, Op4, Op5, Op6, Sc2, Sc3. No conditions. -/
import Derived.Test.YtfegdfjcichccaaGreatDoorCtlNamesQ2
import Derived.Laws.Strings
import Derived.Test.YtfegdfjcichccaaGreatDoorProg
import Derived.KernelRfl
import Derived.Laws.AppendOwn
import Derived.Test.YtfegdfjcichccaaGreatDoorShelf
set_option linter.unusedSimpArgs false
set_option linter.unusedVariables false
noncomputable section
namespace Go.VS

def af(b:Bool)(x:Res):Res:=@Bool.rec (fun _=>Res) none x b
def aC(b:Bool)(x y:Res):Res:=@Bool.rec (fun _=>Res) y x b
theorem az{b:Bool}{x:Res}{r:Value×St}(h:af b x=some r):b=true/\x=some r:=by
 cases b with
 |false=>cases h
 |true=>exact⟨rfl,h⟩
section
variable(P:Program)(cp:Oper->OpFn)
def pV:Knot:=⟨fun _ _ _ _=>none,fun _ _ _ _=>none⟩
def mi(ct:Ct)(kn:Knot)(ops:Array Oper)(bs:List Nat)(base nt:Nat)(d:List Deferred)(ro:Option Nat)(os:List Oper):Nat->Trie Value->St->Nat->List (Nat×Blk)->Nat->(List Rec->Res)->Res:=
 @List.rec Oper (fun _=>Nat->Trie Value->St->Nat->List (Nat×Blk)->Nat->(List Rec->Res)->Res)
  (fun _ s st m pend rep k=>k [⟨⟨s,nt,d,ro⟩,st,m,pend,rep,undef,none⟩])
  (fun o _ ih i s st m pend rep k=>rP ops s o
   (fun s=>match kindOf P o with
    | .quiet=>match peek P ops bs base i pend (rdF s) o with
     |some v=>fH nt o.dst v s fun s'=>ih (i+1) s' st m pend rep fun l=>k (⟨⟨s,nt,d,ro⟩,st,m,pend,rep,v,none⟩::l)
     |none=>(cp o).run pV s st (fun v _=>fH nt o.dst v s fun s'=>ih (i+1) s' st m pend rep fun l=>k (⟨⟨s,nt,d,ro⟩,st,m,pend,rep,v,none⟩::l)) (fun _ _=>none)
    | .new=>(cp o).run pV s ⟨.leaf,base+i⟩ (fun v st1=>match bg (path (base+i)) st1.heap with
     |some b=>fH nt o.dst v s fun s'=>ih (i+1) s' st m (pend++[(i,b)]) rep fun l=>k (⟨⟨s,nt,d,ro⟩,st,m,pend,rep,v,some b⟩::l)
     |none=>none) (fun _ _=>none)
    | .chain=>@Option.rec (DT (Value×St)) (fun _=>Res) ((cp o).run kn s (wake base (fun j=>aX bs i j&&!m.testBit j) pend st) (fun v st'=>fH nt o.dst v s fun s'=>ih (i+1) s' st' (m ||| bs.getD i 0) pend (i+1) fun l=>k (⟨⟨s,nt,d,ro⟩,st,m,pend,rep,v,none⟩::l)) (fun _ _=>none)) (fun t=>t.run fun x=>(fun v st'=>fH nt o.dst v s fun s'=>ih (i+1) s' st' (m ||| bs.getD i 0) pend (i+1) fun l=>k (⟨⟨s,nt,d,ro⟩,st,m,pend,rep,v,none⟩::l)) x.1 x.2) (opC P ct o (rdF s) (wake base (fun j=>aX bs i j&&!m.testBit j) pend st)))
   (fun s=>match kindOf P o with
    | .quiet=>fH nt o.dst undef s fun s'=>ih (i+1) s' st m pend rep fun l=>k (⟨⟨s,nt,d,ro⟩,st,m,pend,rep,undef,none⟩::l)
    | .new=>fH nt o.dst undef s fun s'=>ih (i+1) s' st m (pend++[]) rep fun l=>k (⟨⟨s,nt,d,ro⟩,st,m,pend,rep,undef,none⟩::l)
    | .chain=>fH nt o.dst undef s fun s'=>ih (i+1) s' (wake base (fun j=>aX bs i j&&!m.testBit j) pend st) (m ||| bs.getD i 0) pend (i+1) fun l=>k (⟨⟨s,nt,d,ro⟩,st,m,pend,rep,undef,none⟩::l))) os
def Dw(bs cs:List Nat)(o:Oper)(r:Rec)(i:Nat)(reps:List (Nat×St))(k:Res):Res:=
 @List.rec (Nat×St) (fun _=>Res) k (fun p _ ih=>@Bool.rec (fun _=>Res) ((cp o).run pV r.f.slots p.2 (fun v _=>af (bK v r.v) ih) (fun _ _=>none)) ih (p.1 == r.rep || !admits bs cs i p.1)) reps
def mV(ops:Array Oper)(bs cs:List Nat)(base:Nat)(reps:List (Nat×St)):List Oper->List Rec->Nat->Res->Res
 |o::os,r::rs,i,k=>match kindOf P o,fO ops r.f o with
  | .quiet,some true=>match peek P ops bs base i r.pend (rdF r.f.slots) o with
   |some _=>mV ops bs cs base reps os rs (i+1) k
   |none=>@Bool.rec (fun _=>Res) (Dw cp bs cs o r i reps (mV ops bs cs base reps os rs (i+1) k)) (mV ops bs cs base reps os rs (i+1) k) (sJ o)
  | .quiet,none=>none
  |_,_=>mV ops bs cs base reps os rs (i+1) k
 |_,_,_,k=>k
def drawM(ct:Ct)(kn:Knot)(ops:Array Oper)(nt:Nat)(ro:Option Nat)(s:Trie Value)(d:List Deferred)(st:St)(k:Trie Value->List Deferred->St->Res):Res:=
 if !P.follows .mixedOrders then none else
 let os:=ops.toList
 let bs:=Ag os 0 .leaf
 let cs:=fU P os 0
 match um os 0 .leaf with
 |none=>none
 |some W=>
 if !(q_ os 0&&Dz ops bs W os 0 bs&&qU bs cs)then none else
 mi P cp ct kn ops bs st.next nt d ro os 0 s { st with next:=st.next+ops.size } 0 [] 0 fun recs=>match recs.getLast? with
  |none=>none
  |some r=>mV P cp ops bs cs st.next ((0,{ st with next:=st.next+ops.size })::uk P os recs 0) os recs 0 (k r.f.slots r.f.defers (wake st.next (fun j=>!r.m.testBit j) r.pend r.st))
end
section
variable{P:Program}{ct:Ct}{call:Knot}{st:St}{r:Value×St}{cp:Oper->OpFn}
theorem Aw{b:Builtin}{ts:Array TypeId}{type:TypeId}{cn:Array Bool}{args:List Value}{st st':St}:dL P b ts type cn args st≠some (.skip st'):=by
 intro h;unfold dL at h;repeat' (first | (cases h; done) | split at h)
theorem Dc{t:Target}{args:List Value}{st st':St}:gy P t args st≠some (.skip st'):=by
 intro h;unfold gy callF at h;repeat' (first | (cases h; done) | split at h)
theorem Fb{o:Oper}{Z:Operand->Value}{st st':St}(hk:kindOf P o≠ .chain):ag P Z o st≠some (.skip st'):=by
 obtain⟨dst,op,type,pos,after,guard⟩:=o;intro h;cases op<;>simp only[kindOf,ne_eq,not_true_eq_false]at hk<;>simp only[ag]at h<;>repeat' (first | (cases h; done) | split at h)
 all_goals first
  |(cases h; done)
  |skip
 all_goals first
  |exact Aw h
  |exact Dc h
theorem FV{kv:Value->St->Res}{kd:Deferred->St->Res}(hkd:∀ d st,kd d st=none){x:Option Out}(h:Hands pV kv kd x r):(∃ v st',x=some (.val v st')/\kv v st'=some r)\/∃ st',x=some (.skip st'):=by
 cases x with
 |none=>exact h.elim
 |some x=>
  cases x with
  |val v st'=>exact Or.inl ⟨v,st',rfl,h⟩
  |skip st'=>exact Or.inr ⟨st',rfl⟩
  |enter g args st=>cases h
  |defer d st=>have:kd d st=some r:=h; rw[hkd]at this; cases this
  |round l args st=>cases h
theorem SK(hc:CallOk P ct call){kv:Value->St->Res}{kd:Deferred->St->Res}(hkd:∀ d st,kd d st=none){x:Option Out}(h:Hands call kv kd x r):∃ y n v st',x=some y/\dH P ct n y=some (v,st')/\kv v st'=some r:=by
 cases x with
 |none=>exact h.elim
 |some x=>
  cases x with
  |val v st'=>exact⟨_,1,v,st',rfl,rfl,h⟩
  |skip st'=>exact⟨_,1,undef,st',rfl,rfl,h⟩
  |enter g args st=>
   obtain⟨n,v,st',h1,h2⟩:=hc.call _ _ _ _ _ h;exact⟨_,n+1,v,st',rfl,by simp only[dH]; exact h1,h2⟩
  |defer d st=>have:kd d st=some r:=h; rw[hkd]at this; cases this
  |round l args st=>
   obtain⟨n,v,st',h1,h2⟩:=hc.rnd _ _ _ _ _ h;exact⟨_,n+1,v,st',rfl,by simp only[dH]; exact h1,h2⟩
theorem TJ{nt:Nat}{dst:Option Tmp}{v:Value}{s:Trie Value}{d:List Deferred}{ro:Option Nat}{k:Trie Value->Res}(h:fH nt dst v s k=some r):∃ s',Fr.put ⟨s,nt,d,ro⟩ dst v=some ⟨s',nt,d,ro⟩/\k s'=some r:=B_ h
variable(hcp:∀ {call:Knot} {s:Trie Value} {o:Oper} {st:St} {kv:Value->St->Res} {kd:Deferred->St->Res} {r:Value×St},(cp o).run call s st kv kd=some r->Hands call kv kd (ag P (rdF s) o st) r)
include hcp
theorem y_(hc:CallOk P ct call){ops:Array Oper}{bs:List Nat}{base nt:Nat}{d:List Deferred}{ro:Option Nat}:∀ (os:List Oper) (i:Nat) (s:Trie Value) (st:St) (m:Nat) (pend:List (Nat×Blk)) (rep:Nat) (k:List Rec->Res),
  mi P cp ct call ops bs base nt d ro os i s st m pend rep k=some r->∃ n l,bJ P (bu P ct) Fr.eval (dH P ct n) ops bs base os i ⟨s,nt,d,ro⟩ st m pend rep=some l/\k l=some r
 |[],i,s,st,m,pend,rep,k,h=>⟨0,_,rfl,h⟩
 |o::os,i,s,st,m,pend,rep,k,h=>by
  have ih:=y_ hc (ops:=ops) (bs:=bs) (base:=base) (nt:=nt) (d:=d) (ro:=ro) os;change rP ops s o
   (fun s=>match kindOf P o with
    | .quiet=>match peek P ops bs base i pend (rdF s) o with
     |some v=>fH nt o.dst v s fun s'=>mi P cp ct call ops bs base nt d ro os (i+1) s' st m pend rep fun l=>k (⟨⟨s,nt,d,ro⟩,st,m,pend,rep,v,none⟩::l)
     |none=>(cp o).run pV s st (fun v _=>fH nt o.dst v s fun s'=>mi P cp ct call ops bs base nt d ro os (i+1) s' st m pend rep fun l=>k (⟨⟨s,nt,d,ro⟩,st,m,pend,rep,v,none⟩::l)) (fun _ _=>none)
    | .new=>(cp o).run pV s ⟨.leaf,base+i⟩ (fun v st1=>match bg (path (base+i)) st1.heap with
     |some b=>fH nt o.dst v s fun s'=>mi P cp ct call ops bs base nt d ro os (i+1) s' st m (pend++[(i,b)]) rep fun l=>k (⟨⟨s,nt,d,ro⟩,st,m,pend,rep,v,some b⟩::l)
     |none=>none) (fun _ _=>none)
    | .chain=>@Option.rec (DT (Value×St)) (fun _=>Res) ((cp o).run call s (wake base (fun j=>aX bs i j&&!m.testBit j) pend st) (fun v st'=>fH nt o.dst v s fun s'=>mi P cp ct call ops bs base nt d ro os (i+1) s' st' (m ||| bs.getD i 0) pend (i+1) fun l=>k (⟨⟨s,nt,d,ro⟩,st,m,pend,rep,v,none⟩::l)) (fun _ _=>none)) (fun t=>t.run fun x=>(fun v st'=>fH nt o.dst v s fun s'=>mi P cp ct call ops bs base nt d ro os (i+1) s' st' (m ||| bs.getD i 0) pend (i+1) fun l=>k (⟨⟨s,nt,d,ro⟩,st,m,pend,rep,v,none⟩::l)) x.1 x.2) (opC P ct o (rdF s) (wake base (fun j=>aX bs i j&&!m.testBit j) pend st)))
   (fun s=>match kindOf P o with
    | .quiet=>fH nt o.dst undef s fun s'=>mi P cp ct call ops bs base nt d ro os (i+1) s' st m pend rep fun l=>k (⟨⟨s,nt,d,ro⟩,st,m,pend,rep,undef,none⟩::l)
    | .new=>fH nt o.dst undef s fun s'=>mi P cp ct call ops bs base nt d ro os (i+1) s' st m (pend++[]) rep fun l=>k (⟨⟨s,nt,d,ro⟩,st,m,pend,rep,undef,none⟩::l)
    | .chain=>fH nt o.dst undef s fun s'=>mi P cp ct call ops bs base nt d ro os (i+1) s' (wake base (fun j=>aX bs i j&&!m.testBit j) pend st) (m ||| bs.getD i 0) pend (i+1) fun l=>k (⟨⟨s,nt,d,ro⟩,st,m,pend,rep,undef,none⟩::l))=some r at h
  have next:∀ {v:Value} {b:Option Blk} {st':St} {m':Nat} {pend':List (Nat×Blk)} {rep':Nat},(fH nt o.dst v s fun s'=>mi P cp ct call ops bs base nt d ro os (i+1) s' st' m' pend' rep' fun l=>k (⟨⟨s,nt,d,ro⟩,st,m,pend,rep,v,b⟩::l))=some r->
    ∃ f' n l,Fr.put ⟨s,nt,d,ro⟩ o.dst v=some f'/\bJ P (bu P ct) Fr.eval (dH P ct n) ops bs base os (i+1) f' st' m' pend' rep'=some l/\k (⟨⟨s,nt,d,ro⟩,st,m,pend,rep,v,b⟩::l)=some r:=by
   intro v b st' m' pend' rep' h;obtain⟨s',h1,h2⟩:=TJ (d:=d) (ro:=ro) h;obtain⟨n,l,h3,h4⟩:=ih _ _ _ _ _ _ _ h2;exact⟨_,n,l,h1,h3,h4⟩
  have hrd:Fr.eval ⟨s,nt,d,ro⟩=rdF s:=(nP s nt d ro).symm;rcases xA (nt:=nt) (d:=d) (ro:=ro) h with⟨hw,h⟩ | ⟨hw,h⟩
  ·simp only at h;split at h
   ·rename_i hk;split at h
    ·rename_i v hpk;obtain⟨f',n,l,g1,g2,g3⟩:=next h
     refine⟨n,_,?_,g3⟩;simp only[bJ,hw,hk,if_true,hrd,hpk,g1,g2]
    rename_i hpk;rcases FV (fun _ _=>rfl) (hcp h)with⟨v,st1,h1,h2⟩ | ⟨st1,h1⟩
    ·obtain⟨f',n,l,g1,g2,g3⟩:=next h2
     refine⟨n,_,?_,g3⟩;rw[<-jc (ct:=ct) (by rw[hk]; intro e; cases e)]at h1;simp only[bJ,hw,hk,if_true,hrd,hpk,h1,g1,g2]
    ·exact absurd h1 (Fb (by rw[hk]; intro e; cases e))
   ·rename_i hk;rcases FV (fun _ _=>rfl) (hcp h)with⟨v,st1,h1,h2⟩ | ⟨st1,h1⟩
    ·split at h2
     ·rename_i b hb;rw[aP]at hb;obtain⟨f',n,l,g1,g2,g3⟩:=next h2
      refine⟨n,_,?_,g3⟩;rw[<-jc (ct:=ct) (by rw[hk]; intro e; cases e)]at h1;simp only[bJ,hw,hk,if_true,hrd,lW,h1,hb,g1,Option.map_some,Option.toList,g2]
     ·cases h2
    ·exact absurd h1 (Fb (by rw[hk]; intro e; cases e))
   ·rename_i hk;cases hco:opC P ct o (rdF s) (wake base (fun j=>aX bs i j&&!m.testBit j) pend st)with
    |some t=>
     rw[hco]at h;obtain⟨⟨v,st1⟩,hev,h3⟩:=DT.run_spec h;obtain⟨f',n,l,g1,g2,g3⟩:=next h3
     have h1:bu P ct (rdF s) o (wake base (fun j=>aX bs i j&&!m.testBit j) pend st)=some (.val v st1):=by unfold bu; rw[hco]; simp only[hev]
     refine⟨max n 1,_,?_,g3⟩;have e1:dH P ct (max n 1) (.val v st1)=some (v,st1):=(eF (P:=P) (ct:=ct) (Nat.le_max_right n 1)).2.2.1 _ _ rfl;have e2:=lw (fun x r=>(eF (P:=P) (ct:=ct) (Nat.le_max_left n 1)).2.2.1 x r) _ _ _ _ _ _ _ _ g2;simp only[bJ,hw,hk,if_true,hrd,h1,e1,g1,e2]
    |none=>
    rw[hco]at h;obtain⟨y,n0,v,st1,h1,h2,h3⟩:=SK hc (fun _ _=>rfl) (hcp h);have h1:bu P ct (rdF s) o (wake base (fun j=>aX bs i j&&!m.testBit j) pend st)=some y:=by unfold bu; rw[hco]; exact h1
    obtain⟨f',n,l,g1,g2,g3⟩:=next h3
    refine⟨max n n0,_,?_,g3⟩;have e1:=(eF (Nat.le_max_right n n0)).2.2.1 _ _ h2;have e2:=lw (fun x r=>(eF (P:=P) (ct:=ct) (Nat.le_max_left n n0)).2.2.1 x r) _ _ _ _ _ _ _ _ g2;simp only[bJ,hw,hk,if_true,hrd,h1,e1,g1,e2]
  ·split at h
   ·rename_i hk;obtain⟨f',n,l,g1,g2,g3⟩:=next h
    refine⟨n,_,?_,g3⟩;simp only[bJ,hw,hk,Bool.false_eq_true,if_false,g1,g2]
   ·rename_i hk;obtain⟨f',n,l,g1,g2,g3⟩:=next h
    refine⟨n,_,?_,g3⟩;simp only[bJ,hw,hk,Bool.false_eq_true,if_false,g1,Option.map_none,Option.toList,g2]
   ·rename_i hk;obtain⟨f',n,l,g1,g2,g3⟩:=next h
    refine⟨n,_,?_,g3⟩;simp only[bJ,hw,hk,Bool.false_eq_true,if_false,g1,g2]
theorem zV{bs cs:List Nat}{o:Oper}{rc:Rec}{i:Nat}{k:Res}(hk:kindOf P o≠ .chain):∀ (reps:List (Nat×St)),Dw cp bs cs o rc i reps k=some r->
  (reps.all fun p=>p.1 == rc.rep || !admits bs cs i p.1 || (match bu P ct (Fr.eval rc.f) o p.2 with
   |some (.val v _)=>bK v rc.v
   |_=>false))=true/\k=some r
 |[],h=>⟨rfl,h⟩
 |p::reps,h=>by
  have ih:=zV (bs:=bs) (cs:=cs) (o:=o) (rc:=rc) (i:=i) (k:=k) hk reps;change @Bool.rec (fun _=>Res) ((cp o).run pV rc.f.slots p.2 (fun v _=>af (bK v rc.v) (Dw cp bs cs o rc i reps k)) (fun _ _=>none)) (Dw cp bs cs o rc i reps k) (p.1 == rc.rep || !admits bs cs i p.1)=some r at h;cases hb:(p.1 == rc.rep || !admits bs cs i p.1)with
  |true=>
   rw[hb]at h;obtain⟨h1,h2⟩:=ih h;refine⟨?_,h2⟩;rw[List.all_cons,hb,h1]; rfl
  |false=>
   rw[hb]at h;rcases FV (fun _ _=>rfl) (hcp h)with⟨v,st1,h1,h2⟩ | ⟨st1,h1⟩
   ·obtain⟨h3,h4⟩:=az h2;obtain⟨h5,h6⟩:=ih h4;refine⟨?_,h6⟩;have hrd:Fr.eval rc.f=rdF rc.f.slots:=(nP rc.f.slots rc.f.ntmps rc.f.defers rc.f.roundOf).symm;rw[List.all_cons,hb,h5,hrd,jc (ct:=ct) hk,h1];simp only[Bool.false_or,Bool.and_true];exact h3
   ·exact absurd h1 (Fb hk)
theorem xU{ops:Array Oper}{bs cs:List Nat}{base:Nat}{reps:List (Nat×St)}{k:Res}:∀ (os:List Oper) (rs:List Rec) (i:Nat),mV P cp ops bs cs base reps os rs i k=some r->oW P (bu P ct) Fr.eval ops bs cs base reps os rs i=true/\k=some r
 |[],rs,i,h=>⟨rfl,by simpa [mV]using h⟩
 |o::os,[],i,h=>⟨rfl,by simpa [mV]using h⟩
 |o::os,rc::rs,i,h=>by
  have ih:=xU (ops:=ops) (bs:=bs) (cs:=cs) (base:=base) (reps:=reps) (k:=k) os rs (i+1);simp only[mV]at h;simp only[oW];split at h
  ·rename_i hk hw;rw[hk,hw];have hrd:Fr.eval rc.f=rdF rc.f.slots:=(nP rc.f.slots rc.f.ntmps rc.f.defers rc.f.roundOf).symm;split at h
   ·rename_i v hpk;obtain⟨h1,h2⟩:=ih h;exact⟨by rw[h1,hrd]; simp[hpk],h2⟩
   cases hn:sJ o with
   |true=>
    rw[hn]at h;obtain⟨h1,h2⟩:=ih h;exact⟨by simp[h1],h2⟩
   |false=>
    rw[hn]at h;obtain⟨h1,h2⟩:=zV (ct:=ct) hcp (by rw[hk]; intro e; cases e) reps h;obtain⟨h3,h4⟩:=ih h2;refine⟨?_,h4⟩;simp only[Bool.or_false,h3,Bool.and_true,Bool.or_eq_true];exact Or.inr h1
  ·cases h
  ·rename_i hne1 hne2;obtain⟨h1,h2⟩:=ih h;refine⟨?_,h2⟩;rw[h1,Bool.and_true];split
   ·rename_i hk hw; exact absurd hw (by first | exact hne1 hk | exact fun hw=>hne1 hk hw)
   ·rfl
theorem Kv(hc:CallOk P ct call){ops:Array Oper}{nt:Nat}{ro:Option Nat}{s:Trie Value}{d:List Deferred}{k:Trie Value->List Deferred->St->Res}(h:drawM P cp ct call ops nt ro s d st k=some r) :
  ∃ n f1 st1,eX P (bu P ct) (dH P ct n) ops ⟨s,nt,d,ro⟩ st=some (f1,st1)/\k f1.slots f1.defers st1=some r:=by
 simp only[drawM]at h;split at h
 ·cases h
 ·rename_i hm;split at h
  ·cases h
  ·rename_i W hW;have hb:Ag ops.toList 0 .leaf=jf ops.toList []:=by
    rw[D6 ops.toList 0 .leaf [] rfl (fun i=>by simp[Trie.get])]; rfl
   rw[hb]at h;split at h
   ·cases h
   ·rename_i hcd;simp only[Bool.not_eq_true',Bool.not_eq_false,Bool.and_eq_true]at hcd;obtain⟨⟨hc1,hc2⟩,hc3⟩:=hcd;have ht:=zZ (oC ops.toList 0 .leaf W hW).2 ops.toList 0 _ (by simp) hc2;obtain⟨n,l,h1,h2⟩:=y_ hcp hc _ _ _ _ _ _ _ _ h;split at h2
    ·cases h2
    ·rename_i rc hl;obtain⟨h3,h4⟩:=xU (ct:=ct) hcp _ _ _ h2;refine⟨n,_,_,?_,h4⟩;simp only[eX];rw[if_neg hm,hc1,ht,hc3];simp only[Bool.and_self,Bool.not_true,Bool.false_eq_true,if_false];rw[h1];simp only[hl,h3,if_true]
end
def asI:Value->Int
 | .int _ n=>n
 |_=>0
def asS:Value->ByteArray
 | .string s=>s
 |_=> .empty
def asB:Value->Bool
 | .bool b=>b
 |_=>false
def zN(v:Value):Nat:=match gJ v with
 |some z=>z.n
 |none=>0
def zB(v:Value):Nat:=match gJ v with
 |some z=>z.cap
 |none=>0
def zC(v:Value):List Value:=match gJ v with
 |some z=>z.cells
 |none=>[]
def isI(k:IntKind):Value->Bool
 | .int k' _=>decide (k'=k)
 |_=>false
def isS:Value->Bool
 | .string _=>true
 |_=>false
def isB:Value->Bool
 | .bool _=>true
 |_=>false
def isZ(sz:Nat)(v:Value):Bool:=match gJ v with
 |some z=>Nat.beq z.sz sz
 |none=>false
def aj(c:List Value)(n:Nat):Value:=c.getD n undef
def bAt(s:ByteArray)(i:Int):Int:=((s.data.toList.getD i.toNat 0).toNat:Int)
def byteOf:Value->UInt8
 | .int .u8 n=>UInt8.ofNat n.toNat
 |_=>0
def isByte:Value->Bool
 | .int .u8 _=>true
 |_=>false
def rW(c:List Value):ByteArray:=⟨⟨c.map byteOf⟩⟩
def allBytes(c:List Value):Bool:=c.all isByte
theorem qN:∀ {c:List Value},allBytes c=true->bytesOf c=some (c.map byteOf)
 |[],_=>rfl
 |v::c,h=>by
  simp only[allBytes,List.all_cons,Bool.and_eq_true]at h;have ih:=qN (c:=c) h.2;unfold isByte at h;split at h
  ·simp only[bytesOf,ih,List.map_cons,byteOf]
  ·cases h.1
def dC(k:IntKind)(x y:Int):Int:=k.wrap (x+y)
def yL(k:IntKind)(x y:Int):Int:=k.wrap (x-y)
def TC(k:IntKind)(x y:Int):Int:=k.wrap (x*y)
def UD(k:IntKind)(x y:Int):Int:=k.wrap (x.tdiv y)
def UY(x y:Int):Int:=x.tmod y
def IK(k:IntKind)(x y:Int):Int:=k.wrap (x*2^(min y.toNat k.bits))
def qK(k:IntKind)(x y:Int):Int:=x.fdiv (2^(min y.toNat k.bits))
def pO(k:IntKind)(x y:Int):Int:=k.wrap (BitVec.ofInt k.bits x&&& BitVec.ofInt k.bits y).toNat
def orI(k:IntKind)(x y:Int):Int:=k.wrap (BitVec.ofInt k.bits x ||| BitVec.ofInt k.bits y).toNat
def OZ(k:IntKind)(x y:Int):Int:=k.wrap (BitVec.ofInt k.bits x ^^^ BitVec.ofInt k.bits y).toNat
def RG(k:IntKind)(x y:Int):Int:=k.wrap (BitVec.ofInt k.bits x&&& ~~~BitVec.ofInt k.bits y).toNat
def eqI(x y:Int):Bool:=x == y
def neI(x y:Int):Bool:=x != y
def ltI(x y:Int):Bool:=decide (x<y)
def leI(x y:Int):Bool:=decide (x<=y)
def gtI(x y:Int):Bool:=decide (x>y)
def geI(x y:Int):Bool:=decide (x>=y)
def eqS(a b:ByteArray):Bool:=a.toList == b.toList
def neS(a b:ByteArray):Bool:=!(a.toList == b.toList)
def eqB(a b:Bool):Bool:=a == b
def cvI(k:IntKind)(x:Int):Int:=k.wrap x
def Rn(x y:Int):Int:=if y<x then y else x
def RD(x y:Int):Int:=if y>x then y else x
def ltS(a b:ByteArray):Bool:=Op.bytesLess a.toList b.toList
def leS(a b:ByteArray):Bool:=Op.bytesLess a.toList b.toList || a.toList == b.toList
def gtS(a b:ByteArray):Bool:=!(Op.bytesLess a.toList b.toList || a.toList == b.toList)
def geS(a b:ByteArray):Bool:=!(Op.bytesLess a.toList b.toList)
def UQ(a b:ByteArray):ByteArray:=a++b
def tu(b:ByteArray)(l h:Int):ByteArray:=b.extract l.toNat h.toNat
def ae(n:Nat):Int:=n
def inI(i:Int)(n:Nat):Bool:=decide (0<=i/\i<n)
def d_(l h:Int)(n:Nat):Bool:=decide (0<=l/\l<=h/\h<=n)
def J6(i:Int):Bool:=decide (0<=i)
def Dx(i:Int):Bool:=!decide (i=0)
def UO(a b:ByteArray):Bool:=Nat.ble (Nat.add a.size b.size) 9223372036854775807
def atN(i:Int)(n:Nat):Nat:=i.toNat*n
def aF(l h:Int):Nat:=h.toNat-l.toNat
def TM(k:IntKind)(x:Int):Int:=OZ k (if k.signed then -1 else k.max) x
def iJ(b:Bool):Bool:=!b
def FQ(a:Addr)(n:Nat):Addr:=@Addr.rec (fun _=>Addr) (fun b off spot=>@Option.rec Nat (fun _=>Addr) ⟨b,Nat.add off n,none⟩ (fun s=>Addr.add ⟨b,off,some s⟩ n) spot) a
theorem Bi(a:Addr)(n:Nat):FQ a n=a.add n:=by
 obtain⟨b,off,spot⟩:=a;cases spot with
 |none=>exact(dZ b off n).symm
 |some s=>rfl
section
variable(P:Program)
def A_(x ix:Operand):OpT:=fun _ s st kv _=>match rdF s x with
 | .string b=>match rdF s ix with
  | .int _ i=>af (inI i b.size) (kv (.int .u8 (bAt b i)) st)
  |_=>none
 |_=>none
def qB(n:Nat)(x ix:Operand):OpT:=fun call s st kv kd=>match rdF s x with
 | .slice (some a) len _=>match rdF s ix with
  | .int _ i=>af (inI i len) (kv (.pointer (some (FQ a (atN i n)))) st)
  |_=>none
 | .iface t v=>match gJ (.iface t v)with
  |some z=>match rdF s ix with
   | .int _ i=>af (and (Nat.beq z.sz n) (inI i z.n)) (kv (iq (atN i n) z.cells) st)
   |_=>none
  |none=>none
 |_=>none
/-- How a cell is seen that nothing is known of but its type. -/
inductive Eta where
 |int (k:IntKind)
 |string
 |bool
 |slice (sz:Nat)
def oM(t:TypeId):Option Eta:=match bP P t with
 |some (.int k)=>some (.int k)
 |some .string=>some .string
 |some .bool=>some .bool
 |some (.slice e)=>match ji P e with
  |some n=>some (.slice n)
  |none=>none
 |_=>none
def yc(e:Eta)(v:Value):Value:=match e with
 | .int k=> .int k (asI v)
 | .string=> .string (asS v)
 | .bool=> .bool (asB v)
 | .slice n=>au n (zN v) (zB v) (zC v)
def dm(e:Eta)(v:Value):Bool:=match e with
 | .int k=>isI k v
 | .string=>isS v
 | .bool=>isB v
 | .slice n=>isZ n v
def Bh(e:Eta)(x:Operand):OpT:=fun _ s st kv _=>match rdF s x with
 | .pointer (some a)=>eQ st a fun b off c _ ex _ _=>@Bool.rec (fun _=>Res)
   (af (and (Nat.ble (Nat.add off 1) c.length) (dm e (aj c off))) (kv (yc e (aj c off)) st))
   (match uA c off with
    |some v=>kv v st
    |none=>none) ex
 | .iface t v=>match qE (.iface t v)with
  |some (off,c)=>af (and (Nat.ble (Nat.add off 1) c.length) (dm e (aj c off))) (kv (yc e (aj c off)) st)
  |none=>none
 |_=>none
def Jn(i:Int)(k:Nat->Res)(len:Nat):Nat->Res:=
 @Nat.rec (fun _=>Nat->Res) (fun _=>none) (fun _ ih j=>@Bool.rec (fun _=>Res) (ih (Nat.succ j)) (k j) (eqI i (Int.ofNat j))) len
def tZ(len n:Nat)(x ix:Operand):OpT:=fun _ s st kv _=>match rdF s x with
 | .pointer (some a)=>match rdF s ix with
  | .int _ i=>Jn i (fun j=>kv (.pointer (some (FQ a (Nat.mul j n)))) st) len 0
  |_=>none
 |_=>none
def Oh(t:TypeId):Option (Nat×Nat):=match bP P t with
 |some (.array len e)=>match Nat.ble len 8,ji P e with
  |true,some n=>some (len,n)
  |_,_=>none
 |_=>none
def UK(n:Nat):TypeId->Option (List Eta):=
 @Nat.rec (fun _=>TypeId->Option (List Eta)) (fun _=>none) (fun _ ih t=>match bP P t with
  |some (.struct fs)=>@List.rec Field (fun _=>Option (List Eta)) (some []) (fun f _ r=>match ih f.type,r with
   |some a,some b=>some (a.append b)
   |_,_=>none) fs.toList
  |some (.array k e)=>match ih e with
   |some a=>some (List.flatten (List.replicate k a))
   |none=>none
  |_=>match oM P t with
   |some e=>some [e]
   |none=>none) n
def wX(es:List Eta):List Value->Nat->Bool:=
 @List.rec Eta (fun _=>List Value->Nat->Bool) (fun _ _=>true) (fun e _ ih c off=>and (dm e (aj c off)) (ih c (Nat.add off 1))) es
def zL(es:List Eta):List Value->Nat->List Value:=
 @List.rec Eta (fun _=>List Value->Nat->List Value) (fun _ _=>[]) (fun e _ ih c off=>yc e (aj c off)::ih c (Nat.add off 1)) es
def AC(es:List Eta)(n:Nat)(x:Operand):OpT:=fun _ s st kv _=>match rdF s x with
 | .pointer (some a)=>eQ st a fun b off c _ ex _ _=>@Bool.rec (fun _=>Res)
   (af (and (Nat.ble (Nat.add off n) c.length) (wX es c off)) (kv (.agg ⟨zL es c off⟩) st))
   (@Bool.rec (fun _=>Res) none (kv (.agg ⟨(c.drop off).take n⟩) st) (Nat.ble (Nat.add off n) c.length)) ex
 | .iface t v=>match qE (.iface t v)with
  |some (off,c)=>af (and (Nat.ble (Nat.add off n) c.length) (wX es c off)) (kv (.agg ⟨zL es c off⟩) st)
  |none=>none
 |_=>none
def qM(n:Nat)(x:Operand):OpT:=fun _ s st kv _=>match rdF s x with
 | .pointer (some a)=>kv (.pointer (some (@Addr.rec (fun _=>Addr) (fun b off spot=>AU b off n spot) a))) st
 | .iface t v=>match qE (.iface t v)with
  |some (a,c)=>kv (iq (Nat.add a n) c) st
  |none=>none
 |_=>none
def qJ(s:Trie Value)(o:Option Operand)(d:Int)(k:Int->Res):Res:=match o with
 |none=>k d
 |some x=>match rdF s x with
  | .int _ i=>k i
  |_=>none
def oh(b l:Nat):Nat:=if b=0 then 0 else b-l
def x_(x:Operand)(lo hi:Option Operand):OpT:=fun _ s st kv _=>match rdF s x with
 | .string b=>qJ s hi (ae b.size) fun h=>qJ s lo 0 fun l=>af (d_ l h b.size) (kv (.string (tu b l h)) st)
 |_=>none
def AA(o:Oper)(n:Nat)(x:Operand)(lo hi:Option Operand):OpT:=fun call s st kv kd=>match rdF s x with
 | .iface t v=>match gJ (.iface t v)with
  |some z=>qJ s hi (ae z.n) fun h=>qJ s lo 0 fun l=>af (and (Nat.beq z.sz n) (d_ l h z.n))
    (kv (au n (aF l h) (oh z.cap l.toNat) (takeC (Nat.mul (aF l h) n) (ai (atN l n) z.cells))) st)
  |none=>none
 | .slice (some a) len cap=>@Bool.rec (fun _=>Res) (a_ P o call s st kv kd)
   (eQ st a fun b off c e ex _ _=>af (and (Nat.ble off c.length) (and (Nat.ble 1 n) (Nat.beq n (esz P e))))
    (qJ s hi (ae len) fun h=>qJ s lo 0 fun l=>af (d_ l h (Nat.div (Nat.sub c.length off) n))
     (@Bool.rec (fun _=>Res) (@Bool.rec (fun _=>Res) (kv (.slice (some a) 0 (Nat.add unk l.toNat)) st) (kv (.slice (some a) 0 unk) st) (Nat.beq l.toNat 0))
      (kv (.slice (some (FQ a (atN l n))) (aF l h) unk) st) (Nat.ble (Nat.add l.toNat 1) (Nat.div (Nat.sub c.length off) n)))))
   (Nat.beq cap unk)
 |_=>a_ P o call s st kv kd
def sZ(o:Oper)(x:Operand):OpT:=fun call s st kv kd=>match rdF s x with
 | .slice (some a) n _=>eQ st a fun b off c _ _ _ _=>af (and (Nat.ble (Nat.add off n) c.length) (allBytes (takeC n (ai off c)))) (kv (.string (rW (takeC n (ai off c)))) st)
 | .iface t v=>match gJ (.iface t v)with
  |some z=>af (and (Nat.beq z.sz 1) (allBytes z.cells)) (kv (.string (rW z.cells)) st)
  |none=>none
 |_=>a_ P o call s st kv kd
def vO(e:TypeId)(x:Operand):OpT:=fun _ s st kv _=>match rdF s x with
 | .string b=>af (Nat.ble b.size big) (l_ st (.cells (byteCells b) e false) fun a st=>kv (.slice (some a) b.size unk) st)
 |_=>none
def Kw(o:Oper)(x y:Operand):OpT:=fun call s st kv kd=>match rdF s x,rdF s y with
 | .int k a, .int _ b=>af (J6 b) (kv (.int k (IK k a b)) st)
 |_,_=>a_ P o call s st kv kd
def I_(o:Oper)(x y:Operand):OpT:=fun call s st kv kd=>match rdF s x,rdF s y with
 | .int k a, .int _ b=>af (J6 b) (kv (.int k (qK k a b)) st)
 |_,_=>a_ P o call s st kv kd
def JI(o:Oper)(x y:Operand):OpT:=fun call s st kv kd=>match rdF s x,rdF s y with
 | .int k a, .int k' b=>af (and (decide (k=k')) (Dx b)) (kv (.int k (UD k a b)) st)
 |_,_=>a_ P o call s st kv kd
def J9(o:Oper)(x y:Operand):OpT:=fun call s st kv kd=>match rdF s x,rdF s y with
 | .int k a, .int k' b=>af (and (decide (k=k')) (Dx b)) (kv (.int k (UY a b)) st)
 |_,_=>a_ P o call s st kv kd
def Jf(o:Oper)(x y:Operand):OpT:=fun call s st kv kd=>match rdF s x,rdF s y with
 | .string a, .string b=>af (UO a b) (kv (.string (UQ a b)) st)
 | .int k a, .int k' b=>af (decide (k=k')) (kv (.int k (dC k a b)) st)
 |_,_=>a_ P o call s st kv kd
def ql(o:Oper)(f:IntKind->Int->Int->Int)(x y:Operand):OpT:=fun call s st kv kd=>match rdF s x,rdF s y with
 | .int k a, .int k' b=>af (decide (k=k')) (kv (.int k (f k a b)) st)
 |_,_=>a_ P o call s st kv kd
def wS(o:Oper)(f:Int->Int->Bool)(g:ByteArray->ByteArray->Bool)(str:Bool)(x y:Operand):OpT:=fun call s st kv kd=>match rdF s x,rdF s y with
 | .int k a, .int k' b=>af (decide (k=k')) (kv (.bool (f a b)) st)
 | .string a, .string b=>match str with
  |true=>kv (.bool (g a b)) st
  |false=>a_ P o call s st kv kd
 |_,_=>a_ P o call s st kv kd
def eqE(e:Eta)(x y:Value)(k:Bool->Res):Res:=match e with
 | .int _=>match x,y with
  | .int a m, .int b n=>af (decide (a=b)) (k (eqI m n))
  |_,_=>none
 | .string=>match x,y with
  | .string a, .string b=>k (eqS a b)
  |_,_=>none
 | .bool=>match x,y with
  | .bool a, .bool b=>k (eqB a b)
  |_,_=>none
 | .slice _=>none
def eqC(es:List Eta):List Value->List Value->(Bool->Res)->Res:=
 @List.rec Eta (fun _=>List Value->List Value->(Bool->Res)->Res) (fun _ _ k=>k true)
  (fun e _ ih xs ys k=>match xs with
   |x::xs=>match ys with
    |y::ys=>eqE e x y fun b=>ih xs ys fun r=>k (and b r)
    |[]=>none
   |[]=>none) es
def zi(fs:List Field):Nat->Option (List Eta):=
 @List.rec Field (fun _=>Nat->Option (List Eta)) (fun _=>some []) (fun f _ ih i=>match and (Nat.beq f.offset i) (f.name != "_"),oM P f.type,ih (Nat.add i 1)with
  |true,some (.slice _),_=>none
  |true,some e,some es=>some (e::es)
  |_,_,_=>none) fs
def eqK(t:TypeId):Option (List Eta):=match bP P t with
 |some (.struct fs)=>match P.stoodInHeld t || P.eqGuardType P.depth t with
  |true=>none
  |false=>zi P fs.toList 0
 |_=>none
def oV(t:TypeId):Bool:=match bP P t with
 |some .bool=>true
 |_=>false
def IM(o:Oper)(bk:Bool)(es:Option (List Eta))(x y:Operand):OpT:=fun call s st kv kd=>match rdF s x,rdF s y with
 | .int k a, .int k' b=>af (decide (k=k')) (kv (.bool (eqI a b)) st)
 | .string a, .string b=>kv (.bool (eqS a b)) st
 | .bool a, .bool b=>match bk with
  |true=>kv (.bool (eqB a b)) st
  |false=>a_ P o call s st kv kd
 | .agg a, .agg b=>match es with
  |some es=>af (and (iO a) (iO b)) (eqC es a.toList b.toList fun r=>kv (.bool r) st)
  |none=>a_ P o call s st kv kd
 |_,_=>a_ P o call s st kv kd
def J7(o:Oper)(bk:Bool)(es:Option (List Eta))(x y:Operand):OpT:=fun call s st kv kd=>match rdF s x,rdF s y with
 | .int k a, .int k' b=>af (decide (k=k')) (kv (.bool (neI a b)) st)
 | .string a, .string b=>kv (.bool (neS a b)) st
 | .bool a, .bool b=>match bk with
  |true=>kv (.bool (iJ (eqB a b))) st
  |false=>a_ P o call s st kv kd
 | .agg a, .agg b=>match es with
  |some es=>af (and (iO a) (iO b)) (eqC es a.toList b.toList fun r=>kv (.bool (iJ r)) st)
  |none=>a_ P o call s st kv kd
 |_,_=>a_ P o call s st kv kd
def IR(o:Oper)(k:IntKind)(x:Operand):OpT:=fun call s st kv kd=>match rdF s x with
 | .int _ n=>kv (.int k (cvI k n)) st
 |_=>a_ P o call s st kv kd
def zh(o:Oper)(g:Int->Int->Bool)(x y:Operand):OpT:=fun call s st kv kd=>match rdF s x,rdF s y with
 | .int k a, .int _ b=>@Bool.rec (fun _=>Res) (kv (.int k a) st) (kv (.int k b) st) (g b a)
 |_,_=>a_ P o call s st kv kd
def JV(o:Oper)(x:Operand):OpT:=fun call s st kv kd=>match rdF s x with
 | .bool b=>kv (.bool (iJ b)) st
 |_=>a_ P o call s st kv kd
def Ko(o:Oper)(x:Operand):OpT:=fun call s st kv kd=>match rdF s x with
 | .int k n=>kv (.int k (TM k n)) st
 |_=>a_ P o call s st kv kd
def FI(o:Oper)(x:Operand):OpT:=fun call s st kv kd=>match rdF s x with
 | .slice _ n _=>kv (.int .i64 (ae n)) st
 | .iface t v=>match gJ (.iface t v)with
  |some z=>kv (.int .i64 (ae z.n)) st
  |none=>none
 |_=>a_ P o call s st kv kd
def Fv(o:Oper)(x:Operand):OpT:=fun call s st kv kd=>match rdF s x with
 | .slice (some _) _ c=>af (Nat.ble (Nat.add c 1) unk) (kv (.int .i64 (ae c)) st)
 | .slice none _ c=>kv (.int .i64 (ae c)) st
 |_=>a_ P o call s st kv kd
def FH(o:Oper)(x:Operand):OpT:=fun call s st kv kd=>match rdF s x with
 | .string b=>kv (.int .i64 (ae b.size)) st
 |_=>a_ P o call s st kv kd
def s_tail(str:Bool)(size:Nat)(st:St)(x:Value)(k:Nat->List Value->Res):Res:=match str with
 |false=>match x with
  | .slice (some a) n _=>eQ st a fun b off c _ _ _ _=>af (Nat.ble (Nat.add off (Nat.mul n size)) c.length) (k n (takeC (Nat.mul n size) (ai off c)))
  | .slice none n _=>af (Nat.beq n 0) (k 0 [])
  | .iface t v=>match gJ (.iface t v)with
   |some z=>af (Nat.beq z.sz size) (k z.n z.cells)
   |none=>none
  |_=>none
 |true=>match x with
  | .string b=>af (Nat.beq size 1) (k b.size (byteCells b))
  |_=>none
def ui(slow:Res)(e:TypeId)(size n:Nat)(new:List Value)(st:St)(s:Value)(kv:Value->St->Res):Res:=match s with
 | .slice none len cap=>af (and (Nat.beq len 0) (and (Nat.beq cap 0) (Nat.ble n big)))
   (@Bool.rec (fun _=>Res) (l_ st (.cells new e false) fun a st=>kv (.slice (some a) n unk) st) (kv (.slice none 0 0) st) (Nat.beq n 0))
 | .slice (some a) len cap=>@Bool.rec (fun _=>Res)
   (@Bool.rec (fun _=>Res) (@Bool.rec (fun _=>Res)
    (af (Nat.ble (Nat.add len n) big) (eQ st a fun b off c _ _ _ _=>af (Nat.ble (Nat.add off (Nat.mul len size)) c.length)
     (l_ st (.cells ((takeC (Nat.mul len size) (ai off c)).append new) e false) fun a st=>kv (.slice (some a) (Nat.add len n) unk) st)))
    (@Bool.rec (fun _=>Res)
     (eQ st a fun b off c e' ex heap next=>af (and (Nat.ble (Nat.add cap 1) unk) (Nat.ble (Nat.add (Nat.add off (Nat.mul len size)) new.length) c.length))
      (kv (.slice (some a) (Nat.add len n) cap) ⟨aJ (path b) heap (.cells (putAt c (Nat.add off (Nat.mul len size)) new) e' ex),next⟩))
     (af (Nat.ble (Nat.add cap 1) unk) (kv (.slice (some a) len cap) st)) (Nat.beq n 0)) (Nat.ble (Nat.add len n) cap))
    (@Bool.rec (fun _=>Res)
     (af (Nat.ble (Nat.add len n) big) (eQ st a fun b off c _ _ _ _=>af (Nat.ble (Nat.add off (Nat.mul len size)) c.length)
      (l_ st (.cells ((takeC (Nat.mul len size) (ai off c)).append new) e false) fun a st=>kv (.slice (some a) (Nat.add len n) unk) st)))
     (af (Nat.ble (Nat.add cap 1) unk) (kv (.slice (some a) len cap) st)) (Nat.beq n 0)) (Nat.beq cap len))
   (eQ st a fun b off c e' ex heap next=>af (and (not ex) (and (Nat.beq e' e) (and (Nat.ble off c.length) (Nat.ble (Nat.add len n) big))))
    (@Bool.rec (fun _=>Res)
     (af (Nat.beq (Nat.add off (Nat.mul len size)) c.length)
      (l_ ⟨aJ (path b) heap .dead,next⟩ (.cells ((takeC (Nat.mul len size) (ai off c)).append new) e false) fun a st=>kv (.slice (some a) (Nat.add len n) unk) st))
     (af (Nat.ble (Nat.add off (Nat.mul len size)) c.length) (kv (.slice (some a) len cap) st)) (Nat.beq n 0)))
   (Nat.beq cap unk)
 |_=>slow
def Ey(sT xT:TypeId):Option (TypeId×Nat×Bool):=match bP P sT,bP P xT with
 |some (.slice e),some xt=>match(match xt with | .slice _=>some false | .string=>some true | _=>none),lu P e,kL P e with
  |some str,some ei,some z=>if ei.size=0 || big<ei.bytes || z.cells.size≠ei.size then none else some (e,ei.size,str)
  |_,_,_=>none
 |_,_=>none
def yM(o:Oper)(e:TypeId)(size:Nat)(str:Bool)(x y:Operand):OpT:=fun call s st kv kd=>
 s_tail str size st (rdF s y) fun n new=>af (new.all oneCell) (ui (a_ P o call s st kv kd) e size n new st (rdF s x) kv)
def yI(t:TypeId)(x v:Operand):OpT:=fun call s st kv kd=>match rdF s x with
 | .pointer (some a)=>eQ st a fun b off c e ex heap next=>@Bool.rec (fun _=>Res)
   (af (and (jP (rdF s v)) (Nat.ble (Nat.add off 1) c.length)) (kv undef ⟨aJ (path b) heap (.cells (putAt c off [rdF s v]) e false),next⟩))
   (wY P t x v call s st kv kd) ex
 |_=>none
def Fe(c a b:Operand):OpT:=fun _ s st kv _=>match rdF s c with
 | .bool t=>@Bool.rec (fun _=>Res) (kv (rdF s b) st) (kv (rdF s a) st) t
 |_=>none
def cvK(sT dT:TypeId):Nat:=match bP P sT,bP P dT with
 |some (.slice e),some .string=>match bP P e with
  |some (.int .u8)=>1
  |_=>0
 |some .string,some (.slice e)=>match bP P e,ji P e with
  |some (.int .u8),some 1=>2
  |_,_=>0
 |_,_=>0
def cvT(sT dT:TypeId):Option IntKind:=match bP P sT,bP P dT with
 |some (.int _),some (.int k)=>some k
 |_,_=>none
def IG(t:TypeId):TypeId:=match bP P t with
 |some (.slice e)=>e
 |_=>0
def NR(t:TypeId):Bool:=match ji P t with
 |some n=>Nat.beq n 1
 |none=>false
def isStr(t:TypeId):Bool:=match bP P t with
 |some .string=>true
 |_=>false
def Jl(t:TypeId):Option Value:=match bP P t with
 |some (.map kt e)=>match bP P kt with
  |some (.int _)=>kL P e
  |_=>none
 |_=>none
def JW(ik:IntKind)(i:Int)(f:Value->Res)(z:Res)(es:List MapEntry):Res:=
 @List.rec MapEntry (fun _=>Res) z (fun e _ ih=>match e.key with
  | .int k n=>af (decide (ik=k)) (@Bool.rec (fun _=>Res) ih (f e.val) (eqI i n))
  |_=>none) es
def PM(ok:Bool)(v:Value)(b:Bool):Value:=match ok with
 |true=> .tuple ⟨[v, .bool b]⟩
 |false=>v
def Ak(o:Oper)(z:Value)(x k:Operand)(ok:Bool):OpT:=fun call s st kv kd=>match rdF s x,rdF s k with
 | .map (some r), .int ik i=>match bg (path r) st.heap with
  |some (.map es _)=>JW ik i (fun v=>kv (PM ok v true) st) (kv (PM ok z false) st) es
  |_=>(gU P o).run call s st kv kd
 |_,_=>(gU P o).run call s st kv kd
def Ff(t:TypeId):Bool:=match bP P t with
 |some (.map kt _)=>isStr P kt
 |_=>false
def P5(es:List MapEntry)(k:ByteArray):Bool:=(Instr.findNow .string (.string k) es 0).isSome
def O_(es:List MapEntry)(clock:Nat)(k:ByteArray)(v:Value):List MapEntry×Nat:=match Instr.findNow .string (.string k) es 0 with
 |some (some (i,_))=>nU es clock i (.string k) v true
 |_=>nU es clock 0 (.string k) v false
def FU(o:Oper)(m k x:Operand):OpT:=fun call s st kv kd=>match rdF s m,rdF s k with
 | .map (some r), .string key=>match bg (path r) st.heap with
  |some (.map es clock)=>af (P5 es key) (kv undef ⟨aJ (path r) st.heap (.map (O_ es clock key (rdF s x)).1 (O_ es clock key (rdF s x)).2),st.next⟩)
  |_=>(gU P o).run call s st kv kd
 |_,_=>(gU P o).run call s st kv kd
def Du(o:Oper):OpFn:=match o.op with
 | .pick c a b=>⟨Fe c a b⟩
 | .lookup t x k ok=>match Jl P t with
  |some z=>⟨Ak P o z x k ok⟩
  |none=>gU P o
 | .mapUpdate t m k x=>match Ff P t with
  |true=>⟨FU P o m k x⟩
  |false=>gU P o
 | .load t x=>match nN P t with
  |some none=>match oM P t with
   |some e=>⟨Bh e x⟩
   |none=>gU P o
  |some (some n)=>match UK P 6 t with
   |some es=>match Nat.beq es.length n with
    |true=>⟨AC es n x⟩
    |false=>gU P o
   |none=>gU P o
  |none=>gU P o
 | .fieldAddr t x i=>match y9 P t i with
  |some n=>⟨qM n x⟩
  |none=>gU P o
 | .store t x v=>match NR P t with
  |true=>⟨yI P t x v⟩
  |false=>gU P o
 | .index t x ix=>match isStr P t with
  |true=>⟨A_ x ix⟩
  |false=>gU P o
 | .indexAddr t x ix=>match jv P t with
  |some n=>⟨qB n x ix⟩
  |none=>match Oh P t with
   |some q=>⟨tZ q.1 q.2 x ix⟩
   |none=>gU P o
 | .slice t x lo hi none=>match isStr P t with
  |true=>⟨x_ x lo hi⟩
  |false=>match jv P t with
   |some n=>⟨AA P o n x lo hi⟩
   |none=>gU P o
 | .convert sT dT x=>match cvK P sT dT with
  |1=>⟨sZ P o x⟩
  |2=>⟨vO (IG P dT) x⟩
  |_=>match cvT P sT dT with
   |some k=>⟨IR P o k x⟩
   |none=>⟨a_ P o⟩
 | .binOp op t x y _=>match op with
  | .shl=>⟨Kw P o x y⟩
  | .shr=>⟨I_ P o x y⟩
  | .quo=>⟨JI P o x y⟩
  | .rem=>⟨J9 P o x y⟩
  | .add=>⟨Jf P o x y⟩
  | .sub=>⟨ql P o yL x y⟩
  | .mul=>⟨ql P o TC x y⟩
  | .and=>⟨ql P o pO x y⟩
  | .or=>⟨ql P o orI x y⟩
  | .xor=>⟨ql P o OZ x y⟩
  | .andNot=>⟨ql P o RG x y⟩
  | .eql=>⟨IM P o (oV P t) (eqK P t) x y⟩
  | .neq=>⟨J7 P o (oV P t) (eqK P t) x y⟩
  | .lss=>⟨wS P o ltI ltS true x y⟩
  | .leq=>⟨wS P o leI leS true x y⟩
  | .gtr=>⟨wS P o gtI gtS true x y⟩
  | .geq=>⟨wS P o geI geS true x y⟩
 | .unOp .not _ x=>⟨JV P o x⟩
 | .unOp .xor _ x=>⟨Ko P o x⟩
 | .call c=>match c.callee,c.args.toList,c.argTypes.toList with
  | .builtin .append,[x,y],[tx,ty]=>match Ey P tx ty with
   |some r=>⟨yM P o r.1 r.2.1 r.2.2 x y⟩
   |none=>gU P o
  | .builtin .len,[x],_=>match pz P c.argTypes with
   |1=>⟨FI P o x⟩
   |2=>⟨FH P o x⟩
   |_=>⟨a_ P o⟩
  | .builtin .cap,[x],_=>match pz P c.argTypes with
   |1=>⟨Fv P o x⟩
   |_=>⟨a_ P o⟩
  | .builtin .min,[x,y],_=>⟨zh P o ltI x y⟩
  | .builtin .max,[x,y],_=>⟨zh P o gtI x y⟩
  |_,_,_=>gU P o
 |_=>gU P o
end
section
variable{P:Program}
variable{call:Knot}{s:Trie Value}{st:St}{kv:Value->St->Res}{kd:Deferred->St->Res}{r:Value×St}
theorem byte_at(b:ByteArray)(n:Nat)(h:n<b.size):b[n]? = some (b.data.toList.getD n 0):=by
 have h1:b[n]? = some b[n]:=by simp[h]
 rw[h1];congr 1;have h2:n<b.data.toList.length:=by simpa using h
 rw[List.getD_eq_getElem?_getD,List.getElem?_eq_getElem h2]
 rfl
theorem FC{dst type pos after guard}{t:TypeId}{x ix:Operand}(hu:P.underlying t=some .string)(h:A_ x ix call s st kv kd=some r) :
  Hands call kv kd (ag P (rdF s) ⟨dst, .index t x ix,type,pos,after,guard⟩ st) r:=by
 unfold A_ at h;split at h
 ·rename_i b hx;split at h
  ·rename_i k i hi;obtain⟨hc,h⟩:=az h;simp only[inI,d_,decide_eq_true_eq]at hc;have hlt:i.toNat<b.size:=by omega
   simp only[ag,hu,hx,hi,hc.1,if_true,byte_at b _ hlt];exact h
  ·cases h
 ·cases h
theorem yG{dst type pos after guard}{t:TypeId}{x ix:Operand}{n:Nat}(hn:jv P t=some n)(h:qB n x ix call s st kv kd=some r) :
  Hands call kv kd (ag P (rdF s) ⟨dst, .indexAddr t x ix,type,pos,after,guard⟩ st) r:=by
 unfold jv at hn;rw[aY]at hn;split at hn
 ·rename_i e hu;rw[kE]at hn;unfold qB at h;split at h
  ·rename_i a len cap hx;split at h
   ·rename_i k i hi;obtain⟨hc,h⟩:=az h;simp only[inI,d_,decide_eq_true_eq]at hc;simp only[ag,hu,hx,hi,hn,hc,and_self,if_true];rw[Bi]at h;exact h
   ·cases h
  ·rename_i tt v hx;split at h
   ·rename_i z hz;split at h
    ·rename_i k i hi;obtain⟨hc,h⟩:=az h;simp only[inI,d_,Bool.and_eq_true,decide_eq_true_eq]at hc;have h1:=Nat.eq_of_beq_eq_true hc.1;simp only[ag,hu,hx,hi,hn,hz,h1,hc.2,and_self,if_true];exact h
    ·cases h
   ·cases h
  ·cases h
 ·cases hn
theorem TA{e:Eta}{v:Value}(h:dm e v=true):∀ (hz:∀ n,e = .slice n->∃ z,gJ v=some z),yc e v=v\/∃ n,e = .slice n:=by
 intro _;cases e with
 |int k=>
  simp only[dm,isI]at h;split at h
  ·simp only[decide_eq_true_eq]at h; subst h; exact Or.inl rfl
  ·cases h
 |string=>
  simp only[dm,isS]at h;split at h
  ·exact Or.inl rfl
  ·cases h
 |bool=>
  simp only[dm,isB]at h;split at h
  ·exact Or.inl rfl
  ·cases h
 |slice n=>exact Or.inr ⟨n,rfl⟩
theorem Nh{v:Value}{z:FzV}(h:gJ v=some z):v=au z.sz z.n z.cap z.cells:=by
 unfold gJ at h;split at h
 ·rename_i t n b c;split at h
  ·rename_i ht;have ht:FZ+1<=t:=Nat.le_of_ble_eq_true ht;obtain rfl:=Option.some.inj h;unfold au;have:FZ+(t-FZ)=t:=Nat.add_sub_cancel' (Nat.le_of_succ_le ht);rw[this]
  ·cases h
 ·cases h
theorem xZ{e:Eta}{v:Value}(h:dm e v=true):yc e v=v:=by
 cases e with
 |slice n=>
  simp only[dm,isZ]at h;split at h
  ·rename_i z hz;have:=Nat.eq_of_beq_eq_true h;simp only[yc,zN,zB,zC,hz];rw[<-this];exact(Nh hz).symm
  ·cases h
 |_=>
  rcases TA h (fun n e=>by cases e)with h | ⟨n,e⟩
  ·exact h
  ·cases e
theorem xX{c:List Value}{n:Nat}(h:n+1<=c.length):c[n]? = some (aj c n):=by
 unfold aj;rw[List.getD_eq_getElem?_getD,List.getElem?_eq_getElem h]
 rfl
theorem OJ{c:List Value}{n:Nat}{v:Value}(h:c[n]? = some v):(c.drop n).take 1=[v]:=by
 have:=(List.getElem?_eq_some_iff.1 h)
 obtain⟨hl,e⟩:=this;rw[List.drop_eq_getElem_cons hl,e]
 rfl
theorem Ea{dst type pos after guard}{t:TypeId}{x:Operand}{e:Eta}(hk:nN P t=some none)(h:Bh e x call s st kv kd=some r) :
  Hands call kv kd (ag P (rdF s) ⟨dst, .load t x,type,pos,after,guard⟩ st) r:=by
 unfold nN at hk;rw[aY,iG,qi]at hk;split at hk
 ·rename_i d i hu hi;have hag:gu P t=false:=by
   cases hb:gu P t with
   |false=>rfl
   |true=>rw[hb]at hk; cases hk
  unfold Bh at h;split at h
  ·rename_i a hx;obtain⟨c,e',ex,h1,h2,h3⟩:=eU h;have go:∀ v,c[a.off]? = some v->kv v st=some r->Hands call kv kd (ag P (rdF s) ⟨dst, .load t x,type,pos,after,guard⟩ st) r:=by
    intro v hv hk;have hl:a.off+1<=c.length:=(List.getElem?_eq_some_iff.1 hv).1;have:lq P st t a=some v:=by
     simp only[lq,hu,hi,hag,Bool.false_eq_true,if_false,cellsAt,h1,h2,Option.isSome_none,hl,if_true,OJ hv]
    simp only[ag,hx,this];exact hk
   cases ex with
   |false=>
    obtain⟨hc,h3⟩:=az h3;simp only[Bool.and_eq_true]at hc;rw[xZ hc.2]at h3;exact go _ (xX (Nat.le_of_ble_eq_true hc.1)) h3
   |true=>
    simp only at h3;rw[oQ]at h3;split at h3
    ·rename_i v hv;exact go v hv h3
    ·cases h3
  ·rename_i tt v hx;split at h
   ·rename_i off c hfp;obtain⟨hc,h⟩:=az h;simp only[Bool.and_eq_true]at hc;rw[xZ hc.2]at h;simp only[ag,hx,hfp,wO,hu,hi,hag,Bool.false_eq_true,if_false,xX (Nat.le_of_ble_eq_true hc.1)];exact h
   ·cases h
  ·cases h
 ·cases hk
theorem z_{i:Int}{k:Nat->Res}:∀ {len j:Nat},Jn i k len j=some r->∃ m,j<=m/\m<j+len/\i=(m:Int)/\k m=some r
 |0,j,h=>by cases h
 |len+1,j,h=>by
  have h:@Bool.rec (fun _=>Res) (Jn i k len (Nat.succ j)) (k j) (eqI i (Int.ofNat j))=some r:=h;cases hb:eqI i (Int.ofNat j)with
  |true=>
   rw[hb]at h;have:i=(j:Int):=by simpa [eqI]using hb
   exact⟨j,Nat.le_refl _,by omega,this,h⟩
  |false=>
   rw[hb]at h;obtain⟨m,h1,h2,h3,h4⟩:=z_ h;exact⟨m,by omega,by omega,h3,h4⟩
theorem yU{dst type pos after guard}{t:TypeId}{x ix:Operand}{q:Nat×Nat}(hk:Oh P t=some q)(h:tZ q.1 q.2 x ix call s st kv kd=some r) :
  Hands call kv kd (ag P (rdF s) ⟨dst, .indexAddr t x ix,type,pos,after,guard⟩ st) r:=by
 unfold Oh at hk;rw[aY]at hk;split at hk
 ·rename_i len e hu;split at hk
  ·rename_i n hb hn;obtain rfl:=Option.some.inj hk;rw[kE]at hn;unfold tZ at h;split at h
   ·rename_i a hx;split at h
    ·rename_i kk i hi;obtain⟨m,h1,h2,rfl,h4⟩:=z_ h;rw[Bi]at h4;have hc:0<=(m:Int)/\(m:Int)<(len:Int):=by simp only[Nat.zero_add]at h2; omega
     simp only[ag,hu,hx,hi,hn,hc,and_self,if_true,Int.toNat_natCast];exact h4
    ·cases h
   ·cases h
  ·cases hk
 ·cases hk
theorem uU:∀ {es:List Eta} {c:List Value} {off:Nat},wX es c off=true->off+es.length<=c.length->zL es c off=(c.drop off).take es.length
 |[],c,off,_,_=>by simp[zL]
 |e::es,c,off,h,hl=>by
  have h:(dm e (aj c off)&&wX es c (off+1))=true:=h;simp only[Bool.and_eq_true]at h;rw[List.length_cons]at hl ⊢;show yc e (aj c off)::zL es c (off+1)=_;rw[xZ h.1,uU h.2 (by omega)];have hn:=xX (c:=c) (n:=off) (by omega);obtain⟨hlt,hv⟩:=List.getElem?_eq_some_iff.1 hn;rw[List.drop_eq_getElem_cons hlt,hv,List.take_succ_cons]
theorem EH{dst type pos after guard}{t:TypeId}{x:Operand}{es:List Eta}{n:Nat}(hk:nN P t=some (some n))(hes:Nat.beq es.length n=true)(h:AC es n x call s st kv kd=some r) :
  Hands call kv kd (ag P (rdF s) ⟨dst, .load t x,type,pos,after,guard⟩ st) r:=by
 have hes:=Nat.eq_of_beq_eq_true hes;unfold nN at hk;rw[aY,iG,qi]at hk;split at hk
 ·rename_i d i hu hi;have hag:gu P t=true/\i.size=n:=by
   cases hb:gu P t with
   |false=>rw[hb]at hk; cases hk
   |true=>rw[hb]at hk; exact⟨rfl,by simpa using hk⟩
  obtain⟨hag,hn⟩:=hag;unfold AC at h;split at h
  ·rename_i a hx;obtain⟨c,e',ex,h1,h2,h3⟩:=eU h;have go:a.off+n<=c.length->kv (.agg ⟨(c.drop a.off).take n⟩) st=some r->Hands call kv kd (ag P (rdF s) ⟨dst, .load t x,type,pos,after,guard⟩ st) r:=by
    intro hl hk;have:lq P st t a=some (.agg ⟨(c.drop a.off).take n⟩):=by
     simp only[lq,hu,hi,hag,if_true,cellsAt,h1,h2,Option.isSome_none,Bool.false_eq_true,if_false,hn,hl,Option.map_some]
    simp only[ag,hx,this];exact hk
   cases ex with
   |false=>
    obtain⟨hc,h3⟩:=az h3;simp only[Bool.and_eq_true]at hc;have hl:a.off+n<=c.length:=Nat.le_of_ble_eq_true hc.1;rw[uU hc.2 (by omega),hes]at h3;exact go hl h3
   |true=>
    simp only at h3;cases hb:Nat.ble (Nat.add a.off n) c.length with
    |false=>rw[hb]at h3; cases h3
    |true=>rw[hb]at h3; exact go (Nat.le_of_ble_eq_true hb) h3
  ·rename_i tt v hx;split at h
   ·rename_i off c hfp;obtain⟨hc,h⟩:=az h;simp only[Bool.and_eq_true]at hc;have hl:off+n<=c.length:=Nat.le_of_ble_eq_true hc.1;rw[uU hc.2 (by omega),hes]at h;simp only[ag,hx,hfp,wO,hu,hi,hag,if_true,hn,hl];exact h
   ·cases h
  ·cases h
 ·cases hk
theorem yK{dst type pos after guard}{t:TypeId}{x:Operand}{i n:Nat}(hn:y9 P t i=some n)(h:qM n x call s st kv kd=some r) :
  Hands call kv kd (ag P (rdF s) ⟨dst, .fieldAddr t x i,type,pos,after,guard⟩ st) r:=by
 unfold y9 at hn;rw[p_]at hn;split at hn
 ·rename_i f m hf;split at hn
  ·cases hn
  ·rename_i hm;obtain rfl:=Option.some.inj hn;unfold qM at h;split at h
   ·rename_i a hx;simp only[ag,hx,hf];rw[if_neg hm,<-FO];exact h
   ·rename_i tt v hx;split at h
    ·rename_i a c hfp;simp only[ag,hx,hf,hfp];rw[if_neg hm];exact h
    ·cases h
   ·cases h
 ·cases hn
theorem CU{o:Option Operand}{d:Int}{k:Int->Res}(h:qJ s o d k=some r):(o=none/\k d=some r)\/∃ x kk i,o=some x/\rdF s x = .int kk i/\k i=some r:=by
 unfold qJ at h;split at h
 ·exact Or.inl ⟨rfl,h⟩
 ·split at h
  ·exact Or.inr ⟨_,_,_,rfl,‹_›,h⟩
  ·cases h
theorem mZ{o:Option Operand}{y d:Nat}{i:Int}(h:(o=none/\i=d)\/∃ x kk,o=some x/\rdF s x = .int kk i)(h1:0<=i)(h2:i<=y):ay (o.map (rdF s)) y d=some i.toNat:=by
 rcases h with⟨rfl,rfl⟩ | ⟨x,kk,rfl,hx⟩
 ·simp[ay]
 ·simp only[Option.map_some,ay,hx,iF,h1,h2,and_self,if_true]
theorem yE{lo hi:Option Operand}{dh:Nat}{k:Int->Int->Res}(h:(qJ s hi dh fun h=>qJ s lo 0 fun l=>k h l)=some r) :
  ∃ h l:Int,((hi=none/\h=dh)\/∃ x kk,hi=some x/\rdF s x = .int kk h)/\((lo=none/\l=(0:Nat))\/∃ x kk,lo=some x/\rdF s x = .int kk l)/\k h l=some r:=by
 rcases CU h with⟨e,h⟩ | ⟨x,kk,i,e,hx,h⟩<;>rcases CU h with⟨e',h⟩ | ⟨x',kk',i',e',hx',h⟩
 ·exact⟨_,_,Or.inl ⟨e,rfl⟩,Or.inl ⟨e',rfl⟩,h⟩
 ·exact⟨_,_,Or.inl ⟨e,rfl⟩,Or.inr ⟨x',kk',e',hx'⟩,h⟩
 ·exact⟨_,_,Or.inr ⟨x,kk,e,hx⟩,Or.inl ⟨e',rfl⟩,h⟩
 ·exact⟨_,_,Or.inr ⟨x,kk,e,hx⟩,Or.inr ⟨x',kk',e',hx'⟩,h⟩
theorem uz{dst type pos after guard}{t:TypeId}{x:Operand}{lo hi:Option Operand}(hu:P.underlying t=some .string)
  (h:x_ x lo hi call s st kv kd=some r):Hands call kv kd (ag P (rdF s) ⟨dst, .slice t x lo hi none,type,pos,after,guard⟩ st) r:=by
 unfold x_ at h;split at h
 ·rename_i b hx;obtain⟨h0,l0,hh,hl,h⟩:=yE h;obtain⟨hc,h⟩:=az h;simp only[inI,d_,decide_eq_true_eq]at hc;have e1:=mZ hh (y:=b.size) (by omega) (by omega);have e2:=mZ hl (y:=h0.toNat) (by omega) (by omega);simp only[ag,hu,hx,Option.map_none,Option.isSome_none,Bool.false_eq_true,if_false,e1,e2];exact h
 ·cases h
theorem EQ{dst type pos after guard}{t:TypeId}{x:Operand}{lo hi:Option Operand}{n:Nat}(hn:jv P t=some n)
  (h:AA P ⟨dst, .slice t x lo hi none,type,pos,after,guard⟩ n x lo hi call s st kv kd=some r):Hands call kv kd (ag P (rdF s) ⟨dst, .slice t x lo hi none,type,pos,after,guard⟩ st) r:=by
 unfold jv at hn;rw[aY]at hn;split at hn
 ·rename_i e hu;rw[kE]at hn;unfold AA at h;split at h
  ·rename_i tt v hx;split at h
   ·rename_i z hz;obtain⟨h0,l0,hh,hl,h⟩:=yE h;obtain⟨hc,h⟩:=az h;simp only[inI,d_,Bool.and_eq_true,decide_eq_true_eq]at hc;have h1:=Nat.eq_of_beq_eq_true hc.1;have e1:=mZ hh (y:=z.n) (by omega) (by omega);have e2:=mZ hl (y:=h0.toNat) (by omega) (by omega);simp only[ag,hu,hx,hz,hn,h1,if_true,uJ,Option.map_none,e1,e2];unfold oh at h;exact h
   ·cases h
  ·rename_i a len cap hx;cases hb:Nat.beq cap unk with
   |false=>rw[hb]at h; exact aA h
   |true=>
    rw[hb]at h;have hcap:=Nat.eq_of_beq_eq_true hb;obtain⟨c,e',ex,h1,h2,h3⟩:=eU h;obtain⟨hc,h3⟩:=az h3;simp only[Bool.and_eq_true]at hc;obtain⟨hc1,hc2,hc3⟩:=hc;have hc1:=Nat.le_of_ble_eq_true hc1;have hc2:=Nat.le_of_ble_eq_true hc2;have hc3:=Nat.eq_of_beq_eq_true hc3;obtain⟨h0,l0,hh,hl,h3⟩:=yE h3;obtain⟨hd,h3⟩:=az h3;simp only[d_,decide_eq_true_eq]at hd;have hd:0<=l0/\l0<=h0/\h0<=(((c.length-a.off) / n:Nat):Int):=hd;change @Bool.rec (fun _=>Res) (@Bool.rec (fun _=>Res) (kv (.slice (some a) 0 (unk+l0.toNat)) st) (kv (.slice (some a) 0 unk) st) (Nat.beq l0.toNat 0)) (kv (.slice (some (FQ a (l0.toNat*n))) (h0.toNat-l0.toNat) unk) st) (Nat.ble (l0.toNat+1) ((c.length-a.off) / n))=some r at h3;have hroom:room P st a n=some ((c.length-a.off) / n):=by
     unfold room;rw[h2];simp only;rw[if_neg (by simp; omega),if_pos hc1]
    have e1:=mZ hh (y:=(c.length-a.off) / n) (by omega) (by omega);have e2:=mZ hl (y:=h0.toNat) (by omega) (by omega);have hs:o7 P st n a len cap (lo.map (rdF s)) (hi.map (rdF s)) none=some (if l0.toNat<(c.length-a.off) / n then .slice (some (a.add (l0.toNat*n))) (h0.toNat-l0.toNat) unk else if l0.toNat=0 then .slice (some a) 0 unk else .slice (some a) 0 (unk+l0.toNat)):=by
     unfold o7;rw[if_neg (by omega),if_pos hcap,hroom];simp only[e1,e2];split
     ·rfl
     ·rename_i hlt;rw[if_neg (by simp; omega)];split<;>rfl
    simp only[ag,hu,hx,hn,Option.map_none,hs];cases hb1:Nat.ble (l0.toNat+1) ((c.length-a.off) / n)with
    |true=>
     rw[hb1]at h3;rw[if_pos (show l0.toNat<(c.length-a.off) / n from Nat.le_of_ble_eq_true hb1)];rw[Bi]at h3;exact h3
    |false=>
     rw[hb1]at h3;have hnl:¬l0.toNat<(c.length-a.off) / n:=fun k=>by rw[Nat.ble_eq_true_of_le k]at hb1; cases hb1
     rw[if_neg hnl];cases hb2:Nat.beq l0.toNat 0 with
     |true=>rw[hb2]at h3; rw[if_pos (Nat.eq_of_beq_eq_true hb2)]; exact h3
     |false=>rw[hb2]at h3; rw[if_neg (Nat.ne_of_beq_eq_false hb2)]; exact h3
  ·exact aA h
 ·cases hn
theorem zk{dst type pos after guard}{sT dT:TypeId}{x:Operand}(hk:cvK P sT dT=1)(h:sZ P ⟨dst, .convert sT dT x,type,pos,after,guard⟩ x call s st kv kd=some r) :
  Hands call kv kd (ag P (rdF s) ⟨dst, .convert sT dT x,type,pos,after,guard⟩ st) r:=by
 unfold cvK at hk;rw[aY,aY]at hk;split at hk
 ·rename_i e hs hd;rw[aY]at hk;split at hk
  ·rename_i he;unfold sZ at h;split at h
   ·rename_i a n cap hx;obtain⟨c,e',ex,h1,h2,h3⟩:=eU h;obtain⟨hc,h3⟩:=az h3;simp only[Bool.and_eq_true]at hc;have hle:a.off+n<=c.length:=Nat.le_of_ble_eq_true hc.1;simp only[ag,hs,hd,hx,he,cellsAt,h1,h2,Option.isSome_none,Bool.false_eq_true,if_false,hle,if_true];have hb:bytesOf ((c.drop a.off).take n)=some (((c.drop a.off).take n).map byteOf):=qN hc.2;rw[hb];exact h3
   ·rename_i tt v hx;split at h
    ·rename_i z hz;obtain⟨hc,h⟩:=az h;simp only[Bool.and_eq_true]at hc;have h1:=Nat.eq_of_beq_eq_true hc.1;simp only[ag,hs,hd,hx,he,hz,h1,if_true,qN hc.2];exact h
    ·cases h
   ·exact aA h
  ·cases hk
 ·split at hk<;>cases hk
 ·cases hk
theorem Bo{dst type pos after guard}{sT dT:TypeId}{x:Operand}(hk:cvK P sT dT=2)(h:vO (IG P dT) x call s st kv kd=some r) :
  Hands call kv kd (ag P (rdF s) ⟨dst, .convert sT dT x,type,pos,after,guard⟩ st) r:=by
 unfold cvK at hk;unfold IG at h;rw[aY,aY]at hk;split at hk
 ·split at hk<;>cases hk
 ·rename_i e hs hd;rw[aY,kE]at hk;split at hk
  ·rename_i he hn;rw[aY,hd]at h;simp only at h;unfold vO at h;split at h
   ·rename_i b hx;obtain⟨hc,h⟩:=az h;have hc:=Nat.le_of_ble_eq_true hc;have h:=kw h;have h1:esz P e=1:=by
     unfold dX at hn;unfold esz;rw[hn]; rfl
    simp only[ag,hs,hd,hx,he,h1,newRow];rw[if_neg (by simp; omega)];exact h
   ·cases h
  ·cases hk
 ·cases hk
theorem gI{dst type pos after guard}{op:BinOp}{t yt:TypeId}{x y:Operand}{vx vy v:Value}(hx:rdF s x=vx)(hy:rdF s y=vy)(f1:flat vx=true)(f2:flat vy=true)(f3:flat v=true)
  (hp:aH P (do eqGuard op t x y vx vy; binOp op t vx vy)=some v) (h:kv v st=some r):Hands call kv kd (ag P (rdF s) ⟨dst, .binOp op t x y yt,type,pos,after,guard⟩ st) r:=by
 simp only[ag,hx,hy,f1,f2,Bool.and_self,if_true,hp,f3];exact h
theorem I9{dst type pos after guard}{t yt:TypeId}{x y:Operand}(h:Kw P ⟨dst, .binOp .shl t x y yt,type,pos,after,guard⟩ x y call s st kv kd=some r) :
  Hands call kv kd (ag P (rdF s) ⟨dst, .binOp .shl t x y yt,type,pos,after,guard⟩ st) r:=by
 unfold Kw at h;split at h
 ·rename_i k a k' b hx hy;obtain⟨hc,h⟩:=az h;simp only[J6,decide_eq_true_eq]at hc;have hb:¬b<0:=by omega
  refine gI hx hy rfl rfl rfl ?_ h;simp only[binOp,Op.shift,if_neg hb]
  rfl
 ·exact aA h
theorem JS{dst type pos after guard}{t yt:TypeId}{x y:Operand}(h:I_ P ⟨dst, .binOp .shr t x y yt,type,pos,after,guard⟩ x y call s st kv kd=some r) :
  Hands call kv kd (ag P (rdF s) ⟨dst, .binOp .shr t x y yt,type,pos,after,guard⟩ st) r:=by
 unfold I_ at h;split at h
 ·rename_i k a k' b hx hy;obtain⟨hc,h⟩:=az h;simp only[J6,decide_eq_true_eq]at hc;have hb:¬b<0:=by omega
  refine gI hx hy rfl rfl rfl ?_ h;simp only[binOp,Op.shift,if_neg hb]
  rfl
 ·exact aA h
theorem JF{dst type pos after guard}{t yt:TypeId}{x y:Operand}(h:JI P ⟨dst, .binOp .quo t x y yt,type,pos,after,guard⟩ x y call s st kv kd=some r) :
  Hands call kv kd (ag P (rdF s) ⟨dst, .binOp .quo t x y yt,type,pos,after,guard⟩ st) r:=by
 unfold JI at h;split at h
 ·rename_i k a k' b hx hy;obtain⟨hc,h'⟩:=az h;simp only[Dx,Bool.and_eq_true,decide_eq_true_eq,Bool.not_eq_true',decide_eq_false_iff_not]at hc;obtain⟨rfl,hb⟩:=hc;refine gI hx hy rfl rfl rfl ?_ h';simp only[binOp,Op.intDiv,if_neg hb,ne_eq,not_true_eq_false,if_false]
  rfl
 ·exact aA h
theorem I7{dst type pos after guard}{t yt:TypeId}{x y:Operand}(h:J9 P ⟨dst, .binOp .rem t x y yt,type,pos,after,guard⟩ x y call s st kv kd=some r) :
  Hands call kv kd (ag P (rdF s) ⟨dst, .binOp .rem t x y yt,type,pos,after,guard⟩ st) r:=by
 unfold J9 at h;split at h
 ·rename_i k a k' b hx hy;obtain⟨hc,h'⟩:=az h;simp only[Dx,Bool.and_eq_true,decide_eq_true_eq,Bool.not_eq_true',decide_eq_false_iff_not]at hc;obtain⟨rfl,hb⟩:=hc;refine gI hx hy rfl rfl rfl ?_ h';simp only[binOp,Op.intDiv,if_neg hb,ne_eq,not_true_eq_false,if_false]
  rfl
 ·exact aA h
theorem IL{dst type pos after guard}{t yt:TypeId}{x y:Operand}(h:Jf P ⟨dst, .binOp .add t x y yt,type,pos,after,guard⟩ x y call s st kv kd=some r) :
  Hands call kv kd (ag P (rdF s) ⟨dst, .binOp .add t x y yt,type,pos,after,guard⟩ st) r:=by
 unfold Jf at h;split at h
 ·rename_i a b hx hy;obtain⟨hc,h⟩:=az h;have hc:a.size+b.size<=9223372036854775807:=Nat.le_of_ble_eq_true hc;refine gI hx hy rfl rfl rfl ?_ h;simp only[binOp,Op.stringOp];rw[if_neg (by
   have:IntKind.i64.max=9223372036854775807:=by decide
   rw[this]; omega)]
  rfl
 ·rename_i k a k' b hx hy;obtain⟨hc,h'⟩:=az h;simp only[decide_eq_true_eq]at hc;subst hc;refine gI hx hy rfl rfl rfl ?_ h';simp only[binOp,Op.intArith,ne_eq,not_true_eq_false,if_false]
  rfl
 ·exact aA h
theorem kR{dst type pos after guard}{op:BinOp}{t yt:TypeId}{x y:Operand}{f:IntKind->Int->Int->Int}(hf:∀ k a b,aH P (do eqGuard op t x y (.int k a) (.int k b); binOp op t (.int k a) (.int k b))=some (.int k (f k a b)))
  (h:ql P ⟨dst, .binOp op t x y yt,type,pos,after,guard⟩ f x y call s st kv kd=some r):Hands call kv kd (ag P (rdF s) ⟨dst, .binOp op t x y yt,type,pos,after,guard⟩ st) r:=by
 unfold ql at h;split at h
 ·rename_i k a k' b hx hy;obtain⟨hc,h'⟩:=az h;simp only[decide_eq_true_eq]at hc;subst hc;exact gI hx hy rfl rfl rfl (hf _ _ _) h'
 ·exact aA h
theorem oI{dst type pos after guard}{op:BinOp}{t yt:TypeId}{x y:Operand}{f:Int->Int->Bool}{g:ByteArray->ByteArray->Bool}{str:Bool}
  (hf:∀ k a b,aH P (do eqGuard op t x y (.int k a) (.int k b); binOp op t (.int k a) (.int k b))=some (.bool (f a b)))
  (hg:str=true->∀ a b,aH P (do eqGuard op t x y (.string a) (.string b); binOp op t (.string a) (.string b))=some (.bool (g a b)))
  (h:wS P ⟨dst, .binOp op t x y yt,type,pos,after,guard⟩ f g str x y call s st kv kd=some r):Hands call kv kd (ag P (rdF s) ⟨dst, .binOp op t x y yt,type,pos,after,guard⟩ st) r:=by
 unfold wS at h;split at h
 ·rename_i k a k' b hx hy;obtain⟨hc,h'⟩:=az h;simp only[decide_eq_true_eq]at hc;subst hc;exact gI hx hy rfl rfl rfl (hf _ _ _) h'
 ·rename_i a b hx hy;cases str with
  |true=>exact gI hx hy rfl rfl rfl (hg rfl _ _) h
  |false=>exact aA h
 ·exact aA h
theorem aW{J S:Type}:∀ (s:Sem J) (f:J->Sem S),aH P (s >>= f)=(aH P s).bind fun a=>aH P (f a)
 | .pure a,f=>rfl
 | .program k,f=>aW (k P) f
 | .mark m k,f=>aW k f
 | .load ..,_=>rfl
 | .store ..,_=>rfl
 | .new ..,_=>rfl
 | .shape ..,_=>rfl
 | .freeze ..,_=>rfl
 | .frozen ..,_=>rfl
 | .getObj ..,_=>rfl
 | .setObj ..,_=>rfl
 | .choose ..,_=>rfl
 | .sys ..,_=>rfl
 | .halt ..,_=>rfl
theorem mF:aH P program=some P:=rfl
theorem dE{t:TypeId}{d:TypeDesc}(h:P.underlying t=some d):aH P (underlying t)=some d:=by
 unfold underlying;rw[aW,mF];simp only[Option.bind_some,h]
 rfl
theorem vX{t:TypeId}{e:Eta}(h:oM P t=some e){xs:List Value}{i:Nat}{x:Value}(hx:xs[i]? = some x):aH P (part t ⟨xs⟩ i)=some x:=by
 unfold oM at h;simp only[aY]at h;have hd:∃ d,P.underlying t=some d/\(∀ fs,d≠ .struct fs)/\∀ n e,d≠ .array n e:=by
  split at h
  ·rename_i k hu; exact⟨_,hu,fun _ h=>(by cases h),fun _ _ h=>(by cases h)⟩
  ·rename_i hu; exact⟨_,hu,fun _ h=>(by cases h),fun _ _ h=>(by cases h)⟩
  ·rename_i hu; exact⟨_,hu,fun _ h=>(by cases h),fun _ _ h=>(by cases h)⟩
  ·rename_i e hu; exact⟨_,hu,fun _ h=>(by cases h),fun _ _ h=>(by cases h)⟩
  ·cases h
 obtain⟨d,hu,h1,h2⟩:=hd;have hagg:aH P (isAgg t)=some false:=by
  unfold isAgg;rw[aW,dE hu];simp only[Option.bind_some];cases d<;>first
   |rfl
   |exact absurd rfl (h1 _)
   |exact absurd rfl (h2 _ _)
 unfold part;rw[aW,hagg];have hx':(⟨xs⟩:Array Value)[i]? = some x:=by simpa using hx
 simp only[Option.bind_some,Bool.false_eq_true,if_false,hx']
 rfl
theorem Oy{e:Eta}{x y:Value}{k:Bool->Res}{f:Field}{d:Nat}(hf:oM P f.type=some e)(h:eqE e x y k=some r):∃ b,aH P (Op.equalIn (d+1) f.type x y)=some b/\k b=some r:=by
 unfold oM at hf;simp only[aY]at hf;unfold eqE at h;split at hf
 ·rename_i kd hu;obtain rfl:=Option.some.inj hf;simp only at h;split at h
  ·rename_i a m b n;obtain⟨hc,h'⟩:=az h;simp only[decide_eq_true_eq]at hc;subst hc;refine⟨_,?_,h'⟩;simp only[Op.equalIn,aW,dE hu,Option.bind_some,if_true]
   rfl
  ·cases h
 ·rename_i hu;obtain rfl:=Option.some.inj hf;simp only at h;split at h
  ·rename_i a b;refine⟨_,?_,h⟩;simp only[Op.equalIn,aW,dE hu,Option.bind_some];rw[show eqS a b=(a == b) from(beq_toListBytes a b).symm]
   rfl
  ·cases h
 ·rename_i hu;obtain rfl:=Option.some.inj hf;simp only at h;split at h
  ·rename_i a b;refine⟨_,?_,h⟩;simp only[Op.equalIn,aW,dE hu,Option.bind_some]
   rfl
  ·cases h
 ·split at hf
  ·obtain rfl:=Option.some.inj hf;cases h
  ·cases hf
 ·cases hf
theorem D7{d:Nat}:∀ {fs:List Field} {i:Nat} {es:List Eta},zi P fs i=some es->∀ {xs ys:List Value} {k:Bool->Res} {r},eqC es (xs.drop i) (ys.drop i) k=some r->∃ b,aH P (Op.eqFields (d+1) ⟨xs⟩ ⟨ys⟩ fs)=some b/\k b=some r
 |[],i,es,h,xs,ys,k,r,hk=>by
  obtain rfl:=Option.some.inj (h:some []=some es);exact⟨true,rfl,hk⟩
 |f::fs,i,es,h,xs,ys,k,r,hk=>by
  change (match and (Nat.beq f.offset i) (f.name != "_"),oM P f.type,zi P fs (i+1)with
   |true,some (.slice _),_=>none
   |true,some e,some es=>some (e::es)
   |_,_,_=>none)=some es at h
  cases hb:and (Nat.beq f.offset i) (f.name != "_")with
  |false=>rw[hb]at h; cases h
  |true=>
  cases he:oM P f.type with
  |none=>rw[hb,he]at h; cases h
  |some e=>
  cases hes:zi P fs (i+1)with
  |none=>rw[hb,he,hes]at h; cases e<;>cases h
  |some es'=>
   rw[hb,he,hes]at h;have h:e::es'=es:=by cases e<;>first | exact Option.some.inj h | cases h
   subst h;simp only[Bool.and_eq_true,bne_iff_ne,ne_eq]at hb;obtain⟨hoff,hname⟩:=hb;have hoff:=Nat.eq_of_beq_eq_true hoff
   change (match xs.drop i with
    |x::xs'=>match ys.drop i with
     |y::ys'=>eqE e x y fun b=>eqC es' xs' ys' fun r=>k (and b r)
     |[]=>none
    |[]=>none)=some r at hk
   split at hk
   ·rename_i x xs' hxs;split at hk
    ·rename_i y ys' hys;have hx:xs[i]? = some x:=by rw[<-List.head?_drop,hxs]; rfl
     have hy:ys[i]? = some y:=by rw[<-List.head?_drop,hys]; rfl
     have hx':xs'=xs.drop (i+1):=by rw[<-List.tail_drop,hxs]; rfl
     have hy':ys'=ys.drop (i+1):=by rw[<-List.tail_drop,hys]; rfl
     obtain⟨b,h1,h2⟩:=Oy (d:=d) he hk;rw[hx',hy']at h2;obtain⟨b',h3,h4⟩:=D7 (d:=d) hes h2;refine⟨b&&b',?_,h4⟩;simp only[Op.eqFields,if_pos hname,aW,hoff,vX he hx,vX he hy,Option.bind_some,h1];cases b with
     |false=>rfl
     |true=>exact h3
    ·cases hk
   ·cases hk
theorem qO{d:Nat}{t:TypeId}{xs ys:Array Value}{fs:Array Field}(ht:P.underlying t=some (.struct fs))(hp:P.stoodInHeld t=false) :
  aH P (Op.equalIn (d+1) t (.agg xs) (.agg ys))=aH P (Op.eqFields d xs ys fs.toList):=by
 simp only[Op.equalIn,aW,dE ht,mF,Option.bind_some,hp,Bool.false_eq_true,if_false];rw[<-Array.forIn_toList];generalize fs.toList=l;clear ht
 induction l with
 |nil=>rfl
 |cons f l ih=>
  simp only[List.forIn_cons,Op.eqFields,aW];split
  ·simp only[aW];cases aH P (part f.type xs f.offset)with
   |none=>rfl
   |some a=>
    simp only[Option.bind_some];cases aH P (part f.type ys f.offset)with
    |none=>rfl
    |some b=>
     simp only[Option.bind_some];cases aH P (Op.equalIn d f.type a b)with
     |none=>rfl
     |some r=>
      simp only[Option.bind_some];cases r with
      |false=>rfl
      |true=>exact ih
  ·exact ih
theorem uq{op:BinOp}{t:TypeId}{x y:Operand}{xs ys:Array Value}{s:Sem Value}(hm:P.eqGuardType P.depth t=false):aH P (do eqGuard op t x y (.agg xs) (.agg ys); s)=aH P s:=by
 rw[aW];have:aH P (eqGuard op t x y (.agg xs) (.agg ys))=some ():=by
  cases op<;>first
   |rfl
   |(unfold eqGuard; simp only[aW,mF,Option.bind_some,hm,Bool.not_true,Bool.false_eq_true,if_false,Bool.not_false,if_true]; rfl)
 rw[this]; rfl
theorem xY{t:TypeId}{es:List Eta}(h:eqK P t=some es):∃ fs,P.underlying t=some (.struct fs)/\P.stoodInHeld t=false/\P.eqGuardType P.depth t=false/\zi P fs.toList 0=some es:=by
 unfold eqK at h;simp only[aY]at h;split at h
 ·rename_i fs hu;split at h
  ·cases h
  ·rename_i hg;simp only[Bool.or_eq_false_iff]at hg;exact⟨fs,hu,hg.1,hg.2,h⟩
 ·cases h
theorem Ci{t:TypeId}{es:List Eta}(h:eqK P t=some es){xs ys:Array Value}{k:Bool->Res}{r}(hk:eqC es xs.toList ys.toList k=some r):∃ b,aH P (Op.equal t (.agg xs) (.agg ys))=some b/\k b=some r:=by
 obtain⟨fs,h1,h2,h3,h4⟩:=xY h;obtain⟨b,g1,g2⟩:=D7 (d:=9998) h4 (xs:=xs.toList) (ys:=ys.toList) hk;exact⟨b,by unfold Op.equal Op.maxDepth; rw[qO h1 h2]; exact g1,g2⟩
theorem yV{t:TypeId}(hu:P.underlying t=some .bool)(a b:Bool):aH P (Op.equal t (.bool a) (.bool b))=some (a == b):=by
 unfold Op.equal Op.maxDepth;show aH P (Op.equalIn (9999+1) t (.bool a) (.bool b))=_;unfold Op.equalIn;rw[aW,dE hu]
 rfl
theorem Jp{dst type pos after guard}{t yt:TypeId}{x y:Operand}(h:IM P ⟨dst, .binOp .eql t x y yt,type,pos,after,guard⟩ (oV P t) (eqK P t) x y call s st kv kd=some r) :
  Hands call kv kd (ag P (rdF s) ⟨dst, .binOp .eql t x y yt,type,pos,after,guard⟩ st) r:=by
 unfold IM at h;split at h
 ·rename_i k a k' b hx hy;obtain⟨hc,h'⟩:=az h;simp only[decide_eq_true_eq]at hc;subst hc;exact gI hx hy rfl rfl rfl (by simp only[binOp,Op.intCmp,ne_eq,not_true_eq_false,if_false]; rfl) h'
 ·rename_i a b hx hy;exact gI hx hy rfl rfl rfl (by simp only[binOp,Op.stringOp]; rfl) h
 ·rename_i a b hx hy;split at h
  ·rename_i hb;unfold oV at hb;rw[aY]at hb;split at hb
   ·rename_i hu;refine gI hx hy rfl rfl rfl ?_ h;rw[aW];show aH P (binOp .eql t (.bool a) (.bool b))=_;simp only[binOp,aW,yV hu,Option.bind_some]
    rfl
   ·cases hb
  ·exact aA h
 ·rename_i a b hx hy;split at h
  ·rename_i es hes;obtain⟨hc,h'⟩:=az h;simp only[Bool.and_eq_true]at hc;obtain⟨b',g1,g2⟩:=Ci hes h';obtain⟨fs,h1,h2,h3,h4⟩:=xY hes;refine gI hx hy (by simpa only[flat]using hc.1) (by simpa only[flat]using hc.2) rfl ?_ g2;rw[uq h3];simp only[binOp,aW,g1,Option.bind_some]
   rfl
  ·exact aA h
 ·exact aA h
theorem JQ{dst type pos after guard}{t yt:TypeId}{x y:Operand}(h:J7 P ⟨dst, .binOp .neq t x y yt,type,pos,after,guard⟩ (oV P t) (eqK P t) x y call s st kv kd=some r) :
  Hands call kv kd (ag P (rdF s) ⟨dst, .binOp .neq t x y yt,type,pos,after,guard⟩ st) r:=by
 unfold J7 at h;split at h
 ·rename_i k a k' b hx hy;obtain⟨hc,h'⟩:=az h;simp only[decide_eq_true_eq]at hc;subst hc;exact gI hx hy rfl rfl rfl (by simp only[binOp,Op.intCmp,ne_eq,not_true_eq_false,if_false]; rfl) h'
 ·rename_i a b hx hy;exact gI hx hy rfl rfl rfl (by simp only[binOp,Op.stringOp]; rfl) h
 ·rename_i a b hx hy;split at h
  ·rename_i hb;unfold oV at hb;rw[aY]at hb;split at hb
   ·rename_i hu;refine gI hx hy rfl rfl rfl ?_ h;rw[aW];show aH P (binOp .neq t (.bool a) (.bool b))=_;simp only[binOp,aW,yV hu,Option.bind_some]
    rfl
   ·cases hb
  ·exact aA h
 ·rename_i a b hx hy;split at h
  ·rename_i es hes;obtain⟨hc,h'⟩:=az h;simp only[Bool.and_eq_true]at hc;obtain⟨b',g1,g2⟩:=Ci hes h';obtain⟨fs,h1,h2,h3,h4⟩:=xY hes;refine gI hx hy (by simpa only[flat]using hc.1) (by simpa only[flat]using hc.2) rfl ?_ g2;rw[uq h3];simp only[binOp,aW,g1,Option.bind_some]
   rfl
  ·exact aA h
 ·exact aA h
theorem I5{dst type pos after guard}{sT dT:TypeId}{k:IntKind}{x:Operand}(hk:cvT P sT dT=some k)(h:IR P ⟨dst, .convert sT dT x,type,pos,after,guard⟩ k x call s st kv kd=some r) :
  Hands call kv kd (ag P (rdF s) ⟨dst, .convert sT dT x,type,pos,after,guard⟩ st) r:=by
 unfold cvT at hk;simp only[aY]at hk;split at hk
 ·rename_i k1 k2 h1 h2;obtain rfl:=Option.some.inj hk;unfold IR at h;split at h
  ·rename_i k3 n hx;have hp:aH P (convert sT dT (.int k3 n))=some (.int k2 (cvI k2 n)):=by
    unfold convert;simp only[aW,dE h1,dE h2,Option.bind_some]
    rfl
   simp only[ag,h1,h2,hx,flat,if_true,hp];exact h
  ·exact aA h
 ·cases hk
theorem xO{dst type pos after guard}{c:Call}{g:Int->Int->Bool}{b:Builtin}{x y:Operand}(hc1:c.callee = .builtin b)(hc2:c.args.toList=[x,y])
  (hb:∀ k k' m n,dL P b c.argTypes type (c.args.map vN) [.int k m, .int k' n] st=some (.val (.int k (if g n m=true then n else m)) st))
  (h:zh P ⟨dst, .call c,type,pos,after,guard⟩ g x y call s st kv kd=some r):Hands call kv kd (ag P (rdF s) ⟨dst, .call c,type,pos,after,guard⟩ st) r:=by
 unfold zh at h;split at h
 ·rename_i k a k' b hx hy;simp only[ag,hc1,hc2,List.map_cons,List.map_nil,hx,hy,hb];cases hg:g b a with
  |true=>rw[hg]at h; exact h
  |false=>rw[hg]at h; exact h
 ·exact aA h
theorem JM{dst type pos after guard}{t:TypeId}{x:Operand}(h:JV P ⟨dst, .unOp .not t x,type,pos,after,guard⟩ x call s st kv kd=some r):Hands call kv kd (ag P (rdF s) ⟨dst, .unOp .not t x,type,pos,after,guard⟩ st) r:=by
 unfold JV at h;split at h
 ·rename_i b hx;simp only[ag,hx,flat,if_true];exact h
 ·exact aA h
theorem IQ{dst type pos after guard}{t:TypeId}{x:Operand}(h:Ko P ⟨dst, .unOp .xor t x,type,pos,after,guard⟩ x call s st kv kd=some r):Hands call kv kd (ag P (rdF s) ⟨dst, .unOp .xor t x,type,pos,after,guard⟩ st) r:=by
 unfold Ko at h;split at h
 ·rename_i k n hx;have e:aH P (Op.unary .xor (.int k n))=some (.int k (TM k n)):=by
   simp only[Op.unary,Op.intBits,ne_eq,not_true_eq_false,if_false]; rfl
  simp only[ag,hx,flat,if_true,e];exact h
 ·exact aA h
theorem F7{dst type pos after guard}{c:Call}{x:Operand}(hc1:c.callee = .builtin .len)(hc2:c.args.toList=[x])(hl:pz P c.argTypes=1)(h:FI P ⟨dst, .call c,type,pos,after,guard⟩ x call s st kv kd=some r) :
  Hands call kv kd (ag P (rdF s) ⟨dst, .call c,type,pos,after,guard⟩ st) r:=by
 unfold pz at hl;simp only[aY]at hl;split at hl
 ·rename_i t ht;split at hl
  ·rename_i e hu;unfold FI at h;split at h
   ·rename_i a n cap hx;simp only[ag,hc1,hc2,List.map_cons,List.map_nil,hx,dL,ht,hu];exact h
   ·rename_i tt v hx;split at h
    ·rename_i z hz;simp only[ag,hc1,hc2,List.map_cons,List.map_nil,hx,dL,ht,hu,hz];exact h
    ·cases h
   ·exact aA h
  ·cases hl
  ·cases hl
 ·cases hl
theorem Gi{dst type pos after guard}{c:Call}{x:Operand}(hc1:c.callee = .builtin .cap)(hc2:c.args.toList=[x])(hl:pz P c.argTypes=1)(h:Fv P ⟨dst, .call c,type,pos,after,guard⟩ x call s st kv kd=some r) :
  Hands call kv kd (ag P (rdF s) ⟨dst, .call c,type,pos,after,guard⟩ st) r:=by
 unfold pz at hl;simp only[aY]at hl;split at hl
 ·rename_i t ht;split at hl
  ·rename_i e hu;unfold Fv at h;split at h
   ·rename_i a n cap hx;obtain⟨hb,h⟩:=az h;have hb:Nat.ble (cap+1) unk=true:=hb;simp only[ag,hc1,hc2,List.map_cons,List.map_nil,hx,dL,ht,hu,hb];exact h
   ·rename_i n cap hx;simp only[ag,hc1,hc2,List.map_cons,List.map_nil,hx,dL,ht,hu];exact h
   ·exact aA h
  ·cases hl
  ·cases hl
 ·cases hl
theorem Gs{dst type pos after guard}{c:Call}{x:Operand}(hc1:c.callee = .builtin .len)(hc2:c.args.toList=[x])(hl:pz P c.argTypes=2)(h:FH P ⟨dst, .call c,type,pos,after,guard⟩ x call s st kv kd=some r) :
  Hands call kv kd (ag P (rdF s) ⟨dst, .call c,type,pos,after,guard⟩ st) r:=by
 unfold pz at hl;simp only[aY]at hl;split at hl
 ·rename_i t ht;split at hl
  ·cases hl
  ·rename_i hu;unfold FH at h;split at h
   ·rename_i b hx;simp only[ag,hc1,hc2,List.map_cons,List.map_nil,hx,dL,ht,hu];exact h
   ·exact aA h
  ·cases hl
 ·cases hl
theorem F_{size:Nat}{x:Value}{xt:TypeDesc}{str:Bool}(hxt:(match xt with | .slice _=>some false | .string=>some true | _=>none)=some str){k:Nat->List Value->Res}(h:s_tail str size st x k=some r) :
  ∃ n new,gG st size xt x=some (n,new)/\k n new=some r:=by
 unfold s_tail at h;cases str with
 |true=>
  have:xt = .string:=by
   split at hxt
   ·cases hxt
   ·rfl
   ·cases hxt
  subst this;simp only at h;split at h
  ·obtain⟨hc,h⟩:=az h;exact⟨_,_,by simp only[gG,Nat.eq_of_beq_eq_true hc,if_true],h⟩
  ·cases h
 |false=>
  have:∃ e,xt = .slice e:=by
   split at hxt
   ·exact⟨_,rfl⟩
   ·cases hxt
   ·cases hxt
  obtain⟨e,rfl⟩:=this;simp only at h;split at h
  ·rename_i a n cap;obtain⟨c,e',ex,h1,h2,h3⟩:=eU h;obtain⟨hc,h3⟩:=az h3;have hle:a.off+n*size<=c.length:=Nat.le_of_ble_eq_true hc;exact⟨n,(c.drop a.off).take (n*size),by simp only[gG,cellsAt,h1,h2,Option.isSome_none,Bool.false_eq_true,if_false,hle,if_true],h3⟩
  ·rename_i n cap;obtain⟨hc,h⟩:=az h;exact⟨_,_,by simp only[gG,Nat.eq_of_beq_eq_true hc,if_true],h⟩
  ·rename_i t v;split at h
   ·rename_i z hz;obtain⟨hc,h⟩:=az h;exact⟨_,_,by simp only[gG,hz,Nat.eq_of_beq_eq_true hc,if_true],h⟩
   ·cases h
  ·cases h
theorem zo{slow:Res}{e:TypeId}{size n:Nat}{new:List Value}{sv:Value}(hall:new.all oneCell=true)(hsl:slow=some r->∃ v st',bG P st e size n new sv=some (v,st')/\kv v st'=some r)(h:ui slow e size n new st sv kv=some r) :
  ∃ v st',bG P st e size n new sv=some (v,st')/\kv v st'=some r:=by
 unfold ui at h;split at h
 ·rename_i len cap;obtain⟨hc,h'⟩:=az h;clear h;simp only[Bool.and_eq_true]at hc;have h1:=Nat.eq_of_beq_eq_true hc.1;have h2:=Nat.eq_of_beq_eq_true hc.2.1;have h3:=Nat.le_of_ble_eq_true hc.2.2;subst h1 h2;simp only[bG];rw[if_neg (by simp; omega)];cases hb:Nat.beq n 0 with
  |true=>
   rw[hb]at h';rw[if_pos (Nat.eq_of_beq_eq_true hb)];exact⟨_,_,rfl,h'⟩
  |false=>
   rw[hb]at h';rw[if_neg (Nat.ne_of_beq_eq_false hb)];exact⟨_,_,rfl,kw h'⟩
 ·rename_i a len cap;change @Bool.rec (fun _=>Res)
   (@Bool.rec (fun _=>Res) (@Bool.rec (fun _=>Res)
    (af (Nat.ble (len+n) big) (eQ st a fun b off c _ _ _ _=>af (Nat.ble (Nat.add off (len*size)) c.length)
     (l_ st (.cells ((c.drop off).take (len*size)++new) e false) fun a st=>kv (.slice (some a) (len+n) unk) st)))
    (@Bool.rec (fun _=>Res)
     (eQ st a fun b off c e' ex heap next=>af (and (Nat.ble (cap+1) unk) (Nat.ble (off+len*size+new.length) c.length))
      (kv (.slice (some a) (len+n) cap) ⟨aJ (path b) heap (.cells (putAt c (off+len*size) new) e' ex),next⟩))
     (af (Nat.ble (cap+1) unk) (kv (.slice (some a) len cap) st)) (Nat.beq n 0)) (Nat.ble (len+n) cap))
    (@Bool.rec (fun _=>Res)
     (af (Nat.ble (len+n) big) (eQ st a fun b off c _ _ _ _=>af (Nat.ble (Nat.add off (len*size)) c.length)
      (l_ st (.cells ((c.drop off).take (len*size)++new) e false) fun a st=>kv (.slice (some a) (len+n) unk) st)))
     (af (Nat.ble (cap+1) unk) (kv (.slice (some a) len cap) st)) (Nat.beq n 0)) (Nat.beq cap len))
   (eQ st a fun b off c e' ex heap next=>af (and (not ex) (and (Nat.beq e' e) (and (Nat.ble off c.length) (Nat.ble (len+n) big))))
    (@Bool.rec (fun _=>Res)
     (af (Nat.beq (Nat.add off (len*size)) c.length)
      (l_ ⟨aJ (path b) heap .dead,next⟩ (.cells ((c.drop off).take (len*size)++new) e false) fun a st=>kv (.slice (some a) (len+n) unk) st))
     (af (Nat.ble (Nat.add off (len*size)) c.length) (kv (.slice (some a) len cap) st)) (Nat.beq n 0)))
   (Nat.beq cap unk)=some r at h
  cases hb:Nat.beq cap unk with
  |false=>
   rw[hb]at h;have hne:=Nat.ne_of_beq_eq_false hb
   have grow:¬len+n<=cap->(af (Nat.ble (len+n) big) (eQ st a fun b off c _ _ _ _=>af (Nat.ble (Nat.add off (len*size)) c.length)
     (l_ st (.cells ((c.drop off).take (len*size)++new) e false) fun a st=>kv (.slice (some a) (len+n) unk) st)))=some r->∃ v st',bG P st e size n new (.slice (some a) len cap)=some (v,st')/\kv v st'=some r:=by
    intro hnle h;obtain⟨hc,h⟩:=az h;have hc:=Nat.le_of_ble_eq_true hc;obtain⟨c,e',ex,h1,h2,h3⟩:=eU h;obtain⟨hd,h3⟩:=az h3;have hd:a.off+len*size<=c.length:=Nat.le_of_ble_eq_true hd;have hcu:cap<unk:=by unfold unk; unfold big at hc; omega
    refine⟨_,_,?_,kw h3⟩;simp only[bG];rw[if_neg (by omega),if_pos hcu,if_neg hnle];simp only[cellsAt,h1,h2,Option.isSome_none,Bool.false_eq_true,if_false,hd,if_true]
    rfl
   have same:len+n<=cap->Nat.beq n 0=true->af (Nat.ble (cap+1) unk) (kv (.slice (some a) len cap) st)=some r->∃ v st',bG P st e size n new (.slice (some a) len cap)=some (v,st')/\kv v st'=some r:=by
    intro hle hb3 h;have hn:=Nat.eq_of_beq_eq_true hb3;obtain⟨hcu,h⟩:=az h;have hcu:cap<unk:=Nat.le_of_ble_eq_true hcu;refine⟨_,_,?_,h⟩;simp only[bG];rw[if_neg (by omega),if_pos hcu,if_pos hle,if_pos hn]
   cases hb0:Nat.beq cap len with
   |true=>
    rw[hb0]at h;have hcl:=Nat.eq_of_beq_eq_true hb0;cases hb3:Nat.beq n 0 with
    |true=>
     rw[hb3]at h;exact same (by have:=Nat.eq_of_beq_eq_true hb3; omega) hb3 h
    |false=>
     rw[hb3]at h;exact grow (by have:=Nat.ne_of_beq_eq_false hb3; omega) h
   |false=>
    rw[hb0]at h;cases hb2:Nat.ble (len+n) cap with
    |true=>
     rw[hb2]at h;have hle:=Nat.le_of_ble_eq_true hb2;cases hb3:Nat.beq n 0 with
     |false=>
      rw[hb3]at h;have hn:=Nat.ne_of_beq_eq_false hb3;obtain⟨c,e',ex,h1,h2,h3⟩:=eU h;obtain⟨hc,h4⟩:=az h3;simp only[Bool.and_eq_true]at hc;have hcu:cap<unk:=Nat.le_of_ble_eq_true hc.1;have hd:a.off+len*size+new.length<=c.length:=Nat.le_of_ble_eq_true hc.2;rw[aK]at h4;refine⟨_,_,?_,h4⟩;simp only[bG];rw[if_neg (by omega),if_pos hcu,if_pos hle,if_neg hn];have hset:setCells st (a.add (len*size)) new=some { st with heap:=st.heap.set a.block (.cells (putAt c (a.off+len*size) new) e' ex) }:=by
       obtain⟨ab,ao,asp⟩:=a;simp only at h1;subst h1;simp only[dZ,setCells,Option.isSome_none,Bool.false_eq_true,if_false,h2,hd,decide_true,hall,Bool.and_self,if_true]
      rw[hset]
     |true=>rw[hb3]at h; exact same hle hb3 h
    |false=>
     rw[hb2]at h;exact grow (fun k=>by rw[Nat.ble_eq_true_of_le k]at hb2; cases hb2) h
  |true=>
   rw[hb]at h;have hcap:=Nat.eq_of_beq_eq_true hb;obtain⟨c,e',ex,h1,h2,h3⟩:=eU h;obtain⟨hc,h4⟩:=az h3;clear h3;simp only[Bool.and_eq_true,Bool.not_eq_true']at hc;obtain⟨hx,he,ho,hbg⟩:=hc;have he:=Nat.eq_of_beq_eq_true he;have ho:=Nat.le_of_ble_eq_true ho;have hbg:=Nat.le_of_ble_eq_true hbg;subst hx he;have hpre:bG P st e' size n new (.slice (some a) len cap) =
    if n=0 then(if a.off+len*size<=c.length then some (.slice (some a) len cap,st)else none)else
    if a.off+(len+(cap-unk))*size=c.length then
     some (.slice (some (newRow (kill st a.block) ((c.drop a.off).take (len*size)++new) e' false).1) (len+n) unk,(newRow (kill st a.block) ((c.drop a.off).take (len*size)++new) e' false).2)
    else if cap=unk&&a.off+len*size+new.length<=c.length then
     match setCells st (a.add (len*size)) new with
     |some st=>some (.slice (some a) (len+n) cap,st)
     |none=>none
    else if cap=unk&&a.off+len*size<=c.length then
     some (.slice (some (newRow (kill st a.block) ((c.drop a.off).take (len*size)++new) e' false).1) (len+n) unk,(newRow (kill st a.block) ((c.drop a.off).take (len*size)++new) e' false).2)
    else none:=by
    simp only[bG];rw[if_neg (by omega),if_neg (by omega),h2];simp only;rw[if_neg (by simp[h1,hcap,ho])]
    rfl
   rw[hpre];cases hb3:Nat.beq n 0 with
   |true=>
    rw[hb3]at h4;obtain⟨hd,h4⟩:=az h4;have hd:a.off+len*size<=c.length:=Nat.le_of_ble_eq_true hd;rw[if_pos (Nat.eq_of_beq_eq_true hb3),if_pos hd];exact⟨_,_,rfl,h4⟩
   |false=>
    rw[hb3]at h4;obtain⟨hd,h4⟩:=az h4;have hd:a.off+len*size=c.length:=Nat.eq_of_beq_eq_true hd;rw[if_neg (Nat.ne_of_beq_eq_false hb3),if_pos (by rw[hcap,Nat.sub_self,Nat.add_zero]; exact hd)];refine⟨_,_,rfl,?_⟩;have h4:=kw h4;rw[aK]at h4;exact h4
 ·exact hsl h
theorem Di{dst type pos after guard}{t:TypeId}{x v:Operand}(ht:NR P t=true)(h:yI P t x v call s st kv kd=some r) :
  Hands call kv kd (ag P (rdF s) ⟨dst, .store t x v,type,pos,after,guard⟩ st) r:=by
 unfold NR at ht;rw[kE]at ht;unfold yI at h;split at h
 ·rename_i a hx;obtain⟨c,e,ex,h1,h2,h3⟩:=eU h;cases ex with
  |false=>
   obtain⟨hc,h4⟩:=az h3;simp only[Bool.and_eq_true]at hc;have hd:a.off+1<=c.length:=Nat.le_of_ble_eq_true hc.2;rw[aK]at h4;unfold dX at ht;cases hi:P.info? t with
   |none=>rw[hi]at ht; cases ht
   |some i=>
    rw[hi]at ht;have his:i.size=1:=Nat.eq_of_beq_eq_true ht;have hst:jJ P st t a (rdF s v)=some { st with heap:=st.heap.set a.block (.cells (putAt c a.off [rdF s v]) e false) }:=by
     have hv:(rdF s v).cells=#[rdF s v]/\iM (rdF s v)=false/\oneCell (rdF s v)=true:=by
      have h2:=hc.1;generalize rdF s v=y at h2;cases y with
      |chan r=>cases r with
       |none=>exact⟨rfl,rfl,rfl⟩
       |some _=>simp[jP]at h2
      |agg _=>simp[jP]at h2
      |tuple _=>simp[jP]at h2
      |_=>exact⟨rfl,rfl,rfl⟩
     obtain⟨v1,v2,v3⟩:=hv;simp[jJ,hi,v1,v2,his,setCells,h1,h2,v3,hd]
    simp only[ag,hx,hst];exact h4
  |true=>
   simp only at h3;simp only[wY,hx]at h3;obtain⟨st',g1,g2⟩:=xP h3;simp only[ag,hx,g1];exact g2
 ·cases h
end
section
variable{P:Program}
variable{call:Knot}{s:Trie Value}{o:Oper}{st:St}{kv:Value->St->Res}{kd:Deferred->St->Res}{r:Value×St}
theorem GK{dst type pos after guard}{c a b:Operand}(h:Fe c a b call s st kv kd=some r):Hands call kv kd (ag P (rdF s) ⟨dst, .pick c a b,type,pos,after,guard⟩ st) r:=by
 unfold Fe at h;split at h
 ·rename_i t ht;simp only[ag,ht];cases t<;>exact h
 ·cases h
theorem Dn{dst type pos after guard}{c:Call}{x y:Operand}{tx ty e:TypeId}{size:Nat}{str:Bool}(hc1:c.callee = .builtin .append)(hc2:c.args.toList=[x,y])(hc3:c.argTypes.toList=[tx,ty])(hk:Ey P tx ty=some (e,size,str))
  (h:yM P ⟨dst, .call c,type,pos,after,guard⟩ e size str x y call s st kv kd=some r):Hands call kv kd (ag P (rdF s) ⟨dst, .call c,type,pos,after,guard⟩ st) r:=by
 unfold Ey at hk;simp only[aY,iG,pM]at hk;split at hk
 ·rename_i e' xt hs hx;split at hk
  ·rename_i str' ei z hxt hi hz;split at hk
   ·cases hk
   ·rename_i hcond;simp only[Option.some.injEq,Prod.mk.injEq]at hk;obtain⟨rfl,rfl,rfl⟩:=hk;have ht0:c.argTypes[0]? = some tx:=by rw[<-Array.getElem?_toList,hc3]; rfl
    have ht1:c.argTypes[1]? = some ty:=by rw[<-Array.getElem?_toList,hc3]; rfl
    have hev:ag P (rdF s) ⟨dst, .call c,type,pos,after,guard⟩ st=match iQ P st tx ty (rdF s x) (rdF s y)with
     |some (v,st)=>some (.val v st)
     |none=>none:=by
     simp only[ag,hc1,hc2,List.map_cons,List.map_nil,dL,ht0,ht1];cases iQ P st tx ty (rdF s x) (rdF s y)<;>rfl
    rw[hev];have happ:iQ P st tx ty (rdF s x) (rdF s y)=match gG st ei.size xt (rdF s y)with
      |some (n,new)=>if new.all oneCell then bG P st e' ei.size n new (rdF s x)else none
      |none=>none:=by
     simp only[iQ,hs,hx,hi,hz];rw[if_neg hcond];cases gG st ei.size xt (rdF s y)<;>rfl
    have key:(∃ v st',iQ P st tx ty (rdF s x) (rdF s y)=some (v,st')/\kv v st'=some r)->Hands call kv kd (match iQ P st tx ty (rdF s x) (rdF s y)with
     |some (v,st)=>some (.val v st)
     |none=>none) r:=by
     rintro ⟨v,st',h1,h2⟩;rw[h1]; exact h2
    apply key;unfold yM at h;obtain⟨n,new,h1,h2⟩:=F_ hxt h;obtain⟨h3,h4⟩:=az h2;rw[happ,h1];simp only[h3,if_true];refine zo h3 (fun hsl=>?_) h4;have:=aA hsl;rw[hev,happ,h1]at this;simp only[h3,if_true]at this;cases hx:bG P st e' ei.size n new (rdF s x)with
    |none=>rw[hx]at this; exact this.elim
    |some p=>rw[hx]at this; exact⟨p.1,p.2,rfl,this⟩
  ·cases hk
 ·cases hk
theorem zG{ik kd':IntKind}{i:Int}{f:Value->Res}{z:Res}:∀ {es:List MapEntry} (j:Nat),JW ik i f z es=some r->
  (∃ m v,Instr.findNow (.int kd') (.int ik i) es j=some (some (m,v))/\f v=some r)\/(Instr.findNow (.int kd') (.int ik i) es j=some none/\z=some r)
 |[],j,h=>Or.inr ⟨rfl,h⟩
 |e::es,j,h=>by
  have h:(match e.key with
   | .int k n=>af (decide (ik=k)) (@Bool.rec (fun _=>Res) (JW ik i f z es) (f e.val) (eqI i n))
   |_=>none)=some r:=h
  split at h
  ·rename_i k n hk;obtain⟨hc,h'⟩:=az h;simp only[decide_eq_true_eq]at hc;subst hc;have hs:Instr.sameNow (.int kd') (.int ik i) e.key=some (i == n):=by rw[hk]; simp[Instr.sameNow]
   cases hq:eqI i n with
   |true=>
    rw[hq]at h';have hb:(i == n)=true:=by
     have:i=n:=of_decide_eq_true hq;simp[this]
    left;refine⟨j,e.val,?_,h'⟩;simp only[Instr.findNow,hs,hb]
   |false=>
    rw[hq]at h';have hb:(i == n)=false:=by
     have:¬i=n:=of_decide_eq_false hq;simpa using this
    rcases zG (j+1) h' with⟨m,v,h1,h2⟩ | ⟨h1,h2⟩
    ·left;refine⟨m,v,?_,h2⟩;simp only[Instr.findNow,hs,hb];exact h1
    ·right;refine⟨?_,h2⟩;simp only[Instr.findNow,hs,hb];exact h1
  ·cases h
theorem FT{dst type pos after guard}{t:TypeId}{x k:Operand}{ok:Bool}{z:Value}(hz:Jl P t=some z)(h:Ak P ⟨dst, .lookup t x k ok,type,pos,after,guard⟩ z x k ok call s st kv kd=some r) :
  Hands call kv kd (ag P (rdF s) ⟨dst, .lookup t x k ok,type,pos,after,guard⟩ st) r:=by
 unfold Ak at h;split at h
 ·rename_i rr ik i hx hk;split at h
  ·rename_i es cl hg;rw[aP]at hg;unfold Jl at hz;rw[aY]at hz;split at hz
   ·rename_i kt e hu;rw[aY]at hz;split at hz
    ·rename_i kd' huk;rw[pM]at hz;have hkk:kT P kt=some (.int kd'):=by unfold kT; rw[huk]
     rcases zG (kd':=kd') 0 h with⟨m,v,h1,h2⟩ | ⟨h1,h2⟩
     ·have hf:kV P es.isEmpty kt (.int ik i) es=some (some (m,v)):=by unfold kV; rw[hkk]; exact h1
      simp only[ag,hu,hz,hx,hk,hg,hf];cases ok<;>exact h2
     ·have hf:kV P es.isEmpty kt (.int ik i) es=some none:=by unfold kV; rw[hkk]; exact h1
      simp only[ag,hu,hz,hx,hk,hg,hf];cases ok<;>exact h2
    ·cases hz
   ·cases hz
  ·exact dN h
 ·exact dN h
theorem Gz{dst type pos after guard}{t:TypeId}{m k x:Operand}(hz:Ff P t=true)(h:FU P ⟨dst, .mapUpdate t m k x,type,pos,after,guard⟩ m k x call s st kv kd=some r) :
  Hands call kv kd (ag P (rdF s) ⟨dst, .mapUpdate t m k x,type,pos,after,guard⟩ st) r:=by
 unfold FU at h;split at h
 ·rename_i rr key hx hk;split at h
  ·rename_i es cl hg;rw[aP]at hg;unfold Ff at hz;rw[aY]at hz;split at hz
   ·rename_i kt e hu;unfold isStr at hz;rw[aY]at hz;split at hz
    ·rename_i huk;have hkk:kT P kt=some .string:=by unfold kT; rw[huk]
     obtain⟨hb,h⟩:=az h;have hf:kV P false kt (.string key) es=Instr.findNow .string (.string key) es 0:=by unfold kV; rw[hkk]; rfl
     rw[aK]at h;simp only[ag,rD,hu,hx,hk,hg,hf];unfold P5 at hb;unfold O_ at h;cases hq:Instr.findNow .string (.string key) es 0 with
     |none=>rw[hq]at hb; cases hb
     |some o=>
      rw[hq]at h;cases o with
      |none=>exact h
      |some p=>obtain⟨i,v⟩:=p; exact h
    ·cases hz
   ·cases hz
  ·exact dN h
 ·exact dN h
theorem zJ(h:(Du P o).run call s st kv kd=some r):Hands call kv kd (ag P (rdF s) o st) r:=by
 obtain⟨dst,op,type,pos,after,guard⟩:=o;unfold Du at h;simp only at h;split at h
 ·exact GK h
 ·split at h
  ·exact FT ‹_› h
  ·exact dN h
 ·split at h
  ·exact Gz ‹_› h
  ·exact dN h
 ·split at h
  ·rename_i hk;split at h
   ·exact Ea hk h
   ·exact dN h
  ·rename_i hk;split at h
   ·split at h
    ·exact EH hk ‹_› h
    ·exact dN h
   ·exact dN h
  ·exact dN h
 ·split at h
  ·exact yK ‹_› h
  ·exact dN h
 ·split at h
  ·exact Di ‹_› h
  ·exact dN h
 ·rename_i t x ix;split at h
  ·rename_i hs;unfold isStr at hs;rw[aY]at hs;split at hs
   ·exact FC ‹_› h
   ·cases hs
  ·exact dN h
 ·split at h
  ·exact yG ‹_› h
  ·split at h
   ·exact yU ‹_› h
   ·exact dN h
 ·split at h
  ·rename_i hs;unfold isStr at hs;rw[aY]at hs;split at hs
   ·exact uz ‹_› h
   ·cases hs
  ·split at h
   ·exact EQ ‹_› h
   ·exact dN h
 ·split at h
  ·exact zk ‹_› h
  ·exact Bo ‹_› h
  ·split at h
   ·exact I5 ‹_› h
   ·exact aA h
 ·split at h
  ·exact I9 h
  ·exact JS h
  ·exact JF h
  ·exact I7 h
  ·exact IL h
  ·exact kR (f:=yL) (hf:=fun k a b=>by simp only[binOp,Op.intArith,ne_eq,not_true_eq_false,if_false]; rfl) h
  ·exact kR (f:=TC) (hf:=fun k a b=>by simp only[binOp,Op.intArith,ne_eq,not_true_eq_false,if_false]; rfl) h
  ·exact kR (f:=pO) (hf:=fun k a b=>by simp only[binOp,Op.intBits,ne_eq,not_true_eq_false,if_false]; rfl) h
  ·exact kR (f:=orI) (hf:=fun k a b=>by simp only[binOp,Op.intBits,ne_eq,not_true_eq_false,if_false]; rfl) h
  ·exact kR (f:=OZ) (hf:=fun k a b=>by simp only[binOp,Op.intBits,ne_eq,not_true_eq_false,if_false]; rfl) h
  ·exact kR (f:=RG) (hf:=fun k a b=>by simp only[binOp,Op.intBits,ne_eq,not_true_eq_false,if_false]; rfl) h
  ·exact Jp h
  ·exact JQ h
  ·exact oI (f:=ltI) (g:=ltS) (str:=true) (hf:=fun k a b=>by simp only[binOp,Op.intCmp,ne_eq,not_true_eq_false,if_false]; rfl) (hg:=fun _ a b=>by simp only[binOp,Op.stringOp]; rfl) h
  ·exact oI (f:=leI) (g:=leS) (str:=true) (hf:=fun k a b=>by simp only[binOp,Op.intCmp,ne_eq,not_true_eq_false,if_false]; rfl) (hg:=fun _ a b=>by simp only[binOp,Op.stringOp]; rfl) h
  ·exact oI (f:=gtI) (g:=gtS) (str:=true) (hf:=fun k a b=>by simp only[binOp,Op.intCmp,ne_eq,not_true_eq_false,if_false]; rfl) (hg:=fun _ a b=>by simp only[binOp,Op.stringOp]; rfl) h
  ·exact oI (f:=geI) (g:=geS) (str:=true) (hf:=fun k a b=>by simp only[binOp,Op.intCmp,ne_eq,not_true_eq_false,if_false]; rfl) (hg:=fun _ a b=>by simp only[binOp,Op.stringOp]; rfl) h
 ·exact JM h
 ·exact IQ h
 ·rename_i c;split at h
  ·rename_i h1 h2 h3;split at h
   ·rename_i r' hr;exact Dn h1 h2 h3 hr h
   ·exact dN h
  ·rename_i h1 h2;split at h
   ·exact F7 h1 h2 ‹_› h
   ·exact Gs h1 h2 ‹_› h
   ·exact aA h
  ·rename_i h1 h2;split at h
   ·exact Gi h1 h2 ‹_› h
   ·exact aA h
  ·rename_i h1 h2;exact xO h1 h2 (g:=ltI) (fun k _ m n=>by
    have e:(if ltI n m=true then n else m)=Rn m n:=by simp[Rn,ltI]
    rw[e]; rfl) h
  ·rename_i h1 h2;exact xO h1 h2 (g:=gtI) (fun k _ m n=>by
    have e:(if gtI n m=true then n else m)=RD m n:=by simp[RD,gtI]
    rw[e]; rfl) h
  ·exact dN h
 ·exact dN h
end
def SL(P:Program):Eng:=⟨Du P,fun ct=>drawM P (Du P) ct⟩
theorem QC(P:Program)(ct:Ct):EngOk P ct (SL P) where
 comp:=fun h=>zJ h
 draw:=by
  intro call hc ops nt ro s d st k r h;exact Kv (fun h=>zJ h) hc h
theorem dF{b:Bool}{x y:Res}(h:b=true)(k:x=y):af b x=y:=by subst h; exact k
theorem gz{b:Bool}{x y z:Res}(h:b=true)(k:x=z):aC b x y=z:=by subst h; exact k
theorem iw{b:Bool}{x y z:Res}(h:b=false)(k:y=z):aC b x y=z:=by subst h; exact k
theorem nD{v v':Value}{bs bs':List Blk}(h:v=v')(k:bs=bs'):(some (v,mkSt bs):Res)=some (v',mkSt bs'):=by rw[h,k]
theorem iH{a b:Bool}(h:a=true)(k:b=true):Bool.and a b=true:=by rw[h,k]; rfl
theorem iW{a b:Nat}(h:a<=b):Nat.ble a b=true:=Nat.ble_eq_true_of_le h
theorem y7{a b:Nat}(h:a=b):Nat.beq a b=true:=by rw[h]; exact Nat.beq_refl b
theorem rq{i:Int}{n:Nat}(h:0<=i)(k:i<n):inI i n=true:=by simp[inI,h,k]
theorem oZ{l h:Int}{n:Nat}(h1:0<=l)(h2:l<=h)(h3:h<=n):d_ l h n=true:=by simp[d_,h1,h2,h3]
def bc(l:List UInt8):List Value:=l.map fun b=> .int .u8 b.toNat
theorem Eu(s:ByteArray):byteCells s=bc s.data.toList:=rfl
theorem jw(l:List UInt8):(bc l).length=l.length:=by simp[bc]
theorem vT(a b:List UInt8):bc (a++b)=bc a++bc b:=by simp[bc]
theorem rY:∀ (l:List UInt8),bf (bc l)=true
 |[]=>rfl
 |b::l=>by
  show(flat (.int .u8 b.toNat)&&bf (bc l))=true;rw[rY l]; rfl
theorem nX(z:Bool)(Z:Nat->Option Nat)(l:List UInt8):renL z Z (bc l)=bc l:=gK (rY l)
theorem Lu(l:List UInt8):allBytes (bc l)=true:=by
 unfold allBytes bc;rw[List.all_map,List.all_eq_true];intro b _
 rfl
theorem NE(b:UInt8):byteOf (.int .u8 b.toNat)=b:=by
 show UInt8.ofNat (Int.toNat (b.toNat:Int))=b;simp
theorem H5(l:List UInt8):(bc l).map byteOf=l:=by
 unfold bc;rw[List.map_map];have:(byteOf∘fun b:UInt8=>Value.int .u8 b.toNat)=id:=by funext b; exact NE b
 rw[this,List.map_id]
theorem Ii(l:List UInt8):rW (bc l)=⟨⟨l⟩⟩:=by unfold rW; rw[H5]
theorem TU{l:List UInt8}{i:Nat}(h:i<l.length):aj (bc l) i = .int .u8 (l[i].toNat):=by
 unfold aj bc;rw[List.getD_eq_getElem?_getD,List.getElem?_map,List.getElem?_eq_getElem h]
 rfl
theorem tX(c:List Value):takeC (Nat.mul c.length 1) (ai 0 c)=c:=by
 show(c.drop 0).take (c.length*1)=c;simp
theorem Lh(c:List Value){n:Nat}(h:n=c.length):takeC n (ai 0 c)=c:=by
 subst h;show(c.drop 0).take c.length=c;simp
def xm(v:Value):Bool:=match v with
 | .int .u8 n=>decide (0<=n/\n<256)
 |_=>false
def o9(c:List Value):Bool:=c.all xm
theorem GN(n:Int):xm (.int .u8 n)=decide (0<=n/\n<256):=rfl
theorem CE:∀ (l:List UInt8),o9 (bc l)=true
 |[]=>rfl
 |b::l=>by
  have h:o9 (bc (b::l))=(xm (.int .u8 b.toNat)&&o9 (bc l)):=by simp only[o9,bc,List.map_cons,List.all_cons]
  have:=b.toNat_lt;rw[h,CE l,GN];simp only[Bool.and_true,decide_eq_true_eq];omega
theorem PD:∀ {c:List Value},o9 c=true->c=bc (c.map byteOf)
 |[],_=>rfl
 |v::c,h=>by
  simp only[o9,List.all_cons,Bool.and_eq_true]at h;obtain⟨h1,h2⟩:=h;unfold xm at h1;split at h1
  ·rename_i n;simp only[decide_eq_true_eq]at h1;have ih:=PD (c:=c) h2;show _=Value.int .u8 (byteOf (.int .u8 n)).toNat::bc (c.map byteOf);rw[<-ih];congr 2;show n=((UInt8.ofNat n.toNat).toNat:Int)
   simp only[UInt8.toNat_ofNat'];omega
  ·cases h1
theorem wrap64{n:Int}(h1:-9223372036854775808<=n)(h2:n<9223372036854775808):IntKind.i64.wrap n=n:=by
 have e:IntKind.i64.wrap n=if n % 18446744073709551616>=9223372036854775808 then n % 18446744073709551616-18446744073709551616 else n % 18446744073709551616:=by
  show(if(true&&decide (n % (2^64:Int)>=(2^(64-1):Int)))=true then n % (2^64:Int)-(2^64:Int)else n % (2^64:Int))=_;have e1:(2:Int)^(64-1)=9223372036854775808:=by decide
  have e2:(2:Int)^64=18446744073709551616:=by decide
  rw[e1,e2];simp only[Bool.true_and,decide_eq_true_eq]
 rw[e];split<;>omega
theorem toList_data(b:ByteArray):b.toList=b.data.toList:=by
 first
  |exact ByteArray.toList_eq b
  |exact Go.ByteArray.toList_eq b
  |exact _root_.ByteArray.toList_eq b
theorem vJ(a b:ByteArray):eqS a b=(a.data.toList == b.data.toList):=by unfold eqS; rw[toList_data,toList_data]
theorem yT(a b:ByteArray):neS a b=!(a.data.toList == b.data.toList):=by unfold neS; rw[toList_data,toList_data]
end Go.VS
end

noncomputable section
namespace Go.VS
open Go.RowKit
section
variable{P:Program}{ct:Ct}
theorem Rel.part{K:Prot}{Y:Env}{st st0:St}{w:World}(h:Rel P K Y st w)(hnx:st0.next=st.next)(hsub:∀ i b,st0.heap.get i=some b->b.live=true->st.heap.get i=some b)
  (hno:∀ i o,st0.heap.get i≠some (.obj o)) :
  ∃ K':Prot,(∀ k,K k->K' k)/\K'.id=K.id/\Rel P K' Y st0 w/\∀ (Y':Env) (st1 st2:St) (w':World),Y.le Y'->Rel P K' Y' st1 w'->Bel K' w w'->st.next<=st1.next->(∀ i o,st1.heap.get i≠some (.obj o))->
   st2.next=st1.next->(∀ i b,st2.heap.get i=some b->b.live=true->st1.heap.get i=some b\/((∀ c,st1.heap.get i=some c->c.live=false)/\(∀ c,st0.heap.get i=some c->c.live=false)/\st.heap.get i=some b))->
   (∀ i o,st.heap.get i=some (.obj o)->(∀ c,st1.heap.get i=some c->c.live=false)->st2.heap.get i=some (.obj o))->Rel P K Y' st2 w':=by
 obtain⟨hgi,fp,o1,o2⟩:=h.objs;have hobjs:=h.objs
 let gone:Nat->Prop:=fun k=>∃ i b l,st.heap.get i=some b/\b.live=true/\(∀ c,st0.heap.get i=some c->c.live=false)/\Y (i:Int)=some l/\l.virt=false/\l.blk=k
 let foot:Nat->Prop:=fun k=>∃ i,fp i k
 let K':Prot:=⟨fun k=>K k\/gone k\/foot k,K.id,fun k=>K.nofz k\/gone k\/foot k,K.obs,fun k h=>h.imp (K.sub k) fun h=>h⟩
 have hr0:Rel P K' Y st0 w:=by
  refine⟨fun k hk=>?_,fun i l hi=>by rw[hnx]; exact h.dom i l hi,fun i b hi hb=>?_,fun i j bi bj li lj hi hbi hj hbj=>h.inj i j bi bj li lj (hsub i bi hi hbi) hbi (hsub j bj hj hbj) hbj,fun i hi=>by rw[hnx]; exact h.res i hi,fun k l hk=>?_,fun k l hk=>?_,?_⟩
  ·rcases hk with hk | ⟨i,b,l,a1,a2,a3,a4,a5,rfl⟩ | ⟨i,hk⟩
   ·exact h.base k hk
   ·exact(h.dom i l a4).2 a5
   ·exact(o2 i k hk).2.1
  ·obtain⟨l,c1,c2,c3⟩:=h.blk i b (hsub i b hi hb) hb;refine⟨l,c1,fun hv hK=>?_,c3⟩;rcases hK with hK | ⟨j,bj,lj,a1,a2,a3,a4,a5,a6⟩ | ⟨j,hK⟩
   ·exact c2 hv hK
   ·have:=h.inj i j b bj l lj (hsub i b hi hb) hb a1 a2 c1 a4 hv a5 a6.symm;subst this;have:=a3 b hi;rw[hb]at this; cases this
   ·have:=(o2 j _ hK).2.2.2.2.2 i b l (hsub i b hi hb) hb c1 hv rfl;subst this;obtain⟨⟨o,ho⟩,_⟩:=o2 i _ hK;rw[hsub i b hi hb]at ho;cases ho;exact hno i o hi
  ·rintro (hf | ⟨j,bj,lj,a1,a2,a3,a4,a5,a6⟩ | ⟨j,hK⟩)
   ·exact h.nofz k l hk hf
   ·exact(h.frz k l hk).2.2 j bj lj a1 a2 a4 a5 a6
   ·have:=(o2 j k hK).2.2.2.1;rw[hk]at this; cases this
  ·obtain⟨f1,f2,f3⟩:=h.frz k l hk;exact⟨f1,f2,fun j bj lj hj hbj=>f3 j bj lj (hsub j bj hj hbj) hbj⟩
  ·exact⟨hgi,fun _ _=>False,fun i o hi=>absurd hi (hno i o),fun i k hk=>hk.elim⟩
 refine⟨K',fun k hk=>Or.inl hk,rfl,hr0,fun Y' st1 st2 w' hle h1 hb hnx1 hno1 hnx2 hget hobj=>?_⟩;have hrest:∀ (i:Nat) b,st.heap.get i=some b->b.live=true->(∀ c,st0.heap.get i=some c->c.live=false)->∃ l,Y i=some l/\Y' i=some l/\(l.virt=false->¬K l.blk/\gone l.blk)/\bY P Y' l b w'.heap[l.blk]?:=by
  intro i b hi hl hn;obtain⟨l,c1,c2,c3⟩:=h.blk i b hi hl;refine⟨l,c1,hle _ _ c1,fun hv=>⟨c2 hv,⟨i,b,l,hi,hl,hn,c1,hv,rfl⟩⟩,?_⟩;cases hv:l.virt with
  |true=>exact(c3.mono hle).anywhere hv _
  |false=>rw[hb.block l.blk (Or.inr (Or.inl ⟨i,b,l,hi,hl,hn,c1,hv,rfl⟩))]; exact c3.mono hle
 refine⟨fun k hk=>Nat.lt_of_lt_of_le (h.base k hk) hb.size,fun i l hi=>by rw[hnx2]; exact h1.dom i l hi,fun i b hi hl=>?_,fun i j bi bj li lj hi hbi hj hbj hli hlj v1 v2 e=>?_,fun i hi=>by rw[hnx2]; exact h1.res i hi,fun k l hk hf=>h1.nofz k l hk (Or.inl hf),fun k l hk=>?_,?_⟩
 ·rcases hget i b hi hl with g | ⟨_,g2,g3⟩
  ·obtain⟨l,c1,c2,c3⟩:=h1.blk i b g hl;exact⟨l,c1,fun hv hK=>c2 hv (Or.inl hK),c3⟩
  ·obtain⟨l,_,c1,c2,c3⟩:=hrest i b g3 hl g2;exact⟨l,c1,fun hv=>(c2 hv).1,c3⟩
 ·rcases hget i bi hi hbi with g | ⟨_,g2,g3⟩<;>rcases hget j bj hj hbj with g' | ⟨_,g2',g3'⟩
  ·exact h1.inj i j bi bj li lj g hbi g' hbj hli hlj v1 v2 e
  ·obtain⟨l,c0,c1,c2,_⟩:=hrest j bj g3' hbj g2';rw[c1]at hlj; obtain rfl:=Option.some.inj hlj;obtain⟨l',d1,d2,_⟩:=h1.blk i bi g hbi;rw[d1]at hli; obtain rfl:=Option.some.inj hli;exact absurd (Or.inr (Or.inl (e▸(c2 v2).2))) (d2 v1)
  ·obtain⟨l,c0,c1,c2,_⟩:=hrest i bi g3 hbi g2;rw[c1]at hli; obtain rfl:=Option.some.inj hli;obtain⟨l',d1,d2,_⟩:=h1.blk j bj g' hbj;rw[d1]at hlj; obtain rfl:=Option.some.inj hlj;exact absurd (Or.inr (Or.inl (e▸(c2 v1).2))) (d2 v2)
  ·obtain⟨l,c0,c1,_⟩:=hrest i bi g3 hbi g2;obtain⟨l',c0',c1',_⟩:=hrest j bj g3' hbj g2';rw[c1]at hli; obtain rfl:=Option.some.inj hli;rw[c1']at hlj; obtain rfl:=Option.some.inj hlj;exact h.inj i j bi bj _ _ g3 hbi g3' hbj c0 c0' v1 v2 e
 ·obtain⟨f1,f2,f3⟩:=h1.frz k l hk;refine⟨f1,f2,fun j bj lj hj hbj hlj hv=>?_⟩;rcases hget j bj hj hbj with g | ⟨_,g2,g3⟩
  ·exact f3 j bj lj g hbj hlj hv
  ·obtain⟨l',_,c1,c2,_⟩:=hrest j bj g3 hbj g2;rw[c1]at hlj; obtain rfl:=Option.some.inj hlj;intro e;exact h1.nofz k l hk (Or.inr (Or.inl (e▸(c2 hv).2)))
 ·refine⟨h1.objs.1,fp,fun i o hi=>?_,fun i k hk=>?_⟩
  ·have hi':st.heap.get i=some (.obj o):=by
    rcases hget i _ hi rfl with g | ⟨_,_,g⟩
    ·exact absurd g (hno1 i o)
    ·exact g
   obtain⟨l,a,b,c⟩:=o1 i o hi';refine⟨l,hle _ _ a,b,K.obs.mono _ _ _ _ _ _ _ c (pW hle) hb.size (fun k hk=>hb.block k (Or.inr (Or.inr ⟨i,hk⟩))) fun k l hk=>?_⟩;obtain⟨_,f2,_⟩:=h.frz k l hk;obtain⟨_,f2',_⟩:=h1.frz k l (hle _ _ hk);rw[f2,f2']
  ·obtain⟨⟨o,ho⟩,a1,a2,a3,a4,a5⟩:=o2 i k hk;have hdead:∀ c,st1.heap.get i=some c->c.live=false:=by
    intro c hc;cases hcl:c.live with
    |false=>rfl
    |true=>
     obtain⟨l',d1,d2,_⟩:=h1.blk i c hc hcl;obtain⟨l,e1,e2,e3⟩:=h.blk i _ ho rfl;have e3:l.virt=false:=e3;rw[hle _ _ e1]at d1;obtain rfl:=Option.some.inj d1;refine absurd (Or.inr (Or.inl ⟨i, .obj o,l,ho,rfl,fun c hc=>?_,e1,e3,rfl⟩)) (d2 e3);cases hcl:c.live with
     |false=>rfl
     |true=>
      have:=hsub i c hc hcl;rw[ho]at this;obtain rfl:=Option.some.inj this;exact absurd hc (hno i o)
   refine⟨⟨o,hobj i o ho hdead⟩,Nat.lt_of_lt_of_le a1 hb.size,a2,?_,a4,fun j bj lj hj hbj hlj hv e=>?_⟩
   ·cases hx:Y' (Int.negSucc k)with
    |none=>rfl
    |some l=>exact absurd (Or.inr (Or.inr ⟨i,hk⟩)) (h1.nofz k l hx)
   ·rcases hget j bj hj hbj with g | ⟨_,g2,g3⟩
    ·obtain⟨l',d1,d2,_⟩:=h1.blk j bj g hbj;rw[d1]at hlj; obtain rfl:=Option.some.inj hlj;exact absurd (Or.inr (Or.inr ⟨i,e▸hk⟩)) (d2 hv)
    ·obtain⟨l',c0,c1,_⟩:=hrest j bj g3 hbj g2;rw[c1]at hlj; obtain rfl:=Option.some.inj hlj;exact a5 j bj _ g3 hbj c0 hv e
structure Memo where
 g:FuncId
 args:List Value
 next:Nat
 pre:List (Nat×Blk)
 v:Value
 next':Nat
 post:List (Nat×Blk)
def u8s(l:List Nat):List Value:=@List.rec Nat (fun _=>List Value) [] (fun n _ ih=> .int .u8 (.ofNat n)::ih) l
def oD(l:List (Nat×Blk)):Trie Blk->Trie Blk:=
 @List.rec (Nat×Blk) (fun _=>Trie Blk->Trie Blk) (fun t=>t) (fun p _ ih t=>ih (aJ (path p.1) t p.2)) l
def zg(l:List (Nat×Blk)):Trie Blk->Trie Blk:=
 @List.rec (Nat×Blk) (fun _=>Trie Blk->Trie Blk) (fun t=>t) (fun p _ ih t=>ih (aJ (path p.1) t .dead)) l
def nZ(l:List (Nat×Blk))(next:Nat):St:=⟨oD l .leaf,next⟩
def IE:List MapEntry->List MapEntry->Bool
 |[],[]=>true
 |x::xs,y::ys=>bK x.key y.key&&bK x.val y.val&&Nat.beq x.born y.born&&IE xs ys
 |_,_=>false
def yg:Blk->Blk->Bool
 | .cells c e x, .cells c' e' x'=>Nat.beq e e'&&(x == x')&&kY c c'
 | .map es c, .map es' c'=>Nat.beq c c'&&IE es es'
 |_,_=>false
theorem Hu:∀ {a b:List MapEntry},IE a b=true->a=b
 |[],[],_=>rfl
 |[],_::_,h=>by cases h
 |_::_,[],h=>by cases h
 |x::xs,y::ys,h=>by
  simp only[IE,Bool.and_eq_true]at h;obtain⟨⟨⟨h1,h2⟩,h3⟩,h4⟩:=h;obtain⟨k,v,b⟩:=x;obtain⟨k',v',b'⟩:=y;simp only at h1 h2 h3;rw[jO _ _ h1,jO _ _ h2,Nat.eq_of_beq_eq_true h3,Hu h4]
theorem QR{a b:Blk}(h:yg a b=true):a=b:=by
 unfold yg at h;split at h
 ·simp only[Bool.and_eq_true,beq_iff_eq]at h;rw[Nat.eq_of_beq_eq_true h.1.1,h.1.2,ng _ _ h.2]
 ·simp only[Bool.and_eq_true]at h;rw[Nat.eq_of_beq_eq_true h.1,Hu h.2]
 ·cases h
theorem KU{a b:Blk}(h:yg a b=true):a.live=true/\a.isObj=false:=by
 unfold yg at h;split at h<;>first | exact⟨rfl,rfl⟩ | cases h
def EJ(t:Trie Blk)(l:List (Nat×Blk)):Bool:=
 @List.rec (Nat×Blk) (fun _=>Bool) true (fun p _ ih=>match bg (path p.1) t with
  |some b=>@Bool.rec (fun _=>Bool) false ih (yg p.2 b)
  |none=>false) l
def kS(l:List (Nat×Blk))(i:Nat)(d:Option Blk):Option Blk:=match l with
 |[]=>d
 |p::l=>kS l i (if i=p.1 then some p.2 else d)
theorem lF:∀ (l:List (Nat×Blk)) (t:Trie Blk) (i:Nat),(oD l t).get i=kS l i (t.get i)
 |[],t,i=>rfl
 |p::l,t,i=>by
  show(oD l (aJ (path p.1) t p.2)).get i=_;rw[lF l,aK,Trie.get_set]
  rfl
theorem BK:∀ (l:List (Nat×Blk)) (t:Trie Blk) (i:Nat),(zg l t).get i=if i∈l.map (·.1)then some .dead else t.get i
 |[],t,i=>by simp[zg]
 |p::l,t,i=>by
  show(zg l (aJ (path p.1) t .dead)).get i=_;rw[BK l,aK,Trie.get_set];by_cases h:i∈l.map (·.1)
  ·rw[if_pos h,if_pos (by simp only[List.map_cons,List.mem_cons]; exact Or.inr h)]
  ·rw[if_neg h];by_cases h2:i=p.1
   ·rw[if_pos h2,if_pos (by simp[h2])]
   ·rw[if_neg h2,if_neg (by simp only[List.map_cons,List.mem_cons,not_or]; exact⟨h2,h⟩)]
theorem eH:∀ (l:List (Nat×Blk)) (i:Nat) (d:Option Blk),(i∉l.map (·.1)/\kS l i d=d)\/(i∈l.map (·.1)/\∃ b,(i,b)∈l/\kS l i d=some b)
 |[],i,d=>Or.inl ⟨by simp,rfl⟩
 |p::l,i,d=>by
  simp only[kS];rcases eH l i (if i=p.1 then some p.2 else d)with⟨h1,h2⟩ | ⟨h1,b,h2,h3⟩
  ·by_cases h:i=p.1
   ·refine Or.inr ⟨by simp[h],p.2,by rw[h]; simp,?_⟩;rw[h2,if_pos h]
   ·refine Or.inl ⟨by simp only[List.map_cons,List.mem_cons,not_or]; exact⟨h,h1⟩,?_⟩;rw[h2,if_neg h]
  ·exact Or.inr ⟨by simp only[List.map_cons,List.mem_cons]; exact Or.inr h1,b,List.mem_cons_of_mem _ h2,h3⟩
theorem vG{i:Nat}:∀ {l:List (Nat×Blk)},i∈l.map (·.1)->∀ (d d':Option Blk),kS l i d=kS l i d'
 |[],h,_,_=>by cases h
 |p::l,h,d,d'=>by
  simp only[kS];by_cases hp:i=p.1
  ·rw[if_pos hp,if_pos hp]
  ·rw[if_neg hp,if_neg hp];simp only[List.map_cons,List.mem_cons]at h;exact vG (h.resolve_left hp) d d'
theorem m_{t:Trie Blk}:∀ {l:List (Nat×Blk)},EJ t l=true->∀ {i b},(i,b)∈l->t.get i=some b/\b.live=true/\b.isObj=false
 |[],_,i,b,h=>by cases h
 |p::l,hm,i,b,h=>by
  change (match bg (path p.1) t with
   |some b=>@Bool.rec (fun _=>Bool) false (EJ t l) (yg p.2 b)
   |none=>false)=true at hm
  rw[aP]at hm;split at hm
  ·rename_i b' hb';cases hq:yg p.2 b' with
   |false=>rw[hq]at hm; cases hm
   |true=>
    rw[hq]at hm;rcases List.mem_cons.1 h with h | h
    ·subst h;obtain rfl:=QR hq;exact⟨hb',KU hq⟩
    ·exact m_ hm h
  ·cases hm
def zq(m:Memo)(g:FuncId)(args:List Value)(st:St):Bool:=and (Nat.beq m.next st.next) (and (kY m.args args) (EJ st.heap m.pre))
def Ah(m:Memo)(st:St):St:=⟨oD m.post (zg m.pre st.heap),m.next'⟩
def ax(P:Program)(m:Memo):Prop:=∀ K Y w args' cs,VRL Y m.args args'.toList->Rel P K Y (nZ m.pre m.next) w->jy P K Y m.g args' .normal cs w m.v (nZ m.post m.next')/\m.next<=m.next'/\∀ i b,(i,b)∈m.post->b.live=true/\b.isObj=false
def Nr(l:List Memo)(g:FuncId)(args:List Value)(st:St)(other:Option (DT (Value×St))):Option (DT (Value×St)):=
 @List.rec Memo (fun _=>Option (DT (Value×St))) other (fun m _ ih=>match and (Nat.beq m.g g) (Nat.beq m.next st.next)with
  |true=>some (.ite (zq m g args st) (.leaf (m.v,Ah m st)) .fail)
  |false=>ih) l
def nG(l:List Memo)(ct:Ct):Ct where
 call:=fun g args st=>Nr l g args st (ct.call g args st)
 loop:=ct.loop
 op:=ct.op
theorem OA{m:Memo}(hm:ax P m){K:Prot}{Y:Env}{st:St}{w:World}{args:List Value}{args':Array Value}{cs:List Frame}(hf:zq m m.g args st=true)(ha:VRL Y args args'.toList)(hr:Rel P K Y st w) :
  jy P K Y m.g args' .normal cs w m.v (Ah m st):=by
 unfold zq at hf;simp only[Bool.and_eq_true]at hf;obtain⟨f1,f2,f3⟩:=hf;have f1:=Nat.eq_of_beq_eq_true f1;obtain rfl:=ng _ _ f2;have h0:∀ i,(nZ m.pre m.next).heap.get i=kS m.pre i none:=by
  intro i;show(oD m.pre .leaf).get i=_;rw[lF]; rfl
 obtain⟨K',k1,k2,k3,k4⟩:=hr.part (st0:=nZ m.pre m.next) f1 (fun i b hi _=>by
  rw[h0]at hi;rcases eH m.pre i none with⟨_,e⟩ | ⟨_,b',hb',e⟩
  ·rw[e]at hi; cases hi
  ·rw[e]at hi; obtain rfl:=Option.some.inj hi;exact(m_ f3 hb').1) (fun i o hi=>by
  rw[h0]at hi;rcases eH m.pre i none with⟨_,e⟩ | ⟨_,b',hb',e⟩
  ·rw[e]at hi; cases hi
  ·rw[e]at hi; obtain rfl:=Option.some.inj hi;have:=(m_ f3 hb').2.2
   cases this)
 obtain⟨⟨Y',fr,w',v',c1,c2,c3,c4,c5,c6⟩,hn,hob⟩:=hm K' Y w args' cs ha k3;have h1:∀ i,(nZ m.post m.next').heap.get i=kS m.post i none:=by
  intro i;show(oD m.post .leaf).get i=_;rw[lF]; rfl
 have h2:∀ i,(Ah m st).heap.get i=kS m.post i (if i∈m.pre.map (·.1)then some .dead else st.heap.get i):=by
  intro i;show(oD m.post (zg m.pre st.heap)).get i=_;rw[lF,BK]
 have hno1:∀ i o,(nZ m.post m.next').heap.get i≠some (.obj o):=by
  intro i o hi;rw[h1]at hi;rcases eH m.post i none with⟨_,e⟩ | ⟨_,b',hb',e⟩
  ·rw[e]at hi; cases hi
  ·rw[e]at hi; obtain rfl:=Option.some.inj hi;have:=(hob i _ hb').2;cases this
 refine⟨Y',fr,w',v',c1,c2,k4 Y' _ (Ah m st) w' c2 c3 c4 (by rw[<-f1]; exact hn) hno1 rfl (fun i b hi hl=>?_) (fun i o hi hdead=>?_),c4.mono k1,c5,c6⟩
 ·rw[h2]at hi;rw[h1,h0];rcases eH m.post i (if i∈m.pre.map (·.1)then some .dead else st.heap.get i)with⟨n1,e⟩ | ⟨n1,b',hb',e⟩
  ·rw[e]at hi;have e1:kS m.post i none=none:=by
    rcases eH m.post i none with⟨_,e⟩ | ⟨n,_⟩
    ·exact e
    ·exact absurd n n1
   by_cases hp:i∈m.pre.map (·.1)
   ·rw[if_pos hp]at hi;obtain rfl:=Option.some.inj hi;cases hl
   ·rw[if_neg hp]at hi;refine Or.inr ⟨fun c hc=>(by rw[e1]at hc; cases hc),fun c hc=>?_,hi⟩;rcases eH m.pre i none with⟨_,e⟩ | ⟨n,_⟩
    ·rw[e]at hc; cases hc
    ·exact absurd n hp
  ·refine Or.inl ?_;rw[e]at hi;rw[<-hi];rw[<-e]; exact vG n1 _ _
 ·rw[h2];have hnp:i∉m.pre.map (·.1):=by
   intro hp;obtain⟨⟨j,b⟩,hq,rfl⟩:=List.mem_map.1 hp;obtain⟨q1,q2,q3⟩:=m_ f3 hq;rw[hi]at q1;obtain rfl:=Option.some.inj q1;cases q3
  rcases eH m.post i (if i∈m.pre.map (·.1)then some .dead else st.heap.get i)with⟨_,e⟩ | ⟨n1,b',hb',e⟩
  ·rw[e,if_neg hnp]; exact hi
  ·have:=hdead b' (by rw[h1,vG n1 none (if i∈m.pre.map (·.1)then some .dead else st.heap.get i)]; exact e);rw[(hob i b' hb').1]at this;cases this
theorem lV{l:List Memo}(hct:CtOk P ct)(h:∀ m∈l,ax P m):CtOk P (nG l ct) where
 opc:=hct.opc
 op:=hct.op
 loop:=hct.loop
 call:=by
  intro K g args st v st' hl Y w args' cs ha hr;simp only[nG]at hl
  induction l with
  |nil=>exact hct.call K g args st v st' hl Y w args' cs ha hr
  |cons m l ih=>
   change (match and (Nat.beq m.g g) (Nat.beq m.next st.next)with
    |true=>some (DT.ite (zq m g args st) (.leaf (m.v,Ah m st)) .fail)
    |false=>Nr l g args st (ct.call g args st)).bind DT.eval=some (v,st')at hl
   split at hl
   ·rename_i hb;simp only[Bool.and_eq_true]at hb;obtain rfl:=Nat.eq_of_beq_eq_true hb.1;simp only[Option.bind_some]at hl;cases hf:zq m m.g args st with
    |false=>rw[hf]at hl; cases hl
    |true=>
     rw[hf]at hl;simp only[DT.eval,Option.some.injEq,Prod.mk.injEq]at hl;obtain⟨rfl,rfl⟩:=hl;exact OA (h m (by simp)) hf ha hr
   ·exact ih (fun m hm=>h m (by simp[hm])) hl
def DJ(m:Memo)(v:Value)(st:St):Res:=
 @Bool.rec (fun _=>Res) none (some (.bool true,st)) (and (bK m.v v) (and (Nat.beq m.next' st.next) (and (EJ st.heap m.post) (Nat.ble m.next m.next'))))
def Pq(P:Program)(E:Eng)(ct:Ct)(n:Nat)(m:Memo):Bool:=
 match(kP P E ct n n).call m.g m.args (nZ m.pre m.next) (DJ m)with
 |some _=>true
 |none=>false
theorem ax.ev(hN:noNum P=true)(hct:CtOk P ct){i:Nat}{m:Memo}{v1:Value}{st1:St}{r:Value×St}(h1:bQ P ct i m.g m.args (nZ m.pre m.next)=some (v1,st1))(h2:DJ m v1 st1=some r):ax P m:=by
 intro K Y w args' cs ha hr;obtain⟨Y1,fr,w1,v',a1,a2,a3,a4,a5,a6⟩:=(bU hN hct i K).call m.g m.args (nZ m.pre m.next) v1 st1 h1 Y w args' .normal cs (Or.inl rfl) ha hr;unfold DJ at h2;cases hb:(and (bK m.v v1) (and (Nat.beq m.next' st1.next) (and (EJ st1.heap m.post) (Nat.ble m.next m.next'))))with
 |false=>rw[hb]at h2; cases h2
 |true=>
  simp only[Bool.and_eq_true]at hb;obtain⟨b1,b2,b3,b4⟩:=hb;obtain rfl:=jO _ _ b1;have b2:=Nat.eq_of_beq_eq_true b2;refine⟨⟨Y1,fr,w1,v',a1,a2,?_,a4,a5,a6⟩,Nat.le_of_ble_eq_true b4,fun i b hi=>(m_ b3 hi).2⟩;have hg:∀ i b,(nZ m.post m.next').heap.get i=some b->st1.heap.get i=some b/\b.isObj=false:=by
   intro i b hi;have:(nZ m.post m.next').heap.get i=kS m.post i none:=by
    show(oD m.post .leaf).get i=_;rw[lF]; rfl
   rw[this]at hi;rcases eH m.post i none with⟨_,e⟩ | ⟨_,b',hb',e⟩
   ·rw[e]at hi; cases hi
   ·rw[e]at hi; obtain rfl:=Option.some.inj hi;obtain⟨q1,q2,q3⟩:=m_ b3 hb';exact⟨q1,q3⟩
  refine⟨a3.base,fun i l hi=>by show i<m.next'/\_; rw[b2]; exact a3.dom i l hi,fun i b hi hl=>a3.blk i b (hg i b hi).1 hl,fun i j bi bj li lj hi hbi hj hbj=>a3.inj i j bi bj li lj (hg i bi hi).1 hbi (hg j bj hj).1 hbj,
   fun i hi=>by show i<m.next'/\_; rw[b2]; exact a3.res i hi,a3.nofz,fun k l hk=>?_,?_⟩
  ·obtain⟨f1,f2,f3⟩:=a3.frz k l hk;exact⟨f1,f2,fun j bj lj hj hbj=>f3 j bj lj (hg j bj hj).1 hbj⟩
  ·exact⟨a3.objs.1,fun _ _=>False,fun i o hi=>(by have:=(hg i _ hi).2; cases this),fun i k hk=>hk.elim⟩
theorem ax.of{E:Eng}(hE:EngOk P ct E)(hN:noNum P=true)(hct:CtOk P ct){n:Nat}{m:Memo}(h:Pq P E ct n m=true):ax P m:=by
 unfold Pq at h;split at h
 ·rename_i r hk;obtain⟨i,v1,st1,h1,h2⟩:=(fJ hE n n).call _ _ _ _ _ hk;exact ax.ev hN hct h1 h2
 ·cases h
def PK(P:Program)(ct:Ct)(n:Nat)(m:Memo):Bool:=match bQ P ct n m.g m.args (nZ m.pre m.next)with
 |some (v,st)=>(DJ m v st).isSome
 |none=>false
theorem ax.ofP(hN:noNum P=true)(hct:CtOk P ct){n:Nat}{m:Memo}(h:PK P ct n m=true):ax P m:=by
 unfold PK at h;split at h
 ·rename_i v st h1;obtain⟨r,h2⟩:=Option.isSome_iff_exists.1 h;exact ax.ev hN hct h1 h2
 ·cases h
theorem nV:∀ m∈([]:List Memo),ax P m:=by simp
theorem aN{m:Memo}{l:List Memo}(h:ax P m)(hl:∀ m∈l,ax P m):∀ x∈m::l,ax P x:=by
 intro x hx;rcases List.mem_cons.1 hx with rfl | hx
 ·exact h
 ·exact hl x hx
end
section
variable{P:Program}{ct:Ct}
def renC(Z:Nat->Option Nat):Blk->Blk
 | .cells c e x=> .cells (renL true Z c) e x
 | .map es c=> .map (KA true Z es) c
 | .siter s p=> .siter s p
 |_=> .dead
theorem FP{Z:Nat->Option Nat}{Y Y':Env}(h:RenOk true Z Y Y'){l:Loc}{b:Blk}{o:Option Obj}(r:bY P Y l b o):bY P Y' l (renC Z b) o:=by
 cases b with
 |cells c e x=>exact pG h (b:= .cells c e x) r
 |map es c=>exact pG h (b:= .map es c) r
 |siter s p=>exact pG h (b:= .siter s p) r
 |_=>exact trivial
theorem jA{Z:Nat->Option Nat}{b:Blk}(h:(renC Z b).live=true):b.live=true:=by cases b<;>first | rfl | cases h
theorem sU{Z:Nat->Option Nat}{b:Blk}{o:Ob}:renC Z b≠ .obj o:=by cases b<;>simp[renC]
def qh(l:List Nat):Trie Blk->Trie Blk:=@List.rec Nat (fun _=>Trie Blk->Trie Blk) (fun t=>t) (fun i _ ih t=>ih (aJ (path i) t .dead)) l
theorem uX:∀ (l:List Nat) (t:Trie Blk) (i:Nat),(qh l t).get i=if i∈l then some .dead else t.get i
 |[],t,i=>by simp[qh]
 |p::l,t,i=>by
  show(qh l (aJ (path p) t .dead)).get i=_;rw[uX l,aK,Trie.get_set];by_cases h:i∈l
  ·rw[if_pos h,if_pos (List.mem_cons_of_mem _ h)]
  ·rw[if_neg h];by_cases h2:i=p
   ·rw[if_pos h2,if_pos (by simp[h2])]
   ·rw[if_neg h2,if_neg (by simp only[List.mem_cons,not_or]; exact⟨h2,h⟩)]
theorem CS{g:Value->Value}:∀ (ts:List Tmp) (vs:List Value) (s s':Trie Value),(∀ i,(s'.get i).getD undef=g ((s.get i).getD undef))->∀ i,((jh ts (vs.map g) s').get i).getD undef=g (((jh ts vs s).get i).getD undef)
 |[],[],s,s',h,i=>by simpa [jh]using h i
 |[],v::vs,s,s',h,i=>by simpa [jh]using h i
 |t::ts,[],s,s',h,i=>by simpa [jh]using h i
 |t::ts,v::vs,s,s',h,i=>by
  simp only[List.map_cons,jh];refine CS ts vs _ _ (fun j=>?_) i;rw[aK,aK,Trie.get_set,Trie.get_set];by_cases hj:j=t
  ·rw[if_pos hj,if_pos hj]; rfl
  ·rw[if_neg hj,if_neg hj]; exact h j
theorem QX{g:Value->Value}(h1:g mr=mr)(h2:g undef=undef)(nt:Nat)(L:List Tmp)(vs:List Value)(i:Nat):((mkS nt L (vs.map g)).get i).getD undef=g (((mkS nt L vs).get i).getD undef):=by
 unfold mkS;refine CS L vs _ _ (fun j=>?_) i;rw[lH];split
 ·rename_i hj;simp only[List.length_replicate]at hj;rw[List.getElem?_replicate,if_pos (by omega)];exact h1.symm
 ·show undef=g undef;exact h2.symm
theorem MB{z:Bool}{Z:Nat->Option Nat}:bV z Z undef=undef:=by
 unfold undef; rfl
end
section
variable{P:Program}{ct:Ct}
def bC:List Nat->Nat->Nat->Option Nat
 |[],n,j=>some (n+j)
 |b::l,n,j=>match j with
  |0=>some b
  |j+1=>bC l n j
theorem pI:∀ (l:List Nat) (n j:Nat),j<l.length->bC l n j=l[j]?
 |[],n,j,h=>by simp at h
 |b::l,n,0,h=>rfl
 |b::l,n,j+1,h=>by simpa [bC]using pI l n j (by simpa using h)
theorem o6:∀ (l:List Nat) (n j:Nat),l.length<=j->bC l n j=some (n+(j-l.length))
 |[],n,j,h=>rfl
 |b::l,n,0,h=>by simp at h
 |b::l,n,j+1,h=>by
  have:=o6 l n j (by simpa using h);simpa [bC,Nat.add_sub_add_right]using this
def jS(Z:Nat->Option Nat)(src:List Nat):List Blk->Nat->Trie Blk->Trie Blk:=
 @List.rec Nat (fun _=>List Blk->Nat->Trie Blk->Trie Blk) (fun bs n t=>ug (bs.map (renC Z)) n t)
  (fun b _ ih bs n t=>match bs with
   |x::bs=>ih bs n (aJ (path b) t (renC Z x))
   |[]=>t) src
def qY(src:List Nat)(st:St)(bs:List Blk):St:=⟨jS (bC src st.next) src bs st.next st.heap,st.next+(bs.length-src.length)⟩
theorem jB{Z:Nat->Option Nat}:∀ (src:List Nat) (bs:List Blk) (n:Nat) (t:Trie Blk) (i:Nat),src.Nodup->src.length<=bs.length->(∀ b∈src,b<n)->
  (∃ j:Nat,src[j]? = some i/\(jS Z src bs n t).get i=(bs[j]?).map (renC Z))\/(i∉src/\(jS Z src bs n t).get i=if n<=i/\i<n+(bs.length-src.length)then(bs[i-n+src.length]?).map (renC Z)else t.get i)
 |[],bs,n,t,i,_,_,_=>by
  refine Or.inr ⟨by simp,?_⟩;show(ug (bs.map (renC Z)) n t).get i=_;rw[lH];simp only[List.length_map,List.getElem?_map,List.length_nil,Nat.sub_zero,Nat.add_zero]
 |b::l,[],n,t,i,_,h,_=>by simp at h
 |b::l,x::bs,n,t,i,hnd,h,hlt=>by
  obtain⟨hb,hnd⟩:=List.nodup_cons.1 hnd;have e:jS Z (b::l) (x::bs) n t=jS Z l bs n (aJ (path b) t (renC Z x)):=rfl;rw[e];rcases jB l bs n (aJ (path b) t (renC Z x)) i hnd (by simpa using h) (fun c hc=>hlt c (List.mem_cons_of_mem _ hc))with⟨j,h1,h2⟩ | ⟨h1,h2⟩
  ·exact Or.inl ⟨j+1,by simpa using h1,by simpa using h2⟩
  ·by_cases hib:i=b
   ·subst hib;refine Or.inl ⟨0,rfl,?_⟩;have:=hlt i (by simp);rw[h2,if_neg (by omega),aK,Trie.get_set,if_pos rfl]; rfl
   ·refine Or.inr ⟨by simp only[List.mem_cons,not_or]; exact⟨hib,h1⟩,?_⟩;rw[h2,aK,Trie.get_set,if_neg hib];simp only[List.length_cons,Nat.add_sub_add_right];rw[show i-n+(l.length+1)=(i-n+l.length)+1 by omega,List.getElem?_cons_succ]
theorem uV:∀ {l:List Nat} {i j a:Nat},l.Nodup->l[i]? = some a->l[j]? = some a->i=j
 |[],i,j,a,_,h,_=>by simp at h
 |x::l,0,0,a,_,_,_=>rfl
 |x::l,0,j+1,a,hnd,h1,h2=>by
  have h1:x=a:=by simpa using h1
  subst h1;exact absurd (List.mem_of_getElem? (by simpa using h2)) (List.nodup_cons.1 hnd).1
 |x::l,i+1,0,a,hnd,h1,h2=>by
  have h2:x=a:=by simpa using h2
  subst h2;exact absurd (List.mem_of_getElem? (by simpa using h1)) (List.nodup_cons.1 hnd).1
 |x::l,i+1,j+1,a,hnd,h1,h2=>by
  exact congrArg (·+1) (uV (List.nodup_cons.1 hnd).2 (show l[i]? = some a by simpa using h1) (show l[j]? = some a by simpa using h2))
def CRM(P:Program)(g:FuncId)(args:List Value)(bs:List Blk)(v:Value)(bs':List Blk):Prop:=
 ∀ (K:Prot) (Y:Env) (w:World) (args':Array Value) (cs:List Frame),(∀ i,¬K.id i)->VRL Y args args'.toList->Rel P K Y (mkSt bs) w->jy P K Y g args' .normal cs w v (mkSt bs')/\bs.length<=bs'.length
def gV(src:List Nat)(n:Nat)(Y Y1:Env):Env
 | .ofNat i=>if i<n then Y (i:Int)else Y1 ((i-n+src.length:Nat):Int)
 | .negSucc k=>Y1 (.negSucc k)
theorem MP{K:Prot}{Y:Env}{st:St}{w:World}(h:Rel P K Y st w){src:List Nat}(hnd:src.Nodup)(hcells:∀ b∈src,∃ x,st.heap.get b=some x/\Bf x=true) :
  ∃ K':Prot,(∀ k,K k->K' k)/\(∀ i,¬K'.id i)/\Rel P K' (fB 0 src Y) (mkSt (src.map fun b=>gY true (rhoO 0 src) (st.heap.get b))) w/\
   ∀ (Y1:Env) (bs1:List Blk) (w1:World),(fB 0 src Y).le Y1->src.length<=bs1.length->Rel P K' Y1 (mkSt bs1) w1->Bel K' w w1->
    Y.le (gV src st.next Y Y1)/\Rel P K (gV src st.next Y Y1) (qY src st bs1) w1/\RenOk true (bC src st.next) Y1 (gV src st.next Y Y1):=by
 let st0:St:=⟨oD (src.map fun b=>(b,(st.heap.get b).getD .dead)) .leaf,st.next⟩
 have h0:∀ i,st0.heap.get i=if i∈src then st.heap.get i else none:=by
  intro i;show(oD _ .leaf).get i=_;rw[lF];rcases eH (src.map fun b=>(b,(st.heap.get b).getD .dead)) i ((Trie.leaf:Trie Blk).get i)with⟨n,e⟩ | ⟨n,b',hb',e⟩
  ·rw[e];have:i∉src:=fun hi=>n (by simp only[List.map_map,List.mem_map]; exact⟨i,hi,rfl⟩);rw[if_neg this]; rfl
  ·rw[e];obtain⟨j,hj,hje⟩:=List.mem_map.1 hb';simp only[Prod.mk.injEq]at hje;obtain⟨rfl,rfl⟩:=hje;obtain⟨x,hc,hcm⟩:=hcells j hj;rw[if_pos hj,hc]; rfl
 obtain⟨K1,k1,k2,k3,k4⟩:=h.part (st0:=st0) rfl (fun i b hi _=>by
  rw[h0]at hi;split at hi
  ·exact hi
  ·cases hi) (fun i o hi=>by
  rw[h0]at hi;split at hi
  ·rename_i hm;obtain⟨x,hc,hcm⟩:=hcells i hm;rw[hc]at hi; cases hi; cases hcm
  ·cases hi)
 let K':Prot:=⟨K1.blk,fun _=>False,K1.nofz,K1.obs,K1.sub⟩
 have r0:Rel P K' Y st0 w:=⟨k3.base,k3.dom,k3.blk,k3.inj,fun i hi=>hi.elim,k3.nofz,k3.frz,k3.objs⟩
 have hmid:=iY (N:=0) (src:=src) r0 (fun i hi=>hi.elim) (Nat.zero_le _) hnd (fun b hb=>by
  obtain⟨x,hc,hcm⟩:=hcells b hb
  exact⟨x,by rw[h0,if_pos hb]; exact hc,hcm⟩)
 have hms:(src.map fun b=>gY true (rhoO 0 src) (st0.heap.get b))=src.map fun b=>gY true (rhoO 0 src) (st.heap.get b):=by
  apply List.map_congr_left;intro b hb;rw[h0,if_pos hb]
 have hsrc:∀ b∈src,∃ l,Y (b:Int)=some l/\b<st.next:=by
  intro b hb;obtain⟨x,hc,hcm⟩:=hcells b hb;obtain⟨l,hl,_⟩:=h.blk b _ hc (CJ hcm);exact⟨l,hl,(h.dom b l hl).1⟩
 refine⟨K',k1,fun i hi=>hi,by rw[<-hms]; exact hmid,fun Y1 bs1 w1 hle hlen h1 hb=>?_⟩;have hneg:∀ k l,Y (Int.negSucc k)=some l->Y1 (Int.negSucc k)=some l:=fun k l hk=>hle (Int.negSucc k) l hk;have hre:∀ (j b:Nat),src[j]? = some b->Y1 (j:Int)=Y (b:Int):=by
  intro j b hj;obtain⟨l,hl,_⟩:=hsrc b (List.mem_of_getElem? hj);rw[hl];refine hle j l ?_;show(if j<0 then Y (j:Int)else match src[j-0]? with | some b=>Y (b:Int) | none=>none)=_;rw[if_neg (by omega),Nat.sub_zero,hj]; exact hl
 have hple:Y.le (gV src st.next Y Y1):=by
  intro i l hi;cases i with
  |negSucc k=>exact hneg k l hi
  |ofNat i=>
   have:=(h.dom i l hi).1;show(if i<st.next then Y (i:Int)else _)=_;rw[if_pos this]; exact hi
 have hold:∀ i,i<st.next->gV src st.next Y Y1 (i:Int)=Y (i:Int):=by
  intro i hi;show(if i<st.next then Y (i:Int)else _)=_;rw[if_pos hi]
 have hbig:∀ i,st.next<=i->gV src st.next Y Y1 (i:Int)=Y1 ((i-st.next+src.length:Nat):Int):=by
  intro i hi;show(if i<st.next then Y (i:Int)else _)=_;rw[if_neg (by omega)]
 have hren:RenOk true (bC src st.next) Y1 (gV src st.next Y Y1):=by
  refine⟨fun b b' l hb hl=>?_,fun _ k l hk=>hk⟩;by_cases hbl:b<src.length
  ·rw[pI _ _ _ hbl]at hb;rw[hold b' (hsrc b' (List.mem_of_getElem? hb)).choose_spec.2,<-hre b b' hb]; exact hl
  ·rw[o6 _ _ _ (by omega)]at hb;obtain rfl:=Option.some.inj hb;rw[hbig _ (Nat.le_add_right _ _),show st.next+(b-src.length)-st.next+src.length=b by omega]; exact hl
 have hfrom:∀ (t:Trie Blk) (i:Nat) b,(jS (bC src st.next) src bs1 st.next t).get i=some b->(∃ (j:Nat) (b0:Blk),bs1[j]? = some b0/\b=renC (bC src st.next) b0/\gV src st.next Y Y1 (i:Int)=Y1 (j:Int)/\bC src st.next j=some i/\(i∈src\/st.next<=i/\i<st.next+(bs1.length-src.length)))\/(i∉src/\¬(st.next<=i/\i<st.next+(bs1.length-src.length))/\t.get i=some b):=by
  intro t i b hi;rcases jB src bs1 st.next t i hnd hlen (fun b hb=>(hsrc b hb).choose_spec.2)with⟨j,g1,g2⟩ | ⟨g1,g2⟩
  ·rw[g2]at hi;cases hx:bs1[j]? with
   |none=>rw[hx]at hi; cases hi
   |some b0=>
    rw[hx]at hi;have hm:=List.mem_of_getElem? g1;refine Or.inl ⟨j,b0,hx,(Option.some.inj hi).symm,?_,?_,Or.inl hm⟩
    ·rw[hold i (hsrc i hm).choose_spec.2,hre j i g1]
    ·rw[pI _ _ _ (List.getElem?_eq_some_iff.1 g1).1]; exact g1
  ·rw[g2]at hi;split at hi
   ·rename_i hr;cases hx:bs1[i-st.next+src.length]? with
    |none=>rw[hx]at hi; cases hi
    |some b0=>
     rw[hx]at hi;refine Or.inl ⟨_,b0,hx,(Option.some.inj hi).symm,hbig i hr.1,?_,Or.inr hr⟩;rw[o6 _ _ _ (by omega)];congr 1;omega
   ·rename_i hr;exact Or.inr ⟨g1,hr,hi⟩
 have hlone:∀ (i:Nat) b,(qY src ⟨.leaf,st.next⟩ bs1).heap.get i=some b->∃ (j:Nat) (b0:Blk),(mkSt bs1).heap.get j=some b0/\b=renC (bC src st.next) b0/\gV src st.next Y Y1 (i:Int)=Y1 (j:Int)/\bC src st.next j=some i:=by
  intro i b hi;rcases hfrom .leaf i b hi with⟨j,b0,g1,g2,g3,g4,_⟩ | ⟨_,_,g⟩
  ·exact⟨j,b0,by rw[bz]; exact g1,g2,g3,g4⟩
  ·cases g
 have hnx:(mkSt bs1).next=bs1.length:=rfl
 have rl:Rel P K1 (gV src st.next Y Y1) (qY src ⟨.leaf,st.next⟩ bs1) w1:=by
  refine⟨h1.base,fun i l hi=>?_,fun i b hi hl=>?_,fun i j bi bj li lj hi hbi hj hbj hli hlj v1 v2 e=>?_,fun i hi=>?_,fun k l hk=>h1.nofz k l hk,fun k l hk=>?_,h1.objs.1.neg fun _ _ h=>h,fun _ _=>False,fun i o hi=>?_,fun i k hk=>hk.elim⟩
  ·by_cases hin:i<st.next
   ·rw[hold i hin]at hi;obtain⟨a1,a2⟩:=h.dom i l hi;exact⟨Nat.lt_of_lt_of_le a1 (Nat.le_add_right _ _),fun hv=>Nat.lt_of_lt_of_le (a2 hv) hb.size⟩
   ·rw[hbig i (by omega)]at hi;obtain⟨a1,a2⟩:=h1.dom _ l hi;exact⟨by show i<st.next+(bs1.length-src.length); omega,a2⟩
  ·obtain⟨j,b0,a2,rfl,a3,_⟩:=hlone i b hi;obtain⟨l,c1,c2,c3⟩:=h1.blk _ b0 a2 (jA hl);exact⟨l,by rw[a3]; exact c1,c2,FP hren c3⟩
  ·obtain⟨i',b0,a2,rfl,a3,a4⟩:=hlone i bi hi;obtain⟨j',d0,c2,rfl,c3,c4⟩:=hlone j bj hj;rw[a3]at hli;rw[c3]at hlj;have:=h1.inj _ _ b0 d0 li lj a2 (jA hbi) c2 (jA hbj) hli hlj v1 v2 e;rw[this,c4]at a4;exact(Option.some.inj a4).symm
  ·rw[k2]at hi;obtain⟨a1,a2⟩:=h.res i hi;exact⟨Nat.lt_of_lt_of_le a1 (Nat.le_add_right _ _),by rw[hold i a1]; exact a2⟩
  ·obtain⟨f1,f2,f3⟩:=h1.frz k l hk;refine⟨f1,f2,fun j bj lj hj hbj hlj hv=>?_⟩;obtain⟨j',d0,c2,rfl,c3,_⟩:=hlone j bj hj;rw[c3]at hlj;exact f3 _ d0 lj c2 (jA hbj) hlj hv
  ·obtain⟨_,b0,_,e,_⟩:=hlone i _ hi;exact(sU e.symm).elim
 refine⟨hple,k4 _ (qY src ⟨.leaf,st.next⟩ bs1) _ w1 hple rl ⟨hb.os,hb.tape,hb.output,hb.size,hb.block⟩ (Nat.le_add_right _ _) (fun i o hi=>?_) rfl (fun i b hi hl=>?_) (fun i o hi hdead=>?_),hren⟩
 ·obtain⟨_,b0,_,e,_⟩:=hlone i _ hi;exact(sU e.symm).elim
 ·have hq:=jB (Z:=bC src st.next) src bs1 st.next .leaf i hnd hlen (fun b hb=>(hsrc b hb).choose_spec.2)
  have hq2:=jB (Z:=bC src st.next) src bs1 st.next st.heap i hnd hlen (fun b hb=>(hsrc b hb).choose_spec.2)
  have hi:(jS (bC src st.next) src bs1 st.next st.heap).get i=some b:=hi;rcases hq2 with⟨j,g1,g2⟩ | ⟨g1,g2⟩
  ·refine Or.inl ?_;rcases hq with⟨j',g1',g2'⟩ | ⟨g1',_⟩
   ·have:j'=j:=uV hnd g1' g1;subst this;show(jS _ src bs1 st.next .leaf).get i=_;rw[g2',<-g2]; exact hi
   ·exact absurd (List.mem_of_getElem? g1) g1'
  ·rcases hq with⟨j',g1',g2'⟩ | ⟨g1',g2'⟩
   ·exact absurd (List.mem_of_getElem? g1') g1
   ·rw[g2]at hi;split at hi
    ·rename_i hr;refine Or.inl ?_;show(jS _ src bs1 st.next .leaf).get i=_;rw[g2',if_pos hr]; exact hi
    ·rename_i hr;refine Or.inr ⟨fun c hc=>?_,fun c hc=>?_,hi⟩
     ·have hc:(jS _ src bs1 st.next .leaf).get i=some c:=hc;rw[g2',if_neg hr]at hc; cases hc
     ·rw[h0,if_neg g1]at hc; cases hc
 ·obtain⟨l,hl,_⟩:=h.blk i _ hi rfl;have hlt:=(h.dom i l hl).1;show(jS _ src bs1 st.next st.heap).get i=_;rcases jB (Z:=bC src st.next) src bs1 st.next st.heap i hnd hlen (fun b hb=>(hsrc b hb).choose_spec.2)with⟨j,g1,g2⟩ | ⟨g1,g2⟩
  ·obtain⟨x,hc,hcm⟩:=hcells i (List.mem_of_getElem? g1);rw[hi]at hc; cases hc; cases hcm
  ·rw[g2,if_neg (by omega)]; exact hi
def uh(l:List Value):List Nat:=
 @List.rec Value (fun _=>List Nat) [] (fun v _ ih=>match v with
  | .slice (some a) _ _=>@Bool.rec (fun _=>List Nat) (a.block::ih) ih (jb ih a.block)
  | .pointer (some a)=>@Bool.rec (fun _=>List Nat) (a.block::ih) ih (jb ih a.block)
  |_=>ih) l
abbrev dJ:=List Value->List Blk->Option (DT (Value×List Blk))
def Iw(R:dJ)(args:List Value)(st:St):Option (DT (Value×St)):=
 match jE 0 (uh args) (fun i=>bg (path i) st.heap) (uh args)with
 |some ms=>match R (args.map (bV true (rhoO 0 (uh args)))) ms with
  |some t=>some (t.map fun x=>(bV true (bC (uh args) st.next) x.1,qY (uh args) st x.2))
  |none=>none
 |none=>none
def yB(g:FuncId)(R:dJ)(ct:Ct):Ct where
 call:=fun g' args st=>match Nat.beq g' g with
  |true=>match Iw R args st with
   |some t=>some t
   |none=>ct.call g' args st
  |false=>ct.call g' args st
 loop:=ct.loop
 op:=ct.op
structure CallOkM(P:Program)(g:FuncId)(R:dJ):Prop where
 run:∀ args bs t,R args bs=some t->∀ v bs',t.eval=some (v,bs')->CRM P g args bs v bs'
theorem qZ(src:List Nat)(Y:Env):RenOk true (rhoO 0 src) Y (fB 0 src Y):=by
 refine⟨fun b b' l hb hl=>?_,fun _ k l h=>h⟩;unfold rhoO at hb;split at hb
 ·rename_i j hj;obtain rfl:=Option.some.inj hb;obtain⟨k,rfl,hk⟩:=lN _ _ _ _ hj;show(if 0+k<0 then Y ((0+k:Nat):Int)else match src[0+k-0]? with | some b=>Y (b:Int) | none=>none)=_;rw[if_neg (by omega),show 0+k-0=k by omega,hk]; exact hl
 ·split at hb
  ·rename_i hle;exact absurd (Nat.le_of_ble_eq_true hle) (by omega)
  ·cases hb
theorem Gx{g:FuncId}{R:dJ}(hct:CtOk P ct)(h:CallOkM P g R):CtOk P (yB g R ct) where
 opc:=hct.opc
 op:=hct.op
 loop:=hct.loop
 call:=by
  intro K g' args st v st' hl Y w args' cs ha hr;simp only[yB]at hl;split at hl
  ·rename_i hb;obtain rfl:=Nat.eq_of_beq_eq_true hb;split at hl
   ·rename_i t0 hcall;unfold Iw at hcall;split at hcall
    ·rename_i ms hm;split at hcall
     ·rename_i t hR;obtain rfl:=Option.some.inj hcall;simp only[Option.bind_some]at hl;obtain⟨⟨v1,bs1⟩,hev,heq⟩:=DT.map_eval hl;simp only[Prod.mk.injEq]at heq;obtain⟨rfl,rfl⟩:=heq;obtain⟨m1,m2,m3⟩:=iD hm;simp only[aP]at m2 m3;obtain⟨K',k1,k2,k3,k4⟩:=MP hr m1 m2;have ha':VRL (fB 0 (uh args) Y) (args.map (bV true (rhoO 0 (uh args)))) args'.toList:=ha.mapr fun v _ x hx=>dV (qZ _ _) v x hx;obtain⟨⟨Y1,fr,w1,v',a1,a2,a3,a4,a5,a6⟩,a7⟩:=h.run _ _ t hR v1 bs1 hev K' _ w args' cs k2 ha' (by rw[m3]; exact k3);rw[m3,List.length_map]at a7;obtain⟨c1,c2,c3⟩:=k4 Y1 bs1 w1 a2 a7 a3 a4;exact⟨_,fr,w1,v',a1,c1,c2,a4.mono k1,dV c3 _ _ a5,a6⟩
     ·cases hcall
    ·cases hcall
   ·exact hct.call K _ args st v st' hl Y w args' cs ha hr
  ·exact hct.call K g' args st v st' hl Y w args' cs ha hr
def Nk(P:Program)(E:Eng)(ct:Ct)(n:Nat)(g:FuncId)(args:List Value)(bs:List Blk)(new:List Nat):Res:=
 (kP P E ct n n).call g args (mkSt bs) fun v st=>match jE bs.length new (fun i=>bg (path i) st.heap) new with
  |some ms=>@Bool.rec (fun _=>Res) none (some (bV true (rhoO bs.length new) v,mkSt (kX bs.length new (fun i=>bg (path i) st.heap) bs.length 0++ms))) (Nat.ble bs.length st.next)
  |none=>none
theorem CRM.of{E:Eng}(hE:EngOk P ct E)(hN:noNum P=true)(hct:CtOk P ct){n:Nat}{g:FuncId}{args:List Value}{bs:List Blk}{new:List Nat}{v:Value}{bs':List Blk}(h:Nk P E ct n g args bs new=some (v,mkSt bs'))(hlen:bs.length<=bs'.length):CRM P g args bs v bs':=by
 intro K Y w args' cs hid ha hr;refine⟨?_,hlen⟩;unfold Nk at h;obtain⟨m,v1,st1,h1,h2⟩:=(fJ hE n n).call _ _ _ _ _ h;obtain⟨Y1,fr,w1,v',a1,a2,a3,a4,a5,a6⟩:=(bU hN hct m K).call g args (mkSt bs) v1 st1 h1 Y w args' .normal cs (Or.inl rfl) ha hr;split at h2
 ·rename_i ms hm;cases hb:Nat.ble bs.length st1.next with
  |false=>rw[hb]at h2; cases h2
  |true=>
   rw[hb]at h2;simp only[Option.some.injEq,Prod.mk.injEq]at h2;obtain⟨rfl,hst⟩:=h2;obtain⟨m1,m2,m3⟩:=iD hm;simp only[aP]at m2 m3 hst;have hmid:=iY (N:=bs.length) (src:=new) a3 (fun i hi=>(hid i hi).elim) (Nat.le_of_ble_eq_true hb) m1 m2;have hren:RenOk true (rhoO bs.length new) Y1 (fB bs.length new Y1):=by
    refine⟨fun b b' l hb hl=>?_,fun _ k l h=>h⟩;unfold rhoO at hb;split at hb
    ·rename_i j hj;obtain rfl:=Option.some.inj hb;obtain⟨k,rfl,hk⟩:=lN _ _ _ _ hj;show(if bs.length+k<bs.length then Y1 ((bs.length+k:Nat):Int)else match new[bs.length+k-bs.length]? with | some b=>Y1 (b:Int) | none=>none)=_;rw[if_neg (by omega),show bs.length+k-bs.length=k by omega,hk]; exact hl
    ·split at hb
     ·rename_i hle;obtain rfl:=Option.some.inj hb;have:b<bs.length:=Nat.le_of_ble_eq_true hle;show(if b<bs.length then Y1 (b:Int)else _)=_;rw[if_pos this]; exact hl
     ·cases hb
   refine⟨fB bs.length new Y1,fr,w1,v',a1,fun i l hi=>?_,?_,a4,dV hren _ _ a5,a6⟩
   ·cases i with
    |negSucc k=>exact a2 _ _ hi
    |ofNat i=>
     have:i<bs.length:=(hr.dom i l hi).1;show(if i<bs.length then Y1 (i:Int)else _)=_;rw[if_pos this]; exact a2 _ _ hi
   ·rw[<-hst,m3]; exact hmid
 ·cases h2
end
end Go.VS
end

noncomputable section
namespace Go.VS

section
variable{P:Program}{K:Prot}{Y:Env}{st:St}{w:World}
theorem MJ(hr:Rel P K Y st w){a:Addr}{c:List Value}{e:TypeId}{len:Nat}{v':Value}(hg:st.heap.get a.block=some (.cells c e false))(ho:a.off<=c.length)(hv:VR Y (.slice (some a) len unk) v') :
  ∃ Y',Y.le Y'/\Rel P K Y' (newRow (kill st a.block) (c.drop a.off) e false).2 w/\VR Y' (.slice (some (newRow (kill st a.block) (c.drop a.off) e false).1) len unk) v':=by
 simp only[VR]at hv;obtain⟨hs,l,hl,hsl⟩:=hv;obtain⟨l',k1,hbk⟩:=hr.get_cells hg;obtain rfl:l'=l:=by rw[k1]at hl; exact Option.some.inj hl
 rcases hbk with⟨hvt,hc,_⟩ | ⟨hvt,k2,cc,f,k3,k4,k5,k6,k7,k8,k9⟩
 ·subst hc;have hk:=hr.kill a.block (by intro o e; rw[hg]at e; cases e);have hv:=hk.virt e 0 0;refine⟨_,hk.le_put _,by rw[List.drop_nil]; exact hv,⟨rfl,_,aO _ _ _,?_⟩⟩;unfold aI at hsl ⊢;rw[if_pos hvt]at hsl;rw[if_pos rfl];exact⟨hsl.1,rfl,Or.inr rfl,hsl.2.2.2⟩
 ·unfold aI at hsl;rw[if_neg (by simp[hvt]),if_neg (by simp),if_pos rfl]at hsl;refine⟨Y.put st.next ⟨l'.blk,l'.base+a.off,l'.total-a.off,l'.esize,none,false⟩,hr.le_put _,hr.move hg rfl rfl rfl k1 hvt rfl rfl rfl (fun _ _=>rfl) ?_,⟨rfl,_,aO _ _ _,?_⟩⟩
  ·refine bY.mono (hr.le_put _) (Or.inr ⟨rfl,cc,f,k3,k4,by show l'.base+a.off+(l'.total-a.off)<=_; omega,by rw[List.length_drop]; show _<=l'.total-a.off; omega,fun h=>(by cases h),?_,k9.1,fun _=>by have:=k9.2 rfl; show l'.total-a.off<9223372036854775808*l'.esize; omega⟩);have hh:=k8.drop a.off;rw[List.drop_take,List.drop_drop]at hh;rw[List.length_drop];exact hh
  ·unfold aI;rw[if_neg (by simp),if_neg (by simp),if_pos rfl];refine⟨?_,Nat.zero_le _⟩;rw[hsl.1];show _=Value.slice (some ⟨l'.blk,l'.base+a.off+0,none⟩) len ((l'.total-a.off-0) / l'.esize)
   rfl
def gp{J:Type}(b:Bool)(t:DT J):DT J:= .ite b t .fail
theorem dG{J:Type}{b:Bool}{t:DT J}{r:J}(h:(gp b t).eval=some r):b=true/\t.eval=some r:=by
 cases b with
 |true=>exact⟨rfl,h⟩
 |false=>cases h
def IU{J:Type}(str:Bool)(size:Nat)(st:St)(x:Value)(k:Nat->List Value->DT J):DT J:=match str with
 |false=>match x with
  | .slice (some a) n _=>match a.spot,bg (path a.block) st.heap with
   |none,some (.cells c _ _)=>gp (Nat.ble (Nat.add a.off (Nat.mul n size)) c.length) (k n (takeC (Nat.mul n size) (ai a.off c)))
   |_,_=> .fail
  | .slice none n _=>gp (Nat.beq n 0) (k 0 [])
  | .iface t v=>match gJ (.iface t v)with
   |some z=>gp (Nat.beq z.sz size) (k z.n z.cells)
   |none=> .fail
  |_=> .fail
 |true=>match x with
  | .string b=>gp (Nat.beq size 1) (k b.size (byteCells b))
  |_=> .fail
theorem KF{J:Type}{str:Bool}{size:Nat}{x:Value}{k:Nat->List Value->DT J}{r:J}{xt:TypeDesc}(hxt:(match xt with | .slice _=>some false | .string=>some true | _=>none)=some str)(h:(IU str size st x k).eval=some r) :
  ∃ n new,gG st size xt x=some (n,new)/\(k n new).eval=some r:=by
 unfold IU at h;split at h
 ·have hx:∃ e,xt = .slice e:=by
   cases xt<;>simp at hxt ⊢
  obtain⟨e,rfl⟩:=hx;split at h
  ·rename_i a n cap;split at h
   ·rename_i c e' ex hs hg;rw[aP]at hg;obtain⟨hle,h3⟩:=dG h;have hle:a.off+n*size<=c.length:=Nat.le_of_ble_eq_true hle;exact⟨n,(c.drop a.off).take (n*size),by simp only[gG,cellsAt,hs,hg,Option.isSome_none,Bool.false_eq_true,if_false,hle,if_true],h3⟩
   ·cases h
  ·rename_i n cap;obtain⟨hc,h⟩:=dG h;exact⟨_,_,by simp only[gG,Nat.eq_of_beq_eq_true hc,if_true],h⟩
  ·rename_i t v;split at h
   ·rename_i z hz;obtain⟨hc,h⟩:=dG h;exact⟨_,_,by simp only[gG,hz,Nat.eq_of_beq_eq_true hc,if_true],h⟩
   ·cases h
  ·cases h
 ·have hx:xt = .string:=by
   cases xt<;>simp at hxt ⊢
  subst hx;split at h
  ·rename_i b;obtain⟨hc,h⟩:=dG h;exact⟨_,_,by simp only[gG,Nat.eq_of_beq_eq_true hc,if_true],h⟩
  ·cases h
def mO(off:Nat)(c:List Value):List Value:=match off with
 |0=>c
 |k+1=>ai (k+1) c
theorem Qg(off:Nat)(c:List Value):mO off c=c.drop off:=by cases off<;>rfl
def NL(e:TypeId)(size n:Nat)(new:List Value)(st:St)(s:Value):Option (DT (Value×St)):=match s with
 | .slice none len cap=>some (gp (and (Nat.beq len 0) (and (Nat.beq cap 0) (Nat.ble n big))) (.leaf (.slice (some ⟨st.next,0,none⟩) n unk,⟨aJ (path st.next) st.heap (.cells new e false),Nat.succ st.next⟩)))
 | .slice (some a) len cap=>match Nat.beq cap unk with
  |true=>match a.spot,bg (path a.block) st.heap with
   |none,some (.cells c e' ex)=>some (gp (and (not ex) (Nat.beq e' e)) (gp (Nat.ble (Nat.add len n) big) (gp (Nat.beq (Nat.add a.off (Nat.mul len size)) c.length)
     (.leaf (.slice (some ⟨st.next,0,none⟩) (Nat.add len n) unk,⟨aJ (path st.next) (aJ (path a.block) st.heap .dead) (.cells (List.append (mO a.off c) new) e false),Nat.succ st.next⟩)))))
   |_,_=>none
  |false=>none
 |_=>none
def jV(P:Program)(o:Oper)(Z:Operand->Value)(st:St):Option (DT (Value×St)):=match o.op with
 | .call c=>match c.callee,c.args.toList,c.argTypes.toList with
  | .builtin .append,[x,y],[tx,ty]=>match Ey P tx ty with
   |some r=>match NL r.1 r.2.1 0 [] st (Z x)with
    |some _=>some (IU r.2.2 r.2.1 st (Z y) fun n new=>match NL r.1 r.2.1 n new st (Z x)with
     |some t=>gp (new.all oneCell) t
     |none=> .fail)
    |none=>none
   |none=>none
  |_,_,_=>none
 |_=>none
theorem EU(hN:noNum P=true)(o:Oper)(Z:Operand->Value)(st:St)(v:Value)(st':St)(h:(jV P o Z st).bind DT.eval=some (v,st')) :
  bM o.op=false/\∀ (K:Prot) (Y:Env) (w:World) (Z':Operand->Value),(∀ x,VR Y (Z x) (Z' x))->Rel P K Y st w->aG P K Y st w ((execOp Z' o).run P w) (.val v st'):=by
 obtain⟨dst,op,type,pos,after,guard⟩:=o;unfold jV at h;simp only at h;split at h
 ·rename_i c;refine⟨rfl,fun K Y w Z' hZ hr=>?_⟩;split at h
  ·rename_i x y tx ty hc1 hc2 hc3;split at h
   ·rename_i rr hk;obtain⟨e,size,str⟩:=rr;simp only at h;split at h
    ·simp only[Option.bind_some]at h;unfold Ey at hk;simp only[aY,iG,pM]at hk;split at hk
     ·rename_i e' xt hs hx;split at hk
      ·rename_i str' ei z hxt hi hz;split at hk
       ·cases hk
       ·rename_i hcond;simp only[Option.some.injEq,Prod.mk.injEq]at hk;obtain⟨rfl,rfl,rfl⟩:=hk;have ht0:c.argTypes[0]? = some tx:=by rw[<-Array.getElem?_toList,hc3]; rfl
        have ht1:c.argTypes[1]? = some ty:=by rw[<-Array.getElem?_toList,hc3]; rfl
        have hev:ag P Z ⟨dst, .call c,type,pos,after,guard⟩ st=match iQ P st tx ty (Z x) (Z y)with
         |some (v,st)=>some (.val v st)
         |none=>none:=by
         simp only[ag,hc1,hc2,List.map_cons,List.map_nil,dL,ht0,ht1];cases iQ P st tx ty (Z x) (Z y)<;>rfl
        have happ:iQ P st tx ty (Z x) (Z y)=match gG st ei.size xt (Z y)with
          |some (n,new)=>if new.all oneCell then bG P st e' ei.size n new (Z x)else none
          |none=>none:=by
         simp only[iQ,hs,hx,hi,hz];rw[if_neg hcond];cases gG st ei.size xt (Z y)<;>rfl
        obtain⟨n,new,h1,h2⟩:=KF hxt h;split at h2
        ·rename_i t happT;obtain⟨hone,h3⟩:=dG h2;obtain⟨new',hsrc,hnew⟩:=zT hr (hZ y) hx h1 hone;have hlen:new.length=n*ei.size:=by rw[hnew.length,hsrc.newsLen]
         have hev2:ag P Z ⟨dst, .call c,type,pos,after,guard⟩ st=match bG P st e' ei.size n new (Z x)with
           |some (v,st)=>some (.val v st)
           |none=>none:=by
          rw[hev,happ,h1];simp only[hone,if_true]
         unfold NL at happT;split at happT
         ·rename_i len cap hsx;obtain rfl:=Option.some.inj happT;obtain⟨hc,h3⟩:=dG h3;simp only[DT.eval,Option.some.injEq,Prod.mk.injEq]at h3;obtain⟨rfl,rfl⟩:=h3;simp only[Bool.and_eq_true]at hc;have c1:=Nat.eq_of_beq_eq_true hc.1;have c2:=Nat.eq_of_beq_eq_true hc.2.1;have c3:=Nat.le_of_ble_eq_true hc.2.2;subst c1 c2;have hst:(⟨aJ (path st.next) st.heap (.cells new e' false),Nat.succ st.next⟩:St)=(newRow st new e' false).2:=by rw[aK]; rfl
          rw[hst];by_cases hn:n=0
          ·subst hn;have:new=[]:=List.eq_nil_of_length_eq_zero (by omega);subst this;have hap:bG P st e' ei.size 0 [] (Z x)=some (.slice none 0 0,st):=by
            rw[hsx]; simp only[bG];rw[if_neg (by simp)]; rfl
           rw[hap]at hev2;obtain⟨Y',w',v',r1,r2,r3,r4,r5⟩:=mD hN hr hZ hev2;refine⟨_,w',v',r1,r2.trans (r3.le_put _),r3.virt e' 0 0,⟨rfl,_,aO _ _ _,?_⟩,r5⟩;unfold aI;rw[if_pos rfl];exact⟨rfl,rfl,Or.inr rfl,r4⟩
          ·have hap:bG P st e' ei.size n new (Z x)=some (.slice (some (newRow st new e' false).1) n unk,(newRow st new e' false).2):=by
            rw[hsx]; simp only[bG];rw[if_neg (by simp; omega),if_neg hn]
           rw[hap]at hev2;exact mD hN hr hZ hev2
         ·rename_i a len cap hsx;split at happT
          ·rename_i hcap;have hcap:=Nat.eq_of_beq_eq_true hcap;subst hcap;split at happT
           ·rename_i c0 e0 ex hsp hg;rw[aP]at hg;obtain rfl:=Option.some.inj happT;obtain⟨d1,h3⟩:=dG h3;obtain⟨d2,h3⟩:=dG h3;obtain⟨d3,h3⟩:=dG h3;simp only[DT.eval,Option.some.injEq,Prod.mk.injEq]at h3;obtain⟨rfl,rfl⟩:=h3;simp only[Bool.and_eq_true,Bool.not_eq_true']at d1;obtain⟨rfl,d1⟩:=d1;have d1:=Nat.eq_of_beq_eq_true d1;have d2:len+n<=big:=Nat.le_of_ble_eq_true d2;have d3:a.off+len*ei.size=c0.length:=Nat.eq_of_beq_eq_true d3;subst d1;have hst:(⟨aJ (path st.next) (aJ (path a.block) st.heap .dead) (.cells (List.append (mO a.off c0) new) e0 false),Nat.succ st.next⟩:St)=(newRow (kill st a.block) (c0.drop a.off++new) e0 false).2:=by
             rw[aK,aK,Qg]; rfl
            have htk:(c0.drop a.off).take (len*ei.size)=c0.drop a.off:=List.take_of_length_le (by rw[List.length_drop]; omega);rw[hst];by_cases hn:n=0
            ·subst hn;have:new=[]:=List.eq_nil_of_length_eq_zero (by omega);subst this;have hap:bG P st e0 ei.size 0 [] (Z x)=some (.slice (some a) len unk,st):=by
              rw[hsx]; simp only[bG];rw[if_neg (by omega),if_neg (by omega),hg];simp only;rw[if_neg (by simp[hsp]; omega),if_pos trivial,if_pos (by omega)]
             rw[hap]at hev2;obtain⟨Y',w',v',r1,r2,r3,r4,r5⟩:=mD hN hr hZ hev2;obtain⟨Y2,q1,q2,q3⟩:=MJ r3 hg (by omega) r4;rw[List.append_nil];exact⟨Y2,w',v',r1,r2.trans q1,q2,q3,r5⟩
            ·have hap:bG P st e0 ei.size n new (Z x)=some (.slice (some (newRow (kill st a.block) (c0.drop a.off++new) e0 false).1) (len+n) unk,(newRow (kill st a.block) (c0.drop a.off++new) e0 false).2):=by
              rw[hsx]; simp only[bG];rw[if_neg (by omega),if_neg (by omega),hg];simp only;rw[if_neg (by simp[hsp]; omega),if_neg hn,if_pos (by rw[Nat.sub_self,Nat.add_zero]; exact d3),htk]
             rw[hap]at hev2;exact mD hN hr hZ hev2
           ·cases happT
          ·cases happT
         ·cases happT
        ·cases h2
      ·cases hk
     ·cases hk
    ·cases h
   ·cases h
  ·cases h
 ·cases h
theorem Gt(o:Oper)(Z Z':Operand->Value)(st:St)(h:∀ x∈o.op.operands,Z x=Z' x):jV P o Z st=jV P o Z' st:=by
 obtain⟨dst,op,type,pos,after,guard⟩:=o;cases op<;>first | rfl | skip
 rename_i c;have hargs:∀ x∈c.args.toList,Z x=Z' x:=fun x hx=>h x (by simp[Op.operands,Call.operands]; exact(by first | exact Or.inr (by simpa using hx) | exact Or.inl (by simpa using hx)));unfold jV;simp only;split
 ·rename_i x y tx ty h1 h2 h3;rw[h2]at hargs;rw[hargs x (by simp),hargs y (by simp)]
 ·rfl
end
end Go.VS
end

noncomputable section
namespace Go.VS.Tryz
open Go.VS
set_option maxRecDepth 1000000
abbrev P:Program:=Go.Proofs.Tryz.prog
abbrev E:Eng:=SL P
theorem aB:VS.noNum P=true:=by kernel_rfl
theorem dR(ct:Ct):EngOk P ct E:=QC P ct
theorem qw{ct:Ct}(hct:CtOk P ct){g n:Nat}{R:fK}(h:∀ args t,R args=some t->∀ v bs,t.eval=some (v,bs)->jg P E ct n g args=some (v,mkSt bs)):CallOkR P g R:=
 ⟨fun args t hR v bs hev=>CR.of (dR ct) aB hct (h args t hR v bs hev)⟩
def sl(b n:Nat):Value:= .slice (some ⟨b,0,none⟩) n unk
def atB(v:Value)(b n:Nat):Bool:=match v with
 | .slice (some a) n' c=>a.block == b&&a.off == 0&&a.spot.isNone&&n' == n&&c == unk
 |_=>false
theorem Fg{v:Value}{b n:Nat}(h:atB v b n=true):v=sl b n:=by
 unfold atB at h;split at h
 ·rename_i a n' c;simp only[Bool.and_eq_true,beq_iff_eq,Option.isNone_iff_eq_none]at h;obtain⟨⟨⟨⟨h1,h2⟩,h3⟩,h4⟩,h5⟩:=h;obtain⟨bb,oo,ss⟩:=a;simp only at h1 h2 h3;subst h1 h2 h3 h4 h5
  rfl
 ·cases h
theorem F5(b n:Nat):atB (sl b n) b n=true:=by simp[atB,sl]
theorem cO{x y:Res}:aC true x y=x:=rfl
theorem bn{x y:Res}:aC false x y=y:=rfl
theorem BR(c:List Value):mO 0 c=c:=rfl
end Go.VS.Tryz
end

noncomputable section
namespace Go.VS
open Go.RowKit
section
variable{P:Program}{ct:Ct}
def numsD(h:Nat->Option Blk)(n:Nat):List Value->List Nat->List Nat:=
 @Nat.rec (fun _=>List Value->List Nat->List Nat) (fun _ acc=>acc)
  (fun _ ih vs acc=>match vs with
   |[]=>acc
   |v::vs=>match(match v with
     | .slice (some a) _ _=>some a.block
     | .pointer (some a)=>some a.block
     | .map (some r)=>some r
     |_=>none)with
    |none=>ih vs acc
    |some b=>@Bool.rec (fun _=>List Nat)
      (match h b with
       |some (.cells c _ true)=>ih (c.append vs) (acc.append [b])
       |_=>ih vs (acc.append [b]))
      (ih vs acc) (jb acc b)) n
def lX(st:St)(i:Nat):Option Blk:=bg (path i) st.heap
def QW(R:dJ)(args:List Value)(st:St):Option (DT (Value×St)):=
 match jE 0 (numsD (lX st) 1000 args []) (fun i=>bg (path i) st.heap) (numsD (lX st) 1000 args [])with
 |some ms=>match R (args.map (bV true (rhoO 0 (numsD (lX st) 1000 args [])))) ms with
  |some t=>some (t.map fun x=>(bV true (bC (numsD (lX st) 1000 args []) st.next) x.1,qY (numsD (lX st) 1000 args []) st x.2))
  |none=>none
 |none=>none
end
section
variable{P:Program}{ct:Ct}
def Rf(m c:Nat):Bool:=match Nat.ble unk c with
 |true=>true
 |false=>Nat.ble m c
def og(P:Program)(off m c:Nat)(cs:List Value)(e:TypeId):Bool:=and (di cs) (and (Nat.ble (Nat.add off (Nat.mul m (esz P e))) cs.length) (and (Nat.ble 1 (esz P e)) (Rf m c)))
def Eb(P:Program)(off m c:Nat)(cs:List Value)(e:TypeId):Value:=au (esz P e) m 0 (takeC (Nat.mul m (esz P e)) (ai off cs))
theorem Qa{Y:Env}{s n b:Nat}{c:List Value}{v:Value}(hs:s≠0)(h:VR Y (au s n b c) v):VR Y (au s n 0 c) v:=by
 unfold au at h;have e:FZ+s-FZ=s:=by omega
 simp only[VR,if_neg (Nat.not_lt.2 (Nat.le_add_right FZ s)),VZ,VZA,VZL,e]at h;obtain⟨a',b',he,r⟩:=h;cases he;refine wZ hs ?_;unfold dO at r ⊢;rw[if_neg hs]at r ⊢;obtain⟨h1,⟨h2,h3,h4⟩ | ⟨h2,p,cap,h3,h4⟩ | ⟨h0,k,o,cap,cs,e1,f,l,h3,h4,h5⟩⟩:=r
 ·exact⟨h1,Or.inl ⟨h2,by omega,h4⟩⟩
 ·exact⟨h1,Or.inr (Or.inl ⟨h2,p,cap,h3,fun h=>absurd rfl h⟩)⟩
 ·exact⟨h1,Or.inr (Or.inr ⟨h0,k,o,cap,cs,e1,f,l,h3,fun h=>absurd rfl h,h5⟩)⟩
theorem Rx{Y:Env}{s n c:Nat}{v:Value}(hs:s≠0)(hn:n=0)(hc:c=0)(h:VR Y (.slice none n c) v):VR Y (au s 0 0 []) v:=by
 subst hn hc;have h:v = .slice none 0 0:=h;subst h;refine wZ hs ?_;unfold dO;rw[if_neg hs];exact⟨by simp,Or.inl ⟨rfl,by omega,rfl⟩⟩
def Ap(P:Program)(n:Nat):TypeId->List TypeId:=
 @Nat.rec (fun _=>TypeId->List TypeId) (fun t=>[t]) (fun _ ih t=>match bP P t with
  |some (.struct fs)=>@List.rec Field (fun _=>List TypeId) [] (fun f _ r=>(ih f.type).append r) fs.toList
  |some (.array k e)=>List.flatten (List.replicate k (ih e))
  |_=>[t]) n
def Eg(P:Program)(ts:List TypeId)(v:Value):Value:=match v with
 | .slice none 0 0=>match ts with
  |t::_=>match bP P t with
   |some (.slice e)=>match esz P e with
    |0=>v
    |s+1=>au (s+1) 0 0 []
   |_=>v
  |[]=>v
 |_=>v
theorem yD{Y:Env}{ts:List TypeId}{v x:Value}(h:VR Y v x):VR Y (Eg P ts v) x:=by
 unfold Eg;split
 ·split
  ·split
   ·split
    ·exact h
    ·exact Rx (by omega) rfl rfl h
   ·exact h
  ·exact h
 ·exact h
def tlT(ts:List TypeId):List TypeId:=match ts with
 |[]=>[]
 |_::ts=>ts
def pg{J:Type}(P:Program)(n:Nat):List TypeId->List Value->St->(List Value->St->DT J)->DT J:=
 @Nat.rec (fun _=>List TypeId->List Value->St->(List Value->St->DT J)->DT J) (fun _ _ _ _=> .fail)
  (fun _ ih ts vs st k=>match vs with
   |[]=>k [] st
   |v::vs=>match v with
    | .slice (some a) m c=>match a.spot,bg (path a.block) st.heap with
     |none,some (.cells cs e ex)=>@Bool.rec (fun _=>DT J)
       (gp (og P a.off m c cs e) (ih (tlT ts) vs ⟨aJ (path a.block) st.heap .dead,st.next⟩ fun vs1 st1=>k (Eb P a.off m c cs e::vs1) st1))
       (ih (List.flatten (List.replicate cs.length (Ap P 6 e))) cs st fun cs1 st1=>match bg (path a.block) st1.heap with
        |some (.cells c1 e1 _)=>gp (and (Nat.beq e1 e) (and (Nat.beq cs1.length c1.length) (og P a.off m c cs1 e))) (ih (tlT ts) vs ⟨aJ (path a.block) st1.heap .dead,st1.next⟩ fun vs1 st2=>k (Eb P a.off m c cs1 e::vs1) st2)
        |_=> .fail) ex
     |_,_=>ih (tlT ts) vs st fun vs1 st1=>k (v::vs1) st1
    | .agg ⟨l⟩=>ih (match ts with | t::_=>Ap P 6 t | []=>[]) l st fun l1 st1=>ih (tlT ts) vs st1 fun vs1 st2=>k (.agg ⟨l1⟩::vs1) st2
    |v=>ih (tlT ts) vs st fun vs1 st1=>k (Eg P ts v::vs1) st1) n
theorem Ew{K:Prot}{Y:Env}{st:St}{w:World}(hr:Rel P K Y st w){a:Addr}{m c:Nat}{cs cs1:List Value}{e:TypeId}{ex:Bool}(hg:st.heap.get a.block=some (.cells cs e ex))(hlen:cs1.length=cs.length)(hc:og P a.off m c cs1 e=true)
  (hc1:∀ l cc f,Y a.block=some l->l.virt=false->w.heap[l.blk]? = some (.cells cc e f)->VRL Y cs1 ((cc.toList.drop l.base).take cs1.length)) :
  ∃ Y',Y.le Y'/\Rel P K Y' ⟨aJ (path a.block) st.heap .dead,st.next⟩ w/\∀ x,VR Y (.slice (some a) m c) x->VR Y' (Eb P a.off m c cs1 e) x:=by
 unfold og at hc;simp only[Bool.and_eq_true]at hc;obtain⟨c1,c2,c3,c4⟩:=hc;obtain⟨Y',h1,h2,h3⟩:=hr.freeze hg hlen c1 hc1;refine⟨Y',h1,?_,fun x hx=>?_⟩
 ·rw[aK]; exact h2
 ·have hs:a.spot=none:=by simp only[VR]at hx; exact hx.1
  have ea:a=⟨a.block,a.off,none⟩:=by cases a; simp_all
  have hcap:c<unk->m<=c:=fun hcu=>by
   unfold Rf at c4;have hb:Nat.ble unk c=false:=by
    cases hb:Nat.ble unk c with
    |false=>rfl
    |true=>have:=Nat.le_of_ble_eq_true hb; omega
   rw[hb]at c4;exact Nat.le_of_ble_eq_true c4
  have h0:esz P e≠0:=by have:=Nat.le_of_ble_eq_true c3; omega
  exact Qa (b:=BB c) h0 (h3 a.off m c x (by rw[<-ea]; exact hx) h0 (Nat.le_of_ble_eq_true c2) hcap)
theorem iV{J:Type}{r:J}:∀ (n:Nat) (ts:List TypeId) (vs:List Value) (st:St) (k:List Value->St->DT J),(pg P n ts vs st k).eval=some r->
  ∃ vs1 st1,(k vs1 st1).eval=some r/\st1.next=st.next/\vs1.length=vs.length/\∀ (K:Prot) (Y:Env) (w:World) (xs:List Value),Rel P K Y st w->VRL Y vs xs->∃ Y1,Y.le Y1/\Rel P K Y1 st1 w/\VRL Y1 vs1 xs
 |0,ts,vs,st,k,h=>by cases h
 |n+1,ts,vs,st,k,h=>by
  have keep:∀ (v v2:Value) (vs:List Value),(∀ (Y:Env) x,VR Y v x->VR Y v2 x)->(pg P n (tlT ts) vs st fun vs1 st1=>k (v2::vs1) st1).eval=some r->
    ∃ vs1 st1,(k vs1 st1).eval=some r/\st1.next=st.next/\vs1.length=(v::vs).length/\∀ (K:Prot) (Y:Env) (w:World) (xs:List Value),Rel P K Y st w->VRL Y (v::vs) xs->∃ Y1,Y.le Y1/\Rel P K Y1 st1 w/\VRL Y1 vs1 xs:=by
   intro v v2 vs hv2 h;obtain⟨vs1,st1,h1,h2,h3,h4⟩:=iV n _ vs st _ h;refine⟨_,_,h1,h2,by simp[h3],fun K Y w xs hr hx=>?_⟩;simp only[VRL]at hx;obtain⟨y,ys,rfl,hy,hys⟩:=hx;obtain⟨Y1,a1,a2,a3⟩:=h4 K Y w ys hr hys;exact⟨Y1,a1,a2,VRL.cons (hv2 _ _ (hy.mono a1)) a3⟩
  cases vs with
  |nil=>exact⟨[],st,h,rfl,rfl,fun K Y w xs hr hx=>⟨Y,Env.le.refl _,hr,hx⟩⟩
  |cons v vs=>
   cases v with
   |slice p m c=>
    cases p with
    |none=>exact keep _ _ vs (fun _ _ h=>yD h) h
    |some a=>
     change (match a.spot,bg (path a.block) st.heap with
      |none,some (.cells cs e ex)=>@Bool.rec (fun _=>DT J)
        (gp (og P a.off m c cs e) (pg P n (tlT ts) vs ⟨aJ (path a.block) st.heap .dead,st.next⟩ fun vs1 st1=>k (Eb P a.off m c cs e::vs1) st1))
        (pg P n (List.flatten (List.replicate cs.length (Ap P 6 e))) cs st fun cs1 st1=>match bg (path a.block) st1.heap with
         |some (.cells c1 e1 _)=>gp (and (Nat.beq e1 e) (and (Nat.beq cs1.length c1.length) (og P a.off m c cs1 e))) (pg P n (tlT ts) vs ⟨aJ (path a.block) st1.heap .dead,st1.next⟩ fun vs1 st2=>k (Eb P a.off m c cs1 e::vs1) st2)
         |_=> .fail) ex
      |_,_=>pg P n (tlT ts) vs st fun vs1 st1=>k (.slice (some a) m c::vs1) st1).eval=some r at h
     split at h
     ·rename_i cs e ex hsp hg;rw[aP]at hg;cases ex with
      |false=>
       obtain⟨hc,h⟩:=dG h;obtain⟨vs1,st1,h1,h2,h3,h4⟩:=iV n _ vs _ _ h;refine⟨_,_,h1,h2,by simp[h3],fun K Y w xs hr hx=>?_⟩;simp only[VRL]at hx;obtain⟨y,ys,rfl,hy,hys⟩:=hx;obtain⟨l,hl,hbk⟩:=hr.get_cells hg;obtain⟨Y1,a1,a2,a3⟩:=Ew hr hg rfl hc (fun l' cc f hl' hv hw=>by
        rw[hl]at hl';obtain rfl:=Option.some.inj hl';rcases hbk with⟨hv',_⟩ | ⟨_,_,cc',f',g1,_,_,_,_,g6,_⟩
        ·rw[hv]at hv'; cases hv'
        ·rw[g1]at hw;cases hw
         exact g6)
       obtain⟨Y2,b1,b2,b3⟩:=h4 K Y1 w ys a2 (hys.mono a1);exact⟨Y2,a1.trans b1,b2,VRL.cons ((a3 y hy).mono b1) b3⟩
      |true=>
       obtain⟨cs1,st1,h1,h2,h3,h4⟩:=iV n _ cs st _ h;split at h1
       ·rename_i c1 e1 ex1 hg1;rw[aP]at hg1;obtain⟨hc,h1⟩:=dG h1;simp only[Bool.and_eq_true]at hc;obtain⟨hc0,hln,hc⟩:=hc;have hln:=Nat.eq_of_beq_eq_true hln;have hc0:=Nat.eq_of_beq_eq_true hc0;subst hc0;obtain⟨vs1,st2,k1,k2,k3,k4⟩:=iV n _ vs _ _ h1;refine⟨_,_,k1,by rw[k2]; exact h2,by simp[k3],fun K Y w xs hr hx=>?_⟩;simp only[VRL]at hx;obtain⟨y,ys,rfl,hy,hys⟩:=hx;obtain⟨l,hl,hbk⟩:=hr.get_cells hg;rcases hbk with⟨_,_,hx0⟩ | ⟨hv,hnK,cc,f,g1,g2,g3,g4,g5,g6,g7⟩
        ·cases hx0
        ·obtain⟨Y1,a1,a2,a3⟩:=h4 K Y w _ hr g6;obtain⟨l1,hl1,hbk1⟩:=a2.get_cells hg1;have hll:l1=l:=by rw[a1 _ _ hl]at hl1; exact(Option.some.inj hl1).symm
         subst hll;rcases hbk1 with⟨hv1,_⟩ | ⟨_,_,cc1,f1,q1,q2,q3,q4,q5,q6,q7⟩
         ·rw[hv]at hv1; cases hv1
         ·obtain⟨Y2,b1,b2,b3⟩:=Ew a2 hg1 hln hc (fun l' cc' f' hl' hv' hw=>by
           rw[hl1]at hl';obtain rfl:=Option.some.inj hl';rw[g1]at hw;cases hw
           rw[h3]; exact a3)
          obtain⟨Y3,d1,d2,d3⟩:=k4 K Y2 w ys b2 ((hys.mono a1).mono b1);exact⟨Y3,(a1.trans b1).trans d1,d2,VRL.cons ((b3 y (hy.mono a1)).mono d1) d3⟩
       ·cases h1
     ·exact keep _ _ vs (fun _ _ h=>h) h
   |agg l=>
    obtain⟨l⟩:=l;obtain⟨l1,st1,h1,h2,h3,h4⟩:=iV n _ l st _ h;obtain⟨vs1,st2,k1,k2,k3,k4⟩:=iV n _ vs st1 _ h1;refine⟨_,_,k1,by rw[k2,h2],by simp[k3],fun K Y w xs hr hx=>?_⟩;simp only[VRL]at hx;obtain⟨y,ys,rfl,hy,hys⟩:=hx;simp only[VR]at hy;obtain⟨⟨l'⟩,rfl,hl'⟩:=hy;simp only[VRA]at hl';obtain⟨Y1,a1,a2,a3⟩:=h4 K Y w l' hr hl';obtain⟨Y2,b1,b2,b3⟩:=k4 K Y1 w ys a2 (hys.mono a1);refine⟨Y2,a1.trans b1,b2,VRL.cons ?_ b3⟩;simp only[VR];exact⟨_,rfl,by simp only[VRA]; exact a3.mono b1⟩
   |_=>exact keep _ _ vs (fun _ _ h=>yD h) h
def TN(P:Program)(g:FuncId):List TypeId:=match nS P g with
 |some fb=>fb.1.params.toList
 |none=>[]
def U4(P:Program)(g:FuncId)(R:dJ)(args:List Value)(st:St):Option (DT (Value×St)):=
 some (pg P 100 (TN P g) args st fun args1 st1=>match QW R args1 st1 with
  |some t=>t
  |none=> .fail)
def xk(P:Program)(o:Oper)(Z:Operand->Value)(st:St):Option (DT (Value×St)):=match o.op with
 | .call c=>match c.callee,c.args.toList with
  | .builtin .append,[_,y]=>match Z y with
   | .slice (some a) _ _=>match bg (path a.block) st.heap with
    |some (.cells cs e true)=>match jV P o Z st with
     |some _=>some (pg P 100 (List.flatten (List.replicate cs.length (Ap P 6 e))) cs st fun cs1 st1=>match bg (path a.block) st1.heap with
      |some (.cells c1 e1 _)=>gp (and (Nat.beq e1 e) (Nat.beq cs1.length c1.length)) (match jV P o Z ⟨aJ (path a.block) st1.heap (.cells cs1 e true),st1.next⟩with
       |some t=>t
       |none=> .fail)
      |_=> .fail)
     |none=>none
    |_=>jV P o Z st
   |_=>jV P o Z st
  |_,_=>jV P o Z st
 |_=>jV P o Z st
theorem Fp(hN:noNum P=true)(o:Oper)(Z:Operand->Value)(st:St)(v:Value)(st':St)(h:(xk P o Z st).bind DT.eval=some (v,st')) :
  bM o.op=false/\∀ (K:Prot) (Y:Env) (w:World) (Z':Operand->Value),(∀ x,VR Y (Z x) (Z' x))->Rel P K Y st w->aG P K Y st w ((execOp Z' o).run P w) (.val v st'):=by
 have dflt:(jV P o Z st).bind DT.eval=some (v,st')->bM o.op=false/\∀ (K:Prot) (Y:Env) (w:World) (Z':Operand->Value),(∀ x,VR Y (Z x) (Z' x))->Rel P K Y st w->aG P K Y st w ((execOp Z' o).run P w) (.val v st'):=EU hN o Z st v st';unfold xk at h;split at h
 ·rename_i c hop;split at h
  ·rename_i x y hc1 hc2;split at h
   ·rename_i a n cap hy;split at h
    ·rename_i cs e hg;rw[aP]at hg;split at h
     ·simp only[Option.bind_some]at h;obtain⟨cs1,st1,h1,h2,h3,h4⟩:=iV _ _ _ _ _ h;split at h1
      ·rename_i c1 e1 ex1 hg1;rw[aP]at hg1;obtain⟨hc,h1⟩:=dG h1;simp only[Bool.and_eq_true]at hc;have he:=Nat.eq_of_beq_eq_true hc.1;have hln:=Nat.eq_of_beq_eq_true hc.2;subst he;split at h1
       ·rename_i t ht;have hs:=EU hN o Z ⟨aJ (path a.block) st1.heap (.cells cs1 e1 true),st1.next⟩ v st' (by rw[ht]; exact h1);refine⟨hs.1,fun K Y w Z' hZ hr=>?_⟩;obtain⟨l,hl,hbk⟩:=hr.get_cells hg;rcases hbk with⟨_,_,hx0⟩ | ⟨hv,hnK,cc,f,g1,g2,g3,g4,g5,g6,g7⟩
        ·cases hx0
        ·obtain⟨Y1,a1,a2,a3⟩:=h4 K Y w _ hr g6;have hl1:=a1 _ _ hl;have hrel:Rel P K Y1 ⟨aJ (path a.block) st1.heap (.cells cs1 e1 true),st1.next⟩ w:=by
          rw[aK];refine a2.update (b':= .cells cs1 e1 true) hg1 rfl rfl rfl hl1 rfl (fun _ _=>rfl) (Or.inr ⟨hv,cc,f,g1,g2,g3,by omega,fun _=>by rw[h3]; exact g5 rfl,by rw[h3]; exact a3,g7.1,fun h=>by cases h⟩)
         obtain⟨Y2,w2,v2,b1,b2,b3,b4,b5⟩:=hs.2 K Y1 w Z' (fun z=>(hZ z).mono a1) hrel;exact⟨Y2,w2,v2,b1,a1.trans b2,b3,b4,b5⟩
       ·cases h1
      ·cases h1
     ·cases h
    ·exact dflt h
   ·exact dflt h
  ·exact dflt h
 ·exact dflt h
def Po(P:Program):Ct:=⟨fun _ _ _=>none,fun _ _ _ _=>none,xk P⟩
theorem F9(o:Oper)(Z Z':Operand->Value)(st:St)(h:∀ x∈o.op.operands,Z x=Z' x):xk P o Z st=xk P o Z' st:=by
 have hs:∀ st,jV P o Z st=jV P o Z' st:=fun st=>Gt o Z Z' st h;unfold xk;simp only[hs];split
 ·rename_i c hop;split
  ·rename_i x y hc1 hc2;have hargs:∀ x∈c.args.toList,Z x=Z' x:=fun x hx=>h x (by rw[hop]; simp[Op.operands,Call.operands]; exact(by first | exact Or.inr (by simpa using hx) | exact Or.inl (by simpa using hx)));rw[hargs y (by rw[hc2]; simp)]
  ·rfl
 ·rfl
theorem Oa(hN:noNum P=true):CtOk P (Po P):=⟨fun _ _ _ _ _ _ h=>(by cases h),fun _ _ _ _ _ _ _ _ _ h=>(by cases h),F9,fun K o Z st v st' h=>⟨(Fp hN o Z st v st' h).1,(Fp hN o Z st v st' h).2 K⟩⟩
end
section
variable{P:Program}{ct:Ct}
theorem Ol{K:Prot}{Y:Env}{st:St}{w:World}(hr:Rel P K Y st w){a:Addr}{c:List Value}{e:TypeId}{len m:Nat}{v':Value}(hg:st.heap.get a.block=some (.cells c e false))(ho:a.off+m<=c.length)(hv:VR Y (.slice (some a) len unk) v') :
  ∃ Y',Y.le Y'/\Rel P K Y' (newRow (kill st a.block) ((c.drop a.off).take m) e false).2 w/\VR Y' (.slice (some (newRow (kill st a.block) ((c.drop a.off).take m) e false).1) len unk) v':=by
 simp only[VR]at hv;obtain⟨hs,l,hl,hsl⟩:=hv;obtain⟨l',k1,hbk⟩:=hr.get_cells hg;obtain rfl:l'=l:=by rw[k1]at hl; exact Option.some.inj hl
 rcases hbk with⟨hvt,hc,_⟩ | ⟨hvt,k2,cc,f,k3,k4,k5,k6,k7,k8,k9⟩
 ·subst hc;have hk:=hr.kill a.block (by intro o e; rw[hg]at e; cases e);have hv:=hk.virt e 0 0;refine⟨_,hk.le_put _,by rw[List.drop_nil,List.take_nil]; exact hv,⟨rfl,_,aO _ _ _,?_⟩⟩;unfold aI at hsl ⊢;rw[if_pos hvt]at hsl;rw[if_pos rfl];exact⟨hsl.1,rfl,Or.inr rfl,hsl.2.2.2⟩
 ·unfold aI at hsl;rw[if_neg (by simp[hvt]),if_neg (by simp),if_pos rfl]at hsl;have hlen:((c.drop a.off).take m).length=m:=by rw[List.length_take,List.length_drop]; omega
  refine⟨Y.put st.next ⟨l'.blk,l'.base+a.off,l'.total-a.off,l'.esize,none,false⟩,hr.le_put _,hr.move hg rfl rfl rfl k1 hvt rfl rfl rfl (fun _ _=>rfl) ?_,⟨rfl,_,aO _ _ _,?_⟩⟩
  ·refine bY.mono (hr.le_put _) (Or.inr ⟨rfl,cc,f,k3,k4,by show l'.base+a.off+(l'.total-a.off)<=_; omega,by rw[hlen]; show _<=l'.total-a.off; omega,fun h=>(by cases h),?_,k9.1,fun _=>by have:=k9.2 rfl; show l'.total-a.off<9223372036854775808*l'.esize; omega⟩);have hh:=(k8.drop a.off).take m;rw[List.drop_take,List.drop_drop,List.take_take]at hh;rw[hlen];have:min m (c.length-a.off)=m:=by omega
   rw[this]at hh;exact hh
  ·unfold aI;rw[if_neg (by simp),if_neg (by simp),if_pos rfl];refine⟨?_,Nat.zero_le _⟩;rw[hsl.1];show _=Value.slice (some ⟨l'.blk,l'.base+a.off+0,none⟩) len ((l'.total-a.off-0) / l'.esize)
   rfl
theorem MI{K:Prot}{Y:Env}{st:St}{w:World}(hr:Rel P K Y st w){a:Addr}{c:List Value}{e:TypeId}{len cp:Nat}{v':Value}(hg:st.heap.get a.block=some (.cells c e false))(h1:cp≠unk)(h2:unk<=cp)(hv:VR Y (.slice (some a) len cp) v') :
  ∃ Y',Y.le Y'/\Rel P K Y' (newRow (kill st a.block) [] e false).2 w/\VR Y' (.slice (some (newRow (kill st a.block) [] e false).1) 0 unk) v':=by
 simp only[VR]at hv;obtain⟨hs,l,hl,hsl⟩:=hv;obtain⟨l',k1,hbk⟩:=hr.get_cells hg;obtain rfl:l'=l:=by rw[k1]at hl; exact Option.some.inj hl
 have hu:unk≠0:=by unfold unk; omega
 rcases hbk with⟨hvt,hc,_⟩ | ⟨hvt,k2,cc,f,k3,k4,k5,k6,k7,k8,k9⟩
 ·unfold aI at hsl;rw[if_pos hvt]at hsl;rcases hsl.2.2.1 with h | h
  ·omega
  ·exact absurd h h1
 ·unfold aI at hsl;rw[if_neg (by simp[hvt]),if_neg (by omega),if_neg h1]at hsl;obtain⟨rfl,q2,q3,q4⟩:=hsl;have hpos:0<l'.esize:=by
   have:=k9.2 rfl;rcases Nat.eq_zero_or_pos l'.esize with h | h
   ·rw[h]at this; omega
   ·exact h
  have make:∀ (b t:Nat),l'.base<=b->b+t<=l'.base+l'.total->v' = .slice (some ⟨l'.blk,b,none⟩) 0 (t / l'.esize)->
    ∃ Y',Y.le Y'/\Rel P K Y' (newRow (kill st a.block) [] e false).2 w/\VR Y' (.slice (some (newRow (kill st a.block) [] e false).1) 0 unk) v':=by
   intro b t hb ht hv;refine⟨Y.put st.next ⟨l'.blk,b,t,l'.esize,none,false⟩,hr.le_put _,hr.move hg rfl rfl rfl k1 hvt rfl rfl rfl (fun _ _=>rfl) ?_,⟨rfl,_,aO _ _ _,?_⟩⟩
   ·refine bY.mono (hr.le_put _) (Or.inr ⟨rfl,cc,f,k3,k4,by show b+t<=_; omega,Nat.zero_le _,fun h=>(by cases h),?_,k9.1,fun _=>by have:=k9.2 rfl; show t<9223372036854775808*l'.esize; omega⟩);rw[List.length_nil,List.take_zero]; exact VRL.nil
   ·unfold aI;rw[if_neg (by simp),if_neg (by simp),if_pos rfl];refine⟨?_,Nat.zero_le _⟩;rw[hv]
    rfl
  split at q4
  ·rename_i hq;exact make (l'.base+a.off) 0 (by omega) (by omega) (by rw[q4,Nat.zero_div])
  ·have hm:(cp-unk)*l'.esize<=l'.total-a.off:=Nat.le_trans (Nat.mul_le_mul_right _ q2) (Nat.div_mul_le_self _ _);refine make (l'.base+(a.off+(cp-unk)*l'.esize)) (l'.total-a.off-(cp-unk)*l'.esize) (by omega) (by omega) ?_;rw[q4,Nat.mul_comm (cp-unk),Nat.sub_mul_div]
theorem Nl{K:Prot}{Y:Env}{st:St}{w:World}(hr:Rel P K Y st w){a:Addr}{c:List Value}{e:TypeId}{len cp:Nat}{v':Value}(hg:st.heap.get a.block=some (.cells c e false))(h1:cp<unk)(hm:len<=cp)(ho:a.off+cp*esz P e<=c.length)(hv:VR Y (.slice (some a) len cp) v') :
  ∃ Y',Y.le Y'/\Rel P K Y' (newRow (kill st a.block) ((c.drop a.off).take (len*esz P e)) e false).2 w/\VR Y' (.slice (some (newRow (kill st a.block) ((c.drop a.off).take (len*esz P e)) e false).1) len unk) v':=by
 simp only[VR]at hv;obtain⟨hs,l,hl,hsl⟩:=hv;obtain⟨l',k1,hbk⟩:=hr.get_cells hg;obtain rfl:l'=l:=by rw[k1]at hl; exact Option.some.inj hl
 rcases hbk with⟨hvt,hc,_⟩ | ⟨hvt,k2,cc,f,k3,k4,k5,k6,k7,k8,k9⟩
 ·subst hc;have hk:=hr.kill a.block (by intro o e; rw[hg]at e; cases e);have hv:=hk.virt e 0 0;refine⟨_,hk.le_put _,by rw[List.drop_nil,List.take_nil]; exact hv,⟨rfl,_,aO _ _ _,?_⟩⟩;unfold aI at hsl ⊢;rw[if_pos hvt]at hsl;rw[if_pos rfl];exact⟨hsl.1,rfl,Or.inr rfl,hsl.2.2.2⟩
 ·unfold aI at hsl;rw[if_neg (by simp[hvt]),if_pos h1]at hsl;rw[<-k4]at ho ⊢;have hpos:0<l'.esize:=by
   have:=k9.2 rfl;rcases Nat.eq_zero_or_pos l'.esize with h | h
   ·rw[h]at this; omega
   ·exact h
  have hle:len*l'.esize<=cp*l'.esize:=Nat.mul_le_mul_right _ hm;have hlen:((c.drop a.off).take (len*l'.esize)).length=len*l'.esize:=by rw[List.length_take,List.length_drop]; omega
  refine⟨Y.put st.next ⟨l'.blk,l'.base+a.off,cp*l'.esize,l'.esize,none,false⟩,hr.le_put _,hr.move hg rfl rfl rfl k1 hvt rfl rfl rfl (fun _ _=>rfl) ?_,⟨rfl,_,aO _ _ _,?_⟩⟩
  ·refine bY.mono (hr.le_put _) (Or.inr ⟨rfl,cc,f,k3,k4,by show l'.base+a.off+cp*l'.esize<=_; omega,by rw[hlen]; exact hle,fun h=>(by cases h),?_,k9.1,fun _=>by have:=k9.2 rfl; show cp*l'.esize<9223372036854775808*l'.esize; omega⟩);have hh:=(k8.drop a.off).take (len*l'.esize);rw[List.drop_take,List.drop_drop,List.take_take]at hh;rw[hlen];have:min (len*l'.esize) (c.length-a.off)=len*l'.esize:=by omega
   rw[this]at hh;exact hh
  ·unfold aI;rw[if_neg (by simp),if_neg (by simp),if_pos rfl];refine⟨?_,Nat.zero_le _⟩;rw[hsl];show _=Value.slice (some ⟨l'.blk,l'.base+a.off+0,none⟩) len ((cp*l'.esize-0) / l'.esize);rw[Nat.sub_zero,Nat.mul_div_cancel _ hpos]
   rfl
/-- Of a list: it is only read; it may grow; it is left where it lies (another one may point to the same). -/
inductive Fl where
 |val | own | keep
def jU{J:Type}(P:Program)(n:Nat):List Fl->List TypeId->List Value->St->(List Value->List Nat->St->DT J)->DT J:=
 @Nat.rec (fun _=>List Fl->List TypeId->List Value->St->(List Value->List Nat->St->DT J)->DT J) (fun _ _ _ _ _=> .fail)
  (fun _ ih fl ts vs st k=>match vs with
   |[]=>k [] [] st
   |v::vs=>match v with
    | .pointer (some a)=>ih (fl.drop 1) (tlT ts) vs st fun vs1 ps st1=>k (v::vs1) (a.block::ps) st1
    | .slice none m c=>match(match fl with | .own::_=>true | .keep::_=>true | _=>false)with
     |true=>match ts with
      |t::_=>match bP P t with
       |some (.slice e)=>gp (and (Nat.beq m 0) (Nat.beq c 0)) (ih (fl.drop 1) (tlT ts) vs ⟨aJ (path st.next) st.heap (.cells [] e false),Nat.succ st.next⟩ fun vs1 ps st1=>k (.slice (some ⟨st.next,0,none⟩) 0 unk::vs1) ps st1)
       |_=> .fail
      |[]=> .fail
     |false=>ih (fl.drop 1) (tlT ts) vs st fun vs1 ps st1=>k (Eg P ts v::vs1) ps st1
    | .slice (some a) m c=>match fl with
     | .keep::_=>ih (fl.drop 1) (tlT ts) vs st fun vs1 ps st1=>k (v::vs1) ps st1
     | .own::_=>match bg (path a.block) st.heap with
      |some (.cells cs e false)=> .ite (Nat.beq c unk)
        (gp (Nat.ble (Nat.add a.off (Nat.mul m (esz P e))) cs.length) (ih (fl.drop 1) (tlT ts) vs ⟨aJ (path st.next) (aJ (path a.block) st.heap .dead) (.cells (takeC (Nat.mul m (esz P e)) (ai a.off cs)) e false),Nat.succ st.next⟩ fun vs1 ps st1=>k (.slice (some ⟨st.next,0,none⟩) m unk::vs1) ps st1))
        (.ite (Nat.ble unk c)
         (ih (fl.drop 1) (tlT ts) vs ⟨aJ (path st.next) (aJ (path a.block) st.heap .dead) (.cells [] e false),Nat.succ st.next⟩ fun vs1 ps st1=>k (.slice (some ⟨st.next,0,none⟩) 0 unk::vs1) ps st1)
         (.ite (and (Nat.ble m c) (Nat.ble (Nat.add a.off (Nat.mul c (esz P e))) cs.length))
         (ih (fl.drop 1) (tlT ts) vs ⟨aJ (path st.next) (aJ (path a.block) st.heap .dead) (.cells (takeC (Nat.mul m (esz P e)) (ai a.off cs)) e false),Nat.succ st.next⟩ fun vs1 ps st1=>k (.slice (some ⟨st.next,0,none⟩) m unk::vs1) ps st1)
         (ih (fl.drop 1) (tlT ts) vs st fun vs1 ps st1=>k (v::vs1) ps st1)))
      |_=>ih (fl.drop 1) (tlT ts) vs st fun vs1 ps st1=>k (v::vs1) ps st1
     |_=>pg P 20 ts [v] st fun l1 st1=>match l1 with
      |[v1]=>ih (fl.drop 1) (tlT ts) vs st1 fun vs1 ps st2=>k (v1::vs1) ps st2
      |_=> .fail
    |v=>ih (fl.drop 1) (tlT ts) vs st fun vs1 ps st1=>k (v::vs1) ps st1) n
theorem i_{J:Type}{r:J}:∀ (n:Nat) (fl:List Fl) (ts:List TypeId) (vs:List Value) (st:St) (k:List Value->List Nat->St->DT J),(jU P n fl ts vs st k).eval=some r->
  ∃ vs1 ps st1,(k vs1 ps st1).eval=some r/\vs1.length=vs.length/\∀ (K:Prot) (Y:Env) (w:World) (xs:List Value),Rel P K Y st w->VRL Y vs xs->∃ Y1,Y.le Y1/\Rel P K Y1 st1 w/\VRL Y1 vs1 xs
 |0,fl,ts,vs,st,k,h=>by cases h
 |n+1,fl,ts,vs,st,k,h=>by
  have keep:∀ (v v2:Value) (vs:List Value) (f:List Nat->List Nat),(∀ (Y:Env) x,VR Y v x->VR Y v2 x)->(jU P n (fl.drop 1) (tlT ts) vs st fun vs1 ps st1=>k (v2::vs1) (f ps) st1).eval=some r->
    ∃ vs1 ps st1,(k vs1 ps st1).eval=some r/\vs1.length=(v::vs).length/\∀ (K:Prot) (Y:Env) (w:World) (xs:List Value),Rel P K Y st w->VRL Y (v::vs) xs->∃ Y1,Y.le Y1/\Rel P K Y1 st1 w/\VRL Y1 vs1 xs:=by
   intro v v2 vs f hv2 h;obtain⟨vs1,ps,st1,h1,h3,h4⟩:=i_ n _ _ vs st _ h;refine⟨_,_,_,h1,by simp[h3],fun K Y w xs hr hx=>?_⟩;simp only[VRL]at hx;obtain⟨y,ys,rfl,hy,hys⟩:=hx;obtain⟨Y1,a1,a2,a3⟩:=h4 K Y w ys hr hys;exact⟨Y1,a1,a2,VRL.cons (hv2 _ _ (hy.mono a1)) a3⟩
  cases vs with
  |nil=>exact⟨[],[],st,h,rfl,fun K Y w xs hr hx=>⟨Y,Env.le.refl _,hr,hx⟩⟩
  |cons v vs=>
   cases v with
   |pointer p=>
    cases p with
    |none=>exact keep _ _ vs id (fun _ _ h=>h) h
    |some a=>exact keep _ _ vs (a.block::·) (fun _ _ h=>h) h
   |slice p m c=>
    cases p with
    |none=>
     change (match(match fl with | .own::_=>true | .keep::_=>true | _=>false)with
      |true=>match ts with
       |t::_=>match bP P t with
        |some (.slice e)=>gp (and (Nat.beq m 0) (Nat.beq c 0)) (jU P n (fl.drop 1) (tlT ts) vs ⟨aJ (path st.next) st.heap (.cells [] e false),Nat.succ st.next⟩ fun vs1 ps st1=>k (.slice (some ⟨st.next,0,none⟩) 0 unk::vs1) ps st1)
        |_=> .fail
       |[]=> .fail
      |false=>jU P n (fl.drop 1) (tlT ts) vs st fun vs1 ps st1=>k (Eg P ts (.slice none m c)::vs1) ps st1).eval=some r at h
     split at h
     ·split at h
      ·split at h
       ·rename_i e _;obtain⟨hc,h⟩:=dG h;simp only[Bool.and_eq_true]at hc;obtain rfl:=Nat.eq_of_beq_eq_true hc.1;obtain rfl:=Nat.eq_of_beq_eq_true hc.2;obtain⟨vs1,ps,st1,h1,h3,h4⟩:=i_ n _ _ vs _ _ h;refine⟨_,_,_,h1,by simp[h3],fun K Y w xs hr hx=>?_⟩;simp only[VRL]at hx;obtain⟨y,ys,rfl,hy,hys⟩:=hx;have hv:=hr.virt e 0 0;have hst:(st.new (.cells [] e false)).2=⟨aJ (path st.next) st.heap (.cells [] e false),Nat.succ st.next⟩:=by rw[aK]; rfl
        rw[hst]at hv;obtain⟨Y1,a1,a2,a3⟩:=h4 K _ w ys hv (hys.mono (hr.le_put _));refine⟨Y1,(hr.le_put _).trans a1,a2,VRL.cons ?_ a3⟩;refine⟨rfl,_,a1 _ _ (aO _ _ _),?_⟩;unfold aI;rw[if_pos rfl];exact⟨rfl,rfl,Or.inr rfl,hy⟩
       ·cases h
      ·cases h
     ·exact keep _ _ vs id (fun _ _ h=>yD h) h
    |some a=>
     change (match fl with
      | .keep::_=>jU P n (fl.drop 1) (tlT ts) vs st fun vs1 ps st1=>k (.slice (some a) m c::vs1) ps st1
      | .own::_=>match bg (path a.block) st.heap with
       |some (.cells cs e false)=> .ite (Nat.beq c unk)
         (gp (Nat.ble (Nat.add a.off (Nat.mul m (esz P e))) cs.length) (jU P n (fl.drop 1) (tlT ts) vs ⟨aJ (path st.next) (aJ (path a.block) st.heap .dead) (.cells (takeC (Nat.mul m (esz P e)) (ai a.off cs)) e false),Nat.succ st.next⟩ fun vs1 ps st1=>k (.slice (some ⟨st.next,0,none⟩) m unk::vs1) ps st1))
         (.ite (Nat.ble unk c)
          (jU P n (fl.drop 1) (tlT ts) vs ⟨aJ (path st.next) (aJ (path a.block) st.heap .dead) (.cells [] e false),Nat.succ st.next⟩ fun vs1 ps st1=>k (.slice (some ⟨st.next,0,none⟩) 0 unk::vs1) ps st1)
          (.ite (and (Nat.ble m c) (Nat.ble (Nat.add a.off (Nat.mul c (esz P e))) cs.length))
           (jU P n (fl.drop 1) (tlT ts) vs ⟨aJ (path st.next) (aJ (path a.block) st.heap .dead) (.cells (takeC (Nat.mul m (esz P e)) (ai a.off cs)) e false),Nat.succ st.next⟩ fun vs1 ps st1=>k (.slice (some ⟨st.next,0,none⟩) m unk::vs1) ps st1)
           (jU P n (fl.drop 1) (tlT ts) vs st fun vs1 ps st1=>k (.slice (some a) m c::vs1) ps st1)))
       |_=>jU P n (fl.drop 1) (tlT ts) vs st fun vs1 ps st1=>k (.slice (some a) m c::vs1) ps st1
      |_=>pg P 20 ts [.slice (some a) m c] st fun l1 st1=>match l1 with
       |[v1]=>jU P n (fl.drop 1) (tlT ts) vs st1 fun vs1 ps st2=>k (v1::vs1) ps st2
       |_=> .fail).eval=some r at h
     split at h
     ·exact keep _ _ vs id (fun _ _ h=>h) h
     ·split at h
      ·rename_i cs e hg;rw[aP]at hg;cases hcu:Nat.beq c unk with
       |true=>
        rw[hcu]at h;have h:(gp (Nat.ble (Nat.add a.off (Nat.mul m (esz P e))) cs.length) (jU P n _ (tlT ts) vs ⟨aJ (path st.next) (aJ (path a.block) st.heap .dead) (.cells (takeC (Nat.mul m (esz P e)) (ai a.off cs)) e false),Nat.succ st.next⟩ fun vs1 ps st1=>k (.slice (some ⟨st.next,0,none⟩) m unk::vs1) ps st1)).eval=some r:=h;obtain rfl:=Nat.eq_of_beq_eq_true hcu;obtain⟨hc,h⟩:=dG h;have hc:a.off+m*esz P e<=cs.length:=Nat.le_of_ble_eq_true hc;obtain⟨vs1,ps,st1,h1,h3,h4⟩:=i_ n _ _ vs _ _ h;refine⟨_,_,_,h1,by simp[h3],fun K Y w xs hr hx=>?_⟩;simp only[VRL]at hx;obtain⟨y,ys,rfl,hy,hys⟩:=hx;obtain⟨Y1,a1,a2,a3⟩:=Ol hr hg hc hy;have hst:(newRow (kill st a.block) ((cs.drop a.off).take (m*esz P e)) e false).2=⟨aJ (path st.next) (aJ (path a.block) st.heap .dead) (.cells (takeC (Nat.mul m (esz P e)) (ai a.off cs)) e false),Nat.succ st.next⟩:=by
         rw[aK,aK]; rfl
        rw[hst]at a2;obtain⟨Y2,b1,b2,b3⟩:=h4 K Y1 w ys a2 (hys.mono a1);exact⟨Y2,a1.trans b1,b2,VRL.cons (a3.mono b1) b3⟩
       |false=>
        rw[hcu]at h;cases hcb:Nat.ble unk c with
        |true=>
         rw[hcb]at h;have h:(jU P n _ (tlT ts) vs ⟨aJ (path st.next) (aJ (path a.block) st.heap .dead) (.cells [] e false),Nat.succ st.next⟩ fun vs1 ps st1=>k (.slice (some ⟨st.next,0,none⟩) 0 unk::vs1) ps st1).eval=some r:=h;obtain⟨vs1,ps,st1,h1,h3,h4⟩:=i_ n _ _ vs _ _ h;refine⟨_,_,_,h1,by simp[h3],fun K Y w xs hr hx=>?_⟩;simp only[VRL]at hx;obtain⟨y,ys,rfl,hy,hys⟩:=hx;obtain⟨Y1,a1,a2,a3⟩:=MI hr hg (Nat.ne_of_beq_eq_false hcu) (Nat.le_of_ble_eq_true hcb) hy;have hst:(newRow (kill st a.block) [] e false).2=⟨aJ (path st.next) (aJ (path a.block) st.heap .dead) (.cells [] e false),Nat.succ st.next⟩:=by
          rw[aK,aK]; rfl
         rw[hst]at a2;obtain⟨Y2,b1,b2,b3⟩:=h4 K Y1 w ys a2 (hys.mono a1);exact⟨Y2,a1.trans b1,b2,VRL.cons (a3.mono b1) b3⟩
        |false=>
         rw[hcb]at h;have hlt:c<unk:=by
          rcases Nat.lt_or_ge c unk with q | q
          ·exact q
          ·rw[Nat.ble_eq_true_of_le q]at hcb; cases hcb
         cases hcd:and (Nat.ble m c) (Nat.ble (Nat.add a.off (Nat.mul c (esz P e))) cs.length)with
         |false=>
          rw[hcd]at h;exact keep _ _ vs id (fun _ _ h=>h) h
         |true=>
          rw[hcd]at h;have h:(jU P n _ (tlT ts) vs ⟨aJ (path st.next) (aJ (path a.block) st.heap .dead) (.cells (takeC (Nat.mul m (esz P e)) (ai a.off cs)) e false),Nat.succ st.next⟩ fun vs1 ps st1=>k (.slice (some ⟨st.next,0,none⟩) m unk::vs1) ps st1).eval=some r:=h;simp only[Bool.and_eq_true]at hcd;obtain⟨vs1,ps,st1,h1,h3,h4⟩:=i_ n _ _ vs _ _ h;refine⟨_,_,_,h1,by simp[h3],fun K Y w xs hr hx=>?_⟩;simp only[VRL]at hx;obtain⟨y,ys,rfl,hy,hys⟩:=hx;obtain⟨Y1,a1,a2,a3⟩:=Nl hr hg hlt (Nat.le_of_ble_eq_true hcd.1) (Nat.le_of_ble_eq_true hcd.2) hy;have hst:(newRow (kill st a.block) ((cs.drop a.off).take (m*esz P e)) e false).2=⟨aJ (path st.next) (aJ (path a.block) st.heap .dead) (.cells (takeC (Nat.mul m (esz P e)) (ai a.off cs)) e false),Nat.succ st.next⟩:=by
           rw[aK,aK]; rfl
          rw[hst]at a2;obtain⟨Y2,b1,b2,b3⟩:=h4 K Y1 w ys a2 (hys.mono a1);exact⟨Y2,a1.trans b1,b2,VRL.cons (a3.mono b1) b3⟩
      ·exact keep _ _ vs id (fun _ _ h=>h) h
     ·obtain⟨l1,st1,h1,h2,h3,h4⟩:=iV _ _ _ _ _ h;split at h1
      ·rename_i v1;obtain⟨vs1,ps,st2,k1,k3,k4⟩:=i_ n _ _ vs _ _ h1;refine⟨_,_,_,k1,by simp[k3],fun K Y w xs hr hx=>?_⟩;simp only[VRL]at hx;obtain⟨y,ys,rfl,hy,hys⟩:=hx;obtain⟨Y1,a1,a2,a3⟩:=h4 K Y w [y] hr (VRL.cons hy VRL.nil);obtain⟨Y2,b1,b2,b3⟩:=k4 K Y1 w ys a2 (hys.mono a1);simp only[VRL]at a3;obtain⟨y',ys',e',hy',_⟩:=a3;cases e';exact⟨Y2,a1.trans b1,b2,VRL.cons (hy'.mono b1) b3⟩
      ·cases h1
   |_=>exact keep _ _ vs id (fun _ _ h=>h) h
abbrev Pol:=TypeId->Option (List Fl)
def uZ{J:Type}(P:Program)(pol:Pol)(n:Nat):List Nat->List Nat->St->(St->DT J)->DT J:=
 @Nat.rec (fun _=>List Nat->List Nat->St->(St->DT J)->DT J) (fun _ _ _ _=> .fail)
  (fun _ ih todo seen st k=>match todo with
   |[]=>k st
   |b::todo=>@Bool.rec (fun _=>DT J)
     (match bg (path b) st.heap with
      |some (.cells c e true)=>match pol e with
       |some fl=>jU P 60 fl (Ap P 6 e) c st fun c1 ps st1=>match bg (path b) st1.heap with
        |some (.cells c2 e2 x2)=>gp (and (Nat.beq e2 e) (and x2 (Nat.beq c1.length c2.length))) (ih (ps.append todo) (b::seen) ⟨aJ (path b) st1.heap (.cells c1 e true),st1.next⟩ k)
        |_=> .fail
       |none=>ih todo (b::seen) st k
      |_=>ih todo (b::seen) st k)
     (ih todo seen st k) (jb seen b)) n
theorem kC{J:Type}{r:J}{pol:Pol}:∀ (n:Nat) (todo seen:List Nat) (st:St) (k:St->DT J),(uZ P pol n todo seen st k).eval=some r->
  ∃ st1,(k st1).eval=some r/\∀ (K:Prot) (Y:Env) (w:World),Rel P K Y st w->∃ Y1,Y.le Y1/\Rel P K Y1 st1 w
 |0,todo,seen,st,k,h=>by cases h
 |n+1,todo,seen,st,k,h=>by
  cases todo with
  |nil=>exact⟨st,h,fun K Y w hr=>⟨Y,Env.le.refl _,hr⟩⟩
  |cons b todo=>
   change (@Bool.rec (fun _=>DT J)
     (match bg (path b) st.heap with
      |some (.cells c e true)=>match pol e with
       |some fl=>jU P 60 fl (Ap P 6 e) c st fun c1 ps st1=>match bg (path b) st1.heap with
        |some (.cells c2 e2 x2)=>gp (and (Nat.beq e2 e) (and x2 (Nat.beq c1.length c2.length))) (uZ P pol n (ps.append todo) (b::seen) ⟨aJ (path b) st1.heap (.cells c1 e true),st1.next⟩ k)
        |_=> .fail
       |none=>uZ P pol n todo (b::seen) st k
      |_=>uZ P pol n todo (b::seen) st k)
     (uZ P pol n todo seen st k) (jb seen b)).eval=some r at h
   cases hb:jb seen b with
   |true=>rw[hb]at h; exact kC n _ _ _ _ h
   |false=>
    rw[hb]at h;simp only at h;split at h
    ·rename_i c e hg;rw[aP]at hg;split at h
     ·obtain⟨c1,ps,st1,h1,h3,h4⟩:=i_ _ _ _ _ _ _ h;split at h1
      ·rename_i c2 e2 x2 hg1;rw[aP]at hg1;obtain⟨hc,h5⟩:=dG h1;clear h1;simp only[Bool.and_eq_true]at hc;obtain⟨q1,q2,q3⟩:=hc;have q1:=Nat.eq_of_beq_eq_true q1;have q3:=Nat.eq_of_beq_eq_true q3;subst q1 q2;obtain⟨st2,k1,k2⟩:=kC n _ _ _ _ h5;refine⟨st2,k1,fun K Y w hr=>?_⟩;obtain⟨l,hl,hbk⟩:=hr.get_cells hg;rcases hbk with⟨_,_,hx0⟩ | ⟨hv,hnK,cc,f,g1,g2,g3,g4,g5,g6,g7⟩
       ·cases hx0
       ·obtain⟨Y1,a1,a2,a3⟩:=h4 K Y w _ hr g6;have hrel:Rel P K Y1 ⟨aJ (path b) st1.heap (.cells c1 e2 true),st1.next⟩ w:=by
         rw[aK];exact a2.update (b':= .cells c1 e2 true) hg1 rfl rfl rfl (a1 _ _ hl) rfl (fun _ _=>rfl) (Or.inr ⟨hv,cc,f,g1,g2,g3,by omega,fun _=>by rw[h3]; exact g5 rfl,by rw[h3]; exact a3,g7.1,fun h=>by cases h⟩)
        obtain⟨Y2,b1,b2⟩:=k2 K Y1 w hrel;exact⟨Y2,a1.trans b1,b2⟩
      ·cases h1
     ·exact kC n _ _ _ _ h
    ·exact kC n _ _ _ _ h
def PP(l:List Value):List Nat:=@List.rec Value (fun _=>List Nat) [] (fun v _ ih=>match v with
 | .pointer (some a)=>a.block::ih
 |_=>ih) l
end
/-- A loop's head: slots that are looked at; of what kind the lists are that they hold; their types; the objects' fields likewise. -/
structure HeadD where
 nt:Nat
 L:List Tmp
 fl:List Fl
 ts:List TypeId
 pol:Pol
def HeadD.head(D:HeadD):Head:=⟨0,D.nt,D.L,[]⟩
section
variable{P:Program}{ct:Ct}
theorem IZ{Y:Env}{s:Trie Value}{n:Nat}{tmps:Array Value}(h:eP Y s n tmps)(L:List Tmp):VRL Y (L.map (lD s)) (L.map fun t=>tmps.getD t undef):=
 VRL.map _ _ L fun t _=>by rw[jY]; exact h.2 t
theorem BI{Y:Env}{tmps:Array Value}:∀ (L:List Tmp) (vs:List Value) (s:Trie Value),(∀ i,VR Y ((s.get i).getD undef) (tmps.getD i undef))->VRL Y vs (L.map fun t=>tmps.getD t undef)->∀ i,VR Y (((jh L vs s).get i).getD undef) (tmps.getD i undef)
 |[],[],s,h,_,i=>by simpa [jh]using h i
 |[],v::vs,s,h,hv,i=>by simpa [jh]using h i
 |t::L,[],s,h,hv,i=>by simpa [jh]using h i
 |t::L,v::vs,s,h,hv,i=>by
  simp only[List.map_cons,VRL]at hv;obtain⟨y,ys,e,hy,hys⟩:=hv;cases e;simp only[jh];refine BI L vs _ (fun j=>?_) hys i;rw[aK,Trie.get_set];by_cases hj:j=t
  ·subst hj; rw[if_pos rfl]; exact hy
  ·rw[if_neg hj]; exact h j
theorem Il{Y:Env}{tmps:Array Value}{nt:Nat}{L:List Tmp}{vs:List Value}(hsz:tmps.size=nt)(hv:VRL Y vs (L.map fun t=>tmps.getD t undef)):eP Y (mkS nt L vs) nt tmps:=by
 refine⟨hsz,fun i=>?_⟩;unfold mkS;refine BI L vs _ (fun j=>?_) hv i;rw[lH];split
 ·rename_i hj;simp only[List.length_replicate]at hj;rw[List.getElem?_replicate,if_pos (by omega)];exact trivial
 ·rename_i hj;simp only[List.length_replicate]at hj;have hge:tmps.size<=j:=by omega
  have:tmps.getD j undef=undef:=by simp[Array.getD,Nat.not_lt.2 hge]
  rw[this];exact VR.flat_refl undef rfl
end
end Go.VS
end

noncomputable section
namespace Go.VS

section
/-- How a struct lies in cells. -/
structure Enc(J:Type) where
 sz:Nat
 f:J->List Value
 len:∀ a,(f a).length=sz
 pos:0<sz
 inj:∀ a b,f a=f b->a=b
 nr:∀ a,di (f a)=true
variable{J:Type}(E:Enc J)
def Enc.all(l:List J):List Value:=l.flatMap E.f
theorem Enc.all_nil:E.all []=[]:=rfl
theorem Enc.all_cons(a:J)(l:List J):E.all (a::l)=E.f a++E.all l:=List.flatMap_cons
theorem Enc.all_append(a b:List J):E.all (a++b)=E.all a++E.all b:=List.flatMap_append
theorem Enc.all_one(a:J):E.all [a]=E.f a:=by rw[E.all_cons,E.all_nil,List.append_nil]
theorem Enc.all_length(l:List J):(E.all l).length=l.length*E.sz:=by
 induction l with
 |nil=>simp[Enc.all_nil]
 |cons a l ih=>rw[E.all_cons,List.length_append,E.len,ih,List.length_cons,Nat.add_mul]; omega
theorem Enc.all_nr(l:List J):di (E.all l)=true:=by
 induction l with
 |nil=>rfl
 |cons a l ih=>rw[E.all_cons,ut,E.nr,ih]; rfl
theorem Enc.all_ren(Z:Nat->Option Nat)(l:List J):renL true Z (E.all l)=E.all l:=Aj (E.all_nr l)
theorem Enc.all_inj(a b:List J)(h:E.all a=E.all b):a=b:=by
 induction a generalizing b with
 |nil=>
  cases b with
  |nil=>rfl
  |cons y b=>
   have:=congrArg List.length h;rw[E.all_length,E.all_length,List.length_nil,List.length_cons,Nat.zero_mul]at this;have:=Nat.mul_pos (Nat.succ_pos b.length) E.pos;simp only[Nat.succ_eq_add_one]at this;omega
 |cons x a ih=>
  cases b with
  |nil=>
   have:=congrArg List.length h;rw[E.all_length,E.all_length,List.length_nil,List.length_cons,Nat.zero_mul]at this;have:=Nat.mul_pos (Nat.succ_pos a.length) E.pos;simp only[Nat.succ_eq_add_one]at this;omega
  |cons y b=>
   rw[E.all_cons,E.all_cons]at h;obtain⟨h1,h2⟩:=List.append_inj h (by rw[E.len,E.len]);rw[E.inj _ _ h1,ih b h2]
theorem Enc.all_take(n:Nat):∀ l:List J,(E.all l).take (n*E.sz)=E.all (l.take n):=by
 induction n with
 |zero=>intro l; simp[Enc.all_nil]
 |succ n ih=>
  intro l;cases l with
  |nil=>simp[Enc.all_nil]
  |cons a l=>
   rw[E.all_cons,List.take_succ_cons,E.all_cons,List.take_append,E.len,List.take_of_length_le (by rw[E.len,Nat.add_mul]; omega)];have:(n+1)*E.sz-E.sz=n*E.sz:=by rw[Nat.add_mul]; omega
   rw[this,ih l]
theorem Enc.all_self(l:List J):(E.all l).take (l.length*E.sz)=E.all l:=by rw[E.all_take,List.take_length]
theorem Enc.nth{l:List J}{i j:Nat}(hi:i<l.length)(hj:j<E.sz):aj (E.all l) (i*E.sz+j)=(E.f l[i]).getD j undef:=by
 unfold aj;have h1:E.all l=E.all (l.take i)++(E.f l[i]++E.all (l.drop (i+1))):=by
  rw[<-E.all_cons,<-E.all_append];congr 1;rw[<-List.drop_eq_getElem_cons hi,List.take_append_drop]
 have h2:(E.all (l.take i)).length=i*E.sz:=by rw[E.all_length,List.length_take]; congr 1; omega
 rw[h1,List.getD_eq_getElem?_getD,List.getD_eq_getElem?_getD,List.getElem?_append_right (by omega),h2,List.getElem?_append_left (by rw[E.len]; omega)];congr 2;omega
open Classical in
def Enc.is(c:List Value):Bool:=decide (∃ l,E.all l=c)
open Classical in
def Enc.dec(c:List Value):List J:=if h:∃ l,E.all l=c then h.choose else []
open Classical in
theorem Enc.is_all(l:List J):E.is (E.all l)=true:=by unfold Enc.is; exact decide_eq_true ⟨l,rfl⟩
open Classical in
theorem Enc.all_dec{c:List Value}(h:E.is c=true):E.all (E.dec c)=c:=by
 unfold Enc.is at h;have h:=of_decide_eq_true h;unfold Enc.dec;rw[dif_pos h];exact h.choose_spec
def Enc.fz(m t n:Nat)(c:List Value):Bool:=Nat.beq t (FZ+E.sz)&&E.is c&&Nat.beq n (E.dec c).length&&Nat.ble (E.dec c).length m
end
section
/-- How a state lies in values and blocks. -/
structure Con(U:Type) where
 enc:U->List Value×List Blk
 ok:U->Prop
 inj:∀ a b,enc a=enc b->a=b
 dflt:U
variable{U:Type}(k:Con U)
open Classical in
def Con.C(vs:List Value)(bs:List Blk):Bool:=decide (∃ s,k.enc s=(vs,bs)/\k.ok s)
open Classical in
def Con.D(vs:List Value)(bs:List Blk):U:=if h:∃ s,k.enc s=(vs,bs)then h.choose else k.dflt
open Classical in
theorem Con.D_enc{s:U}{vs:List Value}{bs:List Blk}(h:k.enc s=(vs,bs)):k.D vs bs=s:=by
 have hx:∃ s,k.enc s=(vs,bs):=⟨s,h⟩
 unfold Con.D;rw[dif_pos hx];exact k.inj _ _ (hx.choose_spec.trans h.symm)
open Classical in
theorem Con.C_enc{s:U}{vs:List Value}{bs:List Blk}(h:k.enc s=(vs,bs))(ho:k.ok s):k.C vs bs=true:=by
 unfold Con.C; exact decide_eq_true ⟨s,h,ho⟩
open Classical in
theorem Con.of{vs:List Value}{bs:List Blk}(h:k.C vs bs=true):∃ s,k.enc s=(vs,bs)/\k.ok s/\k.D vs bs=s:=by
 unfold Con.C at h;obtain⟨s,h1,h2⟩:=of_decide_eq_true h;exact⟨s,h1,h2,k.D_enc h1⟩
def uO(C:List Value->List Blk->Bool)(D:List Value->List Blk->U)(res:U->DT (Value×List Blk)):dJ:=fun args bs=>some (.ite (C args bs) (res (D args bs)) .fail)
def Be(C:List Value->List Blk->Bool)(D:List Value->List Blk->U)(res:U->DT (Ex×List Value×List Blk)):jL:=fun vs bs=>some (.ite (C vs bs) (res (D vs bs)) .fail)
end
end Go.VS
end

noncomputable section
namespace Go.VS
open Go.RowKit
section
variable{P:Program}{ct:Ct}
def o5(X L:List Nat)(st:St)(bs:List Blk):St:=⟨jS (bC X st.next) X bs st.next (qh L st.heap),st.next+(bs.length-X.length)⟩
theorem CY{K:Prot}{Y:Env}{st:St}{w:World}(h:Rel P K Y st w){X L:List Nat}(hndS:(X++L).Nodup)(hcells:∀ b∈X++L,∃ x,st.heap.get b=some x/\Bf x=true) :
  ∃ K':Prot,(∀ k,K k->K' k)/\(∀ i,¬K'.id i)/\Rel P K' (fB 0 (X++L) Y) (mkSt ((X++L).map fun b=>gY true (rhoO 0 (X++L)) (st.heap.get b))) w/\
   ∀ (Y1:Env) (bs1:List Blk) (w1:World),leN X.length (fB 0 (X++L) Y) Y1->X.length<=bs1.length->Rel P K' Y1 (mkSt bs1) w1->Bel K' w w1->
    Y.le (gV X st.next Y Y1)/\Rel P K (gV X st.next Y Y1) (o5 X L st bs1) w1/\RenOk true (bC X st.next) Y1 (gV X st.next Y Y1):=by
 generalize hS:X++L=src at hndS hcells ⊢;have hnd:X.Nodup:=by rw[<-hS]at hndS; exact(List.nodup_append.1 hndS).1
 have hXs:∀ b∈X,b∈src:=fun b hb=>by rw[<-hS]; exact List.mem_append_left _ hb
 have hLs:∀ b∈L,b∈src:=fun b hb=>by rw[<-hS]; exact List.mem_append_right _ hb
 have hsX:∀ b,b∉X->b∉L->b∉src:=fun b h1 h2 h=>by rw[<-hS]at h; exact(List.mem_append.1 h).elim h1 h2
 let st0:St:=⟨oD (src.map fun b=>(b,(st.heap.get b).getD .dead)) .leaf,st.next⟩
 have h0:∀ i,st0.heap.get i=if i∈src then st.heap.get i else none:=by
  intro i;show(oD _ .leaf).get i=_;rw[lF];rcases eH (src.map fun b=>(b,(st.heap.get b).getD .dead)) i ((Trie.leaf:Trie Blk).get i)with⟨n,e⟩ | ⟨n,b',hb',e⟩
  ·rw[e];have:i∉src:=fun hi=>n (by simp only[List.map_map,List.mem_map]; exact⟨i,hi,rfl⟩);rw[if_neg this]; rfl
  ·rw[e];obtain⟨j,hj,hje⟩:=List.mem_map.1 hb';simp only[Prod.mk.injEq]at hje;obtain⟨rfl,rfl⟩:=hje;obtain⟨x,hc,hcm⟩:=hcells j hj;rw[if_pos hj,hc]; rfl
 obtain⟨K1,k1,k2,k3,k4⟩:=h.part (st0:=st0) rfl (fun i b hi _=>by
  rw[h0]at hi;split at hi
  ·exact hi
  ·cases hi) (fun i o hi=>by
  rw[h0]at hi;split at hi
  ·rename_i hm;obtain⟨x,hc,hcm⟩:=hcells i hm;rw[hc]at hi; cases hi; cases hcm
  ·cases hi)
 let K':Prot:=⟨K1.blk,fun _=>False,K1.nofz,K1.obs,K1.sub⟩
 have r0:Rel P K' Y st0 w:=⟨k3.base,k3.dom,k3.blk,k3.inj,fun i hi=>hi.elim,k3.nofz,k3.frz,k3.objs⟩
 have hmid:=iY (N:=0) (src:=src) r0 (fun i hi=>hi.elim) (Nat.zero_le _) hndS (fun b hb=>by
  obtain⟨x,hc,hcm⟩:=hcells b hb
  exact⟨x,by rw[h0,if_pos hb]; exact hc,hcm⟩)
 have hms:(src.map fun b=>gY true (rhoO 0 src) (st0.heap.get b))=src.map fun b=>gY true (rhoO 0 src) (st.heap.get b):=by
  apply List.map_congr_left;intro b hb;rw[h0,if_pos hb]
 have hsrc:∀ b∈src,∃ l,Y (b:Int)=some l/\b<st.next:=by
  intro b hb;obtain⟨x,hc,hcm⟩:=hcells b hb;obtain⟨l,hl,_⟩:=h.blk b _ hc (CJ hcm);exact⟨l,hl,(h.dom b l hl).1⟩
 refine⟨K',k1,fun i hi=>hi,by rw[<-hms]; exact hmid,fun Y1 bs1 w1 hle hlen h1 hb=>?_⟩;have hneg:∀ k l,Y (Int.negSucc k)=some l->Y1 (Int.negSucc k)=some l:=fun k l hk=>hle (Int.negSucc k) l (by have:=Int.negSucc_lt_zero k; omega) hk;have hre:∀ (j b:Nat),X[j]? = some b->Y1 (j:Int)=Y (b:Int):=by
  intro j b hjX;have hjl:j<X.length:=(List.getElem?_eq_some_iff.1 hjX).1;have hj:src[j]? = some b:=by rw[<-hS,List.getElem?_append_left hjl]; exact hjX
  obtain⟨l,hl,_⟩:=hsrc b (List.mem_of_getElem? hj);rw[hl];refine hle j l (by omega) ?_;show(if j<0 then Y (j:Int)else match src[j-0]? with | some b=>Y (b:Int) | none=>none)=_;rw[if_neg (by omega),Nat.sub_zero,hj]; exact hl
 have hple:Y.le (gV X st.next Y Y1):=by
  intro i l hi;cases i with
  |negSucc k=>exact hneg k l hi
  |ofNat i=>
   have:=(h.dom i l hi).1;show(if i<st.next then Y (i:Int)else _)=_;rw[if_pos this]; exact hi
 have hold:∀ i,i<st.next->gV X st.next Y Y1 (i:Int)=Y (i:Int):=by
  intro i hi;show(if i<st.next then Y (i:Int)else _)=_;rw[if_pos hi]
 have hbig:∀ i,st.next<=i->gV X st.next Y Y1 (i:Int)=Y1 ((i-st.next+X.length:Nat):Int):=by
  intro i hi;show(if i<st.next then Y (i:Int)else _)=_;rw[if_neg (by omega)]
 have hren:RenOk true (bC X st.next) Y1 (gV X st.next Y Y1):=by
  refine⟨fun b b' l hb hl=>?_,fun _ k l hk=>hk⟩;by_cases hbl:b<X.length
  ·rw[pI _ _ _ hbl]at hb;rw[hold b' (hsrc b' (hXs _ (List.mem_of_getElem? hb))).choose_spec.2,<-hre b b' hb]; exact hl
  ·rw[o6 _ _ _ (by omega)]at hb;obtain rfl:=Option.some.inj hb;rw[hbig _ (Nat.le_add_right _ _),show st.next+(b-X.length)-st.next+X.length=b by omega]; exact hl
 have hfrom:∀ (t:Trie Blk) (i:Nat) b,(jS (bC X st.next) X bs1 st.next t).get i=some b->(∃ (j:Nat) (b0:Blk),bs1[j]? = some b0/\b=renC (bC X st.next) b0/\gV X st.next Y Y1 (i:Int)=Y1 (j:Int)/\bC X st.next j=some i/\(i∈X\/st.next<=i/\i<st.next+(bs1.length-X.length)))\/(i∉X/\¬(st.next<=i/\i<st.next+(bs1.length-X.length))/\t.get i=some b):=by
  intro t i b hi;rcases jB X bs1 st.next t i hnd hlen (fun b hb=>(hsrc b (hXs b hb)).choose_spec.2)with⟨j,g1,g2⟩ | ⟨g1,g2⟩
  ·rw[g2]at hi;cases hx:bs1[j]? with
   |none=>rw[hx]at hi; cases hi
   |some b0=>
    rw[hx]at hi;have hm:=List.mem_of_getElem? g1;refine Or.inl ⟨j,b0,hx,(Option.some.inj hi).symm,?_,?_,Or.inl hm⟩
    ·rw[hold i (hsrc i (hXs i hm)).choose_spec.2,hre j i g1]
    ·rw[pI _ _ _ (List.getElem?_eq_some_iff.1 g1).1]; exact g1
  ·rw[g2]at hi;split at hi
   ·rename_i hr;cases hx:bs1[i-st.next+X.length]? with
    |none=>rw[hx]at hi; cases hi
    |some b0=>
     rw[hx]at hi;refine Or.inl ⟨_,b0,hx,(Option.some.inj hi).symm,hbig i hr.1,?_,Or.inr hr⟩;rw[o6 _ _ _ (by omega)];congr 1;omega
   ·rename_i hr;exact Or.inr ⟨g1,hr,hi⟩
 have hlone:∀ (i:Nat) b,(o5 X [] ⟨.leaf,st.next⟩ bs1).heap.get i=some b->∃ (j:Nat) (b0:Blk),(mkSt bs1).heap.get j=some b0/\b=renC (bC X st.next) b0/\gV X st.next Y Y1 (i:Int)=Y1 (j:Int)/\bC X st.next j=some i:=by
  intro i b hi;rcases hfrom .leaf i b hi with⟨j,b0,g1,g2,g3,g4,_⟩ | ⟨_,_,g⟩
  ·exact⟨j,b0,by rw[bz]; exact g1,g2,g3,g4⟩
  ·cases g
 have hnx:(mkSt bs1).next=bs1.length:=rfl
 have rl:Rel P K1 (gV X st.next Y Y1) (o5 X [] ⟨.leaf,st.next⟩ bs1) w1:=by
  refine⟨h1.base,fun i l hi=>?_,fun i b hi hl=>?_,fun i j bi bj li lj hi hbi hj hbj hli hlj v1 v2 e=>?_,fun i hi=>?_,fun k l hk=>h1.nofz k l hk,fun k l hk=>?_,h1.objs.1.neg fun _ _ h=>h,fun _ _=>False,fun i o hi=>?_,fun i k hk=>hk.elim⟩
  ·by_cases hin:i<st.next
   ·rw[hold i hin]at hi;obtain⟨a1,a2⟩:=h.dom i l hi;exact⟨Nat.lt_of_lt_of_le a1 (Nat.le_add_right _ _),fun hv=>Nat.lt_of_lt_of_le (a2 hv) hb.size⟩
   ·rw[hbig i (by omega)]at hi;obtain⟨a1,a2⟩:=h1.dom _ l hi;exact⟨by show i<st.next+(bs1.length-X.length); omega,a2⟩
  ·obtain⟨j,b0,a2,rfl,a3,_⟩:=hlone i b hi;obtain⟨l,c1,c2,c3⟩:=h1.blk _ b0 a2 (jA hl);exact⟨l,by rw[a3]; exact c1,c2,FP hren c3⟩
  ·obtain⟨i',b0,a2,rfl,a3,a4⟩:=hlone i bi hi;obtain⟨j',d0,c2,rfl,c3,c4⟩:=hlone j bj hj;rw[a3]at hli;rw[c3]at hlj;have:=h1.inj _ _ b0 d0 li lj a2 (jA hbi) c2 (jA hbj) hli hlj v1 v2 e;rw[this,c4]at a4;exact(Option.some.inj a4).symm
  ·rw[k2]at hi;obtain⟨a1,a2⟩:=h.res i hi;exact⟨Nat.lt_of_lt_of_le a1 (Nat.le_add_right _ _),by rw[hold i a1]; exact a2⟩
  ·obtain⟨f1,f2,f3⟩:=h1.frz k l hk;refine⟨f1,f2,fun j bj lj hj hbj hlj hv=>?_⟩;obtain⟨j',d0,c2,rfl,c3,_⟩:=hlone j bj hj;rw[c3]at hlj;exact f3 _ d0 lj c2 (jA hbj) hlj hv
  ·obtain⟨_,b0,_,e,_⟩:=hlone i _ hi;exact(sU e.symm).elim
 refine⟨hple,k4 _ (o5 X [] ⟨.leaf,st.next⟩ bs1) _ w1 hple rl ⟨hb.os,hb.tape,hb.output,hb.size,hb.block⟩ (Nat.le_add_right _ _) (fun i o hi=>?_) rfl (fun i b hi hl=>?_) (fun i o hi hdead=>?_),hren⟩
 ·obtain⟨_,b0,_,e,_⟩:=hlone i _ hi;exact(sU e.symm).elim
 ·have hq:=jB (Z:=bC X st.next) X bs1 st.next .leaf i hnd hlen (fun b hb=>(hsrc b (hXs b hb)).choose_spec.2)
  have hq2:=jB (Z:=bC X st.next) X bs1 st.next (qh L st.heap) i hnd hlen (fun b hb=>(hsrc b (hXs b hb)).choose_spec.2)
  have hi:(jS (bC X st.next) X bs1 st.next (qh L st.heap)).get i=some b:=hi;rcases hq2 with⟨j,g1,g2⟩ | ⟨g1,g2⟩
  ·refine Or.inl ?_;rcases hq with⟨j',g1',g2'⟩ | ⟨g1',_⟩
   ·have:j'=j:=uV hnd g1' g1;subst this;show(jS _ X bs1 st.next .leaf).get i=_;rw[g2',<-g2]; exact hi
   ·exact absurd (List.mem_of_getElem? g1) g1'
  ·rcases hq with⟨j',g1',g2'⟩ | ⟨g1',g2'⟩
   ·exact absurd (List.mem_of_getElem? g1') g1
   ·rw[g2]at hi;split at hi
    ·rename_i hr;refine Or.inl ?_;show(jS _ X bs1 st.next .leaf).get i=_;rw[g2',if_pos hr]; exact hi
    ·rename_i hr;rw[uX]at hi;split at hi
     ·obtain rfl:=Option.some.inj hi; cases hl
     ·rename_i hns;refine Or.inr ⟨fun c hc=>?_,fun c hc=>?_,hi⟩
      ·have hc:(jS _ X bs1 st.next .leaf).get i=some c:=hc;rw[g2',if_neg hr]at hc; cases hc
      ·rw[h0,if_neg (hsX i g1 hns)]at hc; cases hc
 ·obtain⟨l,hl,_⟩:=h.blk i _ hi rfl;have hlt:=(h.dom i l hl).1;show(jS _ X bs1 st.next (qh L st.heap)).get i=_;rcases jB (Z:=bC X st.next) X bs1 st.next (qh L st.heap) i hnd hlen (fun b hb=>(hsrc b (hXs b hb)).choose_spec.2)with⟨j,g1,g2⟩ | ⟨g1,g2⟩
  ·obtain⟨x,hc,hcm⟩:=hcells i (hXs i (List.mem_of_getElem? g1));rw[hi]at hc; cases hc; cases hcm
  ·rw[g2,if_neg (by omega),uX,if_neg]
   ·exact hi
   ·intro hm;obtain⟨x,hc,hcm⟩:=hcells i (hLs i hm);rw[hi]at hc; cases hc; cases hcm
def oH{J:Type}(h:Nat->Option Blk)(n:Nat):List Value->List Nat->List Nat->(List Nat->List Nat->J)->J:=
 @Nat.rec (fun _=>List Value->List Nat->List Nat->(List Nat->List Nat->J)->J) (fun _ X L k=>k X L)
  (fun _ ih vs X L k=>match vs with
   |[]=>k X L
   |v::vs=>match(match v with
     | .slice (some a) _ _=>some a.block
     | .pointer (some a)=>some a.block
     | .map (some r)=>some r
     | .iface _ (.pointer (some a))=>some a.block
     |_=>none)with
    |none=>ih vs X L k
    |some b=>@Bool.rec (fun _=>J)
      (match h b with
       |some (.cells c _ true)=>ih (c.append vs) (X.append [b]) L k
       |some (.map _ _)=>ih vs (X.append [b]) L k
       |_=>ih vs X (L.append [b]) k)
      (ih vs X L k) (or (jb X b) (jb L b))) n
theorem lS{J:Type}(h:Nat->Option Blk):∀ (n:Nat) (vs:List Value) (X L:List Nat) (k:List Nat->List Nat->J),∃ X' L',oH h n vs X L k=k X' L'
 |0,vs,X,L,k=>⟨X,L,rfl⟩
 |n+1,[],X,L,k=>⟨X,L,rfl⟩
 |n+1,v::vs,X,L,k=>by
  show ∃ X' L',(match(match v with
     | .slice (some a) _ _=>some a.block
     | .pointer (some a)=>some a.block
     | .map (some r)=>some r
     | .iface _ (.pointer (some a))=>some a.block
     |_=>none)with
    |none=>oH h n vs X L k
    |some b=>@Bool.rec (fun _=>J)
      (match h b with
       |some (.cells c _ true)=>oH h n (c.append vs) (X.append [b]) L k
       |some (.map _ _)=>oH h n vs (X.append [b]) L k
       |_=>oH h n vs X (L.append [b]) k)
      (oH h n vs X L k) (or (jb X b) (jb L b)))=k X' L'
  split
  ·exact lS h n _ _ _ k
  ·rename_i b _;cases or (jb X b) (jb L b)with
   |true=>exact lS h n _ _ _ k
   |false=>
    simp only;split
    ·exact lS h n _ _ _ k
    ·exact lS h n _ _ _ k
    ·exact lS h n _ _ _ k
def upTo(n:Nat):List Nat->Nat->Bool:=@Nat.rec (fun _=>List Nat->Nat->Bool) (fun _ _=>true)
 (fun _ ih X i=>match X with
  |b::X=>match Nat.beq b i with
   |true=>ih X (Nat.succ i)
   |false=>false
  |[]=>false) n
theorem vk:∀ (n:Nat) (X:List Nat) (i:Nat),upTo n X i=true->n<=X.length/\∀ j,j<n->X[j]? = some (i+j)
 |0,X,i,h=>⟨Nat.zero_le _,fun j hj=>by omega⟩
 |n+1,[],i,h=>by cases h
 |n+1,b::X,i,h=>by
  have h:(match Nat.beq b i with | true=>upTo n X (i+1) | false=>false)=true:=h;split at h
  ·rename_i hb;obtain rfl:=Nat.eq_of_beq_eq_true hb;obtain⟨h1,h2⟩:=vk n X _ h;refine⟨by simpa using h1,fun j hj=>?_⟩;cases j with
   |zero=>rfl
   |succ j=>rw[List.getElem?_cons_succ,h2 j (by omega)]; congr 1; omega
  ·cases h
theorem Hy{N:Nat}{X L:List Nat}{Y:Env}(h:upTo N X 0=true):leN N Y (fB 0 (X++L) Y):=by
 obtain⟨h1,h2⟩:=vk _ _ _ h;intro i l hi hl;cases i with
 |negSucc k=>exact hl
 |ofNat i=>
  have hi:i<N:=by have:((i:Nat):Int)<(N:Nat):=hi; omega
  show(if i<0 then Y (i:Int)else match(X++L)[i-0]? with | some b=>Y (b:Int) | none=>none)=some l;rw[if_neg (by omega),Nat.sub_zero,List.getElem?_append_left (by omega),h2 i hi,Nat.zero_add]; exact hl
/-- A loop's head: how many objects,slots,of what kind the lists are that they hold; their types; the objects' fields likewise. -/
structure HeadX where
 N:Nat
 nt:Nat
 L:List Tmp
 fl:List Fl
 ts:List TypeId
 pol:Pol
def HeadX.head(D:HeadX):Head:=⟨D.N,D.nt,D.L,[]⟩
def uj{J:Type}(P:Program)(D:HeadX)(s:Trie Value)(st:St)(k:List Nat->List Nat->St->List Value->List Blk->DT J):DT J:=
 jU P 60 D.fl D.ts (D.L.map (lD s)) st fun vs1 ps st1=>uZ P D.pol 200 ps [] st1 fun st2=>
  oH (lX st2) 1000 vs1 [] [] fun X L=>match Nat.beq X.length D.N,jE 0 (X.append L) (fun i=>bg (path i) st2.heap) (X.append L)with
  |true,some ms=>k X L st2 (vs1.map (bV true (rhoO 0 (X.append L)))) ms
  |_,_=> .fail
theorem uo{J:Type}{r:J}{D:HeadX}{s:Trie Value}{st:St}{k:List Nat->List Nat->St->List Value->List Blk->DT J}(h:(uj P D s st k).eval=some r) :
  ∃ X L st2 vs1 ms,(k X L st2 (vs1.map (bV true (rhoO 0 (X++L)))) ms).eval=some r/\X.length=D.N/\jE 0 (X++L) (fun i=>st2.heap.get i) (X++L)=some ms/\
   ∀ (K:Prot) (Y:Env) (w:World) (n:Nat) (tmps:Array Value),Rel P K Y st w->eP Y s n tmps->∃ Y1,Y.le Y1/\Rel P K Y1 st2 w/\VRL Y1 vs1 (D.L.map fun t=>tmps.getD t undef):=by
 unfold uj at h;obtain⟨vs1,ps,st1,h1,h3,h4⟩:=i_ _ _ _ _ _ _ h;obtain⟨st2,k1,k2⟩:=kC _ _ _ _ _ h1;obtain⟨X,L,hX⟩:=lS (lX st2) 1000 vs1 [] [] fun X L=>match Nat.beq X.length D.N,jE 0 (X.append L) (fun i=>bg (path i) st2.heap) (X.append L)with
  |true,some ms=>k X L st2 (vs1.map (bV true (rhoO 0 (X.append L)))) ms
  |_,_=> .fail
 rw[hX]at k1;split at k1
 ·rename_i ms hn hm;refine⟨X,L,st2,vs1,ms,k1,Nat.eq_of_beq_eq_true hn,by simp only[aP]at hm; exact hm,fun K Y w n tmps hr hs=>?_⟩;obtain⟨Y1,a1,a2,a3⟩:=h4 K Y w _ hr (IZ hs D.L);obtain⟨Y2,b1,b2⟩:=k2 K Y1 w a2;exact⟨Y2,a1.trans b1,b2,a3.mono b1⟩
 ·cases k1
def LRX(P:Program)(fid id:Nat)(B:Code)(H:Head)(vs:List Value)(bs:List Blk)(e:Ex)(vs':List Value)(bs':List Blk):Prop:=
 ∀ (K:Prot) (Y:Env) (w:World) (fr:Frame) (cs:List Frame) (k:List Item),(∀ i,¬K.id i)->fr.todo = .code B:: .inLoop B:: .inBlock id::k->fr.fn=fid->FrR Y (H.fr vs) fr->Rel P K Y (mkSt bs) w->
  rG H.N P K Y fr cs w e k (H.fr vs') (mkSt bs')/\H.N<=bs'.length
def LV(P:Program)(D:HeadX):Ex->Trie Value->List Deferred->St->Res:=fun e s d st=>match d with
 |[]=>DT.run (uj P D s st fun X _ _ vs ms=>match upTo D.N X 0 with
  |true=> .leaf (vs,ms)
  |false=> .fail) fun r=>some (.tuple ⟨exV e::r.1⟩,mkSt r.2)
 |_=>none
def eu(P:Program)(E:Eng)(ct:Ct)(n:Nat)(fid:Nat)(B:Code)(D:HeadX)(vs:List Value)(bs:List Blk):Res:=
 kM P E ct n (kP P E ct n n) fid D.nt none B (mkS D.nt D.L vs) [] (mkSt bs) (LV P D)
theorem uY{E:Eng}(hE:EngOk P ct E)(hN:noNum P=true)(hct:CtOk P ct){n fid id:Nat}{B:Code}{D:HeadX}(hocc:Occ P fid (.block id (.loop B))){vs vs1:List Value}{bs bs1:List Blk}{e:Ex}
  (h:eu P E ct n fid B D vs bs=some (.tuple ⟨exV e::vs1⟩,mkSt bs1)) (K:Prot) (Y:Env) (w:World) (fr:Frame) (cs:List Frame) (k:List Item) (hid:∀ i,¬K.id i) (ht:fr.todo = .code B::k) (hfid:fr.fn=fid) (hf:FrR Y (D.head.fr vs) fr) (hr:Rel P K Y (mkSt bs) w) :
  rG D.head.N P K Y fr cs w e k (D.head.fr vs1) (mkSt bs1)/\D.head.N<=bs1.length:=by
 unfold eu at h;obtain⟨m,e1,s1,d1,st1,h1,h2⟩:=fG hE (fJ hE n n) n fid D.nt none B _ _ _ _ _ h;unfold LV at h2;split at h2
 ·obtain⟨r,hc,h2⟩:=DT.run_spec h2;obtain⟨X,L,st2,vs2,ms,hc1,hlen,hm,hc2⟩:=uo hc;split at hc1
  ·rename_i hup;simp only[DT.eval,Option.some.injEq]at hc1;subst hc1;simp only[Option.some.injEq,Prod.mk.injEq,Value.tuple.injEq,Array.mk.injEq,List.cons.injEq]at h2;obtain⟨⟨he,rfl⟩,hst⟩:=h2;obtain rfl:=xh he;obtain⟨Y1,fr1,w1,a1,a2,a3,a4,a5,a6,a7,a8,a9⟩:=(bU hN hct m K).code fid B _ _ _ _ _ h1 (hocc.sub (.block (.loop (.refl _)))) Y w fr cs k ht hfid hf hr;obtain⟨Y2,b1,b2,b3⟩:=hc2 K Y1 w1 _ _ a3 a5.slots;obtain⟨m1,m2,m3⟩:=iD hm;have hmid:=iY (N:=0) (src:=X++L) b2 (fun i hi=>(hid i hi).elim) (Nat.zero_le _) m1 m2;have hren:=qZ (X++L) Y2;have hms:(mkSt ms).next=bs1.length:=by rw[hst]; rfl
   have hmsl:ms.length=bs1.length:=hms;refine⟨⟨fB 0 (X++L) Y2,fr1,w1,a1,(a2.trans b1 |>.leN _).trans (Hy hup),?_,a4,⟨Il a5.slots.1 ?_,by have:=a5.defers; unfold jW at this; rw[this]; rfl,by have:=a5.round; exact this,a5.mode⟩,a6,a7,a8,a9⟩,?_⟩
   ·rw[<-hst,m3]; exact hmid
   ·exact b3.mapr fun v _ x hx=>dV hren v x hx
   ·rw[<-hmsl,m3,List.length_map,List.length_append];show D.N<=_;omega
  ·cases hc1
 ·cases h2
theorem LRX.again{E:Eng}(hE:EngOk P ct E)(hN:noNum P=true)(hct:CtOk P ct){n fid id:Nat}{B:Code}{D:HeadX}(hocc:Occ P fid (.block id (.loop B))){vs vs1 vs':List Value}{bs bs1 bs':List Blk}{e:Ex}
  (h:eu P E ct n fid B D vs bs=some (.tuple ⟨exV .normal::vs1⟩,mkSt bs1)) (hl:LRX P fid id B D.head vs1 bs1 e vs' bs'):LRX P fid id B D.head vs bs e vs' bs':=by
 intro K Y w fr cs k hid ht hfid hf hr;obtain⟨⟨Y1,fr1,w1,a1,a2,a3,a4,a5,a6,a7,a8,a9⟩,_⟩:=uY hE hN hct hocc h K Y w fr cs _ hid ht hfid hf hr;have a9:fr1.todo = .inLoop B:: .inBlock id::k:=a9;have hs:=tJ (P:=P) (cs:=cs) (w:=w1) a5.mode a9;obtain⟨⟨Y2,fr2,w2,b1,b2,b3,b4,b5,b6,b7,b8,b9⟩,hb⟩:=hl K Y1 w1 { fr1 with todo:= .code B:: .inLoop B:: .inBlock id::k } cs k hid rfl (a7.trans hfid) ⟨a5.slots,a5.defers,a5.round,a5.mode⟩ a3;exact⟨⟨Y2,fr2,w2,a1.trans (.head hs b1),a2.trans b2,b3,a4.trans b4,b5,b6.trans a6,b7.trans a7,b8.trans a8,b9⟩,hb⟩
theorem LRX.stop{E:Eng}(hE:EngOk P ct E)(hN:noNum P=true)(hct:CtOk P ct){n fid id:Nat}{B:Code}{D:HeadX}(hocc:Occ P fid (.block id (.loop B))){vs vs1:List Value}{bs bs1:List Blk}{e:Ex}
  (h:eu P E ct n fid B D vs bs=some (.tuple ⟨exV e::vs1⟩,mkSt bs1)) (he:e≠ .normal):LRX P fid id B D.head vs bs (jF id e) vs1 bs1:=by
 intro K Y w fr cs k hid ht hfid hf hr;obtain⟨⟨Y1,fr1,w1,a1,a2,a3,a4,a5,a6,a7,a8,a9⟩,hb⟩:=uY hE hN hct hocc h K Y w fr cs _ hid ht hfid hf hr;refine⟨?_,hb⟩;have a9:=a9.under he (fun i e=>by cases e);cases e with
 |normal=>exact absurd rfl he
 |ret=>exact⟨Y1,fr1,w1,a1,a2,a3,a4,a5,a6,a7,a8,a9⟩
 |exit i=>
  obtain⟨k2,h1,h2⟩:=a9;cases hb:Nat.beq i id with
  |true=>
   have hx2:jF id (.exit i) = .normal:=by simp only[jF,hb]
   rw[hx2];have:=Nat.eq_of_beq_eq_true hb;subst this;have hx:exitTo i k2=some k:=by rw[h2]; simp[exitTo]
   exact⟨Y1,{ fr1 with todo:=k },w1,a1.trans (.one (s_exit a5.mode h1 hx)),a2,a3,a4,a5.todo k,a6,a7,a8,rfl⟩
  |false=>
   have hx2:jF id (.exit i) = .exit i:=by simp only[jF,hb]
   rw[hx2];have:=Nat.ne_of_beq_eq_false hb;refine⟨Y1,fr1,w1,a1,a2,a3,a4,a5,a6,a7,a8,k2,h1,?_⟩;rw[h2];have:(id == i)=false:=by simp; exact fun ee=>this ee.symm
   simp[exitTo,this]
structure LoopOkX(P:Program)(fid id:Nat)(B:Code)(H:Head)(R:jL):Prop where
 occ:∀ c,Occ P fid (.block id c)->c = .loop B
 run:∀ vs bs t,R vs bs=some t->∀ e vs' bs',t.eval=some (e,vs',bs')->LRX P fid id B H vs bs e vs' bs'
def Ib(P:Program)(D:HeadX)(R:jL)(f:Fr)(st:St):Option (DT (Ex×Trie Value×St)):=
 match f.defers,f.roundOf,Nat.beq f.ntmps D.nt with
 |[],none,true=>some (uj P D f.slots st fun X L st2 vs ms=>match R vs ms with
  |some t=>t.map fun x=>(x.1,mkS D.nt D.L (x.2.1.map (bV true (bC X st2.next))),o5 X L st2 x.2.2)
  |none=> .fail)
 |_,_,_=>none
def kH(P:Program)(fid id:Nat)(D:HeadX)(R:jL)(ct:Ct):Ct where
 call:=ct.call
 loop:=fun fid' id' f st=>match and (Nat.beq fid' fid) (Nat.beq id' id)with
  |true=>Ib P D R f st
  |false=>ct.loop fid' id' f st
 op:=ct.op
theorem qH{fid id:Nat}{B:Code}{D:HeadX}{R:jL}(hct:CtOk P ct)(h:LoopOkX P fid id B D.head R):CtOk P (kH P fid id D R ct) where
 opc:=hct.opc
 op:=hct.op
 call:=hct.call
 loop:=by
  intro K fid' id' c f st e s' st' hl hocc Y w fr cs k ht hfid hf hr;simp only[kH]at hl;split at hl
  ·rename_i hb;simp only[Bool.and_eq_true]at hb;obtain rfl:=Nat.eq_of_beq_eq_true hb.1;obtain rfl:=Nat.eq_of_beq_eq_true hb.2;obtain rfl:=h.occ c hocc;unfold Ib at hl;split at hl
   ·rename_i hd hro hnt;have hnt:=Nat.eq_of_beq_eq_true hnt;simp only[Option.bind_some]at hl;obtain⟨X,L,st2,vs1,ms,hk,hXN,hm,hrel⟩:=uo hl;split at hk
    ·rename_i t hR;obtain⟨⟨e1,vs2,bs2⟩,hev,heq⟩:=DT.map_eval hk;simp only[Prod.mk.injEq]at heq;obtain⟨rfl,rfl,rfl⟩:=heq;obtain⟨Y0,b1,b2,b3⟩:=hrel K Y w _ _ hr hf.slots;obtain⟨m1,m2,m3⟩:=iD hm;obtain⟨K',k1,k2,k3,k4⟩:=CY b2 m1 m2;have hslots:eP (fB 0 (X++L) Y0) (mkS D.nt D.L (vs1.map (bV true (rhoO 0 (X++L))))) D.nt fr.tmps:=
      Il (by rw[hf.slots.1]; exact hnt) (b3.mapr fun v _ x hx=>dV (qZ (X++L) Y0) v x hx)
     have s1:=Aq (P:=P) (cs:=cs) (w:=w) hf.mode ht;have s2:=Em (P:=P) (fr:={ fr with todo:= .code (.loop B):: .inBlock id'::k }) (cs:=cs) (w:=w) hf.mode rfl;have hdf:fr.defers=[]:=by have:=hf.defers; rw[hd]at this; exact this
     have hrf:fr.roundOf=none:=by have:=hf.round; rw[hro]at this; exact this
     obtain⟨⟨Y1,fr1,w1,a1,a2,a3,a4,a5,a6,a7,a8,a9⟩,a10⟩:=h.run _ _ t hR _ _ _ hev K' (fB 0 (X++L) Y0) w { fr with todo:= .code B:: .inLoop B:: .inBlock id'::k } cs k k2 rfl hfid ⟨hslots,hdf,hrf,hf.mode⟩ (by rw[m3]; exact k3);have a2:leN X.length (fB 0 (X++L) Y0) Y1:=by rw[hXN]; exact a2
     have a10:X.length<=bs2.length:=by rw[hXN]; exact a10
     obtain⟨c1,c2,c3⟩:=k4 Y1 bs2 w1 a2 a10 a3 a4;refine⟨_,fr1,w1, .head s1 (.head s2 a1),b1.trans c1,c2,a4.mono k1,⟨⟨by rw[a5.slots.1]; exact hnt.symm,fun i=>?_⟩,?_,?_,a5.mode⟩,a6,a7,a8,a9⟩
     ·show VR _ (((mkS D.nt D.L (vs2.map (bV true (bC X st2.next)))).get i).getD undef) _;rw[QX rfl MB];exact dV c3 _ _ (a5.slots.2 i)
     ·show jW _ f.defers _;rw[hd]; exact a5.defers
     ·show nC _ f.roundOf _;rw[hro]; exact a5.round
    ·cases hk
   ·cases hl
  ·exact hct.loop K fid' id' c f st e s' st' hl hocc Y w fr cs k ht hfid hf hr
def Jd(N:Nat)(P:Program)(K:Prot)(Y:Env)(g:FuncId)(args':Array Value)(kind:CallKind)(cs:List Frame)(w:World)(v:Value)(st':St):Prop:=
 ∃ Y' fr w' v',Steps P (lone (Frame.enter P g args' kind) cs w) (lone fr cs w')/\leN N Y Y'/\Rel P K Y' st' w'/\Bel K w w'/\VR Y' v v'/\Left P fr g kind v' w'
def CRX(P:Program)(N:Nat)(g:FuncId)(args:List Value)(bs:List Blk)(v:Value)(bs':List Blk):Prop:=
 ∀ (K:Prot) (Y:Env) (w:World) (args':Array Value) (cs:List Frame),(∀ i,¬K.id i)->VRL Y args args'.toList->Rel P K Y (mkSt bs) w->Jd N P K Y g args' .normal cs w v (mkSt bs')/\N<=bs'.length
structure CallOkX(P:Program)(N:Nat)(g:FuncId)(R:dJ):Prop where
 run:∀ args bs t,R args bs=some t->∀ v bs',t.eval=some (v,bs')->CRX P N g args bs v bs'
def Ip(P:Program)(pol:Pol)(N:Nat)(g:FuncId)(R:dJ)(args:List Value)(st:St):DT (Value×St):=
 uZ P pol 200 (PP args) [] st fun st1=>pg P 100 (TN P g) args st1 fun args1 st2=>
  oH (lX st2) 1000 args1 [] [] fun X L=>match Nat.beq X.length N,jE 0 (X.append L) (fun i=>bg (path i) st2.heap) (X.append L)with
  |true,some ms=>match R (args1.map (bV true (rhoO 0 (X.append L)))) ms with
   |some t=>t.map fun x=>(bV true (bC X st2.next) x.1,o5 X L st2 x.2)
   |none=> .fail
  |_,_=> .fail
def ed(P:Program)(pol:Pol)(N:Nat)(g:FuncId)(R:dJ)(ct:Ct):Ct where
 call:=fun g' args st=>match Nat.beq g' g with
  |true=>some (Ip P pol N g R args st)
  |false=>ct.call g' args st
 loop:=ct.loop
 op:=ct.op
theorem dW{pol:Pol}{N:Nat}{g:FuncId}{R:dJ}(hct:CtOk P ct)(h:CallOkX P N g R):CtOk P (ed P pol N g R ct) where
 opc:=hct.opc
 op:=hct.op
 loop:=hct.loop
 call:=by
  intro K g' args st v st' hl Y w args' cs ha hr;simp only[ed]at hl;split at hl
  ·rename_i hb;obtain rfl:=Nat.eq_of_beq_eq_true hb;simp only[Ip,Option.bind_some]at hl;obtain⟨st1,h1,h2⟩:=kC _ _ _ _ _ hl;obtain⟨args1,st2,k1,k2,k3,k4⟩:=iV _ _ _ _ _ h1;obtain⟨X,L,hX⟩:=lS (lX st2) 1000 args1 [] [] fun X L=>match Nat.beq X.length N,jE 0 (X.append L) (fun i=>bg (path i) st2.heap) (X.append L)with
    |true,some ms=>match R (args1.map (bV true (rhoO 0 (X.append L)))) ms with
     |some t=>t.map fun(x:Value×List Blk)=>(bV true (bC X st2.next) x.1,o5 X L st2 x.2)
     |none=> .fail
    |_,_=> .fail
   rw[hX]at k1;split at k1
   ·rename_i ms hn hm;have hm:jE 0 (X++L) (fun i=>bg (path i) st2.heap) (X++L)=some ms:=hm;have hXN:=Nat.eq_of_beq_eq_true hn;split at k1
    ·rename_i t hR;obtain⟨⟨v1,bs1⟩,hev,heq⟩:=DT.map_eval k1;simp only[Prod.mk.injEq]at heq;obtain⟨rfl,rfl⟩:=heq;obtain⟨Y1,a1,a2⟩:=h2 K Y w hr;obtain⟨Y2,b1,b2,b3⟩:=k4 K Y1 w args'.toList a2 (ha.mono a1);obtain⟨m1,m2,m3⟩:=iD hm;simp only[aP]at m2 m3;obtain⟨K',q1,q2,q3,q4⟩:=CY b2 m1 m2;have ha':VRL (fB 0 (X++L) Y2) (args1.map (bV true (rhoO 0 (X++L)))) args'.toList:=b3.mapr fun v _ x hx=>dV (qZ _ _) v x hx;obtain⟨⟨Y3,fr,w1,v',d1,d2,d3,d4,d5,d6⟩,d7⟩:=h.run _ _ t hR v1 bs1 hev K' _ w args' cs q2 ha' (by rw[m3]; exact q3);obtain⟨c1,c2,c3⟩:=q4 Y3 bs1 w1 (by rw[hXN]; exact d2) (by rw[hXN]; exact d7) d3 d4;exact⟨_,fr,w1,v',d1,(a1.trans b1).trans c1,c2,d4.mono q1,dV c3 _ _ d5,d6⟩
    ·cases k1
   ·cases k1
  ·exact hct.call K g' args st v st' hl Y w args' cs ha hr
def Ar(v:Value):List Value:=match v with
 | .tuple ⟨a⟩=>a
 |v=>[v]
def EI(v:Value)(l:List Value):Value:=match v with
 | .tuple _=> .tuple ⟨l⟩
 |_=>match l with
  |[x]=>x
  |l=> .tuple ⟨l⟩
def lg(P:Program)(E:Eng)(ct:Ct)(n:Nat)(pol:Pol)(fl:List Fl)(ts:List TypeId)(N:Nat)(g:FuncId)(args:List Value)(bs:List Blk):Res:=
 (kP P E ct n n).call g args (mkSt bs) fun v st=>DT.run (jU P 60 fl ts (Ar v) st fun vs1 ps st1=>uZ P pol 200 (List.append (PP args) ps) [] st1 fun st2=>
  oH (lX st2) 1000 (List.append args vs1) [] [] fun X L=>match upTo N X 0,Nat.beq vs1.length (Ar v).length,jE 0 (X.append L) (fun i=>bg (path i) st2.heap) (X.append L)with
  |true,true,some ms=> .leaf (EI v (vs1.map (bV true (rhoO 0 (X.append L)))),ms)
  |_,_,_=> .fail) fun r=>some (r.1,mkSt r.2)
theorem OD{Y:Env}{v v':Value}(h:VR Y v v'):∃ xs,VRL Y (Ar v) xs/\∀ (Y':Env) (vs:List Value),vs.length=(Ar v).length->VRL Y' vs xs->VR Y' (EI v vs) v':=by
 by_cases hn:∃ a,v = .tuple a
 ·obtain⟨⟨a⟩,rfl⟩:=hn;simp only[VR]at h;obtain⟨a',rfl,ha⟩:=h;refine⟨a'.toList,?_,fun Y' vs _ hv=>?_⟩
  ·simp only[VRA]at ha;exact ha
  ·simp only[EI,VR];exact⟨a',rfl,by simp only[VRA]; exact hv⟩
 ·have h1:Ar v=[v]:=by cases v<;>first | rfl | exact absurd ⟨_,rfl⟩ hn
  have h2:∀ x,EI v [x]=x:=by intro x; cases v<;>first | rfl | exact absurd ⟨_,rfl⟩ hn
  rw[h1];refine⟨[v'],VRL.cons h VRL.nil,fun Y' vs hl hv=>?_⟩
  match vs,hl with
  |[x],_=>
   rw[h2];simp only[VRL]at hv;obtain⟨y,ys,e,hy,_⟩:=hv;cases e;exact hy
theorem CRX.of{E:Eng}(hE:EngOk P ct E)(hN:noNum P=true)(hct:CtOk P ct){n:Nat}{pol:Pol}{fl:List Fl}{ts:List TypeId}{N:Nat}{g:FuncId}{args:List Value}{bs:List Blk}{v:Value}{bs':List Blk}(h:lg P E ct n pol fl ts N g args bs=some (v,mkSt bs')):CRX P N g args bs v bs':=by
 intro K Y w args' cs hid ha hr;unfold lg at h;obtain⟨m,v1,st1,h1,h2⟩:=(fJ hE n n).call _ _ _ _ _ h;obtain⟨Y1,fr,w1,v',a1,a2,a3,a4,a5,a6⟩:=(bU hN hct m K).call g args (mkSt bs) v1 st1 h1 Y w args' .normal cs (Or.inl rfl) ha hr;obtain⟨r,hc,h2⟩:=DT.run_spec h2;obtain⟨vs1,ps,st2,f1,f2,f3⟩:=i_ _ _ _ _ _ _ hc;obtain⟨st3,g1,g2⟩:=kC _ _ _ _ _ f1;obtain⟨X,L,hX⟩:=lS (lX st3) 1000 (List.append args vs1) [] [] fun X L=>match upTo N X 0,Nat.beq vs1.length (Ar v1).length,jE 0 (X.append L) (fun i=>bg (path i) st3.heap) (X.append L)with
  |true,true,some ms=>DT.leaf (EI v1 (vs1.map (bV true (rhoO 0 (X.append L)))),ms)
  |_,_,_=> .fail
 rw[hX]at g1;split at g1
 ·rename_i ms hup hvl hm;have hm:jE 0 (X++L) (fun i=>bg (path i) st3.heap) (X++L)=some ms:=hm;simp only[DT.eval,Option.some.injEq]at g1;subst g1;simp only[Option.some.injEq,Prod.mk.injEq]at h2;obtain⟨rfl,hst⟩:=h2;obtain⟨m1,m2,m3⟩:=iD hm;simp only[aP]at m2 m3;have hvl:=Nat.eq_of_beq_eq_true hvl;obtain⟨xs,x1,x2⟩:=OD a5;obtain⟨Y2,c1,c2,c3⟩:=f3 K Y1 w1 xs a3 x1;obtain⟨Y3,d1,d2⟩:=g2 K Y2 w1 c2;have hmid:=iY (N:=0) (src:=X++L) d2 (fun i hi=>(hid i hi).elim) (Nat.zero_le _) m1 m2;have hren:=qZ (X++L) Y3;have hmsl:ms.length=bs'.length:=by have:=congrArg St.next hst; exact this
  refine⟨⟨fB 0 (X++L) Y3,fr,w1,v',a1,(((a2.trans c1).trans d1).leN _).trans (Hy hup),?_,a4,?_,a6⟩,?_⟩
  ·rw[<-hst,m3]; exact hmid
  ·refine x2 _ _ (by rw[List.length_map]; exact hvl) ((c3.mono d1).mapr fun v _ x hx=>dV hren v x hx)
  ·rw[<-hmsl,m3,List.length_map,List.length_append];have:=(vk _ _ _ hup).1;omega
 ·cases g1
theorem rJ{U:Type}(k:Con U){N:Nat}{g:FuncId}{res:U->DT (Value×List Blk)}(h:∀ s,k.ok s->∀ v bs',(res s).eval=some (v,bs')->CRX P N g (k.enc s).1 (k.enc s).2 v bs'):CallOkX P N g (uO k.C k.D res):=by
 refine⟨fun args bs t hR v bs' hev=>?_⟩;unfold uO at hR;obtain rfl:=Option.some.inj hR;cases hc:k.C args bs with
 |false=>rw[hc]at hev; cases hev
 |true=>
  rw[hc]at hev;obtain⟨s,h1,h2,h3⟩:=k.of hc;have hev:(res (k.D args bs)).eval=some (v,bs'):=hev;rw[h3]at hev;have:=h s h2 v bs' hev;rwa [h1]at this
theorem x8{U:Type}(k:Con U){fid id:Nat}{B:Code}{H:Head}{res:U->DT (Ex×List Value×List Blk)}(hocc:∀ c,Occ P fid (.block id c)->c = .loop B)
  (h:∀ s,k.ok s->∀ e vs' bs',(res s).eval=some (e,vs',bs')->LRX P fid id B H (k.enc s).1 (k.enc s).2 e vs' bs'):LoopOkX P fid id B H (Be k.C k.D res) where
 occ:=hocc
 run:=by
  intro vs bs t hR e vs' bs' hev;unfold Be at hR;obtain rfl:=Option.some.inj hR;cases hc:k.C vs bs with
  |false=>rw[hc]at hev; cases hev
  |true=>
   rw[hc]at hev;obtain⟨s,h1,h2,h3⟩:=k.of hc;have hev:(res (k.D vs bs)).eval=some (e,vs',bs'):=hev;rw[h3]at hev;have:=h s h2 e vs' bs' hev;rwa [h1]at this
open Classical in
def Con.at{U:Type}(k:Con U)(s:U):List Value->List Blk->Bool:=fun vs bs=>decide (k.enc s=(vs,bs))
open Classical in
theorem Con.at_true{U:Type}(k:Con U){s:U}{vs:List Value}{bs:List Blk}(h1:(k.enc s).1=vs)(h2:(k.enc s).2=bs):k.at s vs bs=true:=by
 unfold Con.at; exact decide_eq_true (by rw[<-h1,<-h2])
open Classical in
theorem Con.at_of{U:Type}(k:Con U){s:U}{vs:List Value}{bs:List Blk}(h:k.at s vs bs=true):k.enc s=(vs,bs):=by
 unfold Con.at at h; exact of_decide_eq_true h
def vY(C:List Value->List Blk->Bool)(t:DT (Value×List Blk)):dJ:=fun args bs=>some (.ite (C args bs) t .fail)
def nz(C:List Value->List Blk->Bool)(t:DT (Ex×List Value×List Blk)):jL:=fun vs bs=>some (.ite (C vs bs) t .fail)
theorem wV{U:Type}(k:Con U){N:Nat}{g:FuncId}{res:U->DT (Value×List Blk)}(h:CallOkX P N g (uO k.C k.D res)){s:U}(ho:k.ok s):CallOkX P N g (vY (k.at s) (res s)):=by
 refine⟨fun args bs t hR v bs' hev=>?_⟩;unfold vY at hR;obtain rfl:=Option.some.inj hR;cases hc:k.at s args bs with
 |false=>rw[hc]at hev; cases hev
 |true=>
  rw[hc]at hev;have he:=k.at_of hc;refine h.run args bs _ rfl v bs' ?_;rw[k.C_enc he ho,k.D_enc he];exact hev
theorem AO{U:Type}(k:Con U){fid id:Nat}{B:Code}{H:Head}{res:U->DT (Ex×List Value×List Blk)}(h:LoopOkX P fid id B H (Be k.C k.D res)){s:U}(ho:k.ok s):LoopOkX P fid id B H (nz (k.at s) (res s)) where
 occ:=h.occ
 run:=by
  intro vs bs t hR e vs' bs' hev;unfold nz at hR;obtain rfl:=Option.some.inj hR;cases hc:k.at s vs bs with
  |false=>rw[hc]at hev; cases hev
  |true=>
   rw[hc]at hev;have he:=k.at_of hc;refine h.run vs bs _ rfl e vs' bs' ?_;rw[k.C_enc he ho,k.D_enc he];exact hev
end
section
variable{P:Program}{ct:Ct}
theorem Rel.below{K:Prot}{Y:Env}{st:St}{w w':World}(hr:Rel P K Y st w)(hb:Below w.heap.size w w'):Rel P K Y st w'/\Bel K w w':=
 ⟨hr.more hb.size hb.block,⟨hb.os,hb.tape,hb.output,hb.size,fun k hk=>hb.block k (hr.base k hk)⟩⟩
def sH(Y:Env)(A:Nat)(o:Obj):Env
 | .ofNat i=>Y (.ofNat i)
 | .negSucc k=>if k=A then some ⟨A,0,0,0,some o,false⟩else Y (.negSucc k)
theorem qI(Y:Env)(A:Nat)(o:Obj):sH Y A o (Int.negSucc A)=some ⟨A,0,0,0,some o,false⟩:=if_pos rfl
theorem mW(Y:Env){A k:Nat}(o:Obj)(h:k≠A):sH Y A o (Int.negSucc k)=Y (Int.negSucc k):=if_neg h
theorem Rel.freezeNew{K:Prot}{Y:Env}{st:St}{w w':World}(hr:Rel P K Y st w)(hb:Below w.heap.size w w'){A:Nat}(hA:w.heap.size<=A){cs:Array Value}{e:TypeId}{f:Nat×Nat}(hc:w'.heap[A]? = some (.cells cs e f)) :
  Y.le (sH Y A (.cells cs e f))/\Rel P K (sH Y A (.cells cs e f)) st w':=by
 have hr':=(hr.below hb).1;have hn:Y (Int.negSucc A)=none:=by
  cases hx:Y (Int.negSucc A)with
  |none=>rfl
  |some l=>have:=mQ hr hx; omega
 have hle:Y.le (sH Y A (.cells cs e f)):=by
  intro i l hi;cases i with
  |ofNat i=>exact hi
  |negSucc k=>
   have hk:k≠A:=by rintro rfl; rw[hn]at hi; cases hi
   rw[mW _ _ hk]; exact hi
 refine⟨hle,hr'.base,fun i l hi=>hr'.dom i l hi,fun i b hi hl=>?_,fun i j bi bj li lj hi hbi hj hbj hli hlj=>hr'.inj i j bi bj li lj hi hbi hj hbj hli hlj,fun i hi=>hr'.res i hi,fun k l hk=>?_,fun k l hk=>?_,?_⟩
 ·obtain⟨l,a,b,c⟩:=hr'.blk i b hi hl;exact⟨l,hle _ _ a,b,c.mono hle⟩
 ·by_cases e:k=A
  ·subst e;intro hz;have:=hr.base k (K.sub k hz);omega
  ·rw[mW _ _ e]at hk;exact hr'.nofz k l hk
 ·by_cases e:k=A
  ·subst e;rw[qI]at hk;obtain rfl:=Option.some.inj hk;refine⟨⟨rfl,rfl⟩,hc,fun j bj lj hj hbj hlj hv hk=>?_⟩;have:=(hr.dom j lj hlj).2 hv;omega
  ·rw[mW _ _ e]at hk;obtain⟨f1,f2,f3⟩:=hr'.frz k l hk;exact⟨f1,f2,fun j bj lj hj hbj hlj=>f3 j bj lj hj hbj hlj⟩
 ·refine hr.objs.step rfl hle hb.size (fun k l hk=>hb.block k (mQ hr hk)) (fun i o=>Iff.rfl) (fun i k o l h1 h2 hk hK hf hj=>⟨hb.block k hk,hK,?_,fun j bj lj hj1 hj2 hj3=>hj j bj lj hj1 hj2 hj3⟩);rw[mW _ _ (by omega)]; exact hf
theorem S9{Y:Env}{A n cap sz:Nat}{cs:Array Value}{e:TypeId}{f:Nat×Nat}{c:List Value}(hsz:sz≠0)(h:Y (Int.negSucc A)=some ⟨A,0,0,0,some (.cells cs e f),false⟩)(hl:c.length=n*sz)(hc:VRL (jq Y) c (cs.toList.take (n*sz)))(hcap:n<=cap) :
  VR Y (au sz n 0 c) (.slice (some ⟨A,0,none⟩) n cap):=by
 unfold au;simp only[VR];rw[if_neg (Nat.not_lt_of_le (Nat.le_add_right FZ sz))];simp only[VZ,VZA,VZL];refine⟨n,0,rfl,?_⟩;have e1:FZ+sz-FZ=sz:=by omega
 rw[e1];unfold dO;rw[if_neg hsz];refine⟨hl,?_⟩;cases n with
 |zero=>exact Or.inr (Or.inl ⟨rfl,⟨A,0,none⟩,cap,rfl,fun h=>absurd rfl h⟩)
 |succ n=>
  refine Or.inr (Or.inr ⟨Nat.succ_pos n,A,0,cap,cs,e,f,_,rfl,fun h=>absurd rfl h,h,rfl,?_,?_,hcap⟩)
  ·have:=hc.length;rw[List.length_take,Array.length_toList]at this;have h2:c.length=_:=this;rw[h2,Nat.zero_add];exact Nat.min_le_right _ _
  ·rw[List.drop_zero,hl]; exact hc
theorem oJ{Y:Env}:∀ {c:List Value},bf c=true->VRL Y c c
 |[],_=>VRL.nil
 |v::l,h=>by
  simp only[bf,Bool.and_eq_true]at h;exact VRL.cons (VR.flat_refl _ h.1) (oJ h.2)
theorem CR.ofCallsV{g:FuncId}{args:List Value}{v:Value}(h:∀ (w:World) (args':Array Value),GW w->VRL (dA w) args args'.toList->Calls P g args' w fun e w'=>(∃ v',e = .returned v'/\∀ Y,VR Y v v')/\Below w.heap.size w w'):CR P g args v []:=by
 intro w args' cs obs hG ha;obtain⟨e,w',fr,⟨⟨v',rfl,hv⟩,hb⟩,hc,h1,l1,l2,l3,fn,l4,l5⟩:=h w args' hG ha cs;exact⟨dA w,fr,w',v',hc,fun _ _ h=>h,(kF w obs hG).more hb.size hb.block,⟨hb.os,hb.tape,hb.output,hb.size,hb.block⟩,hv _,l1,l2,l3,h1,fn,by rw[<-h1]; exact l4,l5⟩
theorem CRX.weak{N:Nat}{g:FuncId}{args:List Value}{bs bs':List Blk}{v v':Value}(hv:∀ Y x,VR Y v x->VR Y v' x)(h:CRX P N g args bs v bs'):CRX P N g args bs v' bs':=by
 intro K Y w args' cs hid ha hr;obtain⟨⟨Y',fr,w',x,h1,h2,h3,h4,h5,h6⟩,h7⟩:=h K Y w args' cs hid ha hr;exact⟨⟨Y',fr,w',x,h1,h2,h3,h4,hv _ _ h5,h6⟩,h7⟩
theorem CR.ofX{g:FuncId}{args:List Value}{v:Value}{bs:List Blk}{N:Nat}(h:CRX P N g args [] v bs):CR P g args v bs:=by
 intro w args' cs obs hG ha;obtain⟨⟨Y',fr,w',v',h1,h2,h3,h4,h5,h6⟩,_⟩:=h (K0 w obs) (dA w) w args' cs (fun _ h=>h) ha (kF w obs hG);refine⟨Y',fr,w',v',h1,fun i l hi=>?_,h3,h4,h5,h6⟩;cases i with
 |ofNat i=>cases hi
 |negSucc k=>exact h2 _ _ (by show Int.negSucc k<(N:Int); omega) hi
theorem CallOkR.ofX{g:FuncId}{N:Nat}{R:dJ}(h:CallOkX P N g R):CallOkR P g (fun args=>R args []):=⟨fun args t hR v bs hev=>CR.ofX (h.run args [] t hR v bs hev)⟩
theorem CR.calls{g:FuncId}{args:List Value}{v:Value}{bs:List Blk}(hv:flat v=true)(h:CR P g args v bs){w:World}{args':Array Value}(hG:GW w)(ha:VRL (dA w) args args'.toList) :
  Calls P g args' w fun e w'=>e = .returned v/\Below w.heap.size w w':=by
 intro cs;obtain⟨Y',fr,w',v',h1,h2,h3,h4,h5,h6⟩:=h w args' cs IY hG ha;exact⟨.returned v',w',fr,⟨by rw[VR.of_flat _ _ hv h5],h4.below⟩,h1,h6.2.2.2.1,h6.1,h6.2.1,h6.2.2.1,by rw[h6.2.2.2.1]; exact h6.2.2.2.2⟩
theorem CRX.ofRow{g:FuncId}{args:List Value}{sz n:Nat}{t:TypeId}{c:List Value}(hsz:sz≠0)(hf:bf c=true)(h:∀ (w:World) (args':Array Value),GW w->(∃ Y,VRL Y args args'.toList)->
   Calls P g args' w fun e w'=>∃ A,e = .returned (.slice (some ⟨A,0,none⟩) n n)/\w.heap.size<=A/\w'.ownsRow w.heap.size t sz (.slice (some ⟨A,0,none⟩) n n) n c/\Below w.heap.size w w'):CRX P 0 g args [] (au sz n 0 c) []:=by
 intro K Y w args' cs hid ha hr;obtain⟨e,w',fr,⟨A,rfl,hA,hown,hb⟩,hc,h1,l1,l2,l3,fn,l4,l5⟩:=h w args' hr.gw ⟨Y,ha⟩ cs;obtain⟨hl,⟨e1,_⟩ | ⟨g',cap,cur,e1,hge,hcell,hn,_,hsize,htake⟩⟩:=hown
 ·cases e1
 ·simp only[Value.slice.injEq,Option.some.injEq,Addr.mk.injEq,true_and,and_true]at e1;obtain⟨rfl,rfl⟩:=e1;obtain⟨b1,b2⟩:=hr.freezeNew hb hA hcell;exact⟨⟨_,fr,w',_,hc,b1.leN _,b2,(hr.below hb).2,S9 hsz (qI _ _ _) hl (by rw[htake]; exact oJ hf) (Nat.le_refl _),l1,l2,l3,h1,fn,by rw[<-h1]; exact l4,l5⟩,Nat.zero_le _⟩
theorem RX{Y:Env}{A o a:Nat}{cs:Array Value}{e:TypeId}{f:Nat×Nat}{c:List Value}(h:Y (Int.negSucc A)=some ⟨A,0,0,0,some (.cells cs e f),false⟩)(hl:o+c.length<=cs.size)(hc:VRL (jq Y) c ((cs.toList.drop o).take c.length)) :
  VR Y (iq a c) (.pointer (some ⟨A,o+a,none⟩)):=by
 unfold iq;simp only[VR];rw[if_neg (Nat.lt_irrefl FZ)];simp only[VZ,VZA,VZL];refine⟨a,0,rfl,?_⟩;rw[Nat.sub_self];unfold dO;rw[if_pos rfl];exact⟨A,o,cs,e,f,_,rfl,h,rfl,hl,hc⟩
theorem nH{Y:Env}:∀ {c l:List Value},bf c=true->VRL Y c l->l=c
 |[],_,_,h=>h
 |v::c,_,h,⟨y,ys,e,h1,h2⟩=>by
  simp only[bf,Bool.and_eq_true]at h;rw[e,VR.of_flat _ _ h.1 h1,nH h.2 h2]
theorem CRX.ofNew{g:FuncId}{args:List Value}{t:TypeId}{c:List Value}{e:TypeId}(ht:t<2^64)(ha:bf args=true)(hf:bf c=true)(h:CR P g args (.iface t (.pointer (some ⟨0,0,none⟩))) [.cells c e true]):CRX P 0 g args [] (.iface t (iq 0 c)) []:=by
 intro K Y w args' cs hid hva hr;have hva':VRL (dA w) args args'.toList:=by rw[nH ha hva]; exact oJ ha
 obtain⟨Y1,fr,w',v',hc,h1,h2,h3,h4,h5⟩:=h w args' cs IY hr.gw hva';have htf:t<FZ:=by unfold FZ; exact ht
 simp only[VR]at h4;rw[if_pos htf]at h4;obtain⟨x',rfl,_,l,hl,rfl⟩:=h4;obtain⟨l0,a1,a2,a3⟩:=h2.blk 0 (.cells c e true) rfl rfl;obtain rfl:l0=l:=by rw[a1]at hl; exact Option.some.inj hl
 have hb:Below w.heap.size w w':=h3.below;rcases a3 with⟨q1,q2,q3⟩ | ⟨q0,cc,f,q1,q2,q3,q4,q5,q6,q7⟩
 ·cases q3
 ·have hA:w.heap.size<=l0.blk:=by
   have:=a2 q0;exact Nat.le_of_not_lt this
  have q8:=(q5 rfl).1;obtain⟨b1,b2⟩:=hr.freezeNew hb hA q1;refine⟨⟨_,fr,w',_,hc,b1.leN _,b2,(hr.below hb).2,?_,h5⟩,Nat.zero_le _⟩;simp only[VR];rw[if_pos htf];refine⟨_,rfl,?_⟩;have:=RX (Y:=sH Y l0.blk (.cells cc e f)) (a:=0) (qI _ _ _) (o:=l0.base) (by omega) (c:=c) (by rw[nH hf q6]; exact oJ hf);exact this
def Fa(P:Program)(E:Eng)(ct:Ct)(n:Nat)(g:FuncId)(args:List Value):Res:=
 (kP P E ct n n).call g args (start 0) fun v st=>match v with
  | .iface t (.pointer (some a))=>match jE 0 [a.block] (fun i=>bg (path i) st.heap) [a.block]with
   |some ms=>some (bV true (rhoO 0 [a.block]) (.iface t (.pointer (some a))),mkSt ms)
   |none=>none
  |_=>none
theorem CR.ofN{E:Eng}(hE:EngOk P ct E)(hN:noNum P=true)(hct:CtOk P ct){n:Nat}{g:FuncId}{args:List Value}{v:Value}{bs:List Blk}(h:Fa P E ct n g args=some (v,mkSt bs)):CR P g args v bs:=by
 intro w args' cs obs hG ha;unfold Fa at h;obtain⟨m,v1,st1,h1,h2⟩:=(fJ hE n n).call _ _ _ _ _ h;obtain⟨Y1,fr,w1,v',a1,a2,a3,a4,a5,a6⟩:=(bU hN hct m (K0 w obs)).call g args (start 0) v1 st1 h1 (dA w) w args' .normal cs (Or.inl rfl) ha (kF w obs hG);split at h2
 ·rename_i t a;split at h2
  ·rename_i ms hm;simp only[Option.some.injEq,Prod.mk.injEq]at h2;obtain⟨rfl,hst⟩:=h2;obtain⟨m1,m2,m3⟩:=iD hm;simp only[aP]at m2 m3;have hren:RenOk true (rhoO 0 [a.block]) Y1 (fB 0 [a.block] Y1):=qZ _ _;have hmid:=iY (N:=0) (src:=[a.block]) a3 (fun i hi=>hi.elim) (Nat.zero_le _) m1 m2;refine⟨fB 0 [a.block] Y1,fr,w1,v',a1,?_,?_,a4,dV hren _ _ a5,a6⟩
   ·intro i l hi;cases i with
    |ofNat i=>cases hi
    |negSucc k=>exact a2 _ _ hi
   ·rw[<-hst,m3]; exact hmid
  ·cases h2
 ·cases h2
end
end Go.VS
end

noncomputable section
namespace Go.VS.Tryz
open Go.VS Go.RowKit Go.Sort
set_option maxRecDepth 1000000
theorem SI{w:World}(h:GW w):Lib.TabIs P w "internal/strconv.uint64pow10" .u64 Lib.pow10Tab:=by
 obtain⟨o,h1,e,f,rfl⟩:=h (6,_) (by simp only[globs]; first | exact List.mem_cons_of_mem _ (List.mem_cons_self ..) | exact List.mem_cons_of_mem _ (List.mem_cons_of_mem _ (List.mem_cons_self ..)) | exact List.mem_cons_of_mem _ (List.mem_cons_of_mem _ (List.mem_cons_of_mem _ (List.mem_cons_self ..))));have e1:P.globalNamed "internal/strconv.uint64pow10" =some 6:=by kernel_rfl
 have e2:Lib.pow10Tab=pow10L:=by decide
 unfold Lib.TabIs World.var?;rw[e1,e2];simp only[Option.bind_some,h1]
theorem RV{w:World}(h:GW w):∃ t p,w.var? P "strconv.ErrSyntax" =some #[.iface t p]:=by
 obtain⟨o,h1,t,p,e,f,rfl⟩:=h (4,_) (by simp only[globs]; first | exact List.mem_cons_of_mem _ (List.mem_cons_self ..) | exact List.mem_cons_of_mem _ (List.mem_cons_of_mem _ (List.mem_cons_self ..)) | exact List.mem_cons_of_mem _ (List.mem_cons_of_mem _ (List.mem_cons_of_mem _ (List.mem_cons_self ..))));have e1:P.globalNamed "strconv.ErrSyntax" =some 4:=by kernel_rfl
 refine⟨t,p,?_⟩;unfold World.var?;rw[e1];simp only[Option.bind_some,h1]
theorem Sz{w:World}(h:GW w):∃ t p,w.var? P "strconv.ErrRange" =some #[.iface t p]:=by
 obtain⟨o,h1,t,p,e,f,rfl⟩:=h (5,_) (by simp only[globs]; first | exact List.mem_cons_of_mem _ (List.mem_cons_self ..) | exact List.mem_cons_of_mem _ (List.mem_cons_of_mem _ (List.mem_cons_self ..)) | exact List.mem_cons_of_mem _ (List.mem_cons_of_mem _ (List.mem_cons_of_mem _ (List.mem_cons_self ..))));have e1:P.globalNamed "strconv.ErrRange" =some 5:=by kernel_rfl
 refine⟨t,p,?_⟩;unfold World.var?;rw[e1];simp only[Option.bind_some,h1]
theorem J8{Y:Env}{s:ByteArray}{args':Array Value}(h:VRL Y [.string s] args'.toList):args'=#[.string s]:=by
 obtain⟨l⟩:=args';simp only[VRL]at h;obtain⟨y,ys,e,hy,rfl⟩:=h;have hy:y = .string s:=hy;subst hy;rw[e]
theorem Tn{Y:Env}{s t:ByteArray}{args':Array Value}(h:VRL Y [.string s, .string t] args'.toList):args'=#[.string s, .string t]:=by
 obtain⟨l⟩:=args';simp only[VRL]at h;obtain⟨y,ys,e,hy,z,zs,rfl,hz,rfl⟩:=h;have hy:y = .string s:=hy;have hz:z = .string t:=hz;subst hy hz;rw[e]
theorem R_{Y:Env}{s:ByteArray}{k:IntKind}{c:Int}{args':Array Value}(h:VRL Y [.string s, .int k c] args'.toList):args'=#[.string s, .int k c]:=by
 obtain⟨l⟩:=args';simp only[VRL]at h;obtain⟨y,ys,e,hy,z,zs,rfl,hz,rfl⟩:=h;have hy:y = .string s:=hy;have hz:z = .int k c:=hz;subst hy hz;rw[e]
theorem Ux{Y:Env}{k:IntKind}{c:Int}{args':Array Value}(h:VRL Y [.int k c] args'.toList):args'=#[.int k c]:=by
 obtain⟨l⟩:=args';simp only[VRL]at h;obtain⟨y,ys,e,hy,rfl⟩:=h;have hy:y = .int k c:=hy;subst hy;rw[e]
theorem Ba{w w':World}{t:TypeId}(h:w'=w\/∃ n,w'=Lib.bytesWorld w t n):Below w.heap.size w w':=by
 rcases h with rfl | ⟨n,rfl⟩
 ·exact Below.refl _ _
 ·exact⟨rfl,rfl,rfl,by rw[Lib.bytesWorld_size]; omega,fun k hk=>Lib.bytesWorld_at_old w t n k hk⟩
theorem Dk{w w':World}(h:∃ k os,w'=grow (w.drewN k) os):Below w.heap.size w w':=by
 obtain⟨k,os,rfl⟩:=h;exact⟨rfl,rfl,rfl,by simp[grow],fun i hi=>by
  show((w.drewN k).heap++os)[i]? = _;rw[Array.getElem?_append_left (by show i<w.heap.size; omega)]
  rfl⟩
def inB(s:ByteArray)(c:UInt8):Bool:=decide (0<=Lib.indexByte s.data.toList c)
def IW(Q:ByteArray->UInt8->Bool):fK
 |[.string s, .string ⟨⟨[c]⟩⟩]=>some (.leaf (.bool (Q s c),[]))
 |_=>none
theorem Ut:CallOkR P 55 (IW inB):=by
 refine⟨fun args t hR v bs hev=>?_⟩;unfold IW at hR;split at hR
 ·rename_i s c;obtain rfl:=Option.some.inj hR;simp only[DT.eval,Option.some.injEq,Prod.mk.injEq]at hev;obtain⟨rfl,rfl⟩:=hev;refine CR.ofCalls rfl fun w args' _ ha=>?_;obtain rfl:=Tn ha;exact(Go.Proofs.Tryz.strings_Contains_one s c w).mono fun e w' ⟨h1,h2⟩=>⟨h1,by rw[h2]; exact Below.refl _ _⟩
 ·cases hR
def ixB(s:ByteArray)(c:Int):Int:=Lib.indexByte s.data.toList c.toNat.toUInt8
def Ou(I:ByteArray->Int->Int):fK
 |[.string s, .int .u8 c]=>some (.leaf (.int .i64 (I s c),[]))
 |_=>none
theorem Uc:CallOkR P 72 (Ou ixB):=by
 refine⟨fun args t hR v bs hev=>?_⟩;unfold Ou at hR;split at hR
 ·rename_i s c;obtain rfl:=Option.some.inj hR;simp only[DT.eval,Option.some.injEq,Prod.mk.injEq]at hev;obtain⟨rfl,rfl⟩:=hev;refine CR.ofCalls rfl fun w args' _ ha=>?_;obtain rfl:=R_ ha;exact(Go.Proofs.Tryz.stringslite_IndexByte s c w).mono fun e w' ⟨h1,h2⟩=>⟨h1,by rw[h2]; exact Below.refl _ _⟩
 ·cases hR
theorem Es{Y:Env}{t:Nat}{p:Option Addr}(h:t<2^64):VR Y (.iface t (.chan (some 0))) (.iface t (.pointer p)):=by
 simp only[VR];rw[if_pos (by unfold FZ; exact h)];exact⟨_,rfl,rfl⟩
def szS(s:ByteArray):Bool:=Nat.ble s.size 4194304
def BC(s:ByteArray):Bool:=match Lib.atoiAll s.data.toList with
 | .ok _=>true
 |_=>false
def dM(s:ByteArray):Int:=match Lib.atoiAll s.data.toList with
 | .ok v=>v
 | .range=>Lib.atoiSat s.data.toList
 |_=>0
def DI(C K:ByteArray->Bool)(V:ByteArray->Int):fK
 |[.string s]=>some (.ite (C s) (.ite (K s) (.leaf (.tuple ⟨[.int .i64 (V s), .nilIface]⟩,[])) (.leaf (.tuple ⟨[.int .i64 (V s), .iface 254 (.chan (some 0))]⟩,[]))) .fail)
 |_=>none
theorem Me:CallOkR P 53 (DI szS BC dM):=by
 refine⟨fun args t hR v bs hev=>?_⟩;unfold DI at hR;split at hR
 ·rename_i s;obtain rfl:=Option.some.inj hR;cases hc:szS s with
  |false=>rw[hc]at hev; cases hev
  |true=>
   rw[hc]at hev;have hsz:=Nat.le_of_ble_eq_true hc;unfold BC dM at hev;cases hq:Lib.atoiAll s.data.toList with
   |ok n=>
    rw[hq]at hev;simp only[DT.eval,Option.some.injEq,Prod.mk.injEq]at hev;obtain⟨rfl,rfl⟩:=hev;refine CR.ofCalls rfl fun w args' _ ha=>?_;obtain rfl:=J8 ha;exact(Go.Proofs.Tryz.strconv_Atoi_ok s (by omega) n hq w).mono fun e w' ⟨h1,h2⟩=>⟨h1,Ba h2⟩
   |range=>
    rw[hq]at hev;simp only[DT.eval,Option.some.injEq,Prod.mk.injEq]at hev;obtain⟨rfl,rfl⟩:=hev;refine CR.ofCallsV fun w args' hG ha=>?_;obtain rfl:=J8 ha;obtain⟨t,p,hv⟩:=Sz hG;exact(Go.Proofs.Tryz.strconv_Atoi_range_var s (by omega) hq t p w hv).mono fun e w' ⟨N,h1,h2,h3,h4⟩=>⟨⟨_,h1,fun Y=>⟨_,rfl,VRL.cons rfl (VRL.cons (Es (by decide)) VRL.nil)⟩⟩,h4⟩
   |_=>
    rw[hq]at hev;simp only[DT.eval,Option.some.injEq,Prod.mk.injEq]at hev;obtain⟨rfl,rfl⟩:=hev;refine CR.ofCallsV fun w args' hG ha=>?_;obtain rfl:=J8 ha;obtain⟨t,p,hv⟩:=RV hG;exact(Go.Proofs.Tryz.strconv_Atoi_syntax_var s (by omega) (fun v e=>by rw[hq]at e; cases e) (fun e=>by rw[hq]at e; cases e) t p w hv).mono fun e w' ⟨N,h1,h2,h3,h4⟩=>⟨⟨_,h1,fun Y=>⟨_,rfl,VRL.cons rfl (VRL.cons (Es (by decide)) VRL.nil)⟩⟩,h4⟩
 ·cases hR
def Fh(n:Int):ByteArray:=⟨(Lib.itoa n).toArray⟩
def inR(n:Int):Bool:=and (leI (-9223372036854775808) n) (leI n 9223372036854775807)
def DD(C:Int->Bool)(F:Int->ByteArray):fK
 |[.int .i64 n]=>some (.ite (C n) (.leaf (.string (F n),[])) .fail)
 |_=>none
theorem L6:CallOkR P 54 (DD inR Fh):=by
 refine⟨fun args t hR v bs hev=>?_⟩;unfold DD at hR;split at hR
 ·rename_i n;obtain rfl:=Option.some.inj hR;cases hc:inR n with
  |false=>rw[hc]at hev; cases hev
  |true=>
   rw[hc]at hev;simp only[DT.eval,Option.some.injEq,Prod.mk.injEq]at hev;obtain⟨rfl,rfl⟩:=hev;unfold inR leI at hc;simp only[Bool.and_eq_true,decide_eq_true_eq]at hc;refine CR.ofCalls rfl fun w args' hG ha=>?_;obtain rfl:=Ux ha;exact(Go.Proofs.Tryz.strconv_Itoa n hc.1 hc.2 w (SI hG)).mono fun e w' ⟨h1,h2⟩=>⟨h1,Dk h2⟩
 ·cases hR
theorem ND(x:Int):jg P E jR 50 94 [.int .i32 x] =
 (some ((.bool (eqI x 32)),(mkSt []))):=by kernel_rfl
theorem OV(x:Int):CR P 94 [.int .i32 x] (.bool (eqI x 32)) []:=CR.of (dR jR) aB (iR P) (n:=50) (ND x)
def jm(s:ByteArray):List ByteArray:=Lib.goFieldsP (fun x=>eqI x 32) s
def fzS(l:List ByteArray):Value:=au 1 l.length 0 (l.map Value.string)
theorem BN(l:List ByteArray):bf (l.map Value.string)=true:=by
 induction l with
 |nil=>rfl
 |cons a l ih=>simp only[List.map_cons,bf,ih]; rfl
def kWo:Con ByteArray where
 enc s:=([.string s, .func (.func 94) #[] #[]],[])
 ok s:=s.size<=4194304
 inj a b h:=by simp only[Prod.mk.injEq,List.cons.injEq,Value.string.injEq,and_true]at h; exact h
 dflt:=default
theorem LX:CallOkX P 0 27 (uO kWo.C kWo.D fun s=> .leaf (fzS (jm s),[])):=rJ kWo fun s ho v bs' hev=>by
 simp only[DT.eval,Option.some.injEq,Prod.mk.injEq]at hev;obtain⟨rfl,rfl⟩:=hev;have ho:s.size<=4194304:=ho;refine CRX.ofRow (t:=9) (by decide) (BN _) fun w args' hG ⟨Y,ha⟩=>?_;have ea:args'=#[.string s, .func (.func 94) #[] #[]]:=by
  obtain⟨l⟩:=args';simp only[VRL]at ha;obtain⟨y,ys,e,hy,z,zs,rfl,hz,rfl⟩:=ha;have hy:y = .string s:=hy;subst hy;obtain⟨f',a',b',rfl,hf,h1,h2⟩:=hz;have hf:f' = .func 94:=hf;subst hf;simp only[VRA,VRL]at h1 h2;have h1:a'=#[]:=by apply Array.ext'; exact h1
  have h2:b'=#[]:=by apply Array.ext'; exact h2
  subst h1 h2;rw[e]
 subst ea;have hw:=Go.Proofs.Tryz.strings_FieldsFunc_grows 94 #[] (Go.Proofs.enters_of Go.Proofs.Tryz.func94 (by kernel_rfl) rfl) (fun x=>eqI x 32) s w (by omega) (fun W x hx hb=>by
  have:=(OV (x:Int)).calls (w:=W) (args':=#[.int .i32 x]) rfl (by
   intro p hp;obtain⟨o,h1,h2⟩:=hG p hp;refine⟨o,?_,h2⟩
   rw[hb.block p.1 (Array.getElem?_eq_some_iff.1 h1).1]; exact h1) (VRL.cons rfl VRL.nil)
  exact this)
 refine hw.mono fun e w' ⟨A,h1,h2,h3,h4⟩=>⟨A,?_,h2,?_,h4⟩
 ·rw[h1]; rfl
 ·exact h3
end Go.VS.Tryz
end

noncomputable section
namespace Go.VS.Tryz
open Go.VS
set_option maxRecDepth 1000000
theorem vW{s n m:Nat}{a b:List Value}(h:au s n 0 a=au s m 0 b):a=b:=by
 unfold au at h;simp only[Value.iface.injEq,Value.agg.injEq,Array.mk.injEq,List.cons.injEq]at h;exact h.2.2
theorem OB(s n b:Nat)(c:List Value):gq (au s n b c)=true:=by
 unfold au;simp only[gq];rw[Nat.ble_eq_true_of_le (Nat.le_add_right FZ s)]
structure OpM where
 p:Bool
 k:ByteArray
 v:ByteArray
def EOp:Enc OpM where
 sz:=3
 f o:=[.bool o.p, .string o.k, .string o.v]
 len _:=rfl
 pos:=by decide
 inj a b h:=by
  obtain⟨p,k,v⟩:=a;obtain⟨p',k',v'⟩:=b;simp only[List.cons.injEq,Value.bool.injEq,Value.string.injEq,and_true]at h;obtain⟨rfl,rfl,rfl⟩:=h
  rfl
 nr _:=rfl
structure CmM where
 e:Int
 n:Int
 ops:List OpM
structure RunM where
 a:Int
 b:Int
 ops:List OpM
/-- A raw step of a disk: its kind,its file,bytes,a length. -/
structure StM where
 kind:Int
 file:Int
 bytes:List UInt8
 len:Int
theorem Rw{l:List OpM}{i:Nat}(h:i<l.length):aj (EOp.all l) (atN (i:Int) 3) = .bool l[i].p:=by
 have e:atN (i:Int) 3=i*EOp.sz+0:=by simp[atN]; rfl
 rw[e,EOp.nth h (by decide)]; rfl
theorem TK{l:List OpM}{i:Nat}(h:i<l.length):aj (EOp.all l) (Nat.add (atN (i:Int) 3) 1) = .string l[i].k:=by
 have e:Nat.add (atN (i:Int) 3) 1=i*EOp.sz+1:=by simp[atN]; rfl
 rw[e,EOp.nth h (by decide)]; rfl
theorem Tz{l:List OpM}{i:Nat}(h:i<l.length):aj (EOp.all l) (Nat.add (Nat.add (atN (i:Int) 3) 1) 1) = .string l[i].v:=by
 have e:Nat.add (Nat.add (atN (i:Int) 3) 1) 1=i*EOp.sz+2:=by simp[atN]; rfl
 rw[e,EOp.nth h (by decide)]; rfl
theorem fzU:FZ+1=18446744073709551617:=by unfold FZ; rfl
theorem j_:FZ+3=18446744073709551619:=by unfold FZ; rfl
theorem iU(n:Nat):Nat.mul n 1=n:=Nat.mul_one n
theorem jl(n:Nat):Nat.add 0 n=n:=Nat.zero_add n
theorem cap0(n:Nat):oh 0 n=0:=by simp[oh]
theorem MX(x:Int):jg P E jR 50 70 [.int .u8 x] =
 (aC (gtI x 32)
 (aC (ltI x 127)
 (aC (neI x 34)
 (some ((.bool (neI x 92)),(mkSt [])))
 (some ((.bool false),(mkSt []))))
 (some ((.bool false),(mkSt []))))
 (some ((.bool false),(mkSt [])))):=by kernel_rfl
def gQ(x:Int):Bool:=gtI x 32&&ltI x 127&&neI x 34&&neI x 92
def Ei:fK
 |[.int .u8 x]=>some (.leaf (.bool (gQ x),[]))
 |_=>none
theorem OM:CallOkR P 70 Ei:=by
 refine qw (iR P) (n:=50) fun args t hR v bs hev=>?_;unfold Ei at hR;split at hR
 ·rename_i x;obtain rfl:=Option.some.inj hR;simp only[DT.eval,Option.some.injEq,Prod.mk.injEq]at hev;obtain⟨rfl,rfl⟩:=hev;rw[MX];unfold gQ;cases gtI x 32<;>cases ltI x 127<;>cases neI x 34<;>rfl
 ·cases hR
theorem LG(x:Int):jg P E jR 50 213 [.int .u8 x] =
 (aC (geI x 48)
 (aC (leI x 57)
 (some ((.tuple ⟨[.int .u8 (yL .u8 x 48),.bool true]⟩),(mkSt [])))
 (aC (geI x 97)
 (aC (leI x 102)
 (some ((.tuple ⟨[.int .u8 (dC .u8 (yL .u8 x 97) 10),.bool true]⟩),(mkSt [])))
 (some ((.tuple ⟨[.int .u8 0,.bool false]⟩),(mkSt []))))
 (some ((.tuple ⟨[.int .u8 0,.bool false]⟩),(mkSt [])))))
 (aC (geI x 97)
 (aC (leI x 102)
 (some ((.tuple ⟨[.int .u8 (dC .u8 (yL .u8 x 97) 10),.bool true]⟩),(mkSt [])))
 (some ((.tuple ⟨[.int .u8 0,.bool false]⟩),(mkSt []))))
 (some ((.tuple ⟨[.int .u8 0,.bool false]⟩),(mkSt []))))):=by kernel_rfl
def uC(x:Int):Int:=bif geI x 48&&leI x 57 then yL .u8 x 48 else bif geI x 97&&leI x 102 then dC .u8 (yL .u8 x 97) 10 else 0
def uG(x:Int):Bool:=(geI x 48&&leI x 57) || (geI x 97&&leI x 102)
def D9:fK
 |[.int .u8 x]=>some (.leaf (.tuple ⟨[.int .u8 (uC x), .bool (uG x)]⟩,[]))
 |_=>none
theorem digit_ok:CallOkR P 213 D9:=by
 refine qw (iR P) (n:=50) fun args t hR v bs hev=>?_;unfold D9 at hR;split at hR
 ·rename_i x;obtain rfl:=Option.some.inj hR;simp only[DT.eval,Option.some.injEq,Prod.mk.injEq]at hev;obtain⟨rfl,rfl⟩:=hev;rw[LG];unfold uC uG;cases geI x 48<;>cases leI x 57<;>cases geI x 97<;>cases leI x 102<;>rfl
 ·cases hR
def hexD:ByteArray:=⟨#[48,49,50,51,52,53,54,55,56,57,97,98,99,100,101,102]⟩
def ct1:Ct:=b_ P 70 Ei (b_ P 213 D9 jR)
theorem qR:CtOk P ct1:=bI (bI (iR P) digit_ok) OM
def wJ:Head:=⟨1,33,[3,9,10,11],[(3,5)]⟩
def sQ:Code:=(h_ P 39 0).getD .skip
theorem Ee:h_ P 39 0=some sQ:=by kernel_rfl
theorem Cf:Occ P 39 (.block 0 (.loop sQ)):=kN Ee
theorem EX(cb c:List Value)(m:Nat)(z i:Int):jr P E ct1 50 39 sQ wJ [.slice (some ⟨1,0,none⟩) c.length unk, .slice (some ⟨0,0,none⟩) m unk, .int .i64 z, .int .i64 i] [.cells cb 5 false, .cells c 5 false] =
 (aC (ltI i z)
 (af (inI i m)
 (af (Bool.and (Nat.ble (Nat.add (Nat.add 0 (atN i 1)) 1) cb.length) (dm (.int .u8) (aj cb (Nat.add 0 (atN i 1)))))
 (aC (gQ (asI (aj cb (Nat.add 0 (atN i 1)))))
 (af (Bool.and (Bool.not false) (Bool.and (Nat.beq 5 5) (Bool.and (Nat.ble 0 c.length) (Nat.ble (Nat.add c.length 1) 4194304))))
 (af (Nat.beq (Nat.add 0 (Nat.mul c.length 1)) c.length)
 (some ((.tuple ⟨[.int .i64 0,.slice (Option.some (Addr.mk 1 0 none)) (Nat.add c.length 1) 18446744073709551616,.slice (Option.some (Addr.mk 0 0 none)) m 18446744073709551616,.int .i64 z,.int .i64 (dC .i64 i 1)]⟩),(mkSt [Blk.cells (renL true (rhoO 1 [3]) cb) 5 false,Blk.cells (renL true (rhoO 1 [3]) (List.append (takeC (Nat.mul c.length 1) (ai 0 c)) [.int .u8 (asI (aj cb (Nat.add 0 (atN i 1))))])) 5 false])))))
 (af (inI (qK .u8 (asI (aj cb (Nat.add 0 (atN i 1)))) 4) 16)
 (af (inI (pO .u8 (asI (aj cb (Nat.add 0 (atN i 1)))) 15) 16)
 (af (Bool.and (Bool.not false) (Bool.and (Nat.beq 5 5) (Bool.and (Nat.ble 0 c.length) (Nat.ble (Nat.add c.length 3) 4194304))))
 (af (Nat.beq (Nat.add 0 (Nat.mul c.length 1)) c.length)
 (some ((.tuple ⟨[.int .i64 0,.slice (Option.some (Addr.mk 1 0 none)) (Nat.add c.length 3) 18446744073709551616,.slice (Option.some (Addr.mk 0 0 none)) m 18446744073709551616,.int .i64 z,.int .i64 (dC .i64 i 1)]⟩),(mkSt [Blk.cells (renL true (rhoO 1 [12]) cb) 5 false,Blk.cells (renL true (rhoO 1 [12]) (List.append (takeC (Nat.mul c.length 1) (ai 0 c)) [.int .u8 92,.int .u8 (bAt ⟨#[48,49,50,51,52,53,54,55,56,57,97,98,99,100,101,102]⟩ (qK .u8 (asI (aj cb (Nat.add 0 (atN i 1)))) 4)),.int .u8 (bAt ⟨#[48,49,50,51,52,53,54,55,56,57,97,98,99,100,101,102]⟩ (pO .u8 (asI (aj cb (Nat.add 0 (atN i 1)))) 15))])) 5 false]))))))))))
 (some ((.tuple ⟨[.int .i64 1,.slice (Option.some (Addr.mk 1 0 none)) c.length 18446744073709551616,.slice (Option.some (Addr.mk 0 0 none)) m 18446744073709551616,.int .i64 z,.int .i64 i]⟩),(mkSt [Blk.cells (renL true (rhoO 1 [1]) cb) 5 false,Blk.cells (renL true (rhoO 1 [1]) c) 5 false])))):=by kernel_rfl
def hxU(i:Int):UInt8:=hexD.data.toList.getD i.toNat 0
def enc(b:UInt8):List UInt8:=match gQ b.toNat with
 |true=>[b]
 |false=>[92,hxU (qK .u8 b.toNat 4),hxU (pO .u8 b.toNat 15)]
def kG(l:List UInt8):List UInt8:=l.flatMap enc
theorem Lj(b:UInt8)(l:List UInt8):kG (b::l)=enc b++kG l:=List.flatMap_cons
theorem Rq:∀ n:Fin 256,inI (qK .u8 (n.val:Int) 4) 16=true:=by decide +kernel
theorem Rj:∀ n:Fin 256,inI (pO .u8 (n.val:Int) 15) 16=true:=by decide +kernel
theorem Tj(b:UInt8):inI (qK .u8 (b.toNat:Int) 4) 16=true:=Rq ⟨b.toNat,b.toNat_lt⟩
theorem QQ(b:UInt8):inI (pO .u8 (b.toNat:Int) 15) 16=true:=Rj ⟨b.toNat,b.toNat_lt⟩
theorem Jg(b:UInt8):(enc b).length<=3:=by unfold enc; split<;>simp
theorem KR{l:List UInt8}{i:Nat}(h:i<l.length):aj (bc l) (Nat.add 0 (atN (i:Int) 1)) = .int .u8 (l[i].toNat):=by
 have e:Nat.add 0 (atN (i:Int) 1)=i:=by simp[atN]
 rw[e]; exact TU h
theorem J3{l:List UInt8}{i:Nat}{c:List Value}(h:i<l.length)(hc:bf c=true)(hb:c.length+3<=4194304)(hl:l.length<9223372036854775807) :
  jr P E ct1 50 39 sQ wJ [sl 1 c.length,sl 0 l.length, .int .i64 l.length, .int .i64 i] [.cells (bc l) 5 false, .cells c 5 false] =
   some (.tuple ⟨exV .normal::[sl 1 (c++bc (enc l[i])).length,sl 0 l.length, .int .i64 l.length, .int .i64 ((i+1:Nat):Int)]⟩,mkSt [.cells (bc l) 5 false, .cells (c++bc (enc l[i])) 5 false]):=by
 unfold sl;rw[EX];have hw:dC .i64 (i:Int) 1=((i+1:Nat):Int):=by
  unfold dC;rw[wrap64 (by omega) (by omega)]; omega
 refine gz (by simp[ltI,h]) ?_;refine dF (rq (by omega) (by omega)) ?_;refine dF (iH (iW (by rw[jw]; simp[atN]; omega)) (by rw[KR h]; rfl)) ?_;simp only[KR h,asI];cases hp:gQ (l[i].toNat:Int)with
 |true=>
  have he:enc l[i]=[l[i]]:=by unfold enc; rw[hp]
  refine gz rfl ?_;refine dF (iH rfl (iH rfl (iH (iW (Nat.zero_le _)) (iW (by simp; omega))))) ?_;refine dF (y7 (by simp)) ?_;refine nD ?_ ?_
  ·rw[he,hw]; simp[exV,bc,unk]
  ·simp only[nX,tX,gK hc,jQ,he];rw[show c.append [Value.int .u8 (l[i].toNat:Int)]=c++bc [l[i]] from rfl,jQ,gK hc,nX]
 |false=>
  have he:enc l[i]=[92,hxU (qK .u8 l[i].toNat 4),hxU (pO .u8 l[i].toNat 15)]:=by unfold enc; rw[hp]
  refine iw rfl ?_;refine dF (Tj _) ?_;refine dF (QQ _) ?_;refine dF (iH rfl (iH rfl (iH (iW (Nat.zero_le _)) (iW (by simp; omega))))) ?_;refine dF (y7 (by simp)) ?_;refine nD ?_ ?_
  ·rw[he,hw]; simp[exV,bc,unk]
  ·simp only[nX,tX,he];have e:∀ x:List Value,x=bc [92,hxU (qK .u8 l[i].toNat 4),hxU (pO .u8 l[i].toNat 15)]->renL true (rhoO 1 [12]) (c.append x)=c++bc [92,hxU (qK .u8 l[i].toNat 4),hxU (pO .u8 l[i].toNat 15)]:=by
    intro x hx;rw[hx,show c.append (bc [92,hxU (qK .u8 l[i].toNat 4),hxU (pO .u8 l[i].toNat 15)])=c++bc _ from rfl,jQ,gK hc,nX]
   exact congrArg (fun x=>[Blk.cells (bc l) 5 false,Blk.cells x 5 false]) (e _ rfl)
theorem LU{l:List UInt8}{c:List Value}(hc:bf c=true) :
  jr P E ct1 50 39 sQ wJ [sl 1 c.length,sl 0 l.length, .int .i64 l.length, .int .i64 (l.length:Int)] [.cells (bc l) 5 false, .cells c 5 false] =
   some (.tuple ⟨exV (.exit 0)::[sl 1 c.length,sl 0 l.length, .int .i64 l.length, .int .i64 l.length]⟩,mkSt [.cells (bc l) 5 false, .cells c 5 false]):=by
 unfold sl;rw[EX];refine iw (by simp[ltI]) ?_;refine nD ?_ ?_
 ·simp[exV,unk]
 ·simp only[nX,gK hc]
theorem Ce(l:List UInt8)(hl:l.length<9223372036854775807):∀ (k i:Nat) (c:List Value),i+k=l.length->bf c=true->c.length+3*k<=4194304->
  LR P 39 0 sQ wJ [sl 1 c.length,sl 0 l.length, .int .i64 l.length, .int .i64 i] [.cells (bc l) 5 false, .cells c 5 false] .normal
   [sl 1 (c++bc (kG (l.drop i))).length,sl 0 l.length, .int .i64 l.length, .int .i64 l.length] [.cells (bc l) 5 false, .cells (c++bc (kG (l.drop i))) 5 false]
 |0,i,c,hi,hc,hb=>by
  have:i=l.length:=by omega
  subst this;have e:c++bc (kG (l.drop l.length))=c:=by simp[kG,bc]
  rw[e];exact LR.stop (dR ct1) aB qR Cf (by kernel_rfl) (e:= .exit 0) (LU hc) (by intro h; cases h)
 |k+1,i,c,hi,hc,hb=>by
  have hlt:i<l.length:=by omega
  have hr:=J3 hlt hc (by omega) hl;have hlen:=Jg l[i];have ih:=Ce l hl k (i+1) (c++bc (enc l[i])) (by omega) (by rw[mG,hc,rY]; rfl) (by rw[List.length_append,jw]; omega);have e:c++bc (enc l[i])++bc (kG (l.drop (i+1)))=c++bc (kG (l.drop i)):=by
   rw[List.drop_eq_getElem_cons hlt,Lj,vT,List.append_assoc]
  rw[e]at ih;exact LR.again (dR ct1) aB qR Cf (by kernel_rfl) hr ih
def zy(v1 v2:Value)(z i:Int)(cb:List Value)(e1:TypeId)(c:List Value)(e2:TypeId):Bool:=
 atB v1 1 c.length&&atB v2 0 cb.length&&z == cb.length&&i == 0&&o9 cb&&bf c&&e1 == 5&&e2 == 5&&Nat.ble (c.length+3*cb.length) 4194304
def JY:jL:=fun vs bs=>match vs,bs with
 |[v1,v2, .int .i64 z, .int .i64 i],[.cells cb e1 false, .cells c e2 false]=>some (.ite (zy v1 v2 z i cb e1 c e2)
   (.leaf (.normal,[sl 1 (c++bc (kG (cb.map byteOf))).length,sl 0 cb.length, .int .i64 cb.length, .int .i64 cb.length],[.cells cb 5 false, .cells (c++bc (kG (cb.map byteOf))) 5 false])) .fail)
 |_,_=>none
theorem G8:LoopOk P 39 0 sQ wJ JY where
 occ:=kU Ee
 ok:=by kernel_rfl
 run:=by
  intro vs bs t hR e vs' bs' hev;unfold JY at hR;split at hR
  ·rename_i v1 v2 z i cb e1 c e2;obtain rfl:=Option.some.inj hR;cases hc:zy v1 v2 z i cb e1 c e2 with
   |false=>rw[hc]at hev; cases hev
   |true=>
    rw[hc]at hev;simp only[DT.eval,Option.some.injEq,Prod.mk.injEq]at hev;obtain⟨rfl,rfl,rfl⟩:=hev;simp only[zy,Bool.and_eq_true,beq_iff_eq]at hc;obtain⟨⟨⟨⟨⟨⟨⟨⟨h1,h2⟩,h3⟩,h4⟩,h5⟩,h6⟩,h7⟩,h8⟩,h9⟩:=hc;have h9:=Nat.le_of_ble_eq_true h9;rw[Fg h1,Fg h2];subst h3 h4 h7 h8;have hcb:=PD h5;have hlen:(cb.map byteOf).length=cb.length:=by simp
    have:=Ce (cb.map byteOf) (by omega) cb.length 0 c (by omega) h6 (by omega);rw[<-hcb,hlen,List.drop_zero]at this;exact this
  ·cases hR
def ct2:Ct:=oP 39 0 wJ JY ct1
theorem LP:CtOk P ct2:=tY qR G8
theorem Oe(s:ByteArray):jg P E ct2 50 39 [.string s] =
 (aC (eqS s ⟨#[]⟩)
 (some ((.string ⟨#[34,34]⟩),(mkSt [])))
 (af (Nat.ble s.size 4194304)
 (af (zy (.slice (Option.some (Addr.mk 1 0 none)) 0 18446744073709551616) (.slice (Option.some (Addr.mk 0 0 none)) s.size 18446744073709551616) (ae s.size) 0 (renL true (rhoO 1 [1]) (Go.byteCells s)) 5 [] 5)
 (af (Bool.and (Nat.ble (Nat.add 0 (List.length (HAppend.hAppend [] (bc (kG (List.map byteOf (renL true (rhoO 1 [1]) (Go.byteCells s)))))))) (List.length (HAppend.hAppend [] (bc (kG (List.map byteOf (renL true (rhoO 1 [1]) (Go.byteCells s)))))))) (allBytes (takeC (List.length (HAppend.hAppend [] (bc (kG (List.map byteOf (renL true (rhoO 1 [1]) (Go.byteCells s))))))) (ai 0 (HAppend.hAppend [] (bc (kG (List.map byteOf (renL true (rhoO 1 [1]) (Go.byteCells s))))))))))
 (some ((.string (rW (takeC (List.length (HAppend.hAppend [] (bc (kG (List.map byteOf (renL true (rhoO 1 [1]) (Go.byteCells s))))))) (ai 0 (HAppend.hAppend [] (bc (kG (List.map byteOf (renL true (rhoO 1 [1]) (Go.byteCells s)))))))))),(mkSt []))))))):=by kernel_rfl
def UC(l:List UInt8):List UInt8:=match l with
 |[]=>[34,34]
 |l=>kG l
def J_:fK
 |[.string s]=>some (.ite (Nat.ble (3*s.size) 4194304) (.leaf (.string ⟨⟨UC s.data.toList⟩⟩,[])) .fail)
 |_=>none
theorem Ad(c:List Value):takeC c.length (ai 0 c)=c:=Lh c rfl
theorem QF:CallOkR P 39 J_:=by
 refine qw LP (n:=50) fun args t hR v bs hev=>?_;unfold J_ at hR;split at hR
 ·rename_i s;obtain rfl:=Option.some.inj hR;cases hc:Nat.ble (3*s.size) 4194304 with
  |false=>rw[hc]at hev; cases hev
  |true=>
   rw[hc]at hev;simp only[DT.eval,Option.some.injEq,Prod.mk.injEq]at hev;obtain⟨rfl,rfl⟩:=hev;have hsz:=Nat.le_of_ble_eq_true hc;have hlen:s.data.toList.length=s.size:=by simp
   rw[Oe];cases hs:s.data.toList with
   |nil=>
    refine gz (by rw[vJ,hs]; rfl) ?_
    rfl
   |cons b l=>
    refine iw (by rw[vJ,hs]; rfl) ?_;refine dF (iW (by omega)) ?_;simp only[Eu,nX,H5,List.nil_append,Ad,Ii];refine dF ?_ ?_
    ·have h1:atB (.slice (some ⟨1,0,none⟩) 0 18446744073709551616) 1 ([]:List Value).length=true:=F5 1 0;have h2:atB (.slice (some ⟨0,0,none⟩) s.size 18446744073709551616) 0 (bc s.data.toList).length=true:=by rw[jw,hlen]; exact F5 0 s.size
     have h3:(ae s.size == ((bc s.data.toList).length:Int))=true:=by rw[jw,hlen]; simp[ae]
     have h9:Nat.ble (([]:List Value).length+3*(bc s.data.toList).length) 4194304=true:=iW (by rw[jw,hlen]; simpa using hsz);unfold zy;rw[h1,h2,h3,CE,h9]
     rfl
    refine dF (iH (iW (by simp)) (Lu _)) ?_;rw[hs]
    rfl
 ·cases hR
theorem sG{s:ByteArray}{i:Nat}(h:i<s.data.toList.length):bAt s (i:Int)=((s.data.toList[i]).toNat:Int):=by
 unfold bAt;rw[Int.toNat_natCast,List.getD_eq_getElem?_getD,List.getElem?_eq_getElem h]
 rfl
def ct3:Ct:=b_ P 39 J_ ct2
theorem SX:CtOk P ct3:=bI LP QF
def k_:Head:=⟨0,86,[0,4,5,6],[(4,5)]⟩
def ku:Code:=(h_ P 152 0).getD .skip
theorem BQ:h_ P 152 0=some ku:=by kernel_rfl
theorem tK:Occ P 152 (.block 0 (.loop ku)):=kN BQ
theorem qc(s:ByteArray)(c:List Value)(i:Int):jr P E ct1 50 152 ku k_ [.string s, .slice (some ⟨0,0,none⟩) c.length unk, .bool false, .int .i64 i] [.cells c 5 false] =
 (aC (ltI i (ae s.size))
 (af (inI i s.size)
 (aC (gQ (bAt s i))
 (af (Bool.and (Bool.not false) (Bool.and (Nat.beq 5 5) (Bool.and (Nat.ble 0 c.length) (Nat.ble (Nat.add c.length 1) 4194304))))
 (af (Nat.beq (Nat.add 0 (Nat.mul c.length 1)) c.length)
 (some ((.tuple ⟨[.int .i64 0,.string s,.slice (Option.some (Addr.mk 0 0 none)) (Nat.add c.length 1) 18446744073709551616,.bool false,.int .i64 (dC .i64 i 1)]⟩),(mkSt [Blk.cells (renL true (rhoO 0 [2]) (List.append (takeC (Nat.mul c.length 1) (ai 0 c)) [.int .u8 (bAt s i)])) 5 false])))))
 (aC (eqI (bAt s i) 92)
 (aC (ltI (dC .i64 i 2) (ae s.size))
 (af (inI (dC .i64 i 1) s.size)
 (af (inI (dC .i64 i 2) s.size)
 (aC (iJ (uG (bAt s (dC .i64 i 1))))
 (some ((.tuple ⟨[.int .i64 1,.string s,.slice (Option.some (Addr.mk 0 0 none)) c.length 18446744073709551616,.bool true,.int .i64 i]⟩),(mkSt [Blk.cells (renL true (rhoO 0 [0]) c) 5 false])))
 (aC (iJ (uG (bAt s (dC .i64 i 2))))
 (some ((.tuple ⟨[.int .i64 1,.string s,.slice (Option.some (Addr.mk 0 0 none)) c.length 18446744073709551616,.bool true,.int .i64 i]⟩),(mkSt [Blk.cells (renL true (rhoO 0 [0]) c) 5 false])))
 (aC (gQ (orI .u8 (IK .u8 (uC (bAt s (dC .i64 i 1))) 4) (uC (bAt s (dC .i64 i 2)))))
 (some ((.tuple ⟨[.int .i64 1,.string s,.slice (Option.some (Addr.mk 0 0 none)) c.length 18446744073709551616,.bool true,.int .i64 i]⟩),(mkSt [Blk.cells (renL true (rhoO 0 [0]) c) 5 false])))
 (af (Bool.and (Bool.not false) (Bool.and (Nat.beq 5 5) (Bool.and (Nat.ble 0 c.length) (Nat.ble (Nat.add c.length 1) 4194304))))
 (af (Nat.beq (Nat.add 0 (Nat.mul c.length 1)) c.length)
 (some ((.tuple ⟨[.int .i64 0,.string s,.slice (Option.some (Addr.mk 0 0 none)) (Nat.add c.length 1) 18446744073709551616,.bool false,.int .i64 (dC .i64 (dC .i64 i 2) 1)]⟩),(mkSt [Blk.cells (renL true (rhoO 0 [2]) (List.append (takeC (Nat.mul c.length 1) (ai 0 c)) [.int .u8 (orI .u8 (IK .u8 (uC (bAt s (dC .i64 i 1))) 4) (uC (bAt s (dC .i64 i 2))))])) 5 false]))))))))))
 (some ((.tuple ⟨[.int .i64 1,.string s,.slice (Option.some (Addr.mk 0 0 none)) c.length 18446744073709551616,.bool true,.int .i64 i]⟩),(mkSt [Blk.cells (renL true (rhoO 0 [0]) c) 5 false]))))
 (some ((.tuple ⟨[.int .i64 1,.string s,.slice (Option.some (Addr.mk 0 0 none)) c.length 18446744073709551616,.bool true,.int .i64 i]⟩),(mkSt [Blk.cells (renL true (rhoO 0 [0]) c) 5 false]))))))
 (some ((.tuple ⟨[.int .i64 1,.string s,.slice (Option.some (Addr.mk 0 0 none)) c.length 18446744073709551616,.bool false,.int .i64 i]⟩),(mkSt [Blk.cells (renL true (rhoO 0 [0]) c) 5 false])))):=by kernel_rfl
def hv(h l:UInt8):Int:=orI .u8 (IK .u8 (uC h.toNat) 4) (uC l.toNat)
def wH(h l:UInt8):Bool:=uG h.toNat&&uG l.toNat&&!gQ (hv h l)
def kK(h l:UInt8):UInt8:=UInt8.ofNat (hv h l).toNat
theorem wrap_u8(n:Int):IntKind.u8.wrap n=n % 256:=by
 show(if(false&&decide (n % (2^8:Int)>=(2^(8-1):Int)))=true then n % (2^8:Int)-(2^8:Int)else n % (2^8:Int))=_;simp
theorem O6(h l:UInt8):((kK h l).toNat:Int)=hv h l:=by
 unfold kK;have h1:0<=hv h l/\hv h l<256:=by
  unfold hv orI;rw[wrap_u8];omega
 generalize hv h l=n at h1;simp only[UInt8.toNat_ofNat'];omega
def dY:List UInt8->List UInt8×Bool×Nat
 |[]=>([],false,0)
 |x::r=>match gQ x.toNat with
  |true=>(x::(dY r).1,(dY r).2)
  |false=>match eqI x.toNat 92,r with
   |true,h::l::r'=>match wH h l with
    |true=>(kK h l::(dY r').1,(dY r').2)
    |false=>([],true,r'.length+3)
   |_,r=>([],true,r.length+1)
section
variable{s:ByteArray}{i:Nat}{c:List Value}
theorem pU{i k:Nat}(h:i+k<9223372036854775808):dC .i64 (i:Int) (k:Int)=((i+k:Nat):Int):=by
 unfold dC;rw[wrap64 (by omega) (by omega)]; omega
theorem Gj(h:i<s.data.toList.length)(hc:bf c=true)(hb:c.length+1<=4194304)(hl:s.size<9223372036854775800)(hp:gQ (s.data.toList[i].toNat:Int)=true) :
  jr P E ct1 50 152 ku k_ [.string s,sl 0 c.length, .bool false, .int .i64 i] [.cells c 5 false] =
   some (.tuple ⟨exV .normal::[.string s,sl 0 (c++bc [s.data.toList[i]]).length, .bool false, .int .i64 ((i+1:Nat):Int)]⟩,mkSt [.cells (c++bc [s.data.toList[i]]) 5 false]):=by
 unfold sl;have hsz:s.data.toList.length=s.size:=by simp
 have hx:(i:Int)<(s.size:Int):=by omega
 have hw:=pU (i:=i) (k:=1) (by omega);rw[qc];refine gz (decide_eq_true hx) ?_;refine dF (rq (by omega) hx) ?_;rw[sG h];refine gz hp ?_;refine dF (iH rfl (iH rfl (iH (iW (Nat.zero_le _)) (iW (by simp; omega))))) ?_;refine dF (y7 (by simp)) ?_;refine nD ?_ ?_
 ·rw[show dC .i64 (i:Int) 1=((i+1:Nat):Int) from hw]; simp[exV,bc,unk]
 ·simp only[tX];have e:∀ x:List Value,x=bc [s.data.toList[i]]->renL true (rhoO 0 [2]) (c.append x)=c++bc [s.data.toList[i]]:=by
   intro x hx;rw[hx,show c.append (bc [s.data.toList[i]])=c++bc _ from rfl,jQ,gK hc,nX]
  exact congrArg (fun x=>[Blk.cells x 5 false]) (e _ rfl)
theorem La(hc:bf c=true)(h:i=s.size) :
  jr P E ct1 50 152 ku k_ [.string s,sl 0 c.length, .bool false, .int .i64 i] [.cells c 5 false] =
   some (.tuple ⟨exV (.exit 0)::[.string s,sl 0 c.length, .bool false, .int .i64 i]⟩,mkSt [.cells c 5 false]):=by
 unfold sl;rw[qc];refine iw (by subst h; simp[ltI,ae]) ?_;refine nD (by simp[exV,unk]) ?_;simp only[gK hc]
theorem pq(hc:bf c=true):(some ((Go.Value.tuple (Array.mk [(Go.Value.int Go.IntKind.i64 (1:Int)),(Go.Value.string s),(Go.Value.slice (Option.some (Go.Addr.mk 0 0 none)) (List.length c) 18446744073709551616),(Go.Value.bool Bool.true),(Go.Value.int Go.IntKind.i64 (i:Int))])),(Go.VS.mkSt [(Go.VS.Blk.cells (Go.VS.renL Bool.true (Go.VS.rhoO 0 [0]) c) 5 Bool.false)])):Res) =
  some (.tuple ⟨exV (.exit 0)::[.string s,sl 0 c.length, .bool true, .int .i64 i]⟩,mkSt [.cells c 5 false]):=by
 refine nD (by simp[exV,unk,sl]) ?_;simp only[gK hc]
theorem Hf(h:i<s.data.toList.length)(hc:bf c=true)(hp:gQ (s.data.toList[i].toNat:Int)=false)(hb:eqI (s.data.toList[i].toNat:Int) 92=false\/s.data.toList.length<=i+2)(hl:s.size<9223372036854775800) :
  jr P E ct1 50 152 ku k_ [.string s,sl 0 c.length, .bool false, .int .i64 i] [.cells c 5 false] =
   some (.tuple ⟨exV (.exit 0)::[.string s,sl 0 c.length, .bool true, .int .i64 i]⟩,mkSt [.cells c 5 false]):=by
 have hsz:s.data.toList.length=s.size:=by simp
 have hx:(i:Int)<(s.size:Int):=by omega
 have hw2:=pU (i:=i) (k:=2) (by omega);have hd:=qc s c i;unfold sl;rw[hd];refine gz (decide_eq_true hx) ?_;refine dF (rq (by omega) hx) ?_;rw[sG h];refine iw hp ?_;cases he:eqI (s.data.toList[i].toNat:Int) 92 with
 |false=>exact iw rfl (pq hc)
 |true=>
  refine gz rfl ?_;have hb:s.data.toList.length<=i+2:=hb.resolve_left (by rw[he]; decide);refine iw ?_ (pq hc);rw[show dC .i64 (i:Int) 2=((i+2:Nat):Int) from hw2];refine decide_eq_false ?_;show ¬((i+2:Nat):Int)<(s.size:Int);omega
theorem Jz(h2:i+2<s.data.toList.length)(hc:bf c=true)(hb:c.length+1<=4194304)(hp:gQ (s.data.toList[i].toNat:Int)=false)(he:eqI (s.data.toList[i].toNat:Int) 92=true)(hl:s.size<9223372036854775800) :
  jr P E ct1 50 152 ku k_ [.string s,sl 0 c.length, .bool false, .int .i64 i] [.cells c 5 false] =
   match wH s.data.toList[i+1] s.data.toList[i+2]with
   |true=>some (.tuple ⟨exV .normal::[.string s,sl 0 (c++bc [kK s.data.toList[i+1] s.data.toList[i+2]]).length, .bool false, .int .i64 ((i+3:Nat):Int)]⟩,mkSt [.cells (c++bc [kK s.data.toList[i+1] s.data.toList[i+2]]) 5 false])
   |false=>some (.tuple ⟨exV (.exit 0)::[.string s,sl 0 c.length, .bool true, .int .i64 i]⟩,mkSt [.cells c 5 false]):=by
 have hsz:s.data.toList.length=s.size:=by simp
 have hx:(i:Int)<(s.size:Int):=by omega
 have hw1:dC .i64 (i:Int) 1=((i+1:Nat):Int):=pU (i:=i) (k:=1) (by omega);have hw2:dC .i64 (i:Int) 2=((i+2:Nat):Int):=pU (i:=i) (k:=2) (by omega);have hw3:dC .i64 ((i+2:Nat):Int) 1=((i+3:Nat):Int):=pU (i:=i+2) (k:=1) (by omega);have hx1:((i+1:Nat):Int)<(s.size:Int):=by omega
 have hx2:((i+2:Nat):Int)<(s.size:Int):=by omega
 have hd:=qc s c i;rw[hw1,hw2,hw3,sG (show i<s.data.toList.length by omega),sG (show i+1<s.data.toList.length by omega),sG h2]at hd;unfold sl;rw[hd];refine gz (decide_eq_true hx) ?_;refine dF (rq (by omega) hx) ?_;refine iw hp ?_;refine gz he ?_;refine gz (decide_eq_true hx2) ?_;refine dF (rq (by omega) hx1) ?_;refine dF (rq (by omega) hx2) ?_;unfold wH;cases d1:uG (s.data.toList[i+1].toNat:Int)with
 |false=>exact gz rfl (pq hc)
 |true=>
  refine iw rfl ?_;cases d2:uG (s.data.toList[i+2].toNat:Int)with
  |false=>exact gz rfl (pq hc)
  |true=>
   refine iw rfl ?_;cases d3:gQ (hv s.data.toList[i+1] s.data.toList[i+2])with
   |true=>exact gz d3 (pq hc)
   |false=>
    refine iw d3 ?_;refine dF (iH rfl (iH rfl (iH (iW (Nat.zero_le _)) (iW (by simp; omega))))) ?_;refine dF (y7 (by simp)) ?_;refine nD ?_ ?_
    ·simp[exV,bc,unk]
    ·simp only[tX];have e:∀ x:List Value,x=bc [kK s.data.toList[i+1] s.data.toList[i+2]]->renL true (rhoO 0 [2]) (c.append x)=c++bc [kK s.data.toList[i+1] s.data.toList[i+2]]:=by
      intro x hx;rw[hx,show c.append (bc [kK s.data.toList[i+1] s.data.toList[i+2]])=c++bc _ from rfl,jQ,gK hc,nX]
     refine congrArg (fun x=>[Blk.cells x 5 false]) (e _ ?_);show [Value.int .u8 (hv s.data.toList[i+1] s.data.toList[i+2])]=[Value.int .u8 ((kK s.data.toList[i+1] s.data.toList[i+2]).toNat:Int)]
     rw[O6]
end
theorem JX{x:UInt8}{r:List UInt8}(h:gQ x.toNat=true):dY (x::r)=(x::(dY r).1,(dY r).2):=by
 rw[dY.eq_def]; simp only[h]
theorem MV{x h l:UInt8}{r:List UInt8}(hp:gQ x.toNat=false)(he:eqI x.toNat 92=true):dY (x::h::l::r)=match wH h l with
  |true=>(kK h l::(dY r).1,(dY r).2)
  |false=>([],true,r.length+3):=by
 rw[dY.eq_def]; simp only[hp,he]<;>cases wH h l<;>rfl
theorem JP{x:UInt8}{r:List UInt8}(hp:gQ x.toNat=false)(ho:eqI x.toNat 92=false\/r.length<2):dY (x::r)=([],true,r.length+1):=by
 rw[dY.eq_def];simp only[hp];cases he:eqI x.toNat 92 with
 |false=>cases r with
  |nil=>rfl
  |cons a r=>cases r<;>rfl
 |true=>
  have:r.length<2:=ho.resolve_left (by rw[he]; decide);cases r with
  |nil=>rfl
  |cons a r=>cases r with
   |nil=>rfl
   |cons b r=>simp at this; omega
theorem Kq(s:ByteArray)(hl:s.size<9223372036854775800):∀ (k i:Nat) (c:List Value),i+k=s.size->bf c=true->c.length+k<=4194304->
  LR P 152 0 ku k_ [.string s,sl 0 c.length, .bool false, .int .i64 i] [.cells c 5 false] .normal
   [.string s,sl 0 (c++bc (dY (s.data.toList.drop i)).1).length, .bool (dY (s.data.toList.drop i)).2.1, .int .i64 ((s.size-(dY (s.data.toList.drop i)).2.2:Nat):Int)] [.cells (c++bc (dY (s.data.toList.drop i)).1) 5 false]:=by
 intro k
 induction k using Nat.strongRecOn with
 |_ k ih=>
  intro i c hi hc hb;have hsz:s.data.toList.length=s.size:=by simp
  have stop:∀ {vs1:List Value} {bs1:List Blk},jr P E ct1 50 152 ku k_ [.string s,sl 0 c.length, .bool false, .int .i64 i] [.cells c 5 false]=some (.tuple ⟨exV (.exit 0)::vs1⟩,mkSt bs1)->
    LR P 152 0 ku k_ [.string s,sl 0 c.length, .bool false, .int .i64 i] [.cells c 5 false] .normal vs1 bs1:=
   fun h=>LR.stop (dR ct1) aB qR tK (by kernel_rfl) (e:= .exit 0) h (by intro h; cases h)
  by_cases hk:k=0
  ·subst hk;have e:s.data.toList.drop i=[]:=List.drop_of_length_le (by omega);rw[e];have:=stop (La hc (by omega));simpa [dY,bc,hi]using(by simpa using(show i=s.size by omega)▸this)
  ·have hlt:i<s.data.toList.length:=by omega
   rw[List.drop_eq_getElem_cons hlt];cases hp:gQ (s.data.toList[i].toNat:Int)with
   |true=>
    have:=ih (k-1) (by omega) (i+1) (c++bc [s.data.toList[i]]) (by omega) (by rw[mG,hc,rY]; rfl) (by rw[List.length_append,jw]; simp; omega);rw[JX hp];have e:∀ q,c++bc [s.data.toList[i]]++bc q=c++bc (s.data.toList[i]::q):=by
     intro q; rw[List.append_assoc,<-vT]; rfl
    rw[e]at this;exact LR.again (dR ct1) aB qR tK (by kernel_rfl) (Gj hlt hc (by omega) hl hp) this
   |false=>
    have hrest:(s.data.toList.drop (i+1)).length=k-1:=by rw[List.length_drop]; omega
    by_cases ho:eqI (s.data.toList[i].toNat:Int) 92=false\/s.data.toList.length<=i+2
    ·have:=stop (Hf hlt hc hp ho hl);rw[JP hp (ho.imp id fun h=>by rw[hrest]; omega)];have e:s.size-((s.data.toList.drop (i+1)).length+1)=i:=by rw[hrest]; omega
     simp only[e];have e2:c++bc []=c:=by simp[bc]
     rw[e2];exact this
    ·have he:eqI (s.data.toList[i].toNat:Int) 92=true:=by
      cases h:eqI (s.data.toList[i].toNat:Int) 92 with
      |true=>rfl
      |false=>exact absurd (Or.inl h) ho
     have h2:i+2<s.data.toList.length:=by
      have:¬s.data.toList.length<=i+2:=fun h=>ho (Or.inr h);omega
     have hr:=Jz h2 hc (by omega) hp he hl;rw[List.drop_eq_getElem_cons (show i+1<s.data.toList.length by omega),List.drop_eq_getElem_cons h2,MV hp he];have hrest3:(s.data.toList.drop (i+3)).length=k-3:=by rw[List.length_drop]; omega
     cases hg:wH s.data.toList[i+1] s.data.toList[i+2]with
     |true=>
      rw[hg]at hr;have:=ih (k-3) (by omega) (i+3) (c++bc [kK s.data.toList[i+1] s.data.toList[i+2]]) (by omega) (by rw[mG,hc,rY]; rfl) (by rw[List.length_append,jw]; simp; omega);have e:∀ q,c++bc [kK s.data.toList[i+1] s.data.toList[i+2]]++bc q=c++bc (kK s.data.toList[i+1] s.data.toList[i+2]::q):=by
       intro q; rw[List.append_assoc,<-vT]; rfl
      rw[e]at this;exact LR.again (dR ct1) aB qR tK (by kernel_rfl) hr this
     |false=>
      rw[hg]at hr;have:=stop hr;have e:s.size-((s.data.toList.drop (i+3)).length+3)=i:=by rw[hrest3]; omega
      simp only[e];have e2:c++bc []=c:=by simp[bc]
      rw[e2];exact this
def vw(s:ByteArray)(v1:Value)(bad:Bool)(i:Int)(c:List Value)(e1:TypeId):Bool:=
 atB v1 0 c.length&&!bad&&i == 0&&bf c&&e1 == 5&&Nat.ble (c.length+s.size) 4194304
def AY:jL:=fun vs bs=>match vs,bs with
 |[.string s,v1, .bool bad, .int .i64 i],[.cells c e1 false]=>some (.ite (vw s v1 bad i c e1)
   (.leaf (.normal,[.string s,sl 0 (c++bc (dY s.data.toList).1).length, .bool (dY s.data.toList).2.1, .int .i64 ((s.size-(dY s.data.toList).2.2:Nat):Int)],[.cells (c++bc (dY s.data.toList).1) 5 false])) .fail)
 |_,_=>none
theorem E_:LoopOk P 152 0 ku k_ AY where
 occ:=kU BQ
 ok:=by kernel_rfl
 run:=by
  intro vs bs t hR e vs' bs' hev;unfold AY at hR;split at hR
  ·rename_i s v1 bad i c e1;obtain rfl:=Option.some.inj hR;cases hc:vw s v1 bad i c e1 with
   |false=>rw[hc]at hev; cases hev
   |true=>
    rw[hc]at hev;simp only[DT.eval,Option.some.injEq,Prod.mk.injEq]at hev;obtain⟨rfl,rfl,rfl⟩:=hev;simp only[vw,Bool.and_eq_true,beq_iff_eq,Bool.not_eq_true']at hc;obtain⟨⟨⟨⟨⟨h1,h2⟩,h3⟩,h4⟩,h5⟩,h6⟩:=hc;have h6:=Nat.le_of_ble_eq_true h6;rw[Fg h1];subst h2 h3 h5;have:=Kq s (by omega) s.size 0 c (by omega) h4 (by omega);rw[List.drop_zero]at this;exact this
  ·cases hR
def ct4:Ct:=oP 152 0 k_ AY ct3
theorem RN:CtOk P ct4:=tY SX E_
theorem LD(s:ByteArray):jg P E ct4 50 152 [.string s] =
 (aC (eqS s ⟨#[34,34]⟩)
 (some ((.tuple ⟨[.string ⟨#[]⟩,.int .i64 0]⟩),(mkSt [])))
 (af (vw s (.slice (Option.some (Addr.mk 0 0 none)) 0 18446744073709551616) false 0 [] 5)
 (aC (Prod.fst (Prod.snd (dY (Array.toList (ByteArray.data s)))))
 (some ((.tuple ⟨[.string ⟨#[]⟩,.int .i64 5]⟩),(mkSt [])))
 (aC (eqI (ae (List.length (HAppend.hAppend [] (bc (Prod.fst (dY (Array.toList (ByteArray.data s)))))))) 0)
 (some ((.tuple ⟨[.string ⟨#[]⟩,.int .i64 5]⟩),(mkSt [])))
 (af (Bool.and (Nat.ble (Nat.add 0 (List.length (HAppend.hAppend [] (bc (Prod.fst (dY (Array.toList (ByteArray.data s)))))))) (List.length (HAppend.hAppend [] (bc (Prod.fst (dY (Array.toList (ByteArray.data s)))))))) (allBytes (takeC (List.length (HAppend.hAppend [] (bc (Prod.fst (dY (Array.toList (ByteArray.data s))))))) (ai 0 (HAppend.hAppend [] (bc (Prod.fst (dY (Array.toList (ByteArray.data s))))))))))
 (some ((.tuple ⟨[.string (rW (takeC (List.length (HAppend.hAppend [] (bc (Prod.fst (dY (Array.toList (ByteArray.data s))))))) (ai 0 (HAppend.hAppend [] (bc (Prod.fst (dY (Array.toList (ByteArray.data s))))))))),.int .i64 0]⟩),(mkSt [])))))))):=by kernel_rfl
def uH(w:List UInt8):List UInt8×Int:=match w == [34,34]with
 |true=>([],0)
 |false=>match(dY w).2.1,(dY w).1 with
  |true,_=>([],5)
  |false,[]=>([],5)
  |false,l=>(l,0)
def FX:fK
 |[.string s]=>some (.ite (Nat.ble s.size 4194304) (.leaf (.tuple ⟨[.string ⟨⟨(uH s.data.toList).1⟩⟩, .int .i64 (uH s.data.toList).2]⟩,[])) .fail)
 |_=>none
theorem NY:CallOkR P 152 FX:=by
 refine qw RN (n:=50) fun args t hR v bs hev=>?_;unfold FX at hR;split at hR
 ·rename_i s;obtain rfl:=Option.some.inj hR;cases hc:Nat.ble s.size 4194304 with
  |false=>rw[hc]at hev; cases hev
  |true=>
   rw[hc]at hev;simp only[DT.eval,Option.some.injEq,Prod.mk.injEq]at hev;obtain⟨rfl,rfl⟩:=hev;have hsz:=Nat.le_of_ble_eq_true hc;rw[LD];unfold uH;cases hq:s.data.toList == [34,34]with
   |true=>exact gz (by rw[vJ]; exact hq) rfl
   |false=>
    refine iw (by rw[vJ]; exact hq) ?_;refine dF ?_ ?_
    ·have h1:atB (.slice (some ⟨0,0,none⟩) 0 18446744073709551616) 0 ([]:List Value).length=true:=F5 0 0;have h9:Nat.ble (([]:List Value).length+s.size) 4194304=true:=iW (by simpa using hsz);unfold vw;rw[h1,h9]
     rfl
    simp only[List.nil_append,Ad,Ii];generalize dY s.data.toList=q;obtain⟨out,bad,left⟩:=q;cases bad with
    |true=>exact gz rfl rfl
    |false=>
     refine iw rfl ?_;cases out with
     |nil=>exact gz rfl rfl
     |cons b l=>
      refine iw ?_ ?_
      ·rw[jw];show((((b::l).length:Nat):Int) == 0)=false;simp only[List.length_cons,beq_eq_false_iff_ne,ne_eq];omega
      refine dF (iH (iW (by simp)) (Lu _)) rfl
 ·cases hR
theorem aT{x:Res}:af true x=x:=rfl
def iI:Pol:=fun _=>none
def ctF:Ct:=Po P
theorem mP:CtOk P ctF:=Oa aB
theorem L8(p:Bool)(k v:ByteArray):jg P E jR 50 153 [.agg ⟨[.bool p, .string k, .string v]⟩] =
 (aC (ltI (ae k.size) 1)
 (some ((.int .i64 2),(mkSt [])))
 (aC (gtI (ae k.size) 16)
 (some ((.int .i64 2),(mkSt [])))
 (aC (gtI (ae v.size) 32)
 (some ((.int .i64 2),(mkSt [])))
 (aC (iJ p)
 (aC (neS v ⟨#[]⟩)
 (some ((.int .i64 2),(mkSt [])))
 (some ((.int .i64 0),(mkSt []))))
 (some ((.int .i64 0),(mkSt []))))))):=by kernel_rfl
def n_(p:Bool)(k v:ByteArray):Bool:=decide (1<=k.size)&&decide (k.size<=16)&&decide (v.size<=32)&&(p || v.data.toList == [])
def rX(O:Bool->ByteArray->ByteArray->Bool):fK
 |[.agg ⟨[.bool p, .string k, .string v]⟩]=>some (.ite (O p k v) (.leaf (.int .i64 0,[])) (.leaf (.int .i64 2,[])))
 |_=>none
def Ed:fK:=rX n_
theorem Kt(p:Bool)(k v:ByteArray):aC (ltI (ae k.size) 1) (some (.int .i64 2,mkSt [])) (aC (gtI (ae k.size) 16) (some (.int .i64 2,mkSt [])) (aC (gtI (ae v.size) 32) (some (.int .i64 2,mkSt []))
  (aC (iJ p) (aC (neS v ⟨#[]⟩) (some (.int .i64 2,mkSt [])) (some (.int .i64 0,mkSt []))) (some (.int .i64 0,mkSt [])))))=(some (.int .i64 (match n_ p k v with | true=>0 | false=>2),mkSt []):Res):=by
 unfold n_;by_cases h1:1<=k.size
 ·refine iw (by show decide ((k.size:Int)<1)=false; exact decide_eq_false (by omega)) ?_;by_cases h2:k.size<=16
  ·refine iw (by simp[gtI,ae]; omega) ?_;by_cases h3:v.size<=32
   ·refine iw (by simp[gtI,ae]; omega) ?_;rw[decide_eq_true h1,decide_eq_true h2,decide_eq_true h3];cases p with
    |true=>exact iw rfl rfl
    |false=>
     refine gz rfl ?_;cases h4:v.data.toList == []with
     |true=>exact iw (by rw[yT]; show(!(v.data.toList == []))=false; rw[h4]; rfl) rfl
     |false=>exact gz (by rw[yT]; show(!(v.data.toList == []))=true; rw[h4]; rfl) rfl
   ·rw[decide_eq_false h3];exact gz (by simp[gtI,ae]; omega) (by simp)
  ·rw[decide_eq_false h2];exact gz (by simp[gtI,ae]; omega) (by simp)
 ·rw[decide_eq_false h1];exact gz (by show decide ((k.size:Int)<1)=true; exact decide_eq_true (by omega)) (by simp)
theorem check_any{F:Nat}(h:∀ p k v,jg P E jR 50 F [.agg ⟨[.bool p, .string k, .string v]⟩]=some (.int .i64 (match n_ p k v with | true=>0 | false=>2),mkSt [])):CallOkR P F Ed:=by
 refine qw (iR P) (n:=50) fun args t hR v bs hev=>?_;unfold Ed rX at hR;split at hR
 ·rename_i p k w;obtain rfl:=Option.some.inj hR;rw[h];cases hc:n_ p k w<;>rw[hc]at hev<;>(simp only[DT.eval,Option.some.injEq,Prod.mk.injEq]at hev; obtain⟨rfl,rfl⟩:=hev; rfl)
 ·cases hR
theorem DY:CallOkR P 153 Ed:=check_any fun p k v=>by rw[L8]; exact Kt p k v
theorem kQ{U:Type}{k:Con U}{s:U}{vs:List Value}{bs:List Blk}{x r:Res}(h1:(k.enc s).1=vs)(h2:(k.enc s).2=bs)(h:x=r):af (k.at s vs bs) x=r:=by
 rw[k.at_true h1 h2]; exact h
def Q9(O:Bool->ByteArray->ByteArray->Bool):Ct:=b_ P 153 (rX O) ctF
def ctB:Ct:=Q9 n_
theorem EK:CtOk P ctB:=bI mP DY
def Dbc:HeadX:=⟨0,26,[2,14,15,16],[.val, .val, .val, .val],[],iI⟩
def Bbc:Code:=(h_ P 154 1).getD .skip
theorem KQ:h_ P 154 1=some Bbc:=by kernel_rfl
theorem Bl:Occ P 154 (.block 1 (.loop Bbc)):=kN KQ
theorem Ns(O:Bool->ByteArray->ByteArray->Bool)(n b:Nat)(c:List Value)(r z i:Int):eu P E (Q9 O) 50 154 Bbc Dbc [.int .i64 r,au 3 n b c, .int .i64 z, .int .i64 i] [] =
 (aC (ltI i z)
 (af (Bool.and (Nat.beq 3 3) (inI i n))
 (af (Bool.and (Nat.ble (Nat.add (atN i 3) 3) c.length) (wX [.bool,.string,.string] c (atN i 3)))
 (aC (O (asB (aj c (atN i 3))) (asS (aj c (Nat.add (atN i 3) 1))) (asS (aj c (Nat.add (Nat.add (atN i 3) 1) 1))))
 (some ((.tuple ⟨[.int .i64 0,.int .i64 r,.iface 18446744073709551619 (.agg ⟨(.slice none n b)::c⟩),.int .i64 z,.int .i64 (dC .i64 i 1)]⟩),(mkSt [])))
 (some ((.tuple ⟨[.int .i64 (-1),.int .i64 2,.iface 18446744073709551619 (.agg ⟨(.slice none n b)::c⟩),.int .i64 z,.int .i64 i]⟩),(mkSt []))))))
 (some ((.tuple ⟨[.int .i64 2,.int .i64 r,.iface 18446744073709551619 (.agg ⟨(.slice none n b)::c⟩),.int .i64 z,.int .i64 i]⟩),(mkSt [])))):=by kernel_rfl
theorem Q4(C:List Value->List Blk->Bool)(ok:Bool)(r:Int)(z:Value)(y1 y2 y3:Int)(n b:Nat)(c:List Value):lg P E (kH P 154 1 Dbc (nz C (.ite ok (.leaf (.normal,[.int .i64 0,z, .int .i64 y1, .int .i64 y2],[])) (.leaf (.ret,[.int .i64 r,z, .int .i64 y1, .int .i64 y3],[])))) ctF) 50 iI [] [] 0 154 [au 3 n b c] [] =
 (aC (eqI (ae n) 0)
 (some ((.int .i64 2),(mkSt [])))
 (aC (gtI (ae n) 8)
 (some ((.int .i64 3),(mkSt [])))
 (af (C [.int .i64 0,.iface 18446744073709551619 (.agg ⟨(.slice none n b)::c⟩),.int .i64 (ae n),.int .i64 0] [])
 (aC ok
 (some ((.int .i64 0),(mkSt [])))
 (some ((.int .i64 r),(mkSt []))))))):=by kernel_rfl
def Dy(o:OpM):Bool:=n_ o.p o.k o.v
def cZ(l:List OpM):Value:=au 3 l.length 0 (EOp.all l)
def bcV(r:Int)(l:List OpM)(i:Int):List Value:=[.int .i64 r,cZ l, .int .i64 (ae l.length), .int .i64 i]
theorem P6{l:List OpM}{i:Nat}(h:i<l.length):wX [.bool, .string, .string] (EOp.all l) (atN (i:Int) 3)=true:=by
 show and (dm .bool (aj (EOp.all l) (atN (i:Int) 3))) (and (dm .string (aj (EOp.all l) (Nat.add (atN (i:Int) 3) 1))) (and (dm .string (aj (EOp.all l) (Nat.add (Nat.add (atN (i:Int) 3) 1) 1))) true))=true;rw[Rw h,TK h,Tz h]; rfl
theorem OW{l:List OpM}{i:Nat}(hi:i<l.length)(hl:l.length<4194304):eu P E ctB 50 154 Bbc Dbc (bcV 0 l i) []=match Dy l[i]with
  |true=>some (.tuple ⟨exV .normal::bcV 0 l ((i+1:Nat):Int)⟩,mkSt [])
  |false=>some (.tuple ⟨exV .ret::bcV 2 l i⟩,mkSt []):=by
 unfold bcV cZ ctB;rw[Ns];have n3:∀ l:List OpM,(EOp.all l).length=Nat.mul l.length 3:=fun l=>EOp.all_length l;have g1:ltI (i:Int) (ae l.length)=true:=by unfold ltI ae; exact decide_eq_true (by omega)
 have g2:inI (i:Int) l.length=true:=by unfold inI; exact decide_eq_true (by omega)
 have g3:Nat.ble (Nat.add (atN (i:Int) 3) 3) (Nat.mul l.length 3)=true:=Nat.ble_eq_true_of_le (by
  show(i:Int).toNat*3+3<=l.length*3;have:(i:Int).toNat=i:=by omega
  omega)
 have g4:=P6 hi;have a1:dC .i64 (i:Int) 1=((i+1:Nat):Int):=by unfold dC; rw[wrap64 (by omega) (by omega)]; omega
 have ab:∀ b,asB (.bool b)=b:=fun _=>rfl;have aS:∀ b,asS (.string b)=b:=fun _=>rfl;have b3:∀ n,Nat.beq n n=true:=Nat.beq_refl;simp only[n3,g1,g2,g3,g4,Rw hi,TK hi,Tz hi,ab,aS,a1,b3,Bool.and_self,cO,aT];unfold au Dy;rw[j_];cases n_ l[i].p l[i].k l[i].v<;>rfl
theorem Su{l:List OpM}:eu P E ctB 50 154 Bbc Dbc (bcV 0 l l.length) []=some (.tuple ⟨exV (.exit 1)::bcV 0 l l.length⟩,mkSt []):=by
 unfold bcV cZ ctB;rw[Ns];have g1:ltI (l.length:Int) (ae l.length)=false:=by unfold ltI ae; exact decide_eq_false (by omega)
 simp only[g1,bn];unfold au;rw[j_]
 rfl
def badM:Nat->List OpM->Option Nat
 |_,[]=>none
 |i,o::l=>match Dy o with
  |true=>badM (i+1) l
  |false=>some i
theorem HY(l:List OpM)(hl:l.length<4194304):∀ (k i:Nat),i+k=l.length->
  LRX P 154 1 Bbc Dbc.head (bcV 0 l i) [] (match badM i (l.drop i)with | none=> .normal | some _=> .ret) (match badM i (l.drop i)with | none=>bcV 0 l l.length | some j=>bcV 2 l j) []
 |0,i,h=>by
  obtain rfl:i=l.length:=by omega
  rw[List.drop_length];exact LRX.stop (n:=50) (dR ctB) aB EK Bl (e:= .exit 1) Su (by intro h; cases h)
 |k+1,i,h=>by
  have hi:i<l.length:=by omega
  have q:=OW hi hl;rw[List.drop_eq_getElem_cons hi];simp only[badM];cases ho:Dy l[i]with
  |true=>
   rw[ho]at q;exact LRX.again (n:=50) (dR ctB) aB EK Bl q (HY l hl k (i+1) (by omega))
  |false=>
   rw[ho]at q;exact LRX.stop (n:=50) (dR ctB) aB EK Bl (e:= .ret) q (by intro h; cases h)
def kBc:Con (List OpM) where
 enc l:=(bcV 0 l 0,[])
 ok l:=l.length<4194304
 inj a b h:=by
  unfold bcV cZ at h;simp only[Prod.mk.injEq,List.cons.injEq,Value.int.injEq,true_and,and_true]at h;exact EOp.all_inj _ _ (vW h.1)
 dflt:=[]
def JL(l:List OpM):DT (Ex×List Value×List Blk):= .ite (badM 0 l).isNone (.leaf (.normal,bcV 0 l l.length,[])) (.leaf (.ret,bcV 2 l ((badM 0 l).getD 0),[]))
theorem Ld:LoopOkX P 154 1 Bbc Dbc.head (Be kBc.C kBc.D JL):=
 x8 kBc (kU KQ) fun l ho e vs' bs' hev=>by
  have q:=HY l ho l.length 0 (by omega);rw[List.drop_zero]at q;unfold JL at hev;cases hb:badM 0 l with
  |none=>
   rw[hb]at hev q;simp only[Option.isNone_none,DT.eval,Option.some.injEq,Prod.mk.injEq]at hev;obtain⟨rfl,rfl,rfl⟩:=hev;exact q
  |some j=>
   rw[hb]at hev q;simp only[Option.isNone_some,Option.getD_some,DT.eval,Option.some.injEq,Prod.mk.injEq]at hev;obtain⟨rfl,rfl,rfl⟩:=hev;exact q
def rF(l:List OpM):Int:=match eqI (ae l.length) 0,gtI (ae l.length) 8,(badM 0 l).isNone with
 |true,_,_=>2
 |false,true,_=>3
 |false,false,true=>0
 |false,false,false=>2
def kBk:Con (List OpM) where
 enc l:=([cZ l],[])
 ok l:=l.length<4194304
 inj a b h:=by
  unfold cZ at h;simp only[Prod.mk.injEq,List.cons.injEq,true_and,and_true]at h;exact EOp.all_inj _ _ (vW h)
 dflt:=[]
def SC(l:List OpM):Ct:=kH P 154 1 Dbc (nz (kBc.at l) (JL l)) ctF
theorem P8(l:List OpM):lg P E (SC l) 50 iI [] [] 0 154 (kBk.enc l).1 (kBk.enc l).2=some (.int .i64 (rF l),mkSt []):=by
 have q:=Q4 (kBc.at l) (badM 0 l).isNone 2 (cZ l) (ae l.length) l.length (((badM 0 l).getD 0:Nat):Int) l.length 0 (EOp.all l);refine Eq.trans ?_ (q.trans ?_)
 ·rfl
 clear q;unfold rF;cases eqI (ae l.length) 0 with
 |true=>rfl
 |false=>
  simp only[bn];cases gtI (ae l.length) 8 with
  |true=>rfl
  |false=>
   simp only[bn];refine kQ (k:=kBc) (s:=l) (by show bcV 0 l 0=_; unfold bcV cZ au; rw[j_]) rfl ?_;cases (badM 0 l).isNone<;>rfl
theorem RU:CallOkX P 0 154 (uO kBk.C kBk.D fun l=> .leaf (.int .i64 (rF l),[])):=rJ kBk fun l ho v bs' hev=>by
 simp only[DT.eval,Option.some.injEq,Prod.mk.injEq]at hev;obtain⟨rfl,rfl⟩:=hev;exact CRX.of (dR (SC l)) aB (qH mP (AO kBc Ld (s:=l) ho)) (P8 l)
def byS(s:ByteArray):ByteArray:=⟨⟨(uH s.data.toList).1⟩⟩
def byE(s:ByteArray):Int:=(uH s.data.toList).2
def EP(B:ByteArray->ByteArray)(G:ByteArray->Int):fK
 |[.string s]=>some (.ite (Nat.ble s.size 4194304) (.leaf (.tuple ⟨[.string (B s), .int .i64 (G s)]⟩,[])) .fail)
 |_=>none
theorem PV:CallOkR P 152 (EP byS byE):=by
 refine⟨fun args t hR v bs hev=>NY.run args t ?_ v bs hev⟩;unfold EP at hR;unfold FX;split at hR<;>first | exact hR | cases hR
def SQ(C K:ByteArray->Bool)(V:ByteArray->Int)(R:Int->Bool)(F:Int->ByteArray):Ct:=b_ P 54 (DD R F) (b_ P 53 (DI C K V) jR)
def ctN:Ct:=SQ szS BC dM inR Fh
theorem SY:CtOk P ctN:=bI (bI (iR P) Me) L6
theorem I4(C K:ByteArray->Bool)(V:ByteArray->Int)(R:Int->Bool)(F:Int->ByteArray)(s:ByteArray)(m:Int):jg P E (SQ C K V R F) 50 95 [.string s, .int .i64 m] =
 (af (C s)
 (aC (K s)
 (aC (gtI (ae s.size) 9)
 (some ((.tuple ⟨[.int .i64 0,.bool false]⟩),(mkSt [])))
 (aC (ltI (V s) 0)
 (some ((.tuple ⟨[.int .i64 0,.bool false]⟩),(mkSt [])))
 (aC (gtI (V s) m)
 (some ((.tuple ⟨[.int .i64 0,.bool false]⟩),(mkSt [])))
 (af (R (V s))
 (aC (neS (F (V s)) s)
 (some ((.tuple ⟨[.int .i64 0,.bool false]⟩),(mkSt [])))
 (some ((.tuple ⟨[.int .i64 (V s),.bool true]⟩),(mkSt []))))))))
 (some ((.tuple ⟨[.int .i64 0,.bool false]⟩),(mkSt []))))):=by kernel_rfl
def UN(B:ByteArray->ByteArray)(G:ByteArray->Int)(O:Bool->ByteArray->ByteArray->Bool):Ct:=b_ P 153 (rX O) (b_ P 152 (EP B G) jR)
theorem QA(B:ByteArray->ByteArray)(G:ByteArray->Int)(O:Bool->ByteArray->ByteArray->Bool)(s:ByteArray):jg P E (UN B G O) 50 96 [.string s] =
 (af (Nat.ble s.size 4194304)
 (aC (eqI (G s) 0)
 (aC (O false (B s) ⟨#[]⟩)
 (some ((.tuple ⟨[.string (B s),.bool (eqI 0 0)]⟩),(mkSt [])))
 (some ((.tuple ⟨[.string (B s),.bool (eqI 2 0)]⟩),(mkSt []))))
 (some ((.tuple ⟨[.string (B s),.bool false]⟩),(mkSt []))))):=by kernel_rfl
def aZ(s:ByteArray)(m:Int):Bool:=BC s&&!(gtI (ae s.size) 9)&&!(ltI (dM s) 0)&&!(gtI (dM s) m)&&!(neS (Fh (dM s)) s)
def jd(s:ByteArray)(m:Int):Bool:=and (szS s) (leI m 1000000000)
def Jv(C O:ByteArray->Int->Bool)(V:ByteArray->Int):fK
 |[.string s, .int .i64 m]=>some (.ite (C s m) (.ite (O s m) (.leaf (.tuple ⟨[.int .i64 (V s), .bool true]⟩,[])) (.leaf (.tuple ⟨[.int .i64 0, .bool false]⟩,[]))) .fail)
 |_=>none
theorem QM{s:ByteArray}{m:Int}(hc:jd s m=true):jg P E ctN 50 95 [.string s, .int .i64 m]=match aZ s m with
  |true=>some (.tuple ⟨[.int .i64 (dM s), .bool true]⟩,mkSt [])
  |false=>some (.tuple ⟨[.int .i64 0, .bool false]⟩,mkSt []):=by
 unfold ctN;rw[I4];simp only[jd,Bool.and_eq_true]at hc;rw[hc.1];have hm:m<=1000000000:=by have:=hc.2; unfold leI at this; exact of_decide_eq_true this
 unfold aZ;refine Eq.trans aT ?_;cases h1:BC s with
 |false=>rfl
 |true=>
 cases h2:gtI (ae s.size) 9 with
 |true=>rfl
 |false=>
 cases h3:ltI (dM s) 0 with
 |true=>rfl
 |false=>
 cases h4:gtI (dM s) m with
 |true=>rfl
 |false=>
 have h5:inR (dM s)=true:=by
  unfold ltI at h3;unfold gtI at h4;have h3:=of_decide_eq_false h3;have h4:=of_decide_eq_false h4;unfold inR leI;rw[Bool.and_eq_true,decide_eq_true_eq,decide_eq_true_eq];omega
 rw[h5];cases h6:neS (Fh (dM s)) s<;>rfl
theorem Ro:CallOkR P 95 (Jv jd aZ dM):=by
 refine qw SY (n:=50) fun args t hR v bs hev=>?_;unfold Jv at hR;split at hR
 ·rename_i s m;obtain rfl:=Option.some.inj hR;cases hc:jd s m with
  |false=>rw[hc]at hev; cases hev
  |true=>
   rw[hc]at hev;rw[QM hc];cases ho:aZ s m<;>rw[ho]at hev<;>(simp only[DT.eval,Option.some.injEq,Prod.mk.injEq]at hev; obtain⟨rfl,rfl⟩:=hev; rfl)
 ·cases hR
def fD(s:ByteArray):Bool:=eqI (byE s) 0&&n_ false (byS s) ⟨#[]⟩
def DK(C O:ByteArray->Bool)(B:ByteArray->ByteArray):fK
 |[.string s]=>some (.ite (C s) (.leaf (.tuple ⟨[.string (B s), .bool (O s)]⟩,[])) .fail)
 |_=>none
def ctK:Ct:=b_ P 153 (rX n_) (b_ P 152 (EP byS byE) jR)
theorem SB:CtOk P ctK:=bI (bI (iR P) PV) DY
theorem key_ok:CallOkR P 96 (DK szS fD byS):=by
 refine qw SB (n:=50) fun args t hR v bs hev=>?_;unfold DK at hR;split at hR
 ·rename_i s;obtain rfl:=Option.some.inj hR;cases hc:szS s with
  |false=>rw[hc]at hev; cases hev
  |true=>
   rw[hc]at hev;simp only[DT.eval,Option.some.injEq,Prod.mk.injEq]at hev;obtain⟨rfl,rfl⟩:=hev;refine Eq.trans ?_ ((QA byS byE n_ s).trans ?_)
   ·rfl
   unfold szS at hc;rw[hc];refine Eq.trans aT ?_;unfold fD;cases eqI (byE s) 0 with
   |false=>rfl
   |true=>cases n_ false (byS s) ⟨#[]⟩<;>rfl
 ·cases hR
end Go.VS.Tryz
end
