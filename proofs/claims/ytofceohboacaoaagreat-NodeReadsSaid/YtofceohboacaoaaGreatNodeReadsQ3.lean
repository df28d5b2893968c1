/- Texts of the proof, merged. No conditions. -/
import Derived.Test.YtofceohboacaoaaGreatNodeReadsQ2
import Derived.Laws.Strings
import Derived.Test.YtofceohboacaoaaGreatProg
import Derived.KernelRfl
set_option linter.unusedSimpArgs false
set_option linter.unusedVariables false
noncomputable section
namespace Go.VS

def ae(b:Bool)(x:Res):Res:=@Bool.rec (fun _=>Res) none x b
def ak(b:Bool)(x y:Res):Res:=@Bool.rec (fun _=>Res) y x b
theorem bZ{b:Bool}{x:Res}{r:Value×St}(h:ae b x=some r):b=true/\x=some r:=by
 cases b with
 |false=>cases h
 |true=>exact⟨rfl,h⟩
section
variable(P:Program)(cp:Oper->OpFn)
def uV:Knot:=⟨fun _ _ _ _=>none,fun _ _ _ _=>none⟩
def qN(ct:Ct)(kn:Knot)(ops:Array Oper)(bs:List Nat)(base nt:Nat)(d:List Deferred)(ro:Option Nat)(os:List Oper):Nat->Trie Value->St->Nat->List (Nat×Blk)->Nat->(List Rec->Res)->Res:=
 @List.rec Oper (fun _=>Nat->Trie Value->St->Nat->List (Nat×Blk)->Nat->(List Rec->Res)->Res)
  (fun _ s st m pend rep k=>k [⟨⟨s,nt,d,ro⟩,st,m,pend,rep,undef,none⟩])
  (fun o _ ih i s st m pend rep k=>wW ops s o
   (fun s=>match kindOf P o with
    | .quiet=>match peek P ops bs base i pend (rdF s) o with
     |some v=>jU nt o.dst v s fun s'=>ih (i+1) s' st m pend rep fun l=>k (⟨⟨s,nt,d,ro⟩,st,m,pend,rep,v,none⟩::l)
     |none=>(cp o).run uV s st (fun v _=>jU nt o.dst v s fun s'=>ih (i+1) s' st m pend rep fun l=>k (⟨⟨s,nt,d,ro⟩,st,m,pend,rep,v,none⟩::l)) (fun _ _=>none)
    | .new=>(cp o).run uV s ⟨.leaf,base+i⟩ (fun v st1=>match dZ (path (base+i)) st1.heap with
     |some b=>jU nt o.dst v s fun s'=>ih (i+1) s' st m (pend++[(i,b)]) rep fun l=>k (⟨⟨s,nt,d,ro⟩,st,m,pend,rep,v,some b⟩::l)
     |none=>none) (fun _ _=>none)
    | .chain=>@Option.rec (DT (Value×St)) (fun _=>Res) ((cp o).run kn s (wake base (fun j=>fC bs i j&&!m.testBit j) pend st) (fun v st'=>jU nt o.dst v s fun s'=>ih (i+1) s' st' (m ||| bs.getD i 0) pend (i+1) fun l=>k (⟨⟨s,nt,d,ro⟩,st,m,pend,rep,v,none⟩::l)) (fun _ _=>none)) (fun t=>t.run fun x=>(fun v st'=>jU nt o.dst v s fun s'=>ih (i+1) s' st' (m ||| bs.getD i 0) pend (i+1) fun l=>k (⟨⟨s,nt,d,ro⟩,st,m,pend,rep,v,none⟩::l)) x.1 x.2) (opC P ct o (rdF s) (wake base (fun j=>fC bs i j&&!m.testBit j) pend st)))
   (fun s=>match kindOf P o with
    | .quiet=>jU nt o.dst undef s fun s'=>ih (i+1) s' st m pend rep fun l=>k (⟨⟨s,nt,d,ro⟩,st,m,pend,rep,undef,none⟩::l)
    | .new=>jU nt o.dst undef s fun s'=>ih (i+1) s' st m (pend++[]) rep fun l=>k (⟨⟨s,nt,d,ro⟩,st,m,pend,rep,undef,none⟩::l)
    | .chain=>jU nt o.dst undef s fun s'=>ih (i+1) s' (wake base (fun j=>fC bs i j&&!m.testBit j) pend st) (m ||| bs.getD i 0) pend (i+1) fun l=>k (⟨⟨s,nt,d,ro⟩,st,m,pend,rep,undef,none⟩::l))) os
def IU(bs cs:List Nat)(o:Oper)(r:Rec)(i:Nat)(reps:List (Nat×St))(k:Res):Res:=
 @List.rec (Nat×St) (fun _=>Res) k (fun p _ ih=>@Bool.rec (fun _=>Res) ((cp o).run uV r.f.slots p.2 (fun v _=>ae (bU v r.v) ih) (fun _ _=>none)) ih (p.1 == r.rep || !admits bs cs i p.1)) reps
def qK(ops:Array Oper)(bs cs:List Nat)(base:Nat)(reps:List (Nat×St)):List Oper->List Rec->Nat->Res->Res
 |o::os,r::rs,i,k=>match kindOf P o,kV ops r.f o with
  | .quiet,some true=>match peek P ops bs base i r.pend (rdF r.f.slots) o with
   |some _=>qK ops bs cs base reps os rs (i+1) k
   |none=>@Bool.rec (fun _=>Res) (IU cp bs cs o r i reps (qK ops bs cs base reps os rs (i+1) k)) (qK ops bs cs base reps os rs (i+1) k) (xE o)
  | .quiet,none=>none
  |_,_=>qK ops bs cs base reps os rs (i+1) k
 |_,_,_,k=>k
def drawM(ct:Ct)(kn:Knot)(ops:Array Oper)(nt:Nat)(ro:Option Nat)(s:Trie Value)(d:List Deferred)(st:St)(k:Trie Value->List Deferred->St->Res):Res:=
 if !P.follows .mixedOrders then none else
 let os:=ops.toList
 let bs:=EW os 0 .leaf
 let cs:=jW P os 0
 match yG os 0 .leaf with
 |none=>none
 |some W=>
 if !(xB os 0&&IV ops bs W os 0 bs&&xy bs cs)then none else
 qN P cp ct kn ops bs st.next nt d ro os 0 s { st with next:=st.next+ops.size } 0 [] 0 fun recs=>match recs.getLast? with
  |none=>none
  |some r=>qK P cp ops bs cs st.next ((0,{ st with next:=st.next+ops.size })::yF P os recs 0) os recs 0 (k r.f.slots r.f.defers (wake st.next (fun j=>!r.m.testBit j) r.pend r.st))
end
section
variable{P:Program}{ct:Ct}{call:Knot}{st:St}{r:Value×St}{cp:Oper->OpFn}
theorem GN{b:Builtin}{ts:Array TypeId}{type:TypeId}{cn:Array Bool}{args:List Value}{st st':St}:iR P b ts type cn args st≠some (.skip st'):=by
 intro h;unfold iR at h;repeat' (first | (cases h; done) | split at h)
theorem IP{t:Target}{args:List Value}{st st':St}:kH P t args st≠some (.skip st'):=by
 intro h;unfold kH callF at h;repeat' (first | (cases h; done) | split at h)
theorem Ku{o:Oper}{ρ:Operand->Value}{st st':St}(hk:kindOf P o≠ .chain):aY P ρ o st≠some (.skip st'):=by
 obtain⟨dst,op,type,pos,after,guard⟩:=o;intro h;cases op<;>simp only[kindOf,ne_eq,not_true_eq_false]at hk<;>simp only[aY]at h<;>repeat' (first | (cases h; done) | split at h)
 all_goals first
  |(cases h; done)
  |skip
 all_goals first
  |exact GN h
  |exact IP h
theorem KF{kv:Value->St->Res}{kd:Deferred->St->Res}(hkd:∀ d st,kd d st=none){x:Option Out}(h:Hands uV kv kd x r):(∃ v st',x=some (.val v st')/\kv v st'=some r)\/∃ st',x=some (.skip st'):=by
 cases x with
 |none=>exact h.elim
 |some x=>
  cases x with
  |val v st'=>exact Or.inl ⟨v,st',rfl,h⟩
  |skip st'=>exact Or.inr ⟨st',rfl⟩
  |enter g args st=>cases h
  |defer d st=>have:kd d st=some r:=h; rw[hkd]at this; cases this
  |round l args st=>cases h
theorem abD(hc:CallOk P ct call){kv:Value->St->Res}{kd:Deferred->St->Res}(hkd:∀ d st,kd d st=none){x:Option Out}(h:Hands call kv kd x r):∃ y n v st',x=some y/\iJ P ct n y=some (v,st')/\kv v st'=some r:=by
 cases x with
 |none=>exact h.elim
 |some x=>
  cases x with
  |val v st'=>exact⟨_,1,v,st',rfl,rfl,h⟩
  |skip st'=>exact⟨_,1,undef,st',rfl,rfl,h⟩
  |enter g args st=>
   obtain⟨n,v,st',h1,h2⟩:=hc.call _ _ _ _ _ h;exact⟨_,n+1,v,st',rfl,by simp only[iJ]; exact h1,h2⟩
  |defer d st=>have:kd d st=some r:=h; rw[hkd]at this; cases this
  |round l args st=>
   obtain⟨n,v,st',h1,h2⟩:=hc.rnd _ _ _ _ _ h;exact⟨_,n+1,v,st',rfl,by simp only[iJ]; exact h1,h2⟩
theorem abV{nt:Nat}{dst:Option Tmp}{v:Value}{s:Trie Value}{d:List Deferred}{ro:Option Nat}{k:Trie Value->Res}(h:jU nt dst v s k=some r):∃ s',Fr.put ⟨s,nt,d,ro⟩ dst v=some ⟨s',nt,d,ro⟩/\k s'=some r:=Hq h
variable(hcp:∀ {call:Knot} {s:Trie Value} {o:Oper} {st:St} {kv:Value->St->Res} {kd:Deferred->St->Res} {r:Value×St},(cp o).run call s st kv kd=some r->Hands call kv kd (aY P (rdF s) o st) r)
include hcp
theorem EJ(hc:CallOk P ct call){ops:Array Oper}{bs:List Nat}{base nt:Nat}{d:List Deferred}{ro:Option Nat}:∀ (os:List Oper) (i:Nat) (s:Trie Value) (st:St) (m:Nat) (pend:List (Nat×Blk)) (rep:Nat) (k:List Rec->Res),
  qN P cp ct call ops bs base nt d ro os i s st m pend rep k=some r->∃ n l,gG P (fP P ct) Fr.eval (iJ P ct n) ops bs base os i ⟨s,nt,d,ro⟩ st m pend rep=some l/\k l=some r
 |[],i,s,st,m,pend,rep,k,h=>⟨0,_,rfl,h⟩
 |o::os,i,s,st,m,pend,rep,k,h=>by
  have ih:=EJ hc (ops:=ops) (bs:=bs) (base:=base) (nt:=nt) (d:=d) (ro:=ro) os;change wW ops s o
   (fun s=>match kindOf P o with
    | .quiet=>match peek P ops bs base i pend (rdF s) o with
     |some v=>jU nt o.dst v s fun s'=>qN P cp ct call ops bs base nt d ro os (i+1) s' st m pend rep fun l=>k (⟨⟨s,nt,d,ro⟩,st,m,pend,rep,v,none⟩::l)
     |none=>(cp o).run uV s st (fun v _=>jU nt o.dst v s fun s'=>qN P cp ct call ops bs base nt d ro os (i+1) s' st m pend rep fun l=>k (⟨⟨s,nt,d,ro⟩,st,m,pend,rep,v,none⟩::l)) (fun _ _=>none)
    | .new=>(cp o).run uV s ⟨.leaf,base+i⟩ (fun v st1=>match dZ (path (base+i)) st1.heap with
     |some b=>jU nt o.dst v s fun s'=>qN P cp ct call ops bs base nt d ro os (i+1) s' st m (pend++[(i,b)]) rep fun l=>k (⟨⟨s,nt,d,ro⟩,st,m,pend,rep,v,some b⟩::l)
     |none=>none) (fun _ _=>none)
    | .chain=>@Option.rec (DT (Value×St)) (fun _=>Res) ((cp o).run call s (wake base (fun j=>fC bs i j&&!m.testBit j) pend st) (fun v st'=>jU nt o.dst v s fun s'=>qN P cp ct call ops bs base nt d ro os (i+1) s' st' (m ||| bs.getD i 0) pend (i+1) fun l=>k (⟨⟨s,nt,d,ro⟩,st,m,pend,rep,v,none⟩::l)) (fun _ _=>none)) (fun t=>t.run fun x=>(fun v st'=>jU nt o.dst v s fun s'=>qN P cp ct call ops bs base nt d ro os (i+1) s' st' (m ||| bs.getD i 0) pend (i+1) fun l=>k (⟨⟨s,nt,d,ro⟩,st,m,pend,rep,v,none⟩::l)) x.1 x.2) (opC P ct o (rdF s) (wake base (fun j=>fC bs i j&&!m.testBit j) pend st)))
   (fun s=>match kindOf P o with
    | .quiet=>jU nt o.dst undef s fun s'=>qN P cp ct call ops bs base nt d ro os (i+1) s' st m pend rep fun l=>k (⟨⟨s,nt,d,ro⟩,st,m,pend,rep,undef,none⟩::l)
    | .new=>jU nt o.dst undef s fun s'=>qN P cp ct call ops bs base nt d ro os (i+1) s' st m (pend++[]) rep fun l=>k (⟨⟨s,nt,d,ro⟩,st,m,pend,rep,undef,none⟩::l)
    | .chain=>jU nt o.dst undef s fun s'=>qN P cp ct call ops bs base nt d ro os (i+1) s' (wake base (fun j=>fC bs i j&&!m.testBit j) pend st) (m ||| bs.getD i 0) pend (i+1) fun l=>k (⟨⟨s,nt,d,ro⟩,st,m,pend,rep,undef,none⟩::l))=some r at h
  have next:∀ {v:Value} {b:Option Blk} {st':St} {m':Nat} {pend':List (Nat×Blk)} {rep':Nat},(jU nt o.dst v s fun s'=>qN P cp ct call ops bs base nt d ro os (i+1) s' st' m' pend' rep' fun l=>k (⟨⟨s,nt,d,ro⟩,st,m,pend,rep,v,b⟩::l))=some r->
    ∃ f' n l,Fr.put ⟨s,nt,d,ro⟩ o.dst v=some f'/\gG P (fP P ct) Fr.eval (iJ P ct n) ops bs base os (i+1) f' st' m' pend' rep'=some l/\k (⟨⟨s,nt,d,ro⟩,st,m,pend,rep,v,b⟩::l)=some r:=by
   intro v b st' m' pend' rep' h;obtain⟨s',h1,h2⟩:=abV (d:=d) (ro:=ro) h;obtain⟨n,l,h3,h4⟩:=ih _ _ _ _ _ _ _ h2;exact⟨_,n,l,h1,h3,h4⟩
  have hrd:Fr.eval ⟨s,nt,d,ro⟩=rdF s:=(tu s nt d ro).symm;rcases BV (nt:=nt) (d:=d) (ro:=ro) h with⟨hw,h⟩ | ⟨hw,h⟩
  ·simp only at h;split at h
   ·rename_i hk;split at h
    ·rename_i v hpk;obtain⟨f',n,l,g1,g2,g3⟩:=next h
     refine⟨n,_,?_,g3⟩;simp only[gG,hw,hk,if_true,hrd,hpk,g1,g2]
    rename_i hpk;rcases KF (fun _ _=>rfl) (hcp h)with⟨v,st1,h1,h2⟩ | ⟨st1,h1⟩
    ·obtain⟨f',n,l,g1,g2,g3⟩:=next h2
     refine⟨n,_,?_,g3⟩;rw[<-mr (ct:=ct) (by rw[hk]; intro e; cases e)]at h1;simp only[gG,hw,hk,if_true,hrd,hpk,h1,g1,g2]
    ·exact absurd h1 (Ku (by rw[hk]; intro e; cases e))
   ·rename_i hk;rcases KF (fun _ _=>rfl) (hcp h)with⟨v,st1,h1,h2⟩ | ⟨st1,h1⟩
    ·split at h2
     ·rename_i b hb;rw[dQ]at hb;obtain⟨f',n,l,g1,g2,g3⟩:=next h2
      refine⟨n,_,?_,g3⟩;rw[<-mr (ct:=ct) (by rw[hk]; intro e; cases e)]at h1;simp only[gG,hw,hk,if_true,hrd,qZ,h1,hb,g1,Option.map_some,Option.toList,g2]
     ·cases h2
    ·exact absurd h1 (Ku (by rw[hk]; intro e; cases e))
   ·rename_i hk;cases hco:opC P ct o (rdF s) (wake base (fun j=>fC bs i j&&!m.testBit j) pend st)with
    |some t=>
     rw[hco]at h;obtain⟨⟨v,st1⟩,hev,h3⟩:=DT.run_spec h;obtain⟨f',n,l,g1,g2,g3⟩:=next h3
     have h1:fP P ct (rdF s) o (wake base (fun j=>fC bs i j&&!m.testBit j) pend st)=some (.val v st1):=by unfold fP; rw[hco]; simp only[hev]
     refine⟨max n 1,_,?_,g3⟩;have e1:iJ P ct (max n 1) (.val v st1)=some (v,st1):=(jr (P:=P) (ct:=ct) (Nat.le_max_right n 1)).2.2.1 _ _ rfl;have e2:=pW (fun x r=>(jr (P:=P) (ct:=ct) (Nat.le_max_left n 1)).2.2.1 x r) _ _ _ _ _ _ _ _ g2;simp only[gG,hw,hk,if_true,hrd,h1,e1,g1,e2]
    |none=>
    rw[hco]at h;obtain⟨y,n0,v,st1,h1,h2,h3⟩:=abD hc (fun _ _=>rfl) (hcp h);have h1:fP P ct (rdF s) o (wake base (fun j=>fC bs i j&&!m.testBit j) pend st)=some y:=by unfold fP; rw[hco]; exact h1
    obtain⟨f',n,l,g1,g2,g3⟩:=next h3
    refine⟨max n n0,_,?_,g3⟩;have e1:=(jr (Nat.le_max_right n n0)).2.2.1 _ _ h2;have e2:=pW (fun x r=>(jr (P:=P) (ct:=ct) (Nat.le_max_left n n0)).2.2.1 x r) _ _ _ _ _ _ _ _ g2;simp only[gG,hw,hk,if_true,hrd,h1,e1,g1,e2]
  ·split at h
   ·rename_i hk;obtain⟨f',n,l,g1,g2,g3⟩:=next h
    refine⟨n,_,?_,g3⟩;simp only[gG,hw,hk,Bool.false_eq_true,if_false,g1,g2]
   ·rename_i hk;obtain⟨f',n,l,g1,g2,g3⟩:=next h
    refine⟨n,_,?_,g3⟩;simp only[gG,hw,hk,Bool.false_eq_true,if_false,g1,Option.map_none,Option.toList,g2]
   ·rename_i hk;obtain⟨f',n,l,g1,g2,g3⟩:=next h
    refine⟨n,_,?_,g3⟩;simp only[gG,hw,hk,Bool.false_eq_true,if_false,g1,g2]
theorem FH{bs cs:List Nat}{o:Oper}{rc:Rec}{i:Nat}{k:Res}(hk:kindOf P o≠ .chain):∀ (reps:List (Nat×St)),IU cp bs cs o rc i reps k=some r->
  (reps.all fun p=>p.1 == rc.rep || !admits bs cs i p.1 || (match fP P ct (Fr.eval rc.f) o p.2 with
   |some (.val v _)=>bU v rc.v
   |_=>false))=true/\k=some r
 |[],h=>⟨rfl,h⟩
 |p::reps,h=>by
  have ih:=FH (bs:=bs) (cs:=cs) (o:=o) (rc:=rc) (i:=i) (k:=k) hk reps;change @Bool.rec (fun _=>Res) ((cp o).run uV rc.f.slots p.2 (fun v _=>ae (bU v rc.v) (IU cp bs cs o rc i reps k)) (fun _ _=>none)) (IU cp bs cs o rc i reps k) (p.1 == rc.rep || !admits bs cs i p.1)=some r at h;cases hb:(p.1 == rc.rep || !admits bs cs i p.1)with
  |true=>
   rw[hb]at h;obtain⟨h1,h2⟩:=ih h;refine⟨?_,h2⟩;rw[List.all_cons,hb,h1]; rfl
  |false=>
   rw[hb]at h;rcases KF (fun _ _=>rfl) (hcp h)with⟨v,st1,h1,h2⟩ | ⟨st1,h1⟩
   ·obtain⟨h3,h4⟩:=bZ h2;obtain⟨h5,h6⟩:=ih h4;refine⟨?_,h6⟩;have hrd:Fr.eval rc.f=rdF rc.f.slots:=(tu rc.f.slots rc.f.ntmps rc.f.defers rc.f.roundOf).symm;rw[List.all_cons,hb,h5,hrd,mr (ct:=ct) hk,h1];simp only[Bool.false_or,Bool.and_true];exact h3
   ·exact absurd h1 (Ku hk)
theorem CO{ops:Array Oper}{bs cs:List Nat}{base:Nat}{reps:List (Nat×St)}{k:Res}:∀ (os:List Oper) (rs:List Rec) (i:Nat),qK P cp ops bs cs base reps os rs i k=some r->uC P (fP P ct) Fr.eval ops bs cs base reps os rs i=true/\k=some r
 |[],rs,i,h=>⟨rfl,by simpa [qK]using h⟩
 |o::os,[],i,h=>⟨rfl,by simpa [qK]using h⟩
 |o::os,rc::rs,i,h=>by
  have ih:=CO (ops:=ops) (bs:=bs) (cs:=cs) (base:=base) (reps:=reps) (k:=k) os rs (i+1);simp only[qK]at h;simp only[uC];split at h
  ·rename_i hk hw;rw[hk,hw];have hrd:Fr.eval rc.f=rdF rc.f.slots:=(tu rc.f.slots rc.f.ntmps rc.f.defers rc.f.roundOf).symm;split at h
   ·rename_i v hpk;obtain⟨h1,h2⟩:=ih h;exact⟨by rw[h1,hrd]; simp[hpk],h2⟩
   cases hn:xE o with
   |true=>
    rw[hn]at h;obtain⟨h1,h2⟩:=ih h;exact⟨by simp[h1],h2⟩
   |false=>
    rw[hn]at h;obtain⟨h1,h2⟩:=FH (ct:=ct) hcp (by rw[hk]; intro e; cases e) reps h;obtain⟨h3,h4⟩:=ih h2;refine⟨?_,h4⟩;simp only[Bool.or_false,h3,Bool.and_true,Bool.or_eq_true];exact Or.inr h1
  ·cases h
  ·rename_i hne1 hne2;obtain⟨h1,h2⟩:=ih h;refine⟨?_,h2⟩;rw[h1,Bool.and_true];split
   ·rename_i hk hw; exact absurd hw (by first | exact hne1 hk | exact fun hw=>hne1 hk hw)
   ·rfl
theorem Qq(hc:CallOk P ct call){ops:Array Oper}{nt:Nat}{ro:Option Nat}{s:Trie Value}{d:List Deferred}{k:Trie Value->List Deferred->St->Res}(h:drawM P cp ct call ops nt ro s d st k=some r) :
  ∃ n f1 st1,jC P (fP P ct) (iJ P ct n) ops ⟨s,nt,d,ro⟩ st=some (f1,st1)/\k f1.slots f1.defers st1=some r:=by
 simp only[drawM]at h;split at h
 ·cases h
 ·rename_i hm;split at h
  ·cases h
  ·rename_i W hW;have hb:EW ops.toList 0 .leaf=mG ops.toList []:=by
    rw[JS ops.toList 0 .leaf [] rfl (fun i=>by simp[Trie.get])]; rfl
   rw[hb]at h;split at h
   ·cases h
   ·rename_i hcd;simp only[Bool.not_eq_true',Bool.not_eq_false,Bool.and_eq_true]at hcd;obtain⟨⟨hc1,hc2⟩,hc3⟩:=hcd;have ht:=E5 (tN ops.toList 0 .leaf W hW).2 ops.toList 0 _ (by simp) hc2;obtain⟨n,l,h1,h2⟩:=EJ hcp hc _ _ _ _ _ _ _ _ h;split at h2
    ·cases h2
    ·rename_i rc hl;obtain⟨h3,h4⟩:=CO (ct:=ct) hcp _ _ _ h2;refine⟨n,_,_,?_,h4⟩;simp only[jC];rw[if_neg hm,hc1,ht,hc3];simp only[Bool.and_self,Bool.not_true,Bool.false_eq_true,if_false];rw[h1];simp only[hl,h3,if_true]
end
def asI:Value->Int
 | .int _ n=>n
 |_=>0
def asS:Value->ByteArray
 | .string s=>s
 |_=> .empty
def asB:Value->Bool
 | .bool b=>b
 |_=>false
def zN(v:Value):Nat:=match kw v with
 |some z=>z.n
 |none=>0
def zB(v:Value):Nat:=match kw v with
 |some z=>z.cap
 |none=>0
def zC(v:Value):List Value:=match kw v with
 |some z=>z.cells
 |none=>[]
def isI(k:IntKind):Value->Bool
 | .int k' _=>decide (k'=k)
 |_=>false
def isS:Value->Bool
 | .string _=>true
 |_=>false
def isB:Value->Bool
 | .bool _=>true
 |_=>false
def isZ(sz:Nat)(v:Value):Bool:=match kw v with
 |some z=>Nat.beq z.sz sz
 |none=>false
def aU(c:List Value)(n:Nat):Value:=c.getD n undef
def bAt(s:ByteArray)(i:Int):Int:=((s.data.toList.getD i.toNat 0).toNat:Int)
def byteOf:Value->UInt8
 | .int .u8 n=>UInt8.ofNat n.toNat
 |_=>0
def isByte:Value->Bool
 | .int .u8 _=>true
 |_=>false
def Ag(c:List Value):ByteArray:=⟨⟨c.map byteOf⟩⟩
def allBytes(c:List Value):Bool:=c.all isByte
theorem wM:∀ {c:List Value},allBytes c=true->bytesOf c=some (c.map byteOf)
 |[],_=>rfl
 |v::c,h=>by
  simp only[allBytes,List.all_cons,Bool.and_eq_true]at h;have ih:=wM (c:=c) h.2;unfold isByte at h;split at h
  ·simp only[bytesOf,ih,List.map_cons,byteOf]
  ·cases h.1
def dO(k:IntKind)(x y:Int):Int:=k.wrap (x+y)
def fH(k:IntKind)(x y:Int):Int:=k.wrap (x-y)
def qR(k:IntKind)(x y:Int):Int:=k.wrap (x*y)
def ael(k:IntKind)(x y:Int):Int:=k.wrap (x.tdiv y)
def AC(x y:Int):Int:=x.tmod y
def tX(k:IntKind)(x y:Int):Int:=k.wrap (x*2^(min y.toNat k.bits))
def GL(k:IntKind)(x y:Int):Int:=x.fdiv (2^(min y.toNat k.bits))
def tK(k:IntKind)(x y:Int):Int:=k.wrap (BitVec.ofInt k.bits x&&& BitVec.ofInt k.bits y).toNat
def orI(k:IntKind)(x y:Int):Int:=k.wrap (BitVec.ofInt k.bits x ||| BitVec.ofInt k.bits y).toNat
def XQ(k:IntKind)(x y:Int):Int:=k.wrap (BitVec.ofInt k.bits x ^^^ BitVec.ofInt k.bits y).toNat
def acM(k:IntKind)(x y:Int):Int:=k.wrap (BitVec.ofInt k.bits x&&& ~~~BitVec.ofInt k.bits y).toNat
def eqI(x y:Int):Bool:=x == y
def neI(x y:Int):Bool:=x != y
def ltI(x y:Int):Bool:=decide (x<y)
def leI(x y:Int):Bool:=decide (x<=y)
def gtI(x y:Int):Bool:=decide (x>y)
def geI(x y:Int):Bool:=decide (x>=y)
def eqS(a b:ByteArray):Bool:=a.toList == b.toList
def neS(a b:ByteArray):Bool:=!(a.toList == b.toList)
def eqB(a b:Bool):Bool:=a == b
def cvI(k:IntKind)(x:Int):Int:=k.wrap x
def abE(x y:Int):Int:=if y<x then y else x
def abH(x y:Int):Int:=if y>x then y else x
def ltS(a b:ByteArray):Bool:=Op.bytesLess a.toList b.toList
def leS(a b:ByteArray):Bool:=Op.bytesLess a.toList b.toList || a.toList == b.toList
def gtS(a b:ByteArray):Bool:=!(Op.bytesLess a.toList b.toList || a.toList == b.toList)
def geS(a b:ByteArray):Bool:=!(Op.bytesLess a.toList b.toList)
def aed(a b:ByteArray):ByteArray:=a++b
def Dx(b:ByteArray)(l h:Int):ByteArray:=b.extract l.toNat h.toNat
def ag(n:Nat):Int:=n
def inI(i:Int)(n:Nat):Bool:=decide (0<=i/\i<n)
def gq(l h:Int)(n:Nat):Bool:=decide (0<=l/\l<=h/\h<=n)
def Aa(i:Int):Bool:=decide (0<=i)
def vH(i:Int):Bool:=!decide (i=0)
def aer(a b:ByteArray):Bool:=Nat.ble (Nat.add a.size b.size) 9223372036854775807
def atN(i:Int)(n:Nat):Nat:=i.toNat*n
def iV(l h:Int):Nat:=h.toNat-l.toNat
def ada(k:IntKind)(x:Int):Int:=XQ k (if k.signed then -1 else k.max) x
def fM(b:Bool):Bool:=!b
def yH(a:Addr)(n:Nat):Addr:=@Addr.rec (fun _=>Addr) (fun b off spot=>@Option.rec Nat (fun _=>Addr) ⟨b,Nat.add off n,none⟩ (fun s=>Addr.add ⟨b,off,some s⟩ n) spot) a
theorem FU(a:Addr)(n:Nat):yH a n=a.add n:=by
 obtain⟨b,off,spot⟩:=a;cases spot with
 |none=>exact(jm b off n).symm
 |some s=>rfl
section
variable(P:Program)
def Gj(x ix:Operand):OpT:=fun _ s st kv _=>match rdF s x with
 | .string b=>match rdF s ix with
  | .int _ i=>ae (inI i b.size) (kv (.int .u8 (bAt b i)) st)
  |_=>none
 |_=>none
def ww(n:Nat)(x ix:Operand):OpT:=fun call s st kv kd=>match rdF s x with
 | .slice (some a) len _=>match rdF s ix with
  | .int _ i=>ae (inI i len) (kv (.pointer (some (yH a (atN i n)))) st)
  |_=>none
 | .iface t v=>match kw (.iface t v)with
  |some z=>match rdF s ix with
   | .int _ i=>ae (and (Nat.beq z.sz n) (inI i z.n)) (kv (xR (atN i n) z.cells) st)
   |_=>none
  |none=>none
 |_=>none
/-- How a cell is seen that nothing is known of but its type. -/
inductive Eta where
 |int (k:IntKind)
 |string
 |bool
 |slice (sz:Nat)
def uk(t:TypeId):Option Eta:=match gI P t with
 |some (.int k)=>some (.int k)
 |some .string=>some .string
 |some .bool=>some .bool
 |some (.slice e)=>match mJ P e with
  |some n=>some (.slice n)
  |none=>none
 |_=>none
def Dv(e:Eta)(v:Value):Value:=match e with
 | .int k=> .int k (asI v)
 | .string=> .string (asS v)
 | .bool=> .bool (asB v)
 | .slice n=>aX n (zN v) (zB v) (zC v)
def eu(e:Eta)(v:Value):Bool:=match e with
 | .int k=>isI k v
 | .string=>isS v
 | .bool=>isB v
 | .slice n=>isZ n v
def F5(e:Eta)(x:Operand):OpT:=fun _ s st kv _=>match rdF s x with
 | .pointer (some a)=>jl st a fun b off c _ ex _ _=>@Bool.rec (fun _=>Res)
   (ae (and (Nat.ble (Nat.add off 1) c.length) (eu e (aU c off))) (kv (Dv e (aU c off)) st))
   (match zx c off with
    |some v=>kv v st
    |none=>none) ex
 | .iface t v=>match wK (.iface t v)with
  |some (off,c)=>ae (and (Nat.ble (Nat.add off 1) c.length) (eu e (aU c off))) (kv (Dv e (aU c off)) st)
  |none=>none
 |_=>none
def PV(i:Int)(k:Nat->Res)(len:Nat):Nat->Res:=
 @Nat.rec (fun _=>Nat->Res) (fun _=>none) (fun _ ih j=>@Bool.rec (fun _=>Res) (ih (Nat.succ j)) (k j) (eqI i (Int.ofNat j))) len
def xQ(len n:Nat)(x ix:Operand):OpT:=fun _ s st kv _=>match rdF s x with
 | .pointer (some a)=>match rdF s ix with
  | .int _ i=>PV i (fun j=>kv (.pointer (some (yH a (Nat.mul j n)))) st) len 0
  |_=>none
 |_=>none
def Xy(t:TypeId):Option (Nat×Nat):=match gI P t with
 |some (.array len e)=>match Nat.ble len 8,mJ P e with
  |true,some n=>some (len,n)
  |_,_=>none
 |_=>none
def abB(n:Nat):TypeId->Option (List Eta):=
 @Nat.rec (fun _=>TypeId->Option (List Eta)) (fun _=>none) (fun _ ih t=>match gI P t with
  |some (.struct fs)=>@List.rec Field (fun _=>Option (List Eta)) (some []) (fun f _ r=>match ih f.type,r with
   |some a,some b=>some (a.append b)
   |_,_=>none) fs.toList
  |some (.array k e)=>match ih e with
   |some a=>some (List.flatten (List.replicate k a))
   |none=>none
  |_=>match uk P t with
   |some e=>some [e]
   |none=>none) n
def iq(es:List Eta):List Value->Nat->Bool:=
 @List.rec Eta (fun _=>List Value->Nat->Bool) (fun _ _=>true) (fun e _ ih c off=>and (eu e (aU c off)) (ih c (Nat.add off 1))) es
def BP(es:List Eta):List Value->Nat->List Value:=
 @List.rec Eta (fun _=>List Value->Nat->List Value) (fun _ _=>[]) (fun e _ ih c off=>Dv e (aU c off)::ih c (Nat.add off 1)) es
def GG(es:List Eta)(n:Nat)(x:Operand):OpT:=fun _ s st kv _=>match rdF s x with
 | .pointer (some a)=>jl st a fun b off c _ ex _ _=>@Bool.rec (fun _=>Res)
   (ae (and (Nat.ble (Nat.add off n) c.length) (iq es c off)) (kv (.agg ⟨BP es c off⟩) st))
   (@Bool.rec (fun _=>Res) none (kv (.agg ⟨(c.drop off).take n⟩) st) (Nat.ble (Nat.add off n) c.length)) ex
 | .iface t v=>match wK (.iface t v)with
  |some (off,c)=>ae (and (Nat.ble (Nat.add off n) c.length) (iq es c off)) (kv (.agg ⟨BP es c off⟩) st)
  |none=>none
 |_=>none
def wH(n:Nat)(x:Operand):OpT:=fun _ s st kv _=>match rdF s x with
 | .pointer (some a)=>kv (.pointer (some (@Addr.rec (fun _=>Addr) (fun b off spot=>Gw b off n spot) a))) st
 | .iface t v=>match wK (.iface t v)with
  |some (a,c)=>kv (xR (Nat.add a n) c) st
  |none=>none
 |_=>none
def wu(s:Trie Value)(o:Option Operand)(d:Int)(k:Int->Res):Res:=match o with
 |none=>k d
 |some x=>match rdF s x with
  | .int _ i=>k i
  |_=>none
def zT(b l:Nat):Nat:=if b=0 then 0 else b-l
def DC(x:Operand)(lo hi:Option Operand):OpT:=fun _ s st kv _=>match rdF s x with
 | .string b=>wu s hi (ag b.size) fun h=>wu s lo 0 fun l=>ae (gq l h b.size) (kv (.string (Dx b l h)) st)
 |_=>none
def GM(o:Oper)(n:Nat)(x:Operand)(lo hi:Option Operand):OpT:=fun call s st kv kd=>match rdF s x with
 | .iface t v=>match kw (.iface t v)with
  |some z=>wu s hi (ag z.n) fun h=>wu s lo 0 fun l=>ae (and (Nat.beq z.sz n) (gq l h z.n))
    (kv (aX n (iV l h) (zT z.cap l.toNat) (takeC (Nat.mul (iV l h) n) (bT (atN l n) z.cells))) st)
  |none=>none
 | .slice (some a) len cap=>@Bool.rec (fun _=>Res) (fD P o call s st kv kd)
   (jl st a fun b off c e ex _ _=>ae (and (Nat.ble off c.length) (and (Nat.ble 1 n) (Nat.beq n (esz P e))))
    (wu s hi (ag len) fun h=>wu s lo 0 fun l=>ae (gq l h (Nat.div (Nat.sub c.length off) n))
     (@Bool.rec (fun _=>Res) (@Bool.rec (fun _=>Res) (kv (.slice (some a) 0 (Nat.add unk l.toNat)) st) (kv (.slice (some a) 0 unk) st) (Nat.beq l.toNat 0))
      (kv (.slice (some (yH a (atN l n))) (iV l h) unk) st) (Nat.ble (Nat.add l.toNat 1) (Nat.div (Nat.sub c.length off) n)))))
   (Nat.beq cap unk)
 |_=>fD P o call s st kv kd
def yI(o:Oper)(x:Operand):OpT:=fun call s st kv kd=>match rdF s x with
 | .slice (some a) n _=>jl st a fun b off c _ _ _ _=>ae (and (Nat.ble (Nat.add off n) c.length) (allBytes (takeC n (bT off c)))) (kv (.string (Ag (takeC n (bT off c)))) st)
 | .iface t v=>match kw (.iface t v)with
  |some z=>ae (and (Nat.beq z.sz 1) (allBytes z.cells)) (kv (.string (Ag z.cells)) st)
  |none=>none
 |_=>fD P o call s st kv kd
def zh(e:TypeId)(x:Operand):OpT:=fun _ s st kv _=>match rdF s x with
 | .string b=>ae (Nat.ble b.size big) (rf st (.cells (byteCells b) e false) fun a st=>kv (.slice (some a) b.size unk) st)
 |_=>none
def Qm(o:Oper)(x y:Operand):OpT:=fun call s st kv kd=>match rdF s x,rdF s y with
 | .int k a, .int _ b=>ae (Aa b) (kv (.int k (tX k a b)) st)
 |_,_=>fD P o call s st kv kd
def PX(o:Oper)(x y:Operand):OpT:=fun call s st kv kd=>match rdF s x,rdF s y with
 | .int k a, .int _ b=>ae (Aa b) (kv (.int k (GL k a b)) st)
 |_,_=>fD P o call s st kv kd
def PP(o:Oper)(x y:Operand):OpT:=fun call s st kv kd=>match rdF s x,rdF s y with
 | .int k a, .int k' b=>ae (and (decide (k=k')) (vH b)) (kv (.int k (ael k a b)) st)
 |_,_=>fD P o call s st kv kd
def QN(o:Oper)(x y:Operand):OpT:=fun call s st kv kd=>match rdF s x,rdF s y with
 | .int k a, .int k' b=>ae (and (decide (k=k')) (vH b)) (kv (.int k (AC a b)) st)
 |_,_=>fD P o call s st kv kd
def QP(o:Oper)(x y:Operand):OpT:=fun call s st kv kd=>match rdF s x,rdF s y with
 | .string a, .string b=>ae (aer a b) (kv (.string (aed a b)) st)
 | .int k a, .int k' b=>ae (decide (k=k')) (kv (.int k (dO k a b)) st)
 |_,_=>fD P o call s st kv kd
def vO(o:Oper)(f:IntKind->Int->Int->Int)(x y:Operand):OpT:=fun call s st kv kd=>match rdF s x,rdF s y with
 | .int k a, .int k' b=>ae (decide (k=k')) (kv (.int k (f k a b)) st)
 |_,_=>fD P o call s st kv kd
def BN(o:Oper)(f:Int->Int->Bool)(g:ByteArray->ByteArray->Bool)(str:Bool)(x y:Operand):OpT:=fun call s st kv kd=>match rdF s x,rdF s y with
 | .int k a, .int k' b=>ae (decide (k=k')) (kv (.bool (f a b)) st)
 | .string a, .string b=>match str with
  |true=>kv (.bool (g a b)) st
  |false=>fD P o call s st kv kd
 |_,_=>fD P o call s st kv kd
def eqE(e:Eta)(x y:Value)(k:Bool->Res):Res:=match e with
 | .int _=>match x,y with
  | .int a m, .int b n=>ae (decide (a=b)) (k (eqI m n))
  |_,_=>none
 | .string=>match x,y with
  | .string a, .string b=>k (eqS a b)
  |_,_=>none
 | .bool=>match x,y with
  | .bool a, .bool b=>k (eqB a b)
  |_,_=>none
 | .slice _=>none
def eqC(es:List Eta):List Value->List Value->(Bool->Res)->Res:=
 @List.rec Eta (fun _=>List Value->List Value->(Bool->Res)->Res) (fun _ _ k=>k true)
  (fun e _ ih xs ys k=>match xs with
   |x::xs=>match ys with
    |y::ys=>eqE e x y fun b=>ih xs ys fun r=>k (and b r)
    |[]=>none
   |[]=>none) es
def Fh(fs:List Field):Nat->Option (List Eta):=
 @List.rec Field (fun _=>Nat->Option (List Eta)) (fun _=>some []) (fun f _ ih i=>match and (Nat.beq f.offset i) (f.name != "_"),uk P f.type,ih (Nat.add i 1)with
  |true,some (.slice _),_=>none
  |true,some e,some es=>some (e::es)
  |_,_,_=>none) fs
def eqK(t:TypeId):Option (List Eta):=match gI P t with
 |some (.struct fs)=>match P.stoodInHeld t || P.eqGuardType P.depth t with
  |true=>none
  |false=>Fh P fs.toList 0
 |_=>none
def ut(t:TypeId):Bool:=match gI P t with
 |some .bool=>true
 |_=>false
def Ry(o:Oper)(bk:Bool)(es:Option (List Eta))(x y:Operand):OpT:=fun call s st kv kd=>match rdF s x,rdF s y with
 | .int k a, .int k' b=>ae (decide (k=k')) (kv (.bool (eqI a b)) st)
 | .string a, .string b=>kv (.bool (eqS a b)) st
 | .bool a, .bool b=>match bk with
  |true=>kv (.bool (eqB a b)) st
  |false=>fD P o call s st kv kd
 | .agg a, .agg b=>match es with
  |some es=>ae (and (lL a) (lL b)) (eqC es a.toList b.toList fun r=>kv (.bool r) st)
  |none=>fD P o call s st kv kd
 |_,_=>fD P o call s st kv kd
def Q9(o:Oper)(bk:Bool)(es:Option (List Eta))(x y:Operand):OpT:=fun call s st kv kd=>match rdF s x,rdF s y with
 | .int k a, .int k' b=>ae (decide (k=k')) (kv (.bool (neI a b)) st)
 | .string a, .string b=>kv (.bool (neS a b)) st
 | .bool a, .bool b=>match bk with
  |true=>kv (.bool (fM (eqB a b))) st
  |false=>fD P o call s st kv kd
 | .agg a, .agg b=>match es with
  |some es=>ae (and (lL a) (lL b)) (eqC es a.toList b.toList fun r=>kv (.bool (fM r)) st)
  |none=>fD P o call s st kv kd
 |_,_=>fD P o call s st kv kd
def Qn(o:Oper)(k:IntKind)(x:Operand):OpT:=fun call s st kv kd=>match rdF s x with
 | .int _ n=>kv (.int k (cvI k n)) st
 |_=>fD P o call s st kv kd
def EI(o:Oper)(g:Int->Int->Bool)(x y:Operand):OpT:=fun call s st kv kd=>match rdF s x,rdF s y with
 | .int k a, .int _ b=>@Bool.rec (fun _=>Res) (kv (.int k a) st) (kv (.int k b) st) (g b a)
 |_,_=>fD P o call s st kv kd
def P_(o:Oper)(x:Operand):OpT:=fun call s st kv kd=>match rdF s x with
 | .bool b=>kv (.bool (fM b)) st
 |_=>fD P o call s st kv kd
def QA(o:Oper)(x:Operand):OpT:=fun call s st kv kd=>match rdF s x with
 | .int k n=>kv (.int k (ada k n)) st
 |_=>fD P o call s st kv kd
def Ju(o:Oper)(x:Operand):OpT:=fun call s st kv kd=>match rdF s x with
 | .slice _ n _=>kv (.int .i64 (ag n)) st
 | .iface t v=>match kw (.iface t v)with
  |some z=>kv (.int .i64 (ag z.n)) st
  |none=>none
 |_=>fD P o call s st kv kd
def I8(o:Oper)(x:Operand):OpT:=fun call s st kv kd=>match rdF s x with
 | .slice (some _) _ c=>ae (Nat.ble (Nat.add c 1) unk) (kv (.int .i64 (ag c)) st)
 | .slice none _ c=>kv (.int .i64 (ag c)) st
 |_=>fD P o call s st kv kd
def JG(o:Oper)(x:Operand):OpT:=fun call s st kv kd=>match rdF s x with
 | .string b=>kv (.int .i64 (ag b.size)) st
 |_=>fD P o call s st kv kd
def s_tail(str:Bool)(size:Nat)(st:St)(x:Value)(k:Nat->List Value->Res):Res:=match str with
 |false=>match x with
  | .slice (some a) n _=>jl st a fun b off c _ _ _ _=>ae (Nat.ble (Nat.add off (Nat.mul n size)) c.length) (k n (takeC (Nat.mul n size) (bT off c)))
  | .slice none n _=>ae (Nat.beq n 0) (k 0 [])
  | .iface t v=>match kw (.iface t v)with
   |some z=>ae (Nat.beq z.sz size) (k z.n z.cells)
   |none=>none
  |_=>none
 |true=>match x with
  | .string b=>ae (Nat.beq size 1) (k b.size (byteCells b))
  |_=>none
def xN(slow:Res)(e:TypeId)(size n:Nat)(new:List Value)(st:St)(s:Value)(kv:Value->St->Res):Res:=match s with
 | .slice none len cap=>ae (and (Nat.beq len 0) (and (Nat.beq cap 0) (Nat.ble n big)))
   (@Bool.rec (fun _=>Res) (rf st (.cells new e false) fun a st=>kv (.slice (some a) n unk) st) (kv (.slice none 0 0) st) (Nat.beq n 0))
 | .slice (some a) len cap=>@Bool.rec (fun _=>Res)
   (@Bool.rec (fun _=>Res) (@Bool.rec (fun _=>Res)
    (ae (Nat.ble (Nat.add len n) big) (jl st a fun b off c _ _ _ _=>ae (Nat.ble (Nat.add off (Nat.mul len size)) c.length)
     (rf st (.cells ((takeC (Nat.mul len size) (bT off c)).append new) e false) fun a st=>kv (.slice (some a) (Nat.add len n) unk) st)))
    (@Bool.rec (fun _=>Res)
     (jl st a fun b off c e' ex heap next=>ae (and (Nat.ble (Nat.add cap 1) unk) (Nat.ble (Nat.add (Nat.add off (Nat.mul len size)) new.length) c.length))
      (kv (.slice (some a) (Nat.add len n) cap) ⟨dX (path b) heap (.cells (putAt c (Nat.add off (Nat.mul len size)) new) e' ex),next⟩))
     (ae (Nat.ble (Nat.add cap 1) unk) (kv (.slice (some a) len cap) st)) (Nat.beq n 0)) (Nat.ble (Nat.add len n) cap))
    (@Bool.rec (fun _=>Res)
     (ae (Nat.ble (Nat.add len n) big) (jl st a fun b off c _ _ _ _=>ae (Nat.ble (Nat.add off (Nat.mul len size)) c.length)
      (rf st (.cells ((takeC (Nat.mul len size) (bT off c)).append new) e false) fun a st=>kv (.slice (some a) (Nat.add len n) unk) st)))
     (ae (Nat.ble (Nat.add cap 1) unk) (kv (.slice (some a) len cap) st)) (Nat.beq n 0)) (Nat.beq cap len))
   (jl st a fun b off c e' ex heap next=>ae (and (not ex) (and (Nat.beq e' e) (and (Nat.ble off c.length) (Nat.ble (Nat.add len n) big))))
    (@Bool.rec (fun _=>Res)
     (ae (Nat.beq (Nat.add off (Nat.mul len size)) c.length)
      (rf ⟨dX (path b) heap .dead,next⟩ (.cells ((takeC (Nat.mul len size) (bT off c)).append new) e false) fun a st=>kv (.slice (some a) (Nat.add len n) unk) st))
     (ae (Nat.ble (Nat.add off (Nat.mul len size)) c.length) (kv (.slice (some a) len cap) st)) (Nat.beq n 0)))
   (Nat.beq cap unk)
 |_=>slow
def Jq(sT xT:TypeId):Option (TypeId×Nat×Bool):=match gI P sT,gI P xT with
 |some (.slice e),some xt=>match(match xt with | .slice _=>some false | .string=>some true | _=>none),pY P e,oH P e with
  |some str,some ei,some z=>if ei.size=0 || big<ei.bytes || z.cells.size≠ei.size then none else some (e,ei.size,str)
  |_,_,_=>none
 |_,_=>none
def DK(o:Oper)(e:TypeId)(size:Nat)(str:Bool)(x y:Operand):OpT:=fun call s st kv kd=>
 s_tail str size st (rdF s y) fun n new=>ae (new.all oneCell) (xN (fD P o call s st kv kd) e size n new st (rdF s x) kv)
def DJ(t:TypeId)(x v:Operand):OpT:=fun call s st kv kd=>match rdF s x with
 | .pointer (some a)=>jl st a fun b off c e ex heap next=>@Bool.rec (fun _=>Res)
   (ae (and (oq (rdF s v)) (Nat.ble (Nat.add off 1) c.length)) (kv undef ⟨dX (path b) heap (.cells (putAt c off [rdF s v]) e false),next⟩))
   (BJ P t x v call s st kv kd) ex
 |_=>none
def J3(c a b:Operand):OpT:=fun _ s st kv _=>match rdF s c with
 | .bool t=>@Bool.rec (fun _=>Res) (kv (rdF s b) st) (kv (rdF s a) st) t
 |_=>none
def cvK(sT dT:TypeId):Nat:=match gI P sT,gI P dT with
 |some (.slice e),some .string=>match gI P e with
  |some (.int .u8)=>1
  |_=>0
 |some .string,some (.slice e)=>match gI P e,mJ P e with
  |some (.int .u8),some 1=>2
  |_,_=>0
 |_,_=>0
def cvT(sT dT:TypeId):Option IntKind:=match gI P sT,gI P dT with
 |some (.int _),some (.int k)=>some k
 |_,_=>none
def Qw(t:TypeId):TypeId:=match gI P t with
 |some (.slice e)=>e
 |_=>0
def Vz(t:TypeId):Bool:=match mJ P t with
 |some n=>Nat.beq n 1
 |none=>false
def isStr(t:TypeId):Bool:=match gI P t with
 |some .string=>true
 |_=>false
def Q5(t:TypeId):Option Value:=match gI P t with
 |some (.map kt e)=>match gI P kt with
  |some (.int _)=>oH P e
  |_=>none
 |_=>none
def RH(ik:IntKind)(i:Int)(f:Value->Res)(z:Res)(es:List MapEntry):Res:=
 @List.rec MapEntry (fun _=>Res) z (fun e _ ih=>match e.key with
  | .int k n=>ae (decide (ik=k)) (@Bool.rec (fun _=>Res) ih (f e.val) (eqI i n))
  |_=>none) es
def Qb(ok:Bool)(v:Value)(b:Bool):Value:=match ok with
 |true=> .tuple ⟨[v, .bool b]⟩
 |false=>v
def Gl(o:Oper)(z:Value)(x k:Operand)(ok:Bool):OpT:=fun call s st kv kd=>match rdF s x,rdF s k with
 | .map (some r), .int ik i=>match dZ (path r) st.heap with
  |some (.map es _)=>RH ik i (fun v=>kv (Qb ok v true) st) (kv (Qb ok z false) st) es
  |_=>(jT P o).run call s st kv kd
 |_,_=>(jT P o).run call s st kv kd
def D7(o:Oper)(n:Nat)(x hi mx:Operand):OpT:=fun call s st kv kd=>match rdF s x,rdF s hi,rdF s mx with
 | .slice (some a) _ cap, .int _ h, .int _ m=>@Bool.rec (fun _=>Res) (fD P o call s st kv kd)
   (jl st a fun _ off c e _ _ _=>ae (and (Nat.ble off c.length) (and (Nat.ble 1 n) (Nat.beq n (esz P e))))
    (ae (and (gq 0 h m.toNat) (and (gq 0 m (Nat.div (Nat.sub c.length off) n)) (Nat.ble (Nat.succ m.toNat) unk))) (kv (.slice (some a) h.toNat m.toNat) st)))
   (Nat.beq cap unk)
 |_,_,_=>fD P o call s st kv kd
def LD(t:TypeId):Bool:=match gI P t with
 |some (.map kt _)=>isStr P kt
 |_=>false
def uo(es:List MapEntry)(k:ByteArray):Bool:=(Instr.findNow .string (.string k) es 0).isSome
def Ap(es:List MapEntry)(clock:Nat)(k:ByteArray)(v:Value):List MapEntry×Nat:=match Instr.findNow .string (.string k) es 0 with
 |some (some (i,_))=>nY es clock i (.string k) v true
 |_=>nY es clock 0 (.string k) v false
def zJ(z:List Value)(es:List MapEntry)(k:ByteArray):List Value:=match Instr.findNow .string (.string k) es 0 with
 |some (some (_,v))=>match v with
  | .agg ⟨l⟩=>l
  |_=>[]
 |_=>z
def KR(es:List MapEntry)(k:ByteArray):Bool:=match Instr.findNow .string (.string k) es 0 with
 |some (some _)=>true
 |_=>false
def Qg(t:TypeId):Option (List Value×List Eta):=match gI P t with
 |some (.map kt e)=>match isStr P kt,oH P e,abB P 20 e with
  |true,some (.agg ⟨z⟩),some (e::es)=>some (z,e::es)
  |_,_,_=>none
 |_=>none
def FT(o:Oper)(z:List Value)(et:List Eta)(x k:Operand)(ok:Bool):OpT:=fun call s st kv kd=>match rdF s x,rdF s k with
 | .map (some r), .string key=>match dZ (path r) st.heap with
  |some (.map es _)=>ae (and (uo es key) (and (Nat.beq (zJ z es key).length et.length) (iq et (zJ z es key) 0))) (kv (Qb ok (.agg ⟨BP et (zJ z es key) 0⟩) (KR es key)) st)
  |_=>(jT P o).run call s st kv kd
 |_,_=>(jT P o).run call s st kv kd
def KY(o:Oper)(m k x:Operand):OpT:=fun call s st kv kd=>match rdF s m,rdF s k with
 | .map (some r), .string key=>match dZ (path r) st.heap with
  |some (.map es clock)=>ae (uo es key) (kv undef ⟨dX (path r) st.heap (.map (Ap es clock key (rdF s x)).1 (Ap es clock key (rdF s x)).2),st.next⟩)
  |_=>(jT P o).run call s st kv kd
 |_,_=>(jT P o).run call s st kv kd
def IW(o:Oper):OpFn:=match o.op with
 | .pick c a b=>⟨J3 c a b⟩
 | .lookup t x k ok=>match Q5 P t with
  |some z=>⟨Gl P o z x k ok⟩
  |none=>match Qg P t with
   |some z=>⟨FT P o z.1 z.2 x k ok⟩
   |none=>jT P o
 | .mapUpdate t m k x=>match LD P t with
  |true=>⟨KY P o m k x⟩
  |false=>jT P o
 | .load t x=>match sJ P t with
  |some none=>match uk P t with
   |some e=>⟨F5 e x⟩
   |none=>jT P o
  |some (some n)=>match abB P 6 t with
   |some es=>match Nat.beq es.length n with
    |true=>⟨GG es n x⟩
    |false=>jT P o
   |none=>jT P o
  |none=>jT P o
 | .fieldAddr t x i=>match EO P t i with
  |some n=>⟨wH n x⟩
  |none=>jT P o
 | .store t x v=>match Vz P t with
  |true=>⟨DJ P t x v⟩
  |false=>jT P o
 | .index t x ix=>match isStr P t with
  |true=>⟨Gj x ix⟩
  |false=>jT P o
 | .indexAddr t x ix=>match kU P t with
  |some n=>⟨ww n x ix⟩
  |none=>match Xy P t with
   |some q=>⟨xQ q.1 q.2 x ix⟩
   |none=>jT P o
 | .slice t x lo hi none=>match isStr P t with
  |true=>⟨DC x lo hi⟩
  |false=>match kU P t with
   |some n=>⟨GM P o n x lo hi⟩
   |none=>jT P o
 | .slice t x none (some hi) (some mx)=>match kU P t with
  |some n=>⟨D7 P o n x hi mx⟩
  |none=>jT P o
 | .convert sT dT x=>match cvK P sT dT with
  |1=>⟨yI P o x⟩
  |2=>⟨zh (Qw P dT) x⟩
  |_=>match cvT P sT dT with
   |some k=>⟨Qn P o k x⟩
   |none=>⟨fD P o⟩
 | .binOp op t x y _=>match op with
  | .shl=>⟨Qm P o x y⟩
  | .shr=>⟨PX P o x y⟩
  | .quo=>⟨PP P o x y⟩
  | .rem=>⟨QN P o x y⟩
  | .add=>⟨QP P o x y⟩
  | .sub=>⟨vO P o fH x y⟩
  | .mul=>⟨vO P o qR x y⟩
  | .and=>⟨vO P o tK x y⟩
  | .or=>⟨vO P o orI x y⟩
  | .xor=>⟨vO P o XQ x y⟩
  | .andNot=>⟨vO P o acM x y⟩
  | .eql=>⟨Ry P o (ut P t) (eqK P t) x y⟩
  | .neq=>⟨Q9 P o (ut P t) (eqK P t) x y⟩
  | .lss=>⟨BN P o ltI ltS true x y⟩
  | .leq=>⟨BN P o leI leS true x y⟩
  | .gtr=>⟨BN P o gtI gtS true x y⟩
  | .geq=>⟨BN P o geI geS true x y⟩
 | .unOp .not _ x=>⟨P_ P o x⟩
 | .unOp .xor _ x=>⟨QA P o x⟩
 | .call c=>match c.callee,c.args.toList,c.argTypes.toList with
  | .builtin .append,[x,y],[tx,ty]=>match Jq P tx ty with
   |some r=>⟨DK P o r.1 r.2.1 r.2.2 x y⟩
   |none=>jT P o
  | .builtin .len,[x],_=>match uQ P c.argTypes with
   |1=>⟨Ju P o x⟩
   |2=>⟨JG P o x⟩
   |_=>⟨fD P o⟩
  | .builtin .cap,[x],_=>match uQ P c.argTypes with
   |1=>⟨I8 P o x⟩
   |_=>⟨fD P o⟩
  | .builtin .min,[x,y],_=>⟨EI P o ltI x y⟩
  | .builtin .max,[x,y],_=>⟨EI P o gtI x y⟩
  |_,_,_=>jT P o
 |_=>jT P o
end
section
variable{P:Program}
variable{call:Knot}{s:Trie Value}{st:St}{kv:Value->St->Res}{kd:Deferred->St->Res}{r:Value×St}
theorem byte_at(b:ByteArray)(n:Nat)(h:n<b.size):b[n]? = some (b.data.toList.getD n 0):=by
 have h1:b[n]? = some b[n]:=by simp[h]
 rw[h1];congr 1;have h2:n<b.data.toList.length:=by simpa using h
 rw[List.getD_eq_getElem?_getD,List.getElem?_eq_getElem h2]
 rfl
theorem Jg{dst type pos after guard}{t:TypeId}{x ix:Operand}(hu:P.underlying t=some .string)(h:Gj x ix call s st kv kd=some r) :
  Hands call kv kd (aY P (rdF s) ⟨dst, .index t x ix,type,pos,after,guard⟩ st) r:=by
 unfold Gj at h;split at h
 ·rename_i b hx;split at h
  ·rename_i k i hi;obtain⟨hc,h⟩:=bZ h;simp only[inI,gq,decide_eq_true_eq]at hc;have hlt:i.toNat<b.size:=by omega
   simp only[aY,hu,hx,hi,hc.1,if_true,byte_at b _ hlt];exact h
  ·cases h
 ·cases h
theorem D9{dst type pos after guard}{t:TypeId}{x ix:Operand}{n:Nat}(hn:kU P t=some n)(h:ww n x ix call s st kv kd=some r) :
  Hands call kv kd (aY P (rdF s) ⟨dst, .indexAddr t x ix,type,pos,after,guard⟩ st) r:=by
 unfold kU at hn;rw[eU]at hn;split at hn
 ·rename_i e hu;rw[nS]at hn;unfold ww at h;split at h
  ·rename_i a len cap hx;split at h
   ·rename_i k i hi;obtain⟨hc,h⟩:=bZ h;simp only[inI,gq,decide_eq_true_eq]at hc;simp only[aY,hu,hx,hi,hn,hc,and_self,if_true];rw[FU]at h;exact h
   ·cases h
  ·rename_i tt v hx;split at h
   ·rename_i z hz;split at h
    ·rename_i k i hi;obtain⟨hc,h⟩:=bZ h;simp only[inI,gq,Bool.and_eq_true,decide_eq_true_eq]at hc;have h1:=Nat.eq_of_beq_eq_true hc.1;simp only[aY,hu,hx,hi,hn,hz,h1,hc.2,and_self,if_true];exact h
    ·cases h
   ·cases h
  ·cases h
 ·cases hn
theorem aby{e:Eta}{v:Value}(h:eu e v=true):∀ (hz:∀ n,e = .slice n->∃ z,kw v=some z),Dv e v=v\/∃ n,e = .slice n:=by
 intro _;cases e with
 |int k=>
  simp only[eu,isI]at h;split at h
  ·simp only[decide_eq_true_eq]at h; subst h; exact Or.inl rfl
  ·cases h
 |string=>
  simp only[eu,isS]at h;split at h
  ·exact Or.inl rfl
  ·cases h
 |bool=>
  simp only[eu,isB]at h;split at h
  ·exact Or.inl rfl
  ·cases h
 |slice n=>exact Or.inr ⟨n,rfl⟩
theorem Vk{v:Value}{z:FzV}(h:kw v=some z):v=aX z.sz z.n z.cap z.cells:=by
 unfold kw at h;split at h
 ·rename_i t n b c;split at h
  ·rename_i ht;have ht:FZ+1<=t:=Nat.le_of_ble_eq_true ht;obtain rfl:=Option.some.inj h;unfold aX;have:FZ+(t-FZ)=t:=Nat.add_sub_cancel' (Nat.le_of_succ_le ht);rw[this]
  ·cases h
 ·cases h
theorem DW{e:Eta}{v:Value}(h:eu e v=true):Dv e v=v:=by
 cases e with
 |slice n=>
  simp only[eu,isZ]at h;split at h
  ·rename_i z hz;have:=Nat.eq_of_beq_eq_true h;simp only[Dv,zN,zB,zC,hz];rw[<-this];exact(Vk hz).symm
  ·cases h
 |_=>
  rcases aby h (fun n e=>by cases e)with h | ⟨n,e⟩
  ·exact h
  ·cases e
theorem xZ{c:List Value}{n:Nat}(h:n+1<=c.length):c[n]? = some (aU c n):=by
 unfold aU;rw[List.getD_eq_getElem?_getD,List.getElem?_eq_getElem h]
 rfl
theorem WS{c:List Value}{n:Nat}{v:Value}(h:c[n]? = some v):(c.drop n).take 1=[v]:=by
 have:=(List.getElem?_eq_some_iff.1 h)
 obtain⟨hl,e⟩:=this;rw[List.drop_eq_getElem_cons hl,e]
 rfl
theorem Kv{dst type pos after guard}{t:TypeId}{x:Operand}{e:Eta}(hk:sJ P t=some none)(h:F5 e x call s st kv kd=some r) :
  Hands call kv kd (aY P (rdF s) ⟨dst, .load t x,type,pos,after,guard⟩ st) r:=by
 unfold sJ at hk;rw[eU,lw,vX]at hk;split at hk
 ·rename_i d i hu hi;have hag:kD P t=false:=by
   cases hb:kD P t with
   |false=>rfl
   |true=>rw[hb]at hk; cases hk
  unfold F5 at h;split at h
  ·rename_i a hx;obtain⟨c,e',ex,h1,h2,h3⟩:=jf h;have go:∀ v,c[a.off]? = some v->kv v st=some r->Hands call kv kd (aY P (rdF s) ⟨dst, .load t x,type,pos,after,guard⟩ st) r:=by
    intro v hv hk;have hl:a.off+1<=c.length:=(List.getElem?_eq_some_iff.1 hv).1;have:pV P st t a=some v:=by
     simp only[pV,hu,hi,hag,Bool.false_eq_true,if_false,cellsAt,h1,h2,Option.isSome_none,hl,if_true,WS hv]
    simp only[aY,hx,this];exact hk
   cases ex with
   |false=>
    obtain⟨hc,h3⟩:=bZ h3;simp only[Bool.and_eq_true]at hc;rw[DW hc.2]at h3;exact go _ (xZ (Nat.le_of_ble_eq_true hc.1)) h3
   |true=>
    simp only at h3;rw[uA]at h3;split at h3
    ·rename_i v hv;exact go v hv h3
    ·cases h3
  ·rename_i tt v hx;split at h
   ·rename_i off c hfp;obtain⟨hc,h⟩:=bZ h;simp only[Bool.and_eq_true]at hc;rw[DW hc.2]at h;simp only[aY,hx,hfp,Bz,hu,hi,hag,Bool.false_eq_true,if_false,xZ (Nat.le_of_ble_eq_true hc.1)];exact h
   ·cases h
  ·cases h
 ·cases hk
theorem FD{i:Int}{k:Nat->Res}:∀ {len j:Nat},PV i k len j=some r->∃ m,j<=m/\m<j+len/\i=(m:Int)/\k m=some r
 |0,j,h=>by cases h
 |len+1,j,h=>by
  have h:@Bool.rec (fun _=>Res) (PV i k len (Nat.succ j)) (k j) (eqI i (Int.ofNat j))=some r:=h;cases hb:eqI i (Int.ofNat j)with
  |true=>
   rw[hb]at h;have:i=(j:Int):=by simpa [eqI]using hb
   exact⟨j,Nat.le_refl _,by omega,this,h⟩
  |false=>
   rw[hb]at h;obtain⟨m,h1,h2,h3,h4⟩:=FD h;exact⟨m,by omega,by omega,h3,h4⟩
theorem Ed{dst type pos after guard}{t:TypeId}{x ix:Operand}{q:Nat×Nat}(hk:Xy P t=some q)(h:xQ q.1 q.2 x ix call s st kv kd=some r) :
  Hands call kv kd (aY P (rdF s) ⟨dst, .indexAddr t x ix,type,pos,after,guard⟩ st) r:=by
 unfold Xy at hk;rw[eU]at hk;split at hk
 ·rename_i len e hu;split at hk
  ·rename_i n hb hn;obtain rfl:=Option.some.inj hk;rw[nS]at hn;unfold xQ at h;split at h
   ·rename_i a hx;split at h
    ·rename_i kk i hi;obtain⟨m,h1,h2,rfl,h4⟩:=FD h;rw[FU]at h4;have hc:0<=(m:Int)/\(m:Int)<(len:Int):=by simp only[Nat.zero_add]at h2; omega
     simp only[aY,hu,hx,hi,hn,hc,and_self,if_true,Int.toNat_natCast];exact h4
    ·cases h
   ·cases h
  ·cases hk
 ·cases hk
theorem vS:∀ {es:List Eta} {c:List Value} {off:Nat},iq es c off=true->off+es.length<=c.length->BP es c off=(c.drop off).take es.length
 |[],c,off,_,_=>by simp[BP]
 |e::es,c,off,h,hl=>by
  have h:(eu e (aU c off)&&iq es c (off+1))=true:=h;simp only[Bool.and_eq_true]at h;rw[List.length_cons]at hl ⊢;show Dv e (aU c off)::BP es c (off+1)=_;rw[DW h.1,vS h.2 (by omega)];have hn:=xZ (c:=c) (n:=off) (by omega);obtain⟨hlt,hv⟩:=List.getElem?_eq_some_iff.1 hn;rw[List.drop_eq_getElem_cons hlt,hv,List.take_succ_cons]
theorem Kq{dst type pos after guard}{t:TypeId}{x:Operand}{es:List Eta}{n:Nat}(hk:sJ P t=some (some n))(hes:Nat.beq es.length n=true)(h:GG es n x call s st kv kd=some r) :
  Hands call kv kd (aY P (rdF s) ⟨dst, .load t x,type,pos,after,guard⟩ st) r:=by
 have hes:=Nat.eq_of_beq_eq_true hes;unfold sJ at hk;rw[eU,lw,vX]at hk;split at hk
 ·rename_i d i hu hi;have hag:kD P t=true/\i.size=n:=by
   cases hb:kD P t with
   |false=>rw[hb]at hk; cases hk
   |true=>rw[hb]at hk; exact⟨rfl,by simpa using hk⟩
  obtain⟨hag,hn⟩:=hag;unfold GG at h;split at h
  ·rename_i a hx;obtain⟨c,e',ex,h1,h2,h3⟩:=jf h;have go:a.off+n<=c.length->kv (.agg ⟨(c.drop a.off).take n⟩) st=some r->Hands call kv kd (aY P (rdF s) ⟨dst, .load t x,type,pos,after,guard⟩ st) r:=by
    intro hl hk;have:pV P st t a=some (.agg ⟨(c.drop a.off).take n⟩):=by
     simp only[pV,hu,hi,hag,if_true,cellsAt,h1,h2,Option.isSome_none,Bool.false_eq_true,if_false,hn,hl,Option.map_some]
    simp only[aY,hx,this];exact hk
   cases ex with
   |false=>
    obtain⟨hc,h3⟩:=bZ h3;simp only[Bool.and_eq_true]at hc;have hl:a.off+n<=c.length:=Nat.le_of_ble_eq_true hc.1;rw[vS hc.2 (by omega),hes]at h3;exact go hl h3
   |true=>
    simp only at h3;cases hb:Nat.ble (Nat.add a.off n) c.length with
    |false=>rw[hb]at h3; cases h3
    |true=>rw[hb]at h3; exact go (Nat.le_of_ble_eq_true hb) h3
  ·rename_i tt v hx;split at h
   ·rename_i off c hfp;obtain⟨hc,h⟩:=bZ h;simp only[Bool.and_eq_true]at hc;have hl:off+n<=c.length:=Nat.le_of_ble_eq_true hc.1;rw[vS hc.2 (by omega),hes]at h;simp only[aY,hx,hfp,Bz,hu,hi,hag,if_true,hn,hl];exact h
   ·cases h
  ·cases h
 ·cases hk
theorem DZ{dst type pos after guard}{t:TypeId}{x:Operand}{i n:Nat}(hn:EO P t i=some n)(h:wH n x call s st kv kd=some r) :
  Hands call kv kd (aY P (rdF s) ⟨dst, .fieldAddr t x i,type,pos,after,guard⟩ st) r:=by
 unfold EO at hn;rw[vF]at hn;split at hn
 ·rename_i f m hf;split at hn
  ·cases hn
  ·rename_i hm;obtain rfl:=Option.some.inj hn;unfold wH at h;split at h
   ·rename_i a hx;simp only[aY,hx,hf];rw[if_neg hm,<-Jf];exact h
   ·rename_i tt v hx;split at h
    ·rename_i a c hfp;simp only[aY,hx,hf,hfp];rw[if_neg hm];exact h
    ·cases h
   ·cases h
 ·cases hn
theorem Hg{o:Option Operand}{d:Int}{k:Int->Res}(h:wu s o d k=some r):(o=none/\k d=some r)\/∃ x kk i,o=some x/\rdF s x = .int kk i/\k i=some r:=by
 unfold wu at h;split at h
 ·exact Or.inl ⟨rfl,h⟩
 ·split at h
  ·exact Or.inr ⟨_,_,_,rfl,‹_›,h⟩
  ·cases h
theorem rV{o:Option Operand}{y d:Nat}{i:Int}(h:(o=none/\i=d)\/∃ x kk,o=some x/\rdF s x = .int kk i)(h1:0<=i)(h2:i<=y):cO (o.map (rdF s)) y d=some i.toNat:=by
 rcases h with⟨rfl,rfl⟩ | ⟨x,kk,rfl,hx⟩
 ·simp[cO]
 ·simp only[Option.map_some,cO,hx,jG,h1,h2,and_self,if_true]
theorem DU{lo hi:Option Operand}{dh:Nat}{k:Int->Int->Res}(h:(wu s hi dh fun h=>wu s lo 0 fun l=>k h l)=some r) :
  ∃ h l:Int,((hi=none/\h=dh)\/∃ x kk,hi=some x/\rdF s x = .int kk h)/\((lo=none/\l=(0:Nat))\/∃ x kk,lo=some x/\rdF s x = .int kk l)/\k h l=some r:=by
 rcases Hg h with⟨e,h⟩ | ⟨x,kk,i,e,hx,h⟩<;>rcases Hg h with⟨e',h⟩ | ⟨x',kk',i',e',hx',h⟩
 ·exact⟨_,_,Or.inl ⟨e,rfl⟩,Or.inl ⟨e',rfl⟩,h⟩
 ·exact⟨_,_,Or.inl ⟨e,rfl⟩,Or.inr ⟨x',kk',e',hx'⟩,h⟩
 ·exact⟨_,_,Or.inr ⟨x,kk,e,hx⟩,Or.inl ⟨e',rfl⟩,h⟩
 ·exact⟨_,_,Or.inr ⟨x,kk,e,hx⟩,Or.inr ⟨x',kk',e',hx'⟩,h⟩
theorem yS{dst type pos after guard}{t:TypeId}{x:Operand}{lo hi:Option Operand}(hu:P.underlying t=some .string)
  (h:DC x lo hi call s st kv kd=some r):Hands call kv kd (aY P (rdF s) ⟨dst, .slice t x lo hi none,type,pos,after,guard⟩ st) r:=by
 unfold DC at h;split at h
 ·rename_i b hx;obtain⟨h0,l0,hh,hl,h⟩:=DU h;obtain⟨hc,h⟩:=bZ h;simp only[inI,gq,decide_eq_true_eq]at hc;have e1:=rV hh (y:=b.size) (by omega) (by omega);have e2:=rV hl (y:=h0.toNat) (by omega) (by omega);simp only[aY,hu,hx,Option.map_none,Option.isSome_none,Bool.false_eq_true,if_false,e1,e2];exact h
 ·cases h
theorem KI{dst type pos after guard}{t:TypeId}{x:Operand}{lo hi:Option Operand}{n:Nat}(hn:kU P t=some n)
  (h:GM P ⟨dst, .slice t x lo hi none,type,pos,after,guard⟩ n x lo hi call s st kv kd=some r):Hands call kv kd (aY P (rdF s) ⟨dst, .slice t x lo hi none,type,pos,after,guard⟩ st) r:=by
 unfold kU at hn;rw[eU]at hn;split at hn
 ·rename_i e hu;rw[nS]at hn;unfold GM at h;split at h
  ·rename_i tt v hx;split at h
   ·rename_i z hz;obtain⟨h0,l0,hh,hl,h⟩:=DU h;obtain⟨hc,h⟩:=bZ h;simp only[inI,gq,Bool.and_eq_true,decide_eq_true_eq]at hc;have h1:=Nat.eq_of_beq_eq_true hc.1;have e1:=rV hh (y:=z.n) (by omega) (by omega);have e2:=rV hl (y:=h0.toNat) (by omega) (by omega);simp only[aY,hu,hx,hz,hn,h1,if_true,yV,Option.map_none,e1,e2];unfold zT at h;exact h
   ·cases h
  ·rename_i a len cap hx;cases hb:Nat.beq cap unk with
   |false=>rw[hb]at h; exact di h
   |true=>
    rw[hb]at h;have hcap:=Nat.eq_of_beq_eq_true hb;obtain⟨c,e',ex,h1,h2,h3⟩:=jf h;obtain⟨hc,h3⟩:=bZ h3;simp only[Bool.and_eq_true]at hc;obtain⟨hc1,hc2,hc3⟩:=hc;have hc1:=Nat.le_of_ble_eq_true hc1;have hc2:=Nat.le_of_ble_eq_true hc2;have hc3:=Nat.eq_of_beq_eq_true hc3;obtain⟨h0,l0,hh,hl,h3⟩:=DU h3;obtain⟨hd,h3⟩:=bZ h3;simp only[gq,decide_eq_true_eq]at hd;have hd:0<=l0/\l0<=h0/\h0<=(((c.length-a.off) / n:Nat):Int):=hd;change @Bool.rec (fun _=>Res) (@Bool.rec (fun _=>Res) (kv (.slice (some a) 0 (unk+l0.toNat)) st) (kv (.slice (some a) 0 unk) st) (Nat.beq l0.toNat 0)) (kv (.slice (some (yH a (l0.toNat*n))) (h0.toNat-l0.toNat) unk) st) (Nat.ble (l0.toNat+1) ((c.length-a.off) / n))=some r at h3;have hroom:room P st a n=some ((c.length-a.off) / n):=by
     unfold room;rw[h2];simp only;rw[if_neg (by simp; omega),if_pos hc1]
    have e1:=rV hh (y:=(c.length-a.off) / n) (by omega) (by omega);have e2:=rV hl (y:=h0.toNat) (by omega) (by omega);have hs:qO P st n a len cap (lo.map (rdF s)) (hi.map (rdF s)) none=some (if l0.toNat<(c.length-a.off) / n then .slice (some (a.add (l0.toNat*n))) (h0.toNat-l0.toNat) unk else if l0.toNat=0 then .slice (some a) 0 unk else .slice (some a) 0 (unk+l0.toNat)):=by
     unfold qO;rw[if_neg (by omega),if_pos hcap,hroom];simp only[e1,e2];split
     ·rfl
     ·rename_i hlt;rw[if_neg (by simp; omega)];split<;>rfl
    simp only[aY,hu,hx,hn,Option.map_none,hs];cases hb1:Nat.ble (l0.toNat+1) ((c.length-a.off) / n)with
    |true=>
     rw[hb1]at h3;rw[if_pos (show l0.toNat<(c.length-a.off) / n from Nat.le_of_ble_eq_true hb1)];rw[FU]at h3;exact h3
    |false=>
     rw[hb1]at h3;have hnl:¬l0.toNat<(c.length-a.off) / n:=fun k=>by rw[Nat.ble_eq_true_of_le k]at hb1; cases hb1
     rw[if_neg hnl];cases hb2:Nat.beq l0.toNat 0 with
     |true=>rw[hb2]at h3; rw[if_pos (Nat.eq_of_beq_eq_true hb2)]; exact h3
     |false=>rw[hb2]at h3; rw[if_neg (Nat.ne_of_beq_eq_false hb2)]; exact h3
  ·exact di h
 ·cases hn
theorem Eh{dst type pos after guard}{sT dT:TypeId}{x:Operand}(hk:cvK P sT dT=1)(h:yI P ⟨dst, .convert sT dT x,type,pos,after,guard⟩ x call s st kv kd=some r) :
  Hands call kv kd (aY P (rdF s) ⟨dst, .convert sT dT x,type,pos,after,guard⟩ st) r:=by
 unfold cvK at hk;rw[eU,eU]at hk;split at hk
 ·rename_i e hs hd;rw[eU]at hk;split at hk
  ·rename_i he;unfold yI at h;split at h
   ·rename_i a n cap hx;obtain⟨c,e',ex,h1,h2,h3⟩:=jf h;obtain⟨hc,h3⟩:=bZ h3;simp only[Bool.and_eq_true]at hc;have hle:a.off+n<=c.length:=Nat.le_of_ble_eq_true hc.1;simp only[aY,hs,hd,hx,he,cellsAt,h1,h2,Option.isSome_none,Bool.false_eq_true,if_false,hle,if_true];have hb:bytesOf ((c.drop a.off).take n)=some (((c.drop a.off).take n).map byteOf):=wM hc.2;rw[hb];exact h3
   ·rename_i tt v hx;split at h
    ·rename_i z hz;obtain⟨hc,h⟩:=bZ h;simp only[Bool.and_eq_true]at hc;have h1:=Nat.eq_of_beq_eq_true hc.1;simp only[aY,hs,hd,hx,he,hz,h1,if_true,wM hc.2];exact h
    ·cases h
   ·exact di h
  ·cases hk
 ·split at hk<;>cases hk
 ·cases hk
theorem Gp{dst type pos after guard}{sT dT:TypeId}{x:Operand}(hk:cvK P sT dT=2)(h:zh (Qw P dT) x call s st kv kd=some r) :
  Hands call kv kd (aY P (rdF s) ⟨dst, .convert sT dT x,type,pos,after,guard⟩ st) r:=by
 unfold cvK at hk;unfold Qw at h;rw[eU,eU]at hk;split at hk
 ·split at hk<;>cases hk
 ·rename_i e hs hd;rw[eU,nS]at hk;split at hk
  ·rename_i he hn;rw[eU,hd]at h;simp only at h;unfold zh at h;split at h
   ·rename_i b hx;obtain⟨hc,h⟩:=bZ h;have hc:=Nat.le_of_ble_eq_true hc;have h:=oK h;have h1:esz P e=1:=by
     unfold jh at hn;unfold esz;rw[hn]; rfl
    simp only[aY,hs,hd,hx,he,h1,newRow];rw[if_neg (by simp; omega)];exact h
   ·cases h
  ·cases hk
 ·cases hk
theorem kR{dst type pos after guard}{op:BinOp}{t yt:TypeId}{x y:Operand}{vx vy v:Value}(hx:rdF s x=vx)(hy:rdF s y=vy)(f1:flat vx=true)(f2:flat vy=true)(f3:flat v=true)
  (hp:dN P (do eqGuard op t x y vx vy; binOp op t vx vy)=some v) (h:kv v st=some r):Hands call kv kd (aY P (rdF s) ⟨dst, .binOp op t x y yt,type,pos,after,guard⟩ st) r:=by
 simp only[aY,hx,hy,f1,f2,Bool.and_self,if_true,hp,f3];exact h
theorem Qd{dst type pos after guard}{t yt:TypeId}{x y:Operand}(h:Qm P ⟨dst, .binOp .shl t x y yt,type,pos,after,guard⟩ x y call s st kv kd=some r) :
  Hands call kv kd (aY P (rdF s) ⟨dst, .binOp .shl t x y yt,type,pos,after,guard⟩ st) r:=by
 unfold Qm at h;split at h
 ·rename_i k a k' b hx hy;obtain⟨hc,h⟩:=bZ h;simp only[Aa,decide_eq_true_eq]at hc;have hb:¬b<0:=by omega
  refine kR hx hy rfl rfl rfl ?_ h;simp only[binOp,Op.shift,if_neg hb]
  rfl
 ·exact di h
theorem Q4{dst type pos after guard}{t yt:TypeId}{x y:Operand}(h:PX P ⟨dst, .binOp .shr t x y yt,type,pos,after,guard⟩ x y call s st kv kd=some r) :
  Hands call kv kd (aY P (rdF s) ⟨dst, .binOp .shr t x y yt,type,pos,after,guard⟩ st) r:=by
 unfold PX at h;split at h
 ·rename_i k a k' b hx hy;obtain⟨hc,h⟩:=bZ h;simp only[Aa,decide_eq_true_eq]at hc;have hb:¬b<0:=by omega
  refine kR hx hy rfl rfl rfl ?_ h;simp only[binOp,Op.shift,if_neg hb]
  rfl
 ·exact di h
theorem QV{dst type pos after guard}{t yt:TypeId}{x y:Operand}(h:PP P ⟨dst, .binOp .quo t x y yt,type,pos,after,guard⟩ x y call s st kv kd=some r) :
  Hands call kv kd (aY P (rdF s) ⟨dst, .binOp .quo t x y yt,type,pos,after,guard⟩ st) r:=by
 unfold PP at h;split at h
 ·rename_i k a k' b hx hy;obtain⟨hc,h'⟩:=bZ h;simp only[vH,Bool.and_eq_true,decide_eq_true_eq,Bool.not_eq_true',decide_eq_false_iff_not]at hc;obtain⟨rfl,hb⟩:=hc;refine kR hx hy rfl rfl rfl ?_ h';simp only[binOp,Op.intDiv,if_neg hb,ne_eq,not_true_eq_false,if_false]
  rfl
 ·exact di h
theorem P9{dst type pos after guard}{t yt:TypeId}{x y:Operand}(h:QN P ⟨dst, .binOp .rem t x y yt,type,pos,after,guard⟩ x y call s st kv kd=some r) :
  Hands call kv kd (aY P (rdF s) ⟨dst, .binOp .rem t x y yt,type,pos,after,guard⟩ st) r:=by
 unfold QN at h;split at h
 ·rename_i k a k' b hx hy;obtain⟨hc,h'⟩:=bZ h;simp only[vH,Bool.and_eq_true,decide_eq_true_eq,Bool.not_eq_true',decide_eq_false_iff_not]at hc;obtain⟨rfl,hb⟩:=hc;refine kR hx hy rfl rfl rfl ?_ h';simp only[binOp,Op.intDiv,if_neg hb,ne_eq,not_true_eq_false,if_false]
  rfl
 ·exact di h
theorem Qj{dst type pos after guard}{t yt:TypeId}{x y:Operand}(h:QP P ⟨dst, .binOp .add t x y yt,type,pos,after,guard⟩ x y call s st kv kd=some r) :
  Hands call kv kd (aY P (rdF s) ⟨dst, .binOp .add t x y yt,type,pos,after,guard⟩ st) r:=by
 unfold QP at h;split at h
 ·rename_i a b hx hy;obtain⟨hc,h⟩:=bZ h;have hc:a.size+b.size<=9223372036854775807:=Nat.le_of_ble_eq_true hc;refine kR hx hy rfl rfl rfl ?_ h;simp only[binOp,Op.stringOp];rw[if_neg (by
   have:IntKind.i64.max=9223372036854775807:=by decide
   rw[this]; omega)]
  rfl
 ·rename_i k a k' b hx hy;obtain⟨hc,h'⟩:=bZ h;simp only[decide_eq_true_eq]at hc;subst hc;refine kR hx hy rfl rfl rfl ?_ h';simp only[binOp,Op.intArith,ne_eq,not_true_eq_false,if_false]
  rfl
 ·exact di h
theorem o_{dst type pos after guard}{op:BinOp}{t yt:TypeId}{x y:Operand}{f:IntKind->Int->Int->Int}(hf:∀ k a b,dN P (do eqGuard op t x y (.int k a) (.int k b); binOp op t (.int k a) (.int k b))=some (.int k (f k a b)))
  (h:vO P ⟨dst, .binOp op t x y yt,type,pos,after,guard⟩ f x y call s st kv kd=some r):Hands call kv kd (aY P (rdF s) ⟨dst, .binOp op t x y yt,type,pos,after,guard⟩ st) r:=by
 unfold vO at h;split at h
 ·rename_i k a k' b hx hy;obtain⟨hc,h'⟩:=bZ h;simp only[decide_eq_true_eq]at hc;subst hc;exact kR hx hy rfl rfl rfl (hf _ _ _) h'
 ·exact di h
theorem ul{dst type pos after guard}{op:BinOp}{t yt:TypeId}{x y:Operand}{f:Int->Int->Bool}{g:ByteArray->ByteArray->Bool}{str:Bool}
  (hf:∀ k a b,dN P (do eqGuard op t x y (.int k a) (.int k b); binOp op t (.int k a) (.int k b))=some (.bool (f a b)))
  (hg:str=true->∀ a b,dN P (do eqGuard op t x y (.string a) (.string b); binOp op t (.string a) (.string b))=some (.bool (g a b)))
  (h:BN P ⟨dst, .binOp op t x y yt,type,pos,after,guard⟩ f g str x y call s st kv kd=some r):Hands call kv kd (aY P (rdF s) ⟨dst, .binOp op t x y yt,type,pos,after,guard⟩ st) r:=by
 unfold BN at h;split at h
 ·rename_i k a k' b hx hy;obtain⟨hc,h'⟩:=bZ h;simp only[decide_eq_true_eq]at hc;subst hc;exact kR hx hy rfl rfl rfl (hf _ _ _) h'
 ·rename_i a b hx hy;cases str with
  |true=>exact kR hx hy rfl rfl rfl (hg rfl _ _) h
  |false=>exact di h
 ·exact di h
theorem fB{α γ:Type}:∀ (s:Sem α) (f:α->Sem γ),dN P (s >>= f)=(dN P s).bind fun a=>dN P (f a)
 | .pure a,f=>rfl
 | .program k,f=>fB (k P) f
 | .mark m k,f=>fB k f
 | .load ..,_=>rfl
 | .store ..,_=>rfl
 | .new ..,_=>rfl
 | .shape ..,_=>rfl
 | .freeze ..,_=>rfl
 | .frozen ..,_=>rfl
 | .getObj ..,_=>rfl
 | .setObj ..,_=>rfl
 | .choose ..,_=>rfl
 | .sys ..,_=>rfl
 | .halt ..,_=>rfl
theorem ry:dN P program=some P:=rfl
theorem iF{t:TypeId}{d:TypeDesc}(h:P.underlying t=some d):dN P (underlying t)=some d:=by
 unfold underlying;rw[fB,ry];simp only[Option.bind_some,h]
 rfl
theorem zI{t:TypeId}{e:Eta}(h:uk P t=some e){xs:List Value}{i:Nat}{x:Value}(hx:xs[i]? = some x):dN P (part t ⟨xs⟩ i)=some x:=by
 unfold uk at h;simp only[eU]at h;have hd:∃ d,P.underlying t=some d/\(∀ fs,d≠ .struct fs)/\∀ n e,d≠ .array n e:=by
  split at h
  ·rename_i k hu; exact⟨_,hu,fun _ h=>(by cases h),fun _ _ h=>(by cases h)⟩
  ·rename_i hu; exact⟨_,hu,fun _ h=>(by cases h),fun _ _ h=>(by cases h)⟩
  ·rename_i hu; exact⟨_,hu,fun _ h=>(by cases h),fun _ _ h=>(by cases h)⟩
  ·rename_i e hu; exact⟨_,hu,fun _ h=>(by cases h),fun _ _ h=>(by cases h)⟩
  ·cases h
 obtain⟨d,hu,h1,h2⟩:=hd;have hagg:dN P (isAgg t)=some false:=by
  unfold isAgg;rw[fB,iF hu];simp only[Option.bind_some];cases d<;>first
   |rfl
   |exact absurd rfl (h1 _)
   |exact absurd rfl (h2 _ _)
 unfold part;rw[fB,hagg];have hx':(⟨xs⟩:Array Value)[i]? = some x:=by simpa using hx
 simp only[Option.bind_some,Bool.false_eq_true,if_false,hx']
 rfl
theorem V6{e:Eta}{x y:Value}{k:Bool->Res}{f:Field}{d:Nat}(hf:uk P f.type=some e)(h:eqE e x y k=some r):∃ b,dN P (Op.equalIn (d+1) f.type x y)=some b/\k b=some r:=by
 unfold uk at hf;simp only[eU]at hf;unfold eqE at h;split at hf
 ·rename_i kd hu;obtain rfl:=Option.some.inj hf;simp only at h;split at h
  ·rename_i a m b n;obtain⟨hc,h'⟩:=bZ h;simp only[decide_eq_true_eq]at hc;subst hc;refine⟨_,?_,h'⟩;simp only[Op.equalIn,fB,iF hu,Option.bind_some,if_true]
   rfl
  ·cases h
 ·rename_i hu;obtain rfl:=Option.some.inj hf;simp only at h;split at h
  ·rename_i a b;refine⟨_,?_,h⟩;simp only[Op.equalIn,fB,iF hu,Option.bind_some];rw[show eqS a b=(a == b) from(beq_toListBytes a b).symm]
   rfl
  ·cases h
 ·rename_i hu;obtain rfl:=Option.some.inj hf;simp only at h;split at h
  ·rename_i a b;refine⟨_,?_,h⟩;simp only[Op.equalIn,fB,iF hu,Option.bind_some]
   rfl
  ·cases h
 ·split at hf
  ·obtain rfl:=Option.some.inj hf;cases h
  ·cases hf
 ·cases hf
theorem JK{d:Nat}:∀ {fs:List Field} {i:Nat} {es:List Eta},Fh P fs i=some es->∀ {xs ys:List Value} {k:Bool->Res} {r},eqC es (xs.drop i) (ys.drop i) k=some r->∃ b,dN P (Op.eqFields (d+1) ⟨xs⟩ ⟨ys⟩ fs)=some b/\k b=some r
 |[],i,es,h,xs,ys,k,r,hk=>by
  obtain rfl:=Option.some.inj (h:some []=some es);exact⟨true,rfl,hk⟩
 |f::fs,i,es,h,xs,ys,k,r,hk=>by
  change (match and (Nat.beq f.offset i) (f.name != "_"),uk P f.type,Fh P fs (i+1)with
   |true,some (.slice _),_=>none
   |true,some e,some es=>some (e::es)
   |_,_,_=>none)=some es at h
  cases hb:and (Nat.beq f.offset i) (f.name != "_")with
  |false=>rw[hb]at h; cases h
  |true=>
  cases he:uk P f.type with
  |none=>rw[hb,he]at h; cases h
  |some e=>
  cases hes:Fh P fs (i+1)with
  |none=>rw[hb,he,hes]at h; cases e<;>cases h
  |some es'=>
   rw[hb,he,hes]at h;have h:e::es'=es:=by cases e<;>first | exact Option.some.inj h | cases h
   subst h;simp only[Bool.and_eq_true,bne_iff_ne,ne_eq]at hb;obtain⟨hoff,hname⟩:=hb;have hoff:=Nat.eq_of_beq_eq_true hoff
   change (match xs.drop i with
    |x::xs'=>match ys.drop i with
     |y::ys'=>eqE e x y fun b=>eqC es' xs' ys' fun r=>k (and b r)
     |[]=>none
    |[]=>none)=some r at hk
   split at hk
   ·rename_i x xs' hxs;split at hk
    ·rename_i y ys' hys;have hx:xs[i]? = some x:=by rw[<-List.head?_drop,hxs]; rfl
     have hy:ys[i]? = some y:=by rw[<-List.head?_drop,hys]; rfl
     have hx':xs'=xs.drop (i+1):=by rw[<-List.tail_drop,hxs]; rfl
     have hy':ys'=ys.drop (i+1):=by rw[<-List.tail_drop,hys]; rfl
     obtain⟨b,h1,h2⟩:=V6 (d:=d) he hk;rw[hx',hy']at h2;obtain⟨b',h3,h4⟩:=JK (d:=d) hes h2;refine⟨b&&b',?_,h4⟩;simp only[Op.eqFields,if_pos hname,fB,hoff,zI he hx,zI he hy,Option.bind_some,h1];cases b with
     |false=>rfl
     |true=>exact h3
    ·cases hk
   ·cases hk
theorem wJ{d:Nat}{t:TypeId}{xs ys:Array Value}{fs:Array Field}(ht:P.underlying t=some (.struct fs))(hp:P.stoodInHeld t=false) :
  dN P (Op.equalIn (d+1) t (.agg xs) (.agg ys))=dN P (Op.eqFields d xs ys fs.toList):=by
 simp only[Op.equalIn,fB,iF ht,ry,Option.bind_some,hp,Bool.false_eq_true,if_false];rw[<-Array.forIn_toList];generalize fs.toList=l;clear ht
 induction l with
 |nil=>rfl
 |cons f l ih=>
  simp only[List.forIn_cons,Op.eqFields,fB];split
  ·simp only[fB];cases dN P (part f.type xs f.offset)with
   |none=>rfl
   |some a=>
    simp only[Option.bind_some];cases dN P (part f.type ys f.offset)with
    |none=>rfl
    |some b=>
     simp only[Option.bind_some];cases dN P (Op.equalIn d f.type a b)with
     |none=>rfl
     |some r=>
      simp only[Option.bind_some];cases r with
      |false=>rfl
      |true=>exact ih
  ·exact ih
theorem yL{op:BinOp}{t:TypeId}{x y:Operand}{xs ys:Array Value}{s:Sem Value}(hm:P.eqGuardType P.depth t=false):dN P (do eqGuard op t x y (.agg xs) (.agg ys); s)=dN P s:=by
 rw[fB];have:dN P (eqGuard op t x y (.agg xs) (.agg ys))=some ():=by
  cases op<;>first
   |rfl
   |(unfold eqGuard; simp only[fB,ry,Option.bind_some,hm,Bool.not_true,Bool.false_eq_true,if_false,Bool.not_false,if_true]; rfl)
 rw[this]; rfl
theorem D8{t:TypeId}{es:List Eta}(h:eqK P t=some es):∃ fs,P.underlying t=some (.struct fs)/\P.stoodInHeld t=false/\P.eqGuardType P.depth t=false/\Fh P fs.toList 0=some es:=by
 unfold eqK at h;simp only[eU]at h;split at h
 ·rename_i fs hu;split at h
  ·cases h
  ·rename_i hg;simp only[Bool.or_eq_false_iff]at hg;exact⟨fs,hu,hg.1,hg.2,h⟩
 ·cases h
theorem Hr{t:TypeId}{es:List Eta}(h:eqK P t=some es){xs ys:Array Value}{k:Bool->Res}{r}(hk:eqC es xs.toList ys.toList k=some r):∃ b,dN P (Op.equal t (.agg xs) (.agg ys))=some b/\k b=some r:=by
 obtain⟨fs,h1,h2,h3,h4⟩:=D8 h;obtain⟨b,g1,g2⟩:=JK (d:=9998) h4 (xs:=xs.toList) (ys:=ys.toList) hk;exact⟨b,by unfold Op.equal Op.maxDepth; rw[wJ h1 h2]; exact g1,g2⟩
theorem EY{t:TypeId}(hu:P.underlying t=some .bool)(a b:Bool):dN P (Op.equal t (.bool a) (.bool b))=some (a == b):=by
 unfold Op.equal Op.maxDepth;show dN P (Op.equalIn (9999+1) t (.bool a) (.bool b))=_;unfold Op.equalIn;rw[fB,iF hu]
 rfl
theorem QL{dst type pos after guard}{t yt:TypeId}{x y:Operand}(h:Ry P ⟨dst, .binOp .eql t x y yt,type,pos,after,guard⟩ (ut P t) (eqK P t) x y call s st kv kd=some r) :
  Hands call kv kd (aY P (rdF s) ⟨dst, .binOp .eql t x y yt,type,pos,after,guard⟩ st) r:=by
 unfold Ry at h;split at h
 ·rename_i k a k' b hx hy;obtain⟨hc,h'⟩:=bZ h;simp only[decide_eq_true_eq]at hc;subst hc;exact kR hx hy rfl rfl rfl (by simp only[binOp,Op.intCmp,ne_eq,not_true_eq_false,if_false]; rfl) h'
 ·rename_i a b hx hy;exact kR hx hy rfl rfl rfl (by simp only[binOp,Op.stringOp]; rfl) h
 ·rename_i a b hx hy;split at h
  ·rename_i hb;unfold ut at hb;rw[eU]at hb;split at hb
   ·rename_i hu;refine kR hx hy rfl rfl rfl ?_ h;rw[fB];show dN P (binOp .eql t (.bool a) (.bool b))=_;simp only[binOp,fB,EY hu,Option.bind_some]
    rfl
   ·cases hb
  ·exact di h
 ·rename_i a b hx hy;split at h
  ·rename_i es hes;obtain⟨hc,h'⟩:=bZ h;simp only[Bool.and_eq_true]at hc;obtain⟨b',g1,g2⟩:=Hr hes h';obtain⟨fs,h1,h2,h3,h4⟩:=D8 hes;refine kR hx hy (by simpa only[flat]using hc.1) (by simpa only[flat]using hc.2) rfl ?_ g2;rw[yL h3];simp only[binOp,fB,g1,Option.bind_some]
   rfl
  ·exact di h
 ·exact di h
theorem QK{dst type pos after guard}{t yt:TypeId}{x y:Operand}(h:Q9 P ⟨dst, .binOp .neq t x y yt,type,pos,after,guard⟩ (ut P t) (eqK P t) x y call s st kv kd=some r) :
  Hands call kv kd (aY P (rdF s) ⟨dst, .binOp .neq t x y yt,type,pos,after,guard⟩ st) r:=by
 unfold Q9 at h;split at h
 ·rename_i k a k' b hx hy;obtain⟨hc,h'⟩:=bZ h;simp only[decide_eq_true_eq]at hc;subst hc;exact kR hx hy rfl rfl rfl (by simp only[binOp,Op.intCmp,ne_eq,not_true_eq_false,if_false]; rfl) h'
 ·rename_i a b hx hy;exact kR hx hy rfl rfl rfl (by simp only[binOp,Op.stringOp]; rfl) h
 ·rename_i a b hx hy;split at h
  ·rename_i hb;unfold ut at hb;rw[eU]at hb;split at hb
   ·rename_i hu;refine kR hx hy rfl rfl rfl ?_ h;rw[fB];show dN P (binOp .neq t (.bool a) (.bool b))=_;simp only[binOp,fB,EY hu,Option.bind_some]
    rfl
   ·cases hb
  ·exact di h
 ·rename_i a b hx hy;split at h
  ·rename_i es hes;obtain⟨hc,h'⟩:=bZ h;simp only[Bool.and_eq_true]at hc;obtain⟨b',g1,g2⟩:=Hr hes h';obtain⟨fs,h1,h2,h3,h4⟩:=D8 hes;refine kR hx hy (by simpa only[flat]using hc.1) (by simpa only[flat]using hc.2) rfl ?_ g2;rw[yL h3];simp only[binOp,fB,g1,Option.bind_some]
   rfl
  ·exact di h
 ·exact di h
theorem P8{dst type pos after guard}{sT dT:TypeId}{k:IntKind}{x:Operand}(hk:cvT P sT dT=some k)(h:Qn P ⟨dst, .convert sT dT x,type,pos,after,guard⟩ k x call s st kv kd=some r) :
  Hands call kv kd (aY P (rdF s) ⟨dst, .convert sT dT x,type,pos,after,guard⟩ st) r:=by
 unfold cvT at hk;simp only[eU]at hk;split at hk
 ·rename_i k1 k2 h1 h2;obtain rfl:=Option.some.inj hk;unfold Qn at h;split at h
  ·rename_i k3 n hx;have hp:dN P (convert sT dT (.int k3 n))=some (.int k2 (cvI k2 n)):=by
    unfold convert;simp only[fB,iF h1,iF h2,Option.bind_some]
    rfl
   simp only[aY,h1,h2,hx,flat,if_true,hp];exact h
  ·exact di h
 ·cases hk
theorem CY{dst type pos after guard}{c:Call}{g:Int->Int->Bool}{b:Builtin}{x y:Operand}(hc1:c.callee = .builtin b)(hc2:c.args.toList=[x,y])
  (hb:∀ k k' m n,iR P b c.argTypes type (c.args.map Am) [.int k m, .int k' n] st=some (.val (.int k (if g n m=true then n else m)) st))
  (h:EI P ⟨dst, .call c,type,pos,after,guard⟩ g x y call s st kv kd=some r):Hands call kv kd (aY P (rdF s) ⟨dst, .call c,type,pos,after,guard⟩ st) r:=by
 unfold EI at h;split at h
 ·rename_i k a k' b hx hy;simp only[aY,hc1,hc2,List.map_cons,List.map_nil,hx,hy,hb];cases hg:g b a with
  |true=>rw[hg]at h; exact h
  |false=>rw[hg]at h; exact h
 ·exact di h
theorem Qk{dst type pos after guard}{t:TypeId}{x:Operand}(h:P_ P ⟨dst, .unOp .not t x,type,pos,after,guard⟩ x call s st kv kd=some r):Hands call kv kd (aY P (rdF s) ⟨dst, .unOp .not t x,type,pos,after,guard⟩ st) r:=by
 unfold P_ at h;split at h
 ·rename_i b hx;simp only[aY,hx,flat,if_true];exact h
 ·exact di h
theorem Qu{dst type pos after guard}{t:TypeId}{x:Operand}(h:QA P ⟨dst, .unOp .xor t x,type,pos,after,guard⟩ x call s st kv kd=some r):Hands call kv kd (aY P (rdF s) ⟨dst, .unOp .xor t x,type,pos,after,guard⟩ st) r:=by
 unfold QA at h;split at h
 ·rename_i k n hx;have e:dN P (Op.unary .xor (.int k n))=some (.int k (ada k n)):=by
   simp only[Op.unary,Op.intBits,ne_eq,not_true_eq_false,if_false]; rfl
  simp only[aY,hx,flat,if_true,e];exact h
 ·exact di h
theorem L_{dst type pos after guard}{c:Call}{x:Operand}(hc1:c.callee = .builtin .len)(hc2:c.args.toList=[x])(hl:uQ P c.argTypes=1)(h:Ju P ⟨dst, .call c,type,pos,after,guard⟩ x call s st kv kd=some r) :
  Hands call kv kd (aY P (rdF s) ⟨dst, .call c,type,pos,after,guard⟩ st) r:=by
 unfold uQ at hl;simp only[eU]at hl;split at hl
 ·rename_i t ht;split at hl
  ·rename_i e hu;unfold Ju at h;split at h
   ·rename_i a n cap hx;simp only[aY,hc1,hc2,List.map_cons,List.map_nil,hx,iR,ht,hu];exact h
   ·rename_i tt v hx;split at h
    ·rename_i z hz;simp only[aY,hc1,hc2,List.map_cons,List.map_nil,hx,iR,ht,hu,hz];exact h
    ·cases h
   ·exact di h
  ·cases hl
  ·cases hl
 ·cases hl
theorem MV{dst type pos after guard}{c:Call}{x:Operand}(hc1:c.callee = .builtin .cap)(hc2:c.args.toList=[x])(hl:uQ P c.argTypes=1)(h:I8 P ⟨dst, .call c,type,pos,after,guard⟩ x call s st kv kd=some r) :
  Hands call kv kd (aY P (rdF s) ⟨dst, .call c,type,pos,after,guard⟩ st) r:=by
 unfold uQ at hl;simp only[eU]at hl;split at hl
 ·rename_i t ht;split at hl
  ·rename_i e hu;unfold I8 at h;split at h
   ·rename_i a n cap hx;obtain⟨hb,h⟩:=bZ h;have hb:Nat.ble (cap+1) unk=true:=hb;simp only[aY,hc1,hc2,List.map_cons,List.map_nil,hx,iR,ht,hu,hb];exact h
   ·rename_i n cap hx;simp only[aY,hc1,hc2,List.map_cons,List.map_nil,hx,iR,ht,hu];exact h
   ·exact di h
  ·cases hl
  ·cases hl
 ·cases hl
theorem M_{dst type pos after guard}{c:Call}{x:Operand}(hc1:c.callee = .builtin .len)(hc2:c.args.toList=[x])(hl:uQ P c.argTypes=2)(h:JG P ⟨dst, .call c,type,pos,after,guard⟩ x call s st kv kd=some r) :
  Hands call kv kd (aY P (rdF s) ⟨dst, .call c,type,pos,after,guard⟩ st) r:=by
 unfold uQ at hl;simp only[eU]at hl;split at hl
 ·rename_i t ht;split at hl
  ·cases hl
  ·rename_i hu;unfold JG at h;split at h
   ·rename_i b hx;simp only[aY,hc1,hc2,List.map_cons,List.map_nil,hx,iR,ht,hu];exact h
   ·exact di h
  ·cases hl
 ·cases hl
theorem Md{size:Nat}{x:Value}{xt:TypeDesc}{str:Bool}(hxt:(match xt with | .slice _=>some false | .string=>some true | _=>none)=some str){k:Nat->List Value->Res}(h:s_tail str size st x k=some r) :
  ∃ n new,kQ st size xt x=some (n,new)/\k n new=some r:=by
 unfold s_tail at h;cases str with
 |true=>
  have:xt = .string:=by
   split at hxt
   ·cases hxt
   ·rfl
   ·cases hxt
  subst this;simp only at h;split at h
  ·obtain⟨hc,h⟩:=bZ h;exact⟨_,_,by simp only[kQ,Nat.eq_of_beq_eq_true hc,if_true],h⟩
  ·cases h
 |false=>
  have:∃ e,xt = .slice e:=by
   split at hxt
   ·exact⟨_,rfl⟩
   ·cases hxt
   ·cases hxt
  obtain⟨e,rfl⟩:=this;simp only at h;split at h
  ·rename_i a n cap;obtain⟨c,e',ex,h1,h2,h3⟩:=jf h;obtain⟨hc,h3⟩:=bZ h3;have hle:a.off+n*size<=c.length:=Nat.le_of_ble_eq_true hc;exact⟨n,(c.drop a.off).take (n*size),by simp only[kQ,cellsAt,h1,h2,Option.isSome_none,Bool.false_eq_true,if_false,hle,if_true],h3⟩
  ·rename_i n cap;obtain⟨hc,h⟩:=bZ h;exact⟨_,_,by simp only[kQ,Nat.eq_of_beq_eq_true hc,if_true],h⟩
  ·rename_i t v;split at h
   ·rename_i z hz;obtain⟨hc,h⟩:=bZ h;exact⟨_,_,by simp only[kQ,hz,Nat.eq_of_beq_eq_true hc,if_true],h⟩
   ·cases h
  ·cases h
theorem ES{slow:Res}{e:TypeId}{size n:Nat}{new:List Value}{sv:Value}(hall:new.all oneCell=true)(hsl:slow=some r->∃ v st',f_ P st e size n new sv=some (v,st')/\kv v st'=some r)(h:xN slow e size n new st sv kv=some r) :
  ∃ v st',f_ P st e size n new sv=some (v,st')/\kv v st'=some r:=by
 unfold xN at h;split at h
 ·rename_i len cap;obtain⟨hc,h'⟩:=bZ h;clear h;simp only[Bool.and_eq_true]at hc;have h1:=Nat.eq_of_beq_eq_true hc.1;have h2:=Nat.eq_of_beq_eq_true hc.2.1;have h3:=Nat.le_of_ble_eq_true hc.2.2;subst h1 h2;simp only[f_];rw[if_neg (by simp; omega)];cases hb:Nat.beq n 0 with
  |true=>
   rw[hb]at h';rw[if_pos (Nat.eq_of_beq_eq_true hb)];exact⟨_,_,rfl,h'⟩
  |false=>
   rw[hb]at h';rw[if_neg (Nat.ne_of_beq_eq_false hb)];exact⟨_,_,rfl,oK h'⟩
 ·rename_i a len cap;change @Bool.rec (fun _=>Res)
   (@Bool.rec (fun _=>Res) (@Bool.rec (fun _=>Res)
    (ae (Nat.ble (len+n) big) (jl st a fun b off c _ _ _ _=>ae (Nat.ble (Nat.add off (len*size)) c.length)
     (rf st (.cells ((c.drop off).take (len*size)++new) e false) fun a st=>kv (.slice (some a) (len+n) unk) st)))
    (@Bool.rec (fun _=>Res)
     (jl st a fun b off c e' ex heap next=>ae (and (Nat.ble (cap+1) unk) (Nat.ble (off+len*size+new.length) c.length))
      (kv (.slice (some a) (len+n) cap) ⟨dX (path b) heap (.cells (putAt c (off+len*size) new) e' ex),next⟩))
     (ae (Nat.ble (cap+1) unk) (kv (.slice (some a) len cap) st)) (Nat.beq n 0)) (Nat.ble (len+n) cap))
    (@Bool.rec (fun _=>Res)
     (ae (Nat.ble (len+n) big) (jl st a fun b off c _ _ _ _=>ae (Nat.ble (Nat.add off (len*size)) c.length)
      (rf st (.cells ((c.drop off).take (len*size)++new) e false) fun a st=>kv (.slice (some a) (len+n) unk) st)))
     (ae (Nat.ble (cap+1) unk) (kv (.slice (some a) len cap) st)) (Nat.beq n 0)) (Nat.beq cap len))
   (jl st a fun b off c e' ex heap next=>ae (and (not ex) (and (Nat.beq e' e) (and (Nat.ble off c.length) (Nat.ble (len+n) big))))
    (@Bool.rec (fun _=>Res)
     (ae (Nat.beq (Nat.add off (len*size)) c.length)
      (rf ⟨dX (path b) heap .dead,next⟩ (.cells ((c.drop off).take (len*size)++new) e false) fun a st=>kv (.slice (some a) (len+n) unk) st))
     (ae (Nat.ble (Nat.add off (len*size)) c.length) (kv (.slice (some a) len cap) st)) (Nat.beq n 0)))
   (Nat.beq cap unk)=some r at h
  cases hb:Nat.beq cap unk with
  |false=>
   rw[hb]at h;have hne:=Nat.ne_of_beq_eq_false hb
   have grow:¬len+n<=cap->(ae (Nat.ble (len+n) big) (jl st a fun b off c _ _ _ _=>ae (Nat.ble (Nat.add off (len*size)) c.length)
     (rf st (.cells ((c.drop off).take (len*size)++new) e false) fun a st=>kv (.slice (some a) (len+n) unk) st)))=some r->∃ v st',f_ P st e size n new (.slice (some a) len cap)=some (v,st')/\kv v st'=some r:=by
    intro hnle h;obtain⟨hc,h⟩:=bZ h;have hc:=Nat.le_of_ble_eq_true hc;obtain⟨c,e',ex,h1,h2,h3⟩:=jf h;obtain⟨hd,h3⟩:=bZ h3;have hd:a.off+len*size<=c.length:=Nat.le_of_ble_eq_true hd;have hcu:cap<unk:=by unfold unk; unfold big at hc; omega
    refine⟨_,_,?_,oK h3⟩;simp only[f_];rw[if_neg (by omega),if_pos hcu,if_neg hnle];simp only[cellsAt,h1,h2,Option.isSome_none,Bool.false_eq_true,if_false,hd,if_true]
    rfl
   have same:len+n<=cap->Nat.beq n 0=true->ae (Nat.ble (cap+1) unk) (kv (.slice (some a) len cap) st)=some r->∃ v st',f_ P st e size n new (.slice (some a) len cap)=some (v,st')/\kv v st'=some r:=by
    intro hle hb3 h;have hn:=Nat.eq_of_beq_eq_true hb3;obtain⟨hcu,h⟩:=bZ h;have hcu:cap<unk:=Nat.le_of_ble_eq_true hcu;refine⟨_,_,?_,h⟩;simp only[f_];rw[if_neg (by omega),if_pos hcu,if_pos hle,if_pos hn]
   cases hb0:Nat.beq cap len with
   |true=>
    rw[hb0]at h;have hcl:=Nat.eq_of_beq_eq_true hb0;cases hb3:Nat.beq n 0 with
    |true=>
     rw[hb3]at h;exact same (by have:=Nat.eq_of_beq_eq_true hb3; omega) hb3 h
    |false=>
     rw[hb3]at h;exact grow (by have:=Nat.ne_of_beq_eq_false hb3; omega) h
   |false=>
    rw[hb0]at h;cases hb2:Nat.ble (len+n) cap with
    |true=>
     rw[hb2]at h;have hle:=Nat.le_of_ble_eq_true hb2;cases hb3:Nat.beq n 0 with
     |false=>
      rw[hb3]at h;have hn:=Nat.ne_of_beq_eq_false hb3;obtain⟨c,e',ex,h1,h2,h3⟩:=jf h;obtain⟨hc,h4⟩:=bZ h3;simp only[Bool.and_eq_true]at hc;have hcu:cap<unk:=Nat.le_of_ble_eq_true hc.1;have hd:a.off+len*size+new.length<=c.length:=Nat.le_of_ble_eq_true hc.2;rw[dY]at h4;refine⟨_,_,?_,h4⟩;simp only[f_];rw[if_neg (by omega),if_pos hcu,if_pos hle,if_neg hn];have hset:setCells st (a.add (len*size)) new=some { st with heap:=st.heap.set a.block (.cells (putAt c (a.off+len*size) new) e' ex) }:=by
       obtain⟨ab,ao,asp⟩:=a;simp only at h1;subst h1;simp only[jm,setCells,Option.isSome_none,Bool.false_eq_true,if_false,h2,hd,decide_true,hall,Bool.and_self,if_true]
      rw[hset]
     |true=>rw[hb3]at h; exact same hle hb3 h
    |false=>
     rw[hb2]at h;exact grow (fun k=>by rw[Nat.ble_eq_true_of_le k]at hb2; cases hb2) h
  |true=>
   rw[hb]at h;have hcap:=Nat.eq_of_beq_eq_true hb;obtain⟨c,e',ex,h1,h2,h3⟩:=jf h;obtain⟨hc,h4⟩:=bZ h3;clear h3;simp only[Bool.and_eq_true,Bool.not_eq_true']at hc;obtain⟨hx,he,ho,hbg⟩:=hc;have he:=Nat.eq_of_beq_eq_true he;have ho:=Nat.le_of_ble_eq_true ho;have hbg:=Nat.le_of_ble_eq_true hbg;subst hx he;have hpre:f_ P st e' size n new (.slice (some a) len cap) =
    if n=0 then(if a.off+len*size<=c.length then some (.slice (some a) len cap,st)else none)else
    if a.off+(len+(cap-unk))*size=c.length then
     some (.slice (some (newRow (kill st a.block) ((c.drop a.off).take (len*size)++new) e' false).1) (len+n) unk,(newRow (kill st a.block) ((c.drop a.off).take (len*size)++new) e' false).2)
    else if cap=unk&&a.off+len*size+new.length<=c.length then
     match setCells st (a.add (len*size)) new with
     |some st=>some (.slice (some a) (len+n) cap,st)
     |none=>none
    else if cap=unk&&a.off+len*size<=c.length then
     some (.slice (some (newRow (kill st a.block) ((c.drop a.off).take (len*size)++new) e' false).1) (len+n) unk,(newRow (kill st a.block) ((c.drop a.off).take (len*size)++new) e' false).2)
    else none:=by
    simp only[f_];rw[if_neg (by omega),if_neg (by omega),h2];simp only;rw[if_neg (by simp[h1,hcap,ho])]
    rfl
   rw[hpre];cases hb3:Nat.beq n 0 with
   |true=>
    rw[hb3]at h4;obtain⟨hd,h4⟩:=bZ h4;have hd:a.off+len*size<=c.length:=Nat.le_of_ble_eq_true hd;rw[if_pos (Nat.eq_of_beq_eq_true hb3),if_pos hd];exact⟨_,_,rfl,h4⟩
   |false=>
    rw[hb3]at h4;obtain⟨hd,h4⟩:=bZ h4;have hd:a.off+len*size=c.length:=Nat.eq_of_beq_eq_true hd;rw[if_neg (Nat.ne_of_beq_eq_false hb3),if_pos (by rw[hcap,Nat.sub_self,Nat.add_zero]; exact hd)];refine⟨_,_,rfl,?_⟩;have h4:=oK h4;rw[dY]at h4;exact h4
 ·exact hsl h
theorem IE{dst type pos after guard}{t:TypeId}{x v:Operand}(ht:Vz P t=true)(h:DJ P t x v call s st kv kd=some r) :
  Hands call kv kd (aY P (rdF s) ⟨dst, .store t x v,type,pos,after,guard⟩ st) r:=by
 unfold Vz at ht;rw[nS]at ht;unfold DJ at h;split at h
 ·rename_i a hx;obtain⟨c,e,ex,h1,h2,h3⟩:=jf h;cases ex with
  |false=>
   obtain⟨hc,h4⟩:=bZ h3;simp only[Bool.and_eq_true]at hc;have hd:a.off+1<=c.length:=Nat.le_of_ble_eq_true hc.2;rw[dY]at h4;unfold jh at ht;cases hi:P.info? t with
   |none=>rw[hi]at ht; cases ht
   |some i=>
    rw[hi]at ht;have his:i.size=1:=Nat.eq_of_beq_eq_true ht;have hst:nZ P st t a (rdF s v)=some { st with heap:=st.heap.set a.block (.cells (putAt c a.off [rdF s v]) e false) }:=by
     have hv:(rdF s v).cells=#[rdF s v]/\lI (rdF s v)=false/\oneCell (rdF s v)=true:=by
      have h2:=hc.1;generalize rdF s v=y at h2;cases y with
      |chan r=>cases r with
       |none=>exact⟨rfl,rfl,rfl⟩
       |some _=>simp[oq]at h2
      |agg _=>simp[oq]at h2
      |tuple _=>simp[oq]at h2
      |_=>exact⟨rfl,rfl,rfl⟩
     obtain⟨v1,v2,v3⟩:=hv;simp[nZ,hi,v1,v2,his,setCells,h1,h2,v3,hd]
    simp only[aY,hx,hst];exact h4
  |true=>
   simp only at h3;simp only[BJ,hx]at h3;obtain⟨st',g1,g2⟩:=CS h3;simp only[aY,hx,g1];exact g2
 ·cases h
end
section
variable{P:Program}
variable{call:Knot}{s:Trie Value}{o:Oper}{st:St}{kv:Value->St->Res}{kd:Deferred->St->Res}{r:Value×St}
theorem Nl{dst type pos after guard}{c a b:Operand}(h:J3 c a b call s st kv kd=some r):Hands call kv kd (aY P (rdF s) ⟨dst, .pick c a b,type,pos,after,guard⟩ st) r:=by
 unfold J3 at h;split at h
 ·rename_i t ht;simp only[aY,ht];cases t<;>exact h
 ·cases h
theorem IG{dst type pos after guard}{c:Call}{x y:Operand}{tx ty e:TypeId}{size:Nat}{str:Bool}(hc1:c.callee = .builtin .append)(hc2:c.args.toList=[x,y])(hc3:c.argTypes.toList=[tx,ty])(hk:Jq P tx ty=some (e,size,str))
  (h:DK P ⟨dst, .call c,type,pos,after,guard⟩ e size str x y call s st kv kd=some r):Hands call kv kd (aY P (rdF s) ⟨dst, .call c,type,pos,after,guard⟩ st) r:=by
 unfold Jq at hk;simp only[eU,lw,rM]at hk;split at hk
 ·rename_i e' xt hs hx;split at hk
  ·rename_i str' ei z hxt hi hz;split at hk
   ·cases hk
   ·rename_i hcond;simp only[Option.some.injEq,Prod.mk.injEq]at hk;obtain⟨rfl,rfl,rfl⟩:=hk;have ht0:c.argTypes[0]? = some tx:=by rw[<-Array.getElem?_toList,hc3]; rfl
    have ht1:c.argTypes[1]? = some ty:=by rw[<-Array.getElem?_toList,hc3]; rfl
    have hev:aY P (rdF s) ⟨dst, .call c,type,pos,after,guard⟩ st=match lU P st tx ty (rdF s x) (rdF s y)with
     |some (v,st)=>some (.val v st)
     |none=>none:=by
     simp only[aY,hc1,hc2,List.map_cons,List.map_nil,iR,ht0,ht1];cases lU P st tx ty (rdF s x) (rdF s y)<;>rfl
    rw[hev];have happ:lU P st tx ty (rdF s x) (rdF s y)=match kQ st ei.size xt (rdF s y)with
      |some (n,new)=>if new.all oneCell then f_ P st e' ei.size n new (rdF s x)else none
      |none=>none:=by
     simp only[lU,hs,hx,hi,hz];rw[if_neg hcond];cases kQ st ei.size xt (rdF s y)<;>rfl
    have key:(∃ v st',lU P st tx ty (rdF s x) (rdF s y)=some (v,st')/\kv v st'=some r)->Hands call kv kd (match lU P st tx ty (rdF s x) (rdF s y)with
     |some (v,st)=>some (.val v st)
     |none=>none) r:=by
     rintro ⟨v,st',h1,h2⟩;rw[h1]; exact h2
    apply key;unfold DK at h;obtain⟨n,new,h1,h2⟩:=Md hxt h;obtain⟨h3,h4⟩:=bZ h2;rw[happ,h1];simp only[h3,if_true];refine ES h3 (fun hsl=>?_) h4;have:=di hsl;rw[hev,happ,h1]at this;simp only[h3,if_true]at this;cases hx:f_ P st e' ei.size n new (rdF s x)with
    |none=>rw[hx]at this; exact this.elim
    |some p=>rw[hx]at this; exact⟨p.1,p.2,rfl,this⟩
  ·cases hk
 ·cases hk
theorem EL{ik kd':IntKind}{i:Int}{f:Value->Res}{z:Res}:∀ {es:List MapEntry} (j:Nat),RH ik i f z es=some r->
  (∃ m v,Instr.findNow (.int kd') (.int ik i) es j=some (some (m,v))/\f v=some r)\/(Instr.findNow (.int kd') (.int ik i) es j=some none/\z=some r)
 |[],j,h=>Or.inr ⟨rfl,h⟩
 |e::es,j,h=>by
  have h:(match e.key with
   | .int k n=>ae (decide (ik=k)) (@Bool.rec (fun _=>Res) (RH ik i f z es) (f e.val) (eqI i n))
   |_=>none)=some r:=h
  split at h
  ·rename_i k n hk;obtain⟨hc,h'⟩:=bZ h;simp only[decide_eq_true_eq]at hc;subst hc;have hs:Instr.sameNow (.int kd') (.int ik i) e.key=some (i == n):=by rw[hk]; simp[Instr.sameNow]
   cases hq:eqI i n with
   |true=>
    rw[hq]at h';have hb:(i == n)=true:=by
     have:i=n:=of_decide_eq_true hq;simp[this]
    left;refine⟨j,e.val,?_,h'⟩;simp only[Instr.findNow,hs,hb]
   |false=>
    rw[hq]at h';have hb:(i == n)=false:=by
     have:¬i=n:=of_decide_eq_false hq;simpa using this
    rcases EL (j+1) h' with⟨m,v,h1,h2⟩ | ⟨h1,h2⟩
    ·left;refine⟨m,v,?_,h2⟩;simp only[Instr.findNow,hs,hb];exact h1
    ·right;refine⟨?_,h2⟩;simp only[Instr.findNow,hs,hb];exact h1
  ·cases h
theorem KG{dst type pos after guard}{t:TypeId}{x k:Operand}{ok:Bool}{z:Value}(hz:Q5 P t=some z)(h:Gl P ⟨dst, .lookup t x k ok,type,pos,after,guard⟩ z x k ok call s st kv kd=some r) :
  Hands call kv kd (aY P (rdF s) ⟨dst, .lookup t x k ok,type,pos,after,guard⟩ st) r:=by
 unfold Gl at h;split at h
 ·rename_i rr ik i hx hk;split at h
  ·rename_i es cl hg;rw[dQ]at hg;unfold Q5 at hz;rw[eU]at hz;split at hz
   ·rename_i kt e hu;rw[eU]at hz;split at hz
    ·rename_i kd' huk;rw[rM]at hz;have hkk:ni P kt=some (.int kd'):=by unfold ni; rw[huk]
     rcases EL (kd':=kd') 0 h with⟨m,v,h1,h2⟩ | ⟨h1,h2⟩
     ·have hf:nK P es.isEmpty kt (.int ik i) es=some (some (m,v)):=by unfold nK; rw[hkk]; exact h1
      simp only[aY,hu,hz,hx,hk,hg,hf];cases ok<;>exact h2
     ·have hf:nK P es.isEmpty kt (.int ik i) es=some none:=by unfold nK; rw[hkk]; exact h1
      simp only[aY,hu,hz,hx,hk,hg,hf];cases ok<;>exact h2
    ·cases hz
   ·cases hz
  ·exact g_ h
 ·exact g_ h
theorem JB{dst type pos after guard}{t:TypeId}{x k:Operand}{ok:Bool}{z:List Value×List Eta}(hz:Qg P t=some z)(h:FT P ⟨dst, .lookup t x k ok,type,pos,after,guard⟩ z.1 z.2 x k ok call s st kv kd=some r) :
  Hands call kv kd (aY P (rdF s) ⟨dst, .lookup t x k ok,type,pos,after,guard⟩ st) r:=by
 unfold FT at h;split at h
 ·rename_i rr key hx hk;split at h
  ·rename_i es cl hg;rw[dQ]at hg;unfold Qg at hz;rw[eU]at hz;split at hz
   ·rename_i kt e hu;split at hz
    ·rename_i z0 e0 et hi hz0 he;obtain rfl:=Option.some.inj hz;unfold isStr at hi;rw[eU]at hi;rw[rM]at hz0;split at hi
     ·rename_i huk;have hkk:ni P kt=some .string:=by unfold ni; rw[huk]
      obtain⟨hb,h⟩:=bZ h;simp only[Bool.and_eq_true]at hb;obtain⟨h1,h2,h3⟩:=hb;have h2:=Nat.eq_of_beq_eq_true h2;have h4:=vS h3 (by omega);rw[List.drop_zero,<-h2,List.take_length]at h4;rw[h4]at h;have hf:∀ b,nK P b kt (.string key) es=Instr.findNow .string (.string key) es 0:=by intro b; unfold nK; rw[hkk]; rfl
      unfold uo at h1;unfold zJ at h h2;unfold KR at h;simp only[aY,hu,hz0,hx,hk,hg,hf];cases hq:Instr.findNow .string (.string key) es 0 with
      |none=>rw[hq]at h1; cases h1
      |some o=>
       rw[hq]at h h2;cases o with
       |none=>cases ok<;>exact h
       |some p=>
        obtain⟨i,v⟩:=p;simp only at h h2;cases v with
        |agg a=>obtain⟨l⟩:=a; cases ok<;>exact h
        |_=>exact absurd h2 (by simp)
     ·cases hi
    ·cases hz
   ·cases hz
  ·exact g_ h
 ·exact g_ h
theorem MN{dst type pos after guard}{t:TypeId}{m k x:Operand}(hz:LD P t=true)(h:KY P ⟨dst, .mapUpdate t m k x,type,pos,after,guard⟩ m k x call s st kv kd=some r) :
  Hands call kv kd (aY P (rdF s) ⟨dst, .mapUpdate t m k x,type,pos,after,guard⟩ st) r:=by
 unfold KY at h;split at h
 ·rename_i rr key hx hk;split at h
  ·rename_i es cl hg;rw[dQ]at hg;unfold LD at hz;rw[eU]at hz;split at hz
   ·rename_i kt e hu;unfold isStr at hz;rw[eU]at hz;split at hz
    ·rename_i huk;have hkk:ni P kt=some .string:=by unfold ni; rw[huk]
     obtain⟨hb,h⟩:=bZ h;have hf:nK P false kt (.string key) es=Instr.findNow .string (.string key) es 0:=by unfold nK; rw[hkk]; rfl
     rw[dY]at h;simp only[aY,xg,hu,hx,hk,hg,hf];unfold uo at hb;unfold Ap at h;cases hq:Instr.findNow .string (.string key) es 0 with
     |none=>rw[hq]at hb; cases hb
     |some o=>
      rw[hq]at h;cases o with
      |none=>exact h
      |some p=>obtain⟨i,v⟩:=p; exact h
    ·cases hz
   ·cases hz
  ·exact g_ h
 ·exact g_ h
theorem II{dst type pos after guard}{t:TypeId}{x hi mx:Operand}{n:Nat}(hn:kU P t=some n)
  (h:D7 P ⟨dst, .slice t x none (some hi) (some mx),type,pos,after,guard⟩ n x hi mx call s st kv kd=some r):Hands call kv kd (aY P (rdF s) ⟨dst, .slice t x none (some hi) (some mx),type,pos,after,guard⟩ st) r:=by
 unfold kU at hn;rw[eU]at hn;split at hn
 ·rename_i e hu;rw[nS]at hn;unfold D7 at h;split at h
  ·rename_i a len cap k1 h0 k2 m0 hx hh hm;cases hb:Nat.beq cap unk with
   |false=>rw[hb]at h; exact di h
   |true=>
    rw[hb]at h;have hcap:=Nat.eq_of_beq_eq_true hb;obtain⟨c,e',ex,h1,h2,h3⟩:=jf h;obtain⟨hc,h3⟩:=bZ h3;simp only[Bool.and_eq_true]at hc;obtain⟨hc1,hc2,hc3⟩:=hc;have hc1:=Nat.le_of_ble_eq_true hc1;have hc2:=Nat.le_of_ble_eq_true hc2;have hc3:=Nat.eq_of_beq_eq_true hc3;obtain⟨hd,h3⟩:=bZ h3;simp only[gq,Bool.and_eq_true,decide_eq_true_eq]at hd;obtain⟨hd1,hd2,hd3⟩:=hd;have hd2:0<=(0:Int)/\0<=m0/\m0<=(((c.length-a.off) / n:Nat):Int):=hd2;have hd3:m0.toNat+1<=unk:=Nat.le_of_ble_eq_true hd3;have hroom:room P st a n=some ((c.length-a.off) / n):=by
     unfold room;rw[h2];simp only;rw[if_neg (by simp; omega),if_pos hc1]
    have e1:jG (rdF s mx) ((c.length-a.off) / n)=some m0.toNat:=by
     have a1:=hd2.2.1;have a2:=hd2.2.2;simp only[hm,jG,a1,a2,and_self,if_true]
    have e2:jG (rdF s hi) m0.toNat=some h0.toNat:=by
     have a1:0<=h0:=hd1.2.1;have a2:=hd1.2.2;simp only[hh,jG,a1,a2,and_self,if_true]
    have ea:(if m0.toNat=0 then a else a.add (0*n))=a:=by
     split
     ·rfl
     ·rw[Nat.zero_mul]; rfl
    have hs:qO P st n a len cap none (some (rdF s hi)) (some (rdF s mx))=some (.slice (some a) h0.toNat m0.toNat):=by
     unfold qO;rw[if_neg (by omega),if_pos hcap,hroom];simp only[e1,e2,cO];rw[if_pos (by omega),ea]
     rfl
    simp only[aY,hu,hx,hn,Option.map_none,Option.map_some,hs];exact h3
  ·exact di h
 ·cases hn
theorem Et(h:(IW P o).run call s st kv kd=some r):Hands call kv kd (aY P (rdF s) o st) r:=by
 obtain⟨dst,op,type,pos,after,guard⟩:=o;unfold IW at h;simp only at h;split at h
 ·exact Nl h
 ·split at h
  ·exact KG ‹_› h
  ·split at h
   ·exact JB ‹_› h
   ·exact g_ h
 ·split at h
  ·exact MN ‹_› h
  ·exact g_ h
 ·split at h
  ·rename_i hk;split at h
   ·exact Kv hk h
   ·exact g_ h
  ·rename_i hk;split at h
   ·split at h
    ·exact Kq hk ‹_› h
    ·exact g_ h
   ·exact g_ h
  ·exact g_ h
 ·split at h
  ·exact DZ ‹_› h
  ·exact g_ h
 ·split at h
  ·exact IE ‹_› h
  ·exact g_ h
 ·rename_i t x ix;split at h
  ·rename_i hs;unfold isStr at hs;rw[eU]at hs;split at hs
   ·exact Jg ‹_› h
   ·cases hs
  ·exact g_ h
 ·split at h
  ·exact D9 ‹_› h
  ·split at h
   ·exact Ed ‹_› h
   ·exact g_ h
 ·split at h
  ·rename_i hs;unfold isStr at hs;rw[eU]at hs;split at hs
   ·exact yS ‹_› h
   ·cases hs
  ·split at h
   ·exact KI ‹_› h
   ·exact g_ h
 ·split at h
  ·exact II ‹_› h
  ·exact g_ h
 ·split at h
  ·exact Eh ‹_› h
  ·exact Gp ‹_› h
  ·split at h
   ·exact P8 ‹_› h
   ·exact di h
 ·split at h
  ·exact Qd h
  ·exact Q4 h
  ·exact QV h
  ·exact P9 h
  ·exact Qj h
  ·exact o_ (f:=fH) (hf:=fun k a b=>by simp only[binOp,Op.intArith,ne_eq,not_true_eq_false,if_false]; rfl) h
  ·exact o_ (f:=qR) (hf:=fun k a b=>by simp only[binOp,Op.intArith,ne_eq,not_true_eq_false,if_false]; rfl) h
  ·exact o_ (f:=tK) (hf:=fun k a b=>by simp only[binOp,Op.intBits,ne_eq,not_true_eq_false,if_false]; rfl) h
  ·exact o_ (f:=orI) (hf:=fun k a b=>by simp only[binOp,Op.intBits,ne_eq,not_true_eq_false,if_false]; rfl) h
  ·exact o_ (f:=XQ) (hf:=fun k a b=>by simp only[binOp,Op.intBits,ne_eq,not_true_eq_false,if_false]; rfl) h
  ·exact o_ (f:=acM) (hf:=fun k a b=>by simp only[binOp,Op.intBits,ne_eq,not_true_eq_false,if_false]; rfl) h
  ·exact QL h
  ·exact QK h
  ·exact ul (f:=ltI) (g:=ltS) (str:=true) (hf:=fun k a b=>by simp only[binOp,Op.intCmp,ne_eq,not_true_eq_false,if_false]; rfl) (hg:=fun _ a b=>by simp only[binOp,Op.stringOp]; rfl) h
  ·exact ul (f:=leI) (g:=leS) (str:=true) (hf:=fun k a b=>by simp only[binOp,Op.intCmp,ne_eq,not_true_eq_false,if_false]; rfl) (hg:=fun _ a b=>by simp only[binOp,Op.stringOp]; rfl) h
  ·exact ul (f:=gtI) (g:=gtS) (str:=true) (hf:=fun k a b=>by simp only[binOp,Op.intCmp,ne_eq,not_true_eq_false,if_false]; rfl) (hg:=fun _ a b=>by simp only[binOp,Op.stringOp]; rfl) h
  ·exact ul (f:=geI) (g:=geS) (str:=true) (hf:=fun k a b=>by simp only[binOp,Op.intCmp,ne_eq,not_true_eq_false,if_false]; rfl) (hg:=fun _ a b=>by simp only[binOp,Op.stringOp]; rfl) h
 ·exact Qk h
 ·exact Qu h
 ·rename_i c;split at h
  ·rename_i h1 h2 h3;split at h
   ·rename_i r' hr;exact IG h1 h2 h3 hr h
   ·exact g_ h
  ·rename_i h1 h2;split at h
   ·exact L_ h1 h2 ‹_› h
   ·exact M_ h1 h2 ‹_› h
   ·exact di h
  ·rename_i h1 h2;split at h
   ·exact MV h1 h2 ‹_› h
   ·exact di h
  ·rename_i h1 h2;exact CY h1 h2 (g:=ltI) (fun k _ m n=>by
    have e:(if ltI n m=true then n else m)=abE m n:=by simp[abE,ltI]
    rw[e]; rfl) h
  ·rename_i h1 h2;exact CY h1 h2 (g:=gtI) (fun k _ m n=>by
    have e:(if gtI n m=true then n else m)=abH m n:=by simp[abH,gtI]
    rw[e]; rfl) h
  ·exact g_ h
 ·exact g_ h
end
def acj(P:Program):Eng:=⟨IW P,fun ct=>drawM P (IW P) ct⟩
theorem ZW(P:Program)(ct:Ct):EngOk P ct (acj P) where
 comp:=fun h=>Et h
 draw:=by
  intro call hc ops nt ro s d st k r h;exact Qq (fun h=>Et h) hc h
theorem iP{b:Bool}{x y:Res}(h:b=true)(k:x=y):ae b x=y:=by subst h; exact k
theorem lJ{b:Bool}{x y z:Res}(h:b=true)(k:x=z):ak b x y=z:=by subst h; exact k
theorem k_{b:Bool}{x y z:Res}(h:b=false)(k:y=z):ak b x y=z:=by subst h; exact k
theorem Dh:∀ {l:List Value},(l.all fun v=>match v with | .int _ _ | .bool _ | .string _ | .chan _=>true | _=>false)=true->bU (.agg ⟨l⟩) (.agg ⟨l⟩)=true
 |l,h=>by
  show jg l l=true
  induction l with
  |nil=>rfl
  |cons v l ih=>
   simp only[List.all_cons,Bool.and_eq_true]at h;simp only[jg,ih h.2,Bool.and_true];obtain⟨h1,_⟩:=h;cases v<;>first | (simp at h1; done) | simp[bU]
theorem Bc{v v':Value}{bs bs':List Blk}(h:v=v')(k:bs=bs'):(some (v,af bs):Res)=some (v',af bs'):=by rw[h,k]
theorem kE{a b:Bool}(h:a=true)(k:b=true):Bool.and a b=true:=by rw[h,k]; rfl
theorem lY{a b:Nat}(h:a<=b):Nat.ble a b=true:=Nat.ble_eq_true_of_le h
theorem tH{a b:Nat}(h:a=b):Nat.beq a b=true:=by rw[h]; exact Nat.beq_refl b
theorem jk{i:Int}{n:Nat}(h:0<=i)(k:i<n):inI i n=true:=by simp[inI,h,k]
theorem mW{l h:Int}{n:Nat}(h1:0<=l)(h2:l<=h)(h3:h<=n):gq l h n=true:=by simp[gq,h1,h2,h3]
def bc(l:List UInt8):List Value:=l.map fun b=> .int .u8 b.toNat
theorem ah(l:List UInt8):(bc l).length=l.length:=by simp[bc]
theorem v_(a b:List UInt8):bc (a++b)=bc a++bc b:=by simp[bc]
theorem uz:∀ (l:List UInt8),gy (bc l)=true
 |[]=>rfl
 |b::l=>by
  show(flat (.int .u8 b.toNat)&&gy (bc l))=true;rw[uz l]; rfl
theorem aP(z:Bool)(ρ:Nat->Option Nat)(l:List UInt8):aZ z ρ (bc l)=bc l:=qI (uz l)
theorem SI(b:UInt8):byteOf (.int .u8 b.toNat)=b:=by
 show UInt8.ofNat (Int.toNat (b.toNat:Int))=b;simp
theorem aO(l:List UInt8):(bc l).map byteOf=l:=by
 unfold bc;rw[List.map_map];have:(byteOf∘fun b:UInt8=>Value.int .u8 b.toNat)=id:=by funext b; exact SI b
 rw[this,List.map_id]
theorem adx{l:List UInt8}{i:Nat}(h:i<l.length):aU (bc l) i = .int .u8 (l[i].toNat):=by
 unfold aU bc;rw[List.getD_eq_getElem?_getD,List.getElem?_map,List.getElem?_eq_getElem h]
 rfl
theorem bu(l:List UInt8):(bc l).all oneCell=true:=by
 unfold bc;rw[List.all_map,List.all_eq_true];intro b _
 rfl
theorem Wv(c:List Value):takeC (Nat.mul c.length 1) (bT 0 c)=c:=by
 show(c.drop 0).take (c.length*1)=c;simp
def Bq(v:Value):Bool:=match v with
 | .int .u8 n=>decide (0<=n/\n<256)
 |_=>false
def tq(c:List Value):Bool:=c.all Bq
theorem Nq(n:Int):Bq (.int .u8 n)=decide (0<=n/\n<256):=rfl
theorem zK:∀ (l:List UInt8),tq (bc l)=true
 |[]=>rfl
 |b::l=>by
  have h:tq (bc (b::l))=(Bq (.int .u8 b.toNat)&&tq (bc l)):=by simp only[tq,bc,List.map_cons,List.all_cons]
  have:=b.toNat_lt;rw[h,zK l,Nq];simp only[Bool.and_true,decide_eq_true_eq];omega
theorem Q3:∀ {c:List Value},tq c=true->c=bc (c.map byteOf)
 |[],_=>rfl
 |v::c,h=>by
  simp only[tq,List.all_cons,Bool.and_eq_true]at h;obtain⟨h1,h2⟩:=h;unfold Bq at h1;split at h1
  ·rename_i n;simp only[decide_eq_true_eq]at h1;have ih:=Q3 (c:=c) h2;show _=Value.int .u8 (byteOf (.int .u8 n)).toNat::bc (c.map byteOf);rw[<-ih];congr 2;show n=((UInt8.ofNat n.toNat).toNat:Int)
   simp only[UInt8.toNat_ofNat'];omega
  ·cases h1
theorem wrap64{n:Int}(h1:-9223372036854775808<=n)(h2:n<9223372036854775808):IntKind.i64.wrap n=n:=by
 have e:IntKind.i64.wrap n=if n % 18446744073709551616>=9223372036854775808 then n % 18446744073709551616-18446744073709551616 else n % 18446744073709551616:=by
  show(if(true&&decide (n % (2^64:Int)>=(2^(64-1):Int)))=true then n % (2^64:Int)-(2^64:Int)else n % (2^64:Int))=_;have e1:(2:Int)^(64-1)=9223372036854775808:=by decide
  have e2:(2:Int)^64=18446744073709551616:=by decide
  rw[e1,e2];simp only[Bool.true_and,decide_eq_true_eq]
 rw[e];split<;>omega
theorem toList_data(b:ByteArray):b.toList=b.data.toList:=by
 first
  |exact ByteArray.toList_eq b
  |exact Go.ByteArray.toList_eq b
  |exact _root_.ByteArray.toList_eq b
theorem aeM(a b:ByteArray):eqS a b=(a.data.toList == b.data.toList):=by unfold eqS; rw[toList_data,toList_data]
theorem Vl(a b:ByteArray):neS a b=!(a.data.toList == b.data.toList):=by unfold neS; rw[toList_data,toList_data]
end Go.VS
end

noncomputable section
namespace Go.VS
open Go.RowKit
section
variable{P:Program}{ct:Ct}
theorem Rel.part{K:Prot}{β:Env}{st st0:St}{w:World}(h:Rel P K β st w)(hnx:st0.next=st.next)(hsub:∀ i b,st0.heap.get i=some b->b.live=true->st.heap.get i=some b)
  (hno:∀ i o,st0.heap.get i≠some (.obj o)) :
  ∃ K':Prot,(∀ k,K k->K' k)/\K'.id=K.id/\Rel P K' β st0 w/\∀ (β':Env) (st1 st2:St) (w':World),β.le β'->Rel P K' β' st1 w'->Bel K' w w'->st.next<=st1.next->(∀ i o,st1.heap.get i≠some (.obj o))->
   st2.next=st1.next->(∀ i b,st2.heap.get i=some b->b.live=true->st1.heap.get i=some b\/((∀ c,st1.heap.get i=some c->c.live=false)/\(∀ c,st0.heap.get i=some c->c.live=false)/\st.heap.get i=some b))->
   (∀ i o,st.heap.get i=some (.obj o)->(∀ c,st1.heap.get i=some c->c.live=false)->st2.heap.get i=some (.obj o))->Rel P K β' st2 w':=by
 obtain⟨hgi,fp,o1,o2⟩:=h.objs;have hobjs:=h.objs
 let gone:Nat->Prop:=fun k=>∃ i b l,st.heap.get i=some b/\b.live=true/\(∀ c,st0.heap.get i=some c->c.live=false)/\β (i:Int)=some l/\l.virt=false/\l.blk=k
 let foot:Nat->Prop:=fun k=>∃ i,fp i k
 let K':Prot:=⟨fun k=>K k\/gone k\/foot k,K.id,fun k=>K.nofz k\/gone k\/foot k,K.obs,fun k h=>h.imp (K.sub k) fun h=>h⟩
 have hr0:Rel P K' β st0 w:=by
  refine⟨fun k hk=>?_,fun i l hi=>by rw[hnx]; exact h.dom i l hi,fun i b hi hb=>?_,fun i j bi bj li lj hi hbi hj hbj=>h.inj i j bi bj li lj (hsub i bi hi hbi) hbi (hsub j bj hj hbj) hbj,fun i hi=>by rw[hnx]; exact h.res i hi,fun k l hk=>?_,fun k l hk=>?_,?_⟩
  ·rcases hk with hk | ⟨i,b,l,a1,a2,a3,a4,a5,rfl⟩ | ⟨i,hk⟩
   ·exact h.base k hk
   ·exact(h.dom i l a4).2 a5
   ·exact(o2 i k hk).2.1
  ·obtain⟨l,c1,c2,c3⟩:=h.blk i b (hsub i b hi hb) hb;refine⟨l,c1,fun hv hK=>?_,c3⟩;rcases hK with hK | ⟨j,bj,lj,a1,a2,a3,a4,a5,a6⟩ | ⟨j,hK⟩
   ·exact c2 hv hK
   ·have:=h.inj i j b bj l lj (hsub i b hi hb) hb a1 a2 c1 a4 hv a5 a6.symm;subst this;have:=a3 b hi;rw[hb]at this; cases this
   ·have:=(o2 j _ hK).2.2.2.2.2 i b l (hsub i b hi hb) hb c1 hv rfl;subst this;obtain⟨⟨o,ho⟩,_⟩:=o2 i _ hK;rw[hsub i b hi hb]at ho;cases ho;exact hno i o hi
  ·rintro (hf | ⟨j,bj,lj,a1,a2,a3,a4,a5,a6⟩ | ⟨j,hK⟩)
   ·exact h.nofz k l hk hf
   ·exact(h.frz k l hk).2.2 j bj lj a1 a2 a4 a5 a6
   ·have:=(o2 j k hK).2.2.2.1;rw[hk]at this; cases this
  ·obtain⟨f1,f2,f3⟩:=h.frz k l hk;exact⟨f1,f2,fun j bj lj hj hbj=>f3 j bj lj (hsub j bj hj hbj) hbj⟩
  ·exact⟨hgi,fun _ _=>False,fun i o hi=>absurd hi (hno i o),fun i k hk=>hk.elim⟩
 refine⟨K',fun k hk=>Or.inl hk,rfl,hr0,fun β' st1 st2 w' hle h1 hb hnx1 hno1 hnx2 hget hobj=>?_⟩;have hrest:∀ (i:Nat) b,st.heap.get i=some b->b.live=true->(∀ c,st0.heap.get i=some c->c.live=false)->∃ l,β i=some l/\β' i=some l/\(l.virt=false->¬K l.blk/\gone l.blk)/\gW P β' l b w'.heap[l.blk]?:=by
  intro i b hi hl hn;obtain⟨l,c1,c2,c3⟩:=h.blk i b hi hl;refine⟨l,c1,hle _ _ c1,fun hv=>⟨c2 hv,⟨i,b,l,hi,hl,hn,c1,hv,rfl⟩⟩,?_⟩;cases hv:l.virt with
  |true=>exact(c3.mono hle).anywhere hv _
  |false=>rw[hb.block l.blk (Or.inr (Or.inl ⟨i,b,l,hi,hl,hn,c1,hv,rfl⟩))]; exact c3.mono hle
 refine⟨fun k hk=>Nat.lt_of_lt_of_le (h.base k hk) hb.size,fun i l hi=>by rw[hnx2]; exact h1.dom i l hi,fun i b hi hl=>?_,fun i j bi bj li lj hi hbi hj hbj hli hlj v1 v2 e=>?_,fun i hi=>by rw[hnx2]; exact h1.res i hi,fun k l hk hf=>h1.nofz k l hk (Or.inl hf),fun k l hk=>?_,?_⟩
 ·rcases hget i b hi hl with g | ⟨_,g2,g3⟩
  ·obtain⟨l,c1,c2,c3⟩:=h1.blk i b g hl;exact⟨l,c1,fun hv hK=>c2 hv (Or.inl hK),c3⟩
  ·obtain⟨l,_,c1,c2,c3⟩:=hrest i b g3 hl g2;exact⟨l,c1,fun hv=>(c2 hv).1,c3⟩
 ·rcases hget i bi hi hbi with g | ⟨_,g2,g3⟩<;>rcases hget j bj hj hbj with g' | ⟨_,g2',g3'⟩
  ·exact h1.inj i j bi bj li lj g hbi g' hbj hli hlj v1 v2 e
  ·obtain⟨l,c0,c1,c2,_⟩:=hrest j bj g3' hbj g2';rw[c1]at hlj; obtain rfl:=Option.some.inj hlj;obtain⟨l',d1,d2,_⟩:=h1.blk i bi g hbi;rw[d1]at hli; obtain rfl:=Option.some.inj hli;exact absurd (Or.inr (Or.inl (e▸(c2 v2).2))) (d2 v1)
  ·obtain⟨l,c0,c1,c2,_⟩:=hrest i bi g3 hbi g2;rw[c1]at hli; obtain rfl:=Option.some.inj hli;obtain⟨l',d1,d2,_⟩:=h1.blk j bj g' hbj;rw[d1]at hlj; obtain rfl:=Option.some.inj hlj;exact absurd (Or.inr (Or.inl (e▸(c2 v1).2))) (d2 v2)
  ·obtain⟨l,c0,c1,_⟩:=hrest i bi g3 hbi g2;obtain⟨l',c0',c1',_⟩:=hrest j bj g3' hbj g2';rw[c1]at hli; obtain rfl:=Option.some.inj hli;rw[c1']at hlj; obtain rfl:=Option.some.inj hlj;exact h.inj i j bi bj _ _ g3 hbi g3' hbj c0 c0' v1 v2 e
 ·obtain⟨f1,f2,f3⟩:=h1.frz k l hk;refine⟨f1,f2,fun j bj lj hj hbj hlj hv=>?_⟩;rcases hget j bj hj hbj with g | ⟨_,g2,g3⟩
  ·exact f3 j bj lj g hbj hlj hv
  ·obtain⟨l',_,c1,c2,_⟩:=hrest j bj g3 hbj g2;rw[c1]at hlj; obtain rfl:=Option.some.inj hlj;intro e;exact h1.nofz k l hk (Or.inr (Or.inl (e▸(c2 hv).2)))
 ·refine⟨h1.objs.1,fp,fun i o hi=>?_,fun i k hk=>?_⟩
  ·have hi':st.heap.get i=some (.obj o):=by
    rcases hget i _ hi rfl with g | ⟨_,_,g⟩
    ·exact absurd g (hno1 i o)
    ·exact g
   obtain⟨l,a,b,c⟩:=o1 i o hi';refine⟨l,hle _ _ a,b,K.obs.mono _ _ _ _ _ _ _ c (vP hle) hb.size (fun k hk=>hb.block k (Or.inr (Or.inr ⟨i,hk⟩))) fun k l hk=>?_⟩;obtain⟨_,f2,_⟩:=h.frz k l hk;obtain⟨_,f2',_⟩:=h1.frz k l (hle _ _ hk);rw[f2,f2']
  ·obtain⟨⟨o,ho⟩,a1,a2,a3,a4,a5⟩:=o2 i k hk;have hdead:∀ c,st1.heap.get i=some c->c.live=false:=by
    intro c hc;cases hcl:c.live with
    |false=>rfl
    |true=>
     obtain⟨l',d1,d2,_⟩:=h1.blk i c hc hcl;obtain⟨l,e1,e2,e3⟩:=h.blk i _ ho rfl;have e3:l.virt=false:=e3;rw[hle _ _ e1]at d1;obtain rfl:=Option.some.inj d1;refine absurd (Or.inr (Or.inl ⟨i, .obj o,l,ho,rfl,fun c hc=>?_,e1,e3,rfl⟩)) (d2 e3);cases hcl:c.live with
     |false=>rfl
     |true=>
      have:=hsub i c hc hcl;rw[ho]at this;obtain rfl:=Option.some.inj this;exact absurd hc (hno i o)
   refine⟨⟨o,hobj i o ho hdead⟩,Nat.lt_of_lt_of_le a1 hb.size,a2,?_,a4,fun j bj lj hj hbj hlj hv e=>?_⟩
   ·cases hx:β' (Int.negSucc k)with
    |none=>rfl
    |some l=>exact absurd (Or.inr (Or.inr ⟨i,hk⟩)) (h1.nofz k l hx)
   ·rcases hget j bj hj hbj with g | ⟨_,g2,g3⟩
    ·obtain⟨l',d1,d2,_⟩:=h1.blk j bj g hbj;rw[d1]at hlj; obtain rfl:=Option.some.inj hlj;exact absurd (Or.inr (Or.inr ⟨i,e▸hk⟩)) (d2 hv)
    ·obtain⟨l',c0,c1,_⟩:=hrest j bj g3 hbj g2;rw[c1]at hlj; obtain rfl:=Option.some.inj hlj;exact a5 j bj _ g3 hbj c0 hv e
structure Memo where
 g:FuncId
 args:List Value
 next:Nat
 pre:List (Nat×Blk)
 v:Value
 next':Nat
 post:List (Nat×Blk)
def wL(l:List (Nat×Blk)):Trie Blk->Trie Blk:=
 @List.rec (Nat×Blk) (fun _=>Trie Blk->Trie Blk) (fun t=>t) (fun p _ ih t=>ih (dX (path p.1) t p.2)) l
def Rk(l:List (Nat×Blk)):Trie Blk->Trie Blk:=
 @List.rec (Nat×Blk) (fun _=>Trie Blk->Trie Blk) (fun t=>t) (fun p _ ih t=>ih (dX (path p.1) t .dead)) l
def DF(l:List (Nat×Blk))(next:Nat):St:=⟨wL l .leaf,next⟩
def Qc:List MapEntry->List MapEntry->Bool
 |[],[]=>true
 |x::xs,y::ys=>bU x.key y.key&&bU x.val y.val&&Nat.beq x.born y.born&&Qc xs ys
 |_,_=>false
def Dt:Blk->Blk->Bool
 | .cells c e x, .cells c' e' x'=>Nat.beq e e'&&(x == x')&&jg c c'
 | .map es c, .map es' c'=>Nat.beq c c'&&Qc es es'
 |_,_=>false
theorem OH:∀ {a b:List MapEntry},Qc a b=true->a=b
 |[],[],_=>rfl
 |[],_::_,h=>by cases h
 |_::_,[],h=>by cases h
 |x::xs,y::ys,h=>by
  simp only[Qc,Bool.and_eq_true]at h;obtain⟨⟨⟨h1,h2⟩,h3⟩,h4⟩:=h;obtain⟨k,v,b⟩:=x;obtain⟨k',v',b'⟩:=y;simp only at h1 h2 h3;rw[rY _ _ h1,rY _ _ h2,Nat.eq_of_beq_eq_true h3,OH h4]
theorem Y3{a b:Blk}(h:Dt a b=true):a=b:=by
 unfold Dt at h;split at h
 ·simp only[Bool.and_eq_true,beq_iff_eq]at h;rw[Nat.eq_of_beq_eq_true h.1.1,h.1.2,Di _ _ h.2]
 ·simp only[Bool.and_eq_true]at h;rw[Nat.eq_of_beq_eq_true h.1,OH h.2]
 ·cases h
theorem RU{a b:Blk}(h:Dt a b=true):a.live=true/\a.isObj=false:=by
 unfold Dt at h;split at h<;>first | exact⟨rfl,rfl⟩ | cases h
def P5(t:Trie Blk)(l:List (Nat×Blk)):Bool:=
 @List.rec (Nat×Blk) (fun _=>Bool) true (fun p _ ih=>match dZ (path p.1) t with
  |some b=>@Bool.rec (fun _=>Bool) false ih (Dt p.2 b)
  |none=>false) l
def Bf(l:List (Nat×Blk))(i:Nat)(d:Option Blk):Option Blk:=match l with
 |[]=>d
 |p::l=>Bf l i (if i=p.1 then some p.2 else d)
theorem uS:∀ (l:List (Nat×Blk)) (t:Trie Blk) (i:Nat),(wL l t).get i=Bf l i (t.get i)
 |[],t,i=>rfl
 |p::l,t,i=>by
  show(wL l (dX (path p.1) t p.2)).get i=_;rw[uS l,dY,Trie.get_set]
  rfl
theorem Uk:∀ (l:List (Nat×Blk)) (t:Trie Blk) (i:Nat),(Rk l t).get i=if i∈l.map (·.1)then some .dead else t.get i
 |[],t,i=>by simp[Rk]
 |p::l,t,i=>by
  show(Rk l (dX (path p.1) t .dead)).get i=_;rw[Uk l,dY,Trie.get_set];by_cases h:i∈l.map (·.1)
  ·rw[if_pos h,if_pos (by simp only[List.map_cons,List.mem_cons]; exact Or.inr h)]
  ·rw[if_neg h];by_cases h2:i=p.1
   ·rw[if_pos h2,if_pos (by simp[h2])]
   ·rw[if_neg h2,if_neg (by simp only[List.map_cons,List.mem_cons,not_or]; exact⟨h2,h⟩)]
theorem pO:∀ (l:List (Nat×Blk)) (i:Nat) (d:Option Blk),(i∉l.map (·.1)/\Bf l i d=d)\/(i∈l.map (·.1)/\∃ b,(i,b)∈l/\Bf l i d=some b)
 |[],i,d=>Or.inl ⟨by simp,rfl⟩
 |p::l,i,d=>by
  simp only[Bf];rcases pO l i (if i=p.1 then some p.2 else d)with⟨h1,h2⟩ | ⟨h1,b,h2,h3⟩
  ·by_cases h:i=p.1
   ·refine Or.inr ⟨by simp[h],p.2,by rw[h]; simp,?_⟩;rw[h2,if_pos h]
   ·refine Or.inl ⟨by simp only[List.map_cons,List.mem_cons,not_or]; exact⟨h,h1⟩,?_⟩;rw[h2,if_neg h]
  ·exact Or.inr ⟨by simp only[List.map_cons,List.mem_cons]; exact Or.inr h1,b,List.mem_cons_of_mem _ h2,h3⟩
theorem DX{t:Trie Blk}:∀ {l:List (Nat×Blk)},P5 t l=true->∀ {i b},(i,b)∈l->t.get i=some b/\b.live=true/\b.isObj=false
 |[],_,i,b,h=>by cases h
 |p::l,hm,i,b,h=>by
  change (match dZ (path p.1) t with
   |some b=>@Bool.rec (fun _=>Bool) false (P5 t l) (Dt p.2 b)
   |none=>false)=true at hm
  rw[dQ]at hm;split at hm
  ·rename_i b' hb';cases hq:Dt p.2 b' with
   |false=>rw[hq]at hm; cases hm
   |true=>
    rw[hq]at hm;rcases List.mem_cons.1 h with h | h
    ·subst h;obtain rfl:=Y3 hq;exact⟨hb',RU hq⟩
    ·exact DX hm h
  ·cases hm
def AP(P:Program)(m:Memo):Prop:=∀ K β w args' cs,VRL β m.args args'.toList->Rel P K β (DF m.pre m.next) w->oJ P K β m.g args' .normal cs w m.v (DF m.post m.next')/\m.next<=m.next'/\∀ i b,(i,b)∈m.post->b.live=true/\b.isObj=false
def QW(m:Memo)(v:Value)(st:St):Res:=
 @Bool.rec (fun _=>Res) none (some (.bool true,st)) (and (bU m.v v) (and (Nat.beq m.next' st.next) (and (P5 st.heap m.post) (Nat.ble m.next m.next'))))
def Ya(P:Program)(E:Eng)(ct:Ct)(n:Nat)(m:Memo):Bool:=
 match(o9 P E ct n n).call m.g m.args (DF m.pre m.next) (QW m)with
 |some _=>true
 |none=>false
theorem AP.ev(hN:noNum P=true)(hct:CtOk P ct){i:Nat}{m:Memo}{v1:Value}{st1:St}{r:Value×St}(h1:iE P ct i m.g m.args (DF m.pre m.next)=some (v1,st1))(h2:QW m v1 st1=some r):AP P m:=by
 intro K β w args' cs ha hr;obtain⟨β1,fr,w1,v',a1,a2,a3,a4,a5,a6⟩:=(gU hN hct i K).call m.g m.args (DF m.pre m.next) v1 st1 h1 β w args' .normal cs (Or.inl rfl) ha hr;unfold QW at h2;cases hb:(and (bU m.v v1) (and (Nat.beq m.next' st1.next) (and (P5 st1.heap m.post) (Nat.ble m.next m.next'))))with
 |false=>rw[hb]at h2; cases h2
 |true=>
  simp only[Bool.and_eq_true]at hb;obtain⟨b1,b2,b3,b4⟩:=hb;obtain rfl:=rY _ _ b1;have b2:=Nat.eq_of_beq_eq_true b2;refine⟨⟨β1,fr,w1,v',a1,a2,?_,a4,a5,a6⟩,Nat.le_of_ble_eq_true b4,fun i b hi=>(DX b3 hi).2⟩;have hg:∀ i b,(DF m.post m.next').heap.get i=some b->st1.heap.get i=some b/\b.isObj=false:=by
   intro i b hi;have:(DF m.post m.next').heap.get i=Bf m.post i none:=by
    show(wL m.post .leaf).get i=_;rw[uS]; rfl
   rw[this]at hi;rcases pO m.post i none with⟨_,e⟩ | ⟨_,b',hb',e⟩
   ·rw[e]at hi; cases hi
   ·rw[e]at hi; obtain rfl:=Option.some.inj hi;obtain⟨q1,q2,q3⟩:=DX b3 hb';exact⟨q1,q3⟩
  refine⟨a3.base,fun i l hi=>by show i<m.next'/\_; rw[b2]; exact a3.dom i l hi,fun i b hi hl=>a3.blk i b (hg i b hi).1 hl,fun i j bi bj li lj hi hbi hj hbj=>a3.inj i j bi bj li lj (hg i bi hi).1 hbi (hg j bj hj).1 hbj,
   fun i hi=>by show i<m.next'/\_; rw[b2]; exact a3.res i hi,a3.nofz,fun k l hk=>?_,?_⟩
  ·obtain⟨f1,f2,f3⟩:=a3.frz k l hk;exact⟨f1,f2,fun j bj lj hj hbj=>f3 j bj lj (hg j bj hj).1 hbj⟩
  ·exact⟨a3.objs.1,fun _ _=>False,fun i o hi=>(by have:=(hg i _ hi).2; cases this),fun i k hk=>hk.elim⟩
theorem AP.of{E:Eng}(hE:EngOk P ct E)(hN:noNum P=true)(hct:CtOk P ct){n:Nat}{m:Memo}(h:Ya P E ct n m=true):AP P m:=by
 unfold Ya at h;split at h
 ·rename_i r hk;obtain⟨i,v1,st1,h1,h2⟩:=(jP hE n n).call _ _ _ _ _ hk;exact AP.ev hN hct h1 h2
 ·cases h
end
section
variable{P:Program}{ct:Ct}
def oz(ρ:Nat->Option Nat):Blk->Blk
 | .cells c e x=> .cells (aZ true ρ c) e x
 | .map es c=> .map (bD true ρ es) c
 | .siter s p=> .siter s p
 | .loop x=>Bv true ρ x
 | .deferred=> .deferred
 |_=> .dead
theorem D5{ρ:Nat->Option Nat}{β β':Env}(h:RenOk true ρ β β'){l:Loc}{b:Blk}{o:Option Obj}(r:gW P β l b o):gW P β' l (oz ρ b) o:=by
 cases b with
 |cells c e x=>exact uH h (b:= .cells c e x) r
 |map es c=>exact uH h (b:= .map es c) r
 |siter s p=>exact uH h (b:= .siter s p) r
 |loop x=>exact Ig h r
 |deferred=>exact r
 |_=>exact trivial
theorem jZ{ρ:Nat->Option Nat}{b:Blk}(h:(oz ρ b).live=true):b.live=true:=by cases b<;>first | rfl | cases h
theorem rU{ρ:Nat->Option Nat}{b:Blk}{o:Ob}:oz ρ b≠ .obj o:=by cases b<;>simp[oz,Af]
def uK(st:St)(bs:List Blk):St:=⟨wF (bs.map (oz (fF st.next))) st.next st.heap,st.next+bs.length⟩
def pX(l:List Nat):Trie Blk->Trie Blk:=@List.rec Nat (fun _=>Trie Blk->Trie Blk) (fun t=>t) (fun i _ ih t=>ih (dX (path i) t .dead)) l
theorem sZ:∀ (l:List Nat) (t:Trie Blk) (i:Nat),(pX l t).get i=if i∈l then some .dead else t.get i
 |[],t,i=>by simp[pX]
 |p::l,t,i=>by
  show(pX l (dX (path p) t .dead)).get i=_;rw[sZ l,dY,Trie.get_set];by_cases h:i∈l
  ·rw[if_pos h,if_pos (List.mem_cons_of_mem _ h)]
  ·rw[if_neg h];by_cases h2:i=p
   ·rw[if_pos h2,if_pos (by simp[h2])]
   ·rw[if_neg h2,if_neg (by simp only[List.mem_cons,not_or]; exact⟨h2,h⟩)]
theorem qY(st:St)(bs:List Blk)(i:Nat):(uK st bs).heap.get i=if st.next<=i/\i<st.next+bs.length then(bs[i-st.next]?).map (oz (fF st.next))else st.heap.get i:=by
 simp only[uK,nP,List.length_map,List.getElem?_map]
def vg(n:Nat)(β β1:Env):Env
 | .ofNat i=>if i<n then β (i:Int)else β1 ((i-n:Nat):Int)
 | .negSucc k=>β1 (.negSucc k)
theorem Xx{K:Prot}{β:Env}{st:St}{w:World}(h:Rel P K β st w){src:List Nat}(hnd:src.Nodup)(hcells:∀ b∈src,∃ x,st.heap.get b=some x/\Eb x=true) :
  ∃ K':Prot,(∀ k,K k->K' k)/\(∀ i,¬K'.id i)/\Rel P K' (gu 0 src β) (af (src.map fun b=>ku true (bY 0 src) (st.heap.get b))) w/\
   ∀ (β1:Env) (bs1:List Blk) (w1:World),leN 0 (gu 0 src β) β1->Rel P K' β1 (af bs1) w1->Bel K' w w1->
    β.le (vg st.next β β1)/\Rel P K (vg st.next β β1) (uK ⟨pX src st.heap,st.next⟩ bs1) w1/\RenOk true (fF st.next) β1 (vg st.next β β1):=by
 let st0:St:=⟨wL (src.map fun b=>(b,(st.heap.get b).getD .dead)) .leaf,st.next⟩
 have h0:∀ i,st0.heap.get i=if i∈src then st.heap.get i else none:=by
  intro i;show(wL _ .leaf).get i=_;rw[uS];rcases pO (src.map fun b=>(b,(st.heap.get b).getD .dead)) i ((Trie.leaf:Trie Blk).get i)with⟨n,e⟩ | ⟨n,b',hb',e⟩
  ·rw[e];have:i∉src:=fun hi=>n (by simp only[List.map_map,List.mem_map]; exact⟨i,hi,rfl⟩);rw[if_neg this]; rfl
  ·rw[e];obtain⟨j,hj,hje⟩:=List.mem_map.1 hb';simp only[Prod.mk.injEq]at hje;obtain⟨rfl,rfl⟩:=hje;obtain⟨x,hc,hcm⟩:=hcells j hj;rw[if_pos hj,hc]; rfl
 obtain⟨K1,k1,k2,k3,k4⟩:=h.part (st0:=st0) rfl (fun i b hi _=>by
  rw[h0]at hi;split at hi
  ·exact hi
  ·cases hi) (fun i o hi=>by
  rw[h0]at hi;split at hi
  ·rename_i hm;obtain⟨x,hc,hcm⟩:=hcells i hm;rw[hc]at hi; cases hi; cases hcm
  ·cases hi)
 let K':Prot:=⟨K1.blk,fun _=>False,K1.nofz,K1.obs,K1.sub⟩
 have r0:Rel P K' β st0 w:=⟨k3.base,k3.dom,k3.blk,k3.inj,fun i hi=>hi.elim,k3.nofz,k3.frz,k3.objs⟩
 have hmid:=iZ (N:=0) (src:=src) r0 (fun i hi=>hi.elim) (Nat.zero_le _) hnd (fun b hb=>by
  obtain⟨x,hc,hcm⟩:=hcells b hb
  exact⟨x,by rw[h0,if_pos hb]; exact hc,hcm⟩)
 have hms:(src.map fun b=>ku true (bY 0 src) (st0.heap.get b))=src.map fun b=>ku true (bY 0 src) (st.heap.get b):=by
  apply List.map_congr_left;intro b hb;rw[h0,if_pos hb]
 refine⟨K',k1,fun i hi=>hi,by rw[<-hms]; exact hmid,fun β1 bs1 w1 hle h1 hb=>?_⟩;have hneg:∀ k l,β (Int.negSucc k)=some l->β1 (Int.negSucc k)=some l:=fun k l hk=>hle (Int.negSucc k) l (Int.negSucc_lt_zero k) hk;have hple:β.le (vg st.next β β1):=by
  intro i l hi;cases i with
  |negSucc k=>exact hneg k l hi
  |ofNat i=>
   have:=(h.dom i l hi).1;show(if i<st.next then β (i:Int)else _)=_;rw[if_pos this]; exact hi
 have hren:RenOk true (fF st.next) β1 (vg st.next β β1):=by
  refine⟨fun b b' l hb hl=>?_,fun _ k l hk=>hk⟩;obtain rfl:=Option.some.inj hb;show(if st.next+b<st.next then β ((st.next+b:Nat):Int)else β1 ((st.next+b-st.next:Nat):Int))=_;rw[if_neg (by omega),show st.next+b-st.next=b by omega]; exact hl
 have hbig:∀ i,st.next<=i->vg st.next β β1 (i:Int)=β1 ((i-st.next:Nat):Int):=by
  intro i hi;show(if i<st.next then β (i:Int)else β1 ((i-st.next:Nat):Int))=_;rw[if_neg (by omega)]
 have hlone:∀ i b,(uK ⟨.leaf,st.next⟩ bs1).heap.get i=some b->st.next<=i/\∃ b0,(af bs1).heap.get (i-st.next)=some b0/\b=oz (fF st.next) b0:=by
  intro i b hi;rw[qY]at hi;split at hi
  ·rename_i hr;cases hx:bs1[i-st.next]? with
   |none=>rw[hx]at hi; cases hi
   |some b0=>
    rw[hx]at hi;exact⟨hr.1,b0,by rw[oN]; exact hx,(Option.some.inj hi).symm⟩
  ·cases hi
 have rl:Rel P K1 (vg st.next β β1) (uK ⟨.leaf,st.next⟩ bs1) w1:=by
  refine⟨h1.base,fun i l hi=>?_,fun i b hi hl=>?_,fun i j bi bj li lj hi hbi hj hbj hli hlj v1 v2 e=>?_,fun i hi=>?_,fun k l hk=>h1.nofz k l hk,fun k l hk=>?_,h1.objs.1.neg fun _ _ h=>h,fun _ _=>False,fun i o hi=>?_,fun i k hk=>hk.elim⟩
  ·by_cases hin:i<st.next
   ·have hi':β (i:Int)=some l:=by
     change (if i<st.next then β (i:Int)else _)=some l at hi;rwa [if_pos hin]at hi
    obtain⟨a1,a2⟩:=h.dom i l hi';exact⟨Nat.lt_of_lt_of_le a1 (Nat.le_add_right _ _),fun hv=>Nat.lt_of_lt_of_le (a2 hv) hb.size⟩
   ·rw[hbig i (by omega)]at hi;obtain⟨a1,a2⟩:=h1.dom _ l hi;have:(af bs1).next=bs1.length:=rfl
    exact⟨by show i<st.next+bs1.length; omega,a2⟩
  ·obtain⟨a1,b0,a2,rfl⟩:=hlone i b hi;obtain⟨l,c1,c2,c3⟩:=h1.blk _ b0 a2 (jZ hl);exact⟨l,by rw[hbig i a1]; exact c1,c2,D5 hren c3⟩
  ·obtain⟨a1,b0,a2,rfl⟩:=hlone i bi hi;obtain⟨c1,d0,c2,rfl⟩:=hlone j bj hj;rw[hbig i a1]at hli;rw[hbig j c1]at hlj;have:=h1.inj _ _ b0 d0 li lj a2 (jZ hbi) c2 (jZ hbj) hli hlj v1 v2 e;omega
  ·rw[k2]at hi;obtain⟨a1,a2⟩:=h.res i hi;refine⟨Nat.lt_of_lt_of_le a1 (Nat.le_add_right _ _),?_⟩;show(if i<st.next then β (i:Int)else _)=_;rw[if_pos a1]; exact a2
  ·obtain⟨f1,f2,f3⟩:=h1.frz k l hk;refine⟨f1,f2,fun j bj lj hj hbj hlj hv=>?_⟩;obtain⟨c1,d0,c2,rfl⟩:=hlone j bj hj;rw[hbig j c1]at hlj;exact f3 _ d0 lj c2 (jZ hbj) hlj hv
  ·obtain⟨_,b0,_,e⟩:=hlone i _ hi;exact(rU e.symm).elim
 refine⟨hple,k4 _ (uK ⟨.leaf,st.next⟩ bs1) _ w1 hple rl ⟨hb.os,hb.tape,hb.output,hb.size,hb.block⟩ (Nat.le_add_right _ _) (fun i o hi=>?_) rfl (fun i b hi hl=>?_) (fun i o hi hdead=>?_),hren⟩
 ·obtain⟨_,b0,_,e⟩:=hlone i _ hi;exact(rU e.symm).elim
 ·rw[qY]at hi;split at hi
  ·rename_i hr;refine Or.inl ?_;rw[qY,if_pos hr]; exact hi
  ·rename_i hr;have hi:(pX src st.heap).get i=some b:=hi;rw[sZ]at hi;split at hi
   ·obtain rfl:=Option.some.inj hi; cases hl
   ·rename_i hns;refine Or.inr ⟨fun c hc=>?_,fun c hc=>?_,hi⟩
    ·rw[qY,if_neg hr]at hc; cases hc
    ·rw[h0,if_neg hns]at hc; cases hc
 ·obtain⟨l,hl,_⟩:=h.blk i _ hi rfl;have hlt:=(h.dom i l hl).1;rw[qY,if_neg (by show ¬(st.next<=i/\_); omega)];show(pX src st.heap).get i=_;rw[sZ,if_neg]
  ·exact hi
  ·intro hm;obtain⟨x,hc,hcm⟩:=hcells i hm;rw[hi]at hc; cases hc; cases hcm
theorem H9{g:Value->Value}:∀ (ts:List Tmp) (vs:List Value) (s s':Trie Value),(∀ i,(s'.get i).getD undef=g ((s.get i).getD undef))->∀ i,((mM ts (vs.map g) s').get i).getD undef=g (((mM ts vs s).get i).getD undef)
 |[],[],s,s',h,i=>by simpa [mM]using h i
 |[],v::vs,s,s',h,i=>by simpa [mM]using h i
 |t::ts,[],s,s',h,i=>by simpa [mM]using h i
 |t::ts,v::vs,s,s',h,i=>by
  simp only[List.map_cons,mM];refine H9 ts vs _ _ (fun j=>?_) i;rw[dY,dY,Trie.get_set,Trie.get_set];by_cases hj:j=t
  ·rw[if_pos hj,if_pos hj]; rfl
  ·rw[if_neg hj,if_neg hj]; exact h j
theorem BO{g:Value->Value}(h1:g q_=q_)(h2:g undef=undef)(nt:Nat)(L:List Tmp)(vs:List Value)(i:Nat):((mkS nt L (vs.map g)).get i).getD undef=g (((mkS nt L vs).get i).getD undef):=by
 unfold mkS;refine H9 L vs _ _ (fun j=>?_) i;rw[nP];split
 ·rename_i hj;simp only[List.length_replicate]at hj;rw[List.getElem?_replicate,if_pos (by omega)];exact h1.symm
 ·show undef=g undef;exact h2.symm
def TE(H:Head)(s:Trie Value)(st:St):Option (List Nat×St×List Value×List Blk):=
 match yu H.M s st with
 |none=>none
 |some (src,s,st)=>match iI 0 src (fun i=>dZ (path i) st.heap) src with
  |none=>none
  |some ms=>some (src,st,H.L.map (fun t=>eP true (bY 0 src) (lM s t)),ms)
def NP(H:Head)(R:jO)(f:Fr)(st:St):Option (DT (Ex×Trie Value×St)):=
 match f.defers,f.roundOf,Nat.beq f.ntmps H.nt with
 |[],none,true=>match TE H f.slots st with
  |some r=>match R r.2.2.1 r.2.2.2 with
   |some t=>some (t.map fun x=>(x.1,mkS H.nt H.L (x.2.1.map (eP true (fF r.2.1.next))),uK ⟨pX r.1 r.2.1.heap,r.2.1.next⟩ x.2.2))
   |none=>none
  |none=>none
 |_,_,_=>none
def xH(fid id:Nat)(H:Head)(R:jO)(ct:Ct):Ct where
 call:=ct.call
 loop:=fun fid' id' f st=>match and (Nat.beq fid' fid) (Nat.beq id' id)with
  |true=>NP H R f st
  |false=>ct.loop fid' id' f st
 op:=ct.op
theorem C_{fid id:Nat}{B:Code}{H:Head}{R:jO}(hN0:H.N=0)(hct:CtOk P ct)(h:LoopOk P fid id B H R):CtOk P (xH fid id H R ct) where
 opc:=hct.opc
 op:=hct.op
 call:=hct.call
 loop:=by
  intro K fid' id' c f st e s' st' hl hocc β w fr cs k ht hfid hf hr;simp only[xH]at hl;split at hl
  ·rename_i hb;simp only[Bool.and_eq_true]at hb;obtain rfl:=Nat.eq_of_beq_eq_true hb.1;obtain rfl:=Nat.eq_of_beq_eq_true hb.2;obtain rfl:=h.occ c hocc;unfold NP at hl;split at hl
   ·rename_i hd hro hnt;have hnt:=Nat.eq_of_beq_eq_true hnt;split at hl
    ·rename_i r hc;obtain⟨src,st1,vs,bs⟩:=r;split at hl
     ·rename_i t hR;simp only[Option.bind_some]at hl;obtain⟨⟨e1,vs1,bs1⟩,hev,heq⟩:=DT.map_eval hl;simp only[Prod.mk.injEq]at heq;obtain⟨rfl,rfl,rfl⟩:=heq;have hL:∀ t∈H.L,t<H.nt:=fun t ht=>by
       have:=h.ok;unfold okL at this;exact Nat.le_of_ble_eq_true (List.all_eq_true.1 this t ht)
      unfold TE at hc;split at hc
      ·cases hc
      ·rename_i src0 s0 st0 hv;split at hc
       ·cases hc
       ·rename_i ms hm;simp only[Option.some.injEq,Prod.mk.injEq]at hc;obtain⟨rfl,rfl,rfl,rfl⟩:=hc;obtain⟨β0,b1,b2,b3,b4⟩:=vK (nt:=H.nt) (tmps:=fr.tmps) H.M f.slots st _ _ _ hv hr (by rw[<-hnt]; exact hf.slots);obtain⟨m1,m2,m3⟩:=ig hm;simp only[dQ]at m2 m3;obtain⟨K',k1,k2,k3,k4⟩:=Xx b2 m1 m2;have hren:RenOk true (bY 0 src0) β0 (gu 0 src0 β0):=by
         refine⟨fun b b' l hb hl=>?_,fun _ k l h=>h⟩;unfold bY at hb;split at hb
         ·rename_i j hj;obtain rfl:=Option.some.inj hb;obtain⟨k,rfl,hk⟩:=oP _ _ _ _ hj;show(if 0+k<0 then β0 ((0+k:Nat):Int)else match src0[0+k-0]? with | some b=>β0 (b:Int) | none=>none)=_;rw[if_neg (by omega),show 0+k-0=k by omega,hk]; exact hl
         ·split at hb
          ·rename_i hle;exact absurd (Nat.le_of_ble_eq_true hle) (by omega)
          ·cases hb
        have hslots:h_ (gu 0 src0 β0) (mkS H.nt H.L (H.L.map fun t=>eP true (bY 0 src0) (lM s0 t))) H.nt fr.tmps:=by
         refine⟨b3.1,fun i=>?_⟩;unfold mkS;rw[yT _ _ _ (fun t=>eP true (bY 0 src0) (lM s0 t)) rfl];split
         ·have:=fO hren _ _ (b3.2 i);simpa [nC]using this
         ·rw[nP];split
          ·rename_i hj;simp only[List.length_replicate]at hj;rw[List.getElem?_replicate,if_pos (by omega)];exact trivial
          ·rename_i hj;simp only[List.length_replicate]at hj;have hge:fr.tmps.size<=i:=by rw[b3.1]; omega
           have:fr.tmps.getD i undef=undef:=by simp[Array.getD,Nat.not_lt.2 hge]
           rw[this];exact VR.flat_refl undef rfl
        have s1:=wQ (P:=P) (cs:=cs) (w:=w) hf.mode ht;have s2:=zA (P:=P) (fr:={ fr with todo:= .code (.loop B):: .inBlock id'::k }) (cs:=cs) (w:=w) hf.mode rfl;have hdf:fr.defers=[]:=by have:=hf.defers; rw[hd]at this; exact this
        have hrf:fr.roundOf=none:=by have:=hf.round; rw[hro]at this; exact this
        obtain⟨β1,fr1,w1,a1,a2,a3,a4,a5,a6,a7,a8,a9⟩:=h.run _ _ t hR _ _ _ hev K' (gu 0 src0 β0) w { fr with todo:= .code B:: .inLoop B:: .inBlock id'::k } cs k (fun i hi=>(k2 i hi).elim) rfl hfid ⟨hslots,hdf,hrf,hf.mode⟩ (by rw[m3]; exact k3);rw[hN0]at a2;obtain⟨c1,c2,c3⟩:=k4 β1 bs1 w1 a2 a3 a4;refine⟨_,fr1,w1, .head s1 (.head s2 a1),b1.trans c1,c2,a4.mono k1,⟨⟨by rw[a5.slots.1]; exact hnt.symm,fun i=>?_⟩,?_,?_,a5.mode⟩,a6,a7,a8,a9⟩
        ·show VR _ (((mkS H.nt H.L (vs1.map (eP true (fF st0.next)))).get i).getD undef) _;rw[BO rfl sS];exact fO c3 _ _ (a5.slots.2 i)
        ·show l9 _ f.defers _;rw[hd]; exact a5.defers
        ·show nG _ f.roundOf _;rw[hro]; exact a5.round
     ·cases hl
    ·cases hl
   ·cases hl
  ·exact hct.loop K fid' id' c f st e s' st' hl hocc β w fr cs k ht hfid hf hr
end
section
variable{P:Program}{ct:Ct}
def bH:List Nat->Nat->Nat->Option Nat
 |[],n,j=>some (n+j)
 |b::l,n,j=>match j with
  |0=>some b
  |j+1=>bH l n j
theorem uP:∀ (l:List Nat) (n j:Nat),j<l.length->bH l n j=l[j]?
 |[],n,j,h=>by simp at h
 |b::l,n,0,h=>rfl
 |b::l,n,j+1,h=>by simpa [bH]using uP l n j (by simpa using h)
theorem uU:∀ (l:List Nat) (n j:Nat),l.length<=j->bH l n j=some (n+(j-l.length))
 |[],n,j,h=>rfl
 |b::l,n,0,h=>by simp at h
 |b::l,n,j+1,h=>by
  have:=uU l n j (by simpa using h);simpa [bH,Nat.add_sub_add_right]using this
def oG(ρ:Nat->Option Nat)(src:List Nat):List Blk->Nat->Trie Blk->Trie Blk:=
 @List.rec Nat (fun _=>List Blk->Nat->Trie Blk->Trie Blk) (fun bs n t=>wF (bs.map (oz ρ)) n t)
  (fun b _ ih bs n t=>match bs with
   |x::bs=>ih bs n (dX (path b) t (oz ρ x))
   |[]=>t) src
def zH(src:List Nat)(st:St)(bs:List Blk):St:=⟨oG (bH src st.next) src bs st.next st.heap,st.next+(bs.length-src.length)⟩
theorem nH{ρ:Nat->Option Nat}:∀ (src:List Nat) (bs:List Blk) (n:Nat) (t:Trie Blk) (i:Nat),src.Nodup->src.length<=bs.length->(∀ b∈src,b<n)->
  (∃ j:Nat,src[j]? = some i/\(oG ρ src bs n t).get i=(bs[j]?).map (oz ρ))\/(i∉src/\(oG ρ src bs n t).get i=if n<=i/\i<n+(bs.length-src.length)then(bs[i-n+src.length]?).map (oz ρ)else t.get i)
 |[],bs,n,t,i,_,_,_=>by
  refine Or.inr ⟨by simp,?_⟩;show(wF (bs.map (oz ρ)) n t).get i=_;rw[nP];simp only[List.length_map,List.getElem?_map,List.length_nil,Nat.sub_zero,Nat.add_zero]
 |b::l,[],n,t,i,_,h,_=>by simp at h
 |b::l,x::bs,n,t,i,hnd,h,hlt=>by
  obtain⟨hb,hnd⟩:=List.nodup_cons.1 hnd;have e:oG ρ (b::l) (x::bs) n t=oG ρ l bs n (dX (path b) t (oz ρ x)):=rfl;rw[e];rcases nH l bs n (dX (path b) t (oz ρ x)) i hnd (by simpa using h) (fun c hc=>hlt c (List.mem_cons_of_mem _ hc))with⟨j,h1,h2⟩ | ⟨h1,h2⟩
  ·exact Or.inl ⟨j+1,by simpa using h1,by simpa using h2⟩
  ·by_cases hib:i=b
   ·subst hib;refine Or.inl ⟨0,rfl,?_⟩;have:=hlt i (by simp);rw[h2,if_neg (by omega),dY,Trie.get_set,if_pos rfl]; rfl
   ·refine Or.inr ⟨by simp only[List.mem_cons,not_or]; exact⟨hib,h1⟩,?_⟩;rw[h2,dY,Trie.get_set,if_neg hib];simp only[List.length_cons,Nat.add_sub_add_right];rw[show i-n+(l.length+1)=(i-n+l.length)+1 by omega,List.getElem?_cons_succ]
theorem zl:∀ {l:List Nat} {i j a:Nat},l.Nodup->l[i]? = some a->l[j]? = some a->i=j
 |[],i,j,a,_,h,_=>by simp at h
 |x::l,0,0,a,_,_,_=>rfl
 |x::l,0,j+1,a,hnd,h1,h2=>by
  have h1:x=a:=by simpa using h1
  subst h1;exact absurd (List.mem_of_getElem? (by simpa using h2)) (List.nodup_cons.1 hnd).1
 |x::l,i+1,0,a,hnd,h1,h2=>by
  have h2:x=a:=by simpa using h2
  subst h2;exact absurd (List.mem_of_getElem? (by simpa using h1)) (List.nodup_cons.1 hnd).1
 |x::l,i+1,j+1,a,hnd,h1,h2=>by
  exact congrArg (·+1) (zl (List.nodup_cons.1 hnd).2 (show l[i]? = some a by simpa using h1) (show l[j]? = some a by simpa using h2))
def CRM(P:Program)(g:FuncId)(args:List Value)(bs:List Blk)(v:Value)(bs':List Blk):Prop:=
 ∀ (K:Prot) (β:Env) (w:World) (args':Array Value) (cs:List Frame),(∀ i,¬K.id i)->VRL β args args'.toList->Rel P K β (af bs) w->oJ P K β g args' .normal cs w v (af bs')/\bs.length<=bs'.length
def kW(src:List Nat)(n:Nat)(β β1:Env):Env
 | .ofNat i=>if i<n then β (i:Int)else β1 ((i-n+src.length:Nat):Int)
 | .negSucc k=>β1 (.negSucc k)
theorem ad8{K:Prot}{β:Env}{st:St}{w:World}(h:Rel P K β st w){src:List Nat}(hnd:src.Nodup)(hcells:∀ b∈src,∃ x,st.heap.get b=some x/\Eb x=true) :
  ∃ K':Prot,(∀ k,K k->K' k)/\(∀ i,¬K'.id i)/\Rel P K' (gu 0 src β) (af (src.map fun b=>ku true (bY 0 src) (st.heap.get b))) w/\
   ∀ (β1:Env) (bs1:List Blk) (w1:World),(gu 0 src β).le β1->src.length<=bs1.length->Rel P K' β1 (af bs1) w1->Bel K' w w1->
    β.le (kW src st.next β β1)/\Rel P K (kW src st.next β β1) (zH src st bs1) w1/\RenOk true (bH src st.next) β1 (kW src st.next β β1):=by
 let st0:St:=⟨wL (src.map fun b=>(b,(st.heap.get b).getD .dead)) .leaf,st.next⟩
 have h0:∀ i,st0.heap.get i=if i∈src then st.heap.get i else none:=by
  intro i;show(wL _ .leaf).get i=_;rw[uS];rcases pO (src.map fun b=>(b,(st.heap.get b).getD .dead)) i ((Trie.leaf:Trie Blk).get i)with⟨n,e⟩ | ⟨n,b',hb',e⟩
  ·rw[e];have:i∉src:=fun hi=>n (by simp only[List.map_map,List.mem_map]; exact⟨i,hi,rfl⟩);rw[if_neg this]; rfl
  ·rw[e];obtain⟨j,hj,hje⟩:=List.mem_map.1 hb';simp only[Prod.mk.injEq]at hje;obtain⟨rfl,rfl⟩:=hje;obtain⟨x,hc,hcm⟩:=hcells j hj;rw[if_pos hj,hc]; rfl
 obtain⟨K1,k1,k2,k3,k4⟩:=h.part (st0:=st0) rfl (fun i b hi _=>by
  rw[h0]at hi;split at hi
  ·exact hi
  ·cases hi) (fun i o hi=>by
  rw[h0]at hi;split at hi
  ·rename_i hm;obtain⟨x,hc,hcm⟩:=hcells i hm;rw[hc]at hi; cases hi; cases hcm
  ·cases hi)
 let K':Prot:=⟨K1.blk,fun _=>False,K1.nofz,K1.obs,K1.sub⟩
 have r0:Rel P K' β st0 w:=⟨k3.base,k3.dom,k3.blk,k3.inj,fun i hi=>hi.elim,k3.nofz,k3.frz,k3.objs⟩
 have hmid:=iZ (N:=0) (src:=src) r0 (fun i hi=>hi.elim) (Nat.zero_le _) hnd (fun b hb=>by
  obtain⟨x,hc,hcm⟩:=hcells b hb
  exact⟨x,by rw[h0,if_pos hb]; exact hc,hcm⟩)
 have hms:(src.map fun b=>ku true (bY 0 src) (st0.heap.get b))=src.map fun b=>ku true (bY 0 src) (st.heap.get b):=by
  apply List.map_congr_left;intro b hb;rw[h0,if_pos hb]
 have hsrc:∀ b∈src,∃ l,β (b:Int)=some l/\b<st.next:=by
  intro b hb;obtain⟨x,hc,hcm⟩:=hcells b hb;obtain⟨l,hl,_⟩:=h.blk b _ hc (H8 hcm);exact⟨l,hl,(h.dom b l hl).1⟩
 refine⟨K',k1,fun i hi=>hi,by rw[<-hms]; exact hmid,fun β1 bs1 w1 hle hlen h1 hb=>?_⟩;have hneg:∀ k l,β (Int.negSucc k)=some l->β1 (Int.negSucc k)=some l:=fun k l hk=>hle (Int.negSucc k) l hk;have hre:∀ (j b:Nat),src[j]? = some b->β1 (j:Int)=β (b:Int):=by
  intro j b hj;obtain⟨l,hl,_⟩:=hsrc b (List.mem_of_getElem? hj);rw[hl];refine hle j l ?_;show(if j<0 then β (j:Int)else match src[j-0]? with | some b=>β (b:Int) | none=>none)=_;rw[if_neg (by omega),Nat.sub_zero,hj]; exact hl
 have hple:β.le (kW src st.next β β1):=by
  intro i l hi;cases i with
  |negSucc k=>exact hneg k l hi
  |ofNat i=>
   have:=(h.dom i l hi).1;show(if i<st.next then β (i:Int)else _)=_;rw[if_pos this]; exact hi
 have hold:∀ i,i<st.next->kW src st.next β β1 (i:Int)=β (i:Int):=by
  intro i hi;show(if i<st.next then β (i:Int)else _)=_;rw[if_pos hi]
 have hbig:∀ i,st.next<=i->kW src st.next β β1 (i:Int)=β1 ((i-st.next+src.length:Nat):Int):=by
  intro i hi;show(if i<st.next then β (i:Int)else _)=_;rw[if_neg (by omega)]
 have hren:RenOk true (bH src st.next) β1 (kW src st.next β β1):=by
  refine⟨fun b b' l hb hl=>?_,fun _ k l hk=>hk⟩;by_cases hbl:b<src.length
  ·rw[uP _ _ _ hbl]at hb;rw[hold b' (hsrc b' (List.mem_of_getElem? hb)).choose_spec.2,<-hre b b' hb]; exact hl
  ·rw[uU _ _ _ (by omega)]at hb;obtain rfl:=Option.some.inj hb;rw[hbig _ (Nat.le_add_right _ _),show st.next+(b-src.length)-st.next+src.length=b by omega]; exact hl
 have hfrom:∀ (t:Trie Blk) (i:Nat) b,(oG (bH src st.next) src bs1 st.next t).get i=some b->(∃ (j:Nat) (b0:Blk),bs1[j]? = some b0/\b=oz (bH src st.next) b0/\kW src st.next β β1 (i:Int)=β1 (j:Int)/\bH src st.next j=some i/\(i∈src\/st.next<=i/\i<st.next+(bs1.length-src.length)))\/(i∉src/\¬(st.next<=i/\i<st.next+(bs1.length-src.length))/\t.get i=some b):=by
  intro t i b hi;rcases nH src bs1 st.next t i hnd hlen (fun b hb=>(hsrc b hb).choose_spec.2)with⟨j,g1,g2⟩ | ⟨g1,g2⟩
  ·rw[g2]at hi;cases hx:bs1[j]? with
   |none=>rw[hx]at hi; cases hi
   |some b0=>
    rw[hx]at hi;have hm:=List.mem_of_getElem? g1;refine Or.inl ⟨j,b0,hx,(Option.some.inj hi).symm,?_,?_,Or.inl hm⟩
    ·rw[hold i (hsrc i hm).choose_spec.2,hre j i g1]
    ·rw[uP _ _ _ (List.getElem?_eq_some_iff.1 g1).1]; exact g1
  ·rw[g2]at hi;split at hi
   ·rename_i hr;cases hx:bs1[i-st.next+src.length]? with
    |none=>rw[hx]at hi; cases hi
    |some b0=>
     rw[hx]at hi;refine Or.inl ⟨_,b0,hx,(Option.some.inj hi).symm,hbig i hr.1,?_,Or.inr hr⟩;rw[uU _ _ _ (by omega)];congr 1;omega
   ·rename_i hr;exact Or.inr ⟨g1,hr,hi⟩
 have hlone:∀ (i:Nat) b,(zH src ⟨.leaf,st.next⟩ bs1).heap.get i=some b->∃ (j:Nat) (b0:Blk),(af bs1).heap.get j=some b0/\b=oz (bH src st.next) b0/\kW src st.next β β1 (i:Int)=β1 (j:Int)/\bH src st.next j=some i:=by
  intro i b hi;rcases hfrom .leaf i b hi with⟨j,b0,g1,g2,g3,g4,_⟩ | ⟨_,_,g⟩
  ·exact⟨j,b0,by rw[oN]; exact g1,g2,g3,g4⟩
  ·cases g
 have hnx:(af bs1).next=bs1.length:=rfl
 have rl:Rel P K1 (kW src st.next β β1) (zH src ⟨.leaf,st.next⟩ bs1) w1:=by
  refine⟨h1.base,fun i l hi=>?_,fun i b hi hl=>?_,fun i j bi bj li lj hi hbi hj hbj hli hlj v1 v2 e=>?_,fun i hi=>?_,fun k l hk=>h1.nofz k l hk,fun k l hk=>?_,h1.objs.1.neg fun _ _ h=>h,fun _ _=>False,fun i o hi=>?_,fun i k hk=>hk.elim⟩
  ·by_cases hin:i<st.next
   ·rw[hold i hin]at hi;obtain⟨a1,a2⟩:=h.dom i l hi;exact⟨Nat.lt_of_lt_of_le a1 (Nat.le_add_right _ _),fun hv=>Nat.lt_of_lt_of_le (a2 hv) hb.size⟩
   ·rw[hbig i (by omega)]at hi;obtain⟨a1,a2⟩:=h1.dom _ l hi;exact⟨by show i<st.next+(bs1.length-src.length); omega,a2⟩
  ·obtain⟨j,b0,a2,rfl,a3,_⟩:=hlone i b hi;obtain⟨l,c1,c2,c3⟩:=h1.blk _ b0 a2 (jZ hl);exact⟨l,by rw[a3]; exact c1,c2,D5 hren c3⟩
  ·obtain⟨i',b0,a2,rfl,a3,a4⟩:=hlone i bi hi;obtain⟨j',d0,c2,rfl,c3,c4⟩:=hlone j bj hj;rw[a3]at hli;rw[c3]at hlj;have:=h1.inj _ _ b0 d0 li lj a2 (jZ hbi) c2 (jZ hbj) hli hlj v1 v2 e;rw[this,c4]at a4;exact(Option.some.inj a4).symm
  ·rw[k2]at hi;obtain⟨a1,a2⟩:=h.res i hi;exact⟨Nat.lt_of_lt_of_le a1 (Nat.le_add_right _ _),by rw[hold i a1]; exact a2⟩
  ·obtain⟨f1,f2,f3⟩:=h1.frz k l hk;refine⟨f1,f2,fun j bj lj hj hbj hlj hv=>?_⟩;obtain⟨j',d0,c2,rfl,c3,_⟩:=hlone j bj hj;rw[c3]at hlj;exact f3 _ d0 lj c2 (jZ hbj) hlj hv
  ·obtain⟨_,b0,_,e,_⟩:=hlone i _ hi;exact(rU e.symm).elim
 refine⟨hple,k4 _ (zH src ⟨.leaf,st.next⟩ bs1) _ w1 hple rl ⟨hb.os,hb.tape,hb.output,hb.size,hb.block⟩ (Nat.le_add_right _ _) (fun i o hi=>?_) rfl (fun i b hi hl=>?_) (fun i o hi hdead=>?_),hren⟩
 ·obtain⟨_,b0,_,e,_⟩:=hlone i _ hi;exact(rU e.symm).elim
 ·have hq:=nH (ρ:=bH src st.next) src bs1 st.next .leaf i hnd hlen (fun b hb=>(hsrc b hb).choose_spec.2)
  have hq2:=nH (ρ:=bH src st.next) src bs1 st.next st.heap i hnd hlen (fun b hb=>(hsrc b hb).choose_spec.2)
  have hi:(oG (bH src st.next) src bs1 st.next st.heap).get i=some b:=hi;rcases hq2 with⟨j,g1,g2⟩ | ⟨g1,g2⟩
  ·refine Or.inl ?_;rcases hq with⟨j',g1',g2'⟩ | ⟨g1',_⟩
   ·have:j'=j:=zl hnd g1' g1;subst this;show(oG _ src bs1 st.next .leaf).get i=_;rw[g2',<-g2]; exact hi
   ·exact absurd (List.mem_of_getElem? g1) g1'
  ·rcases hq with⟨j',g1',g2'⟩ | ⟨g1',g2'⟩
   ·exact absurd (List.mem_of_getElem? g1') g1
   ·rw[g2]at hi;split at hi
    ·rename_i hr;refine Or.inl ?_;show(oG _ src bs1 st.next .leaf).get i=_;rw[g2',if_pos hr]; exact hi
    ·rename_i hr;refine Or.inr ⟨fun c hc=>?_,fun c hc=>?_,hi⟩
     ·have hc:(oG _ src bs1 st.next .leaf).get i=some c:=hc;rw[g2',if_neg hr]at hc; cases hc
     ·rw[h0,if_neg g1]at hc; cases hc
 ·obtain⟨l,hl,_⟩:=h.blk i _ hi rfl;have hlt:=(h.dom i l hl).1;show(oG _ src bs1 st.next st.heap).get i=_;rcases nH (ρ:=bH src st.next) src bs1 st.next st.heap i hnd hlen (fun b hb=>(hsrc b hb).choose_spec.2)with⟨j,g1,g2⟩ | ⟨g1,g2⟩
  ·obtain⟨x,hc,hcm⟩:=hcells i (List.mem_of_getElem? g1);rw[hi]at hc; cases hc; cases hcm
  ·rw[g2,if_neg (by omega)]; exact hi
abbrev iW:=List Value->List Blk->Option (DT (Value×List Blk))
structure CallOkM(P:Program)(g:FuncId)(R:iW):Prop where
 run:∀ args bs t,R args bs=some t->∀ v bs',t.eval=some (v,bs')->CRM P g args bs v bs'
theorem m_(src:List Nat)(β:Env):RenOk true (bY 0 src) β (gu 0 src β):=by
 refine⟨fun b b' l hb hl=>?_,fun _ k l h=>h⟩;unfold bY at hb;split at hb
 ·rename_i j hj;obtain rfl:=Option.some.inj hb;obtain⟨k,rfl,hk⟩:=oP _ _ _ _ hj;show(if 0+k<0 then β ((0+k:Nat):Int)else match src[0+k-0]? with | some b=>β (b:Int) | none=>none)=_;rw[if_neg (by omega),show 0+k-0=k by omega,hk]; exact hl
 ·split at hb
  ·rename_i hle;exact absurd (Nat.le_of_ble_eq_true hle) (by omega)
  ·cases hb
def Ui(P:Program)(E:Eng)(ct:Ct)(n:Nat)(g:FuncId)(args:List Value)(bs:List Blk)(new:List Nat):Res:=
 (o9 P E ct n n).call g args (af bs) fun v st=>match iI bs.length new (fun i=>dZ (path i) st.heap) new with
  |some ms=>@Bool.rec (fun _=>Res) none (some (eP true (bY bs.length new) v,af (pq bs.length new (fun i=>dZ (path i) st.heap) bs.length 0++ms))) (Nat.ble bs.length st.next)
  |none=>none
theorem CRM.of{E:Eng}(hE:EngOk P ct E)(hN:noNum P=true)(hct:CtOk P ct){n:Nat}{g:FuncId}{args:List Value}{bs:List Blk}{new:List Nat}{v:Value}{bs':List Blk}(h:Ui P E ct n g args bs new=some (v,af bs'))(hlen:bs.length<=bs'.length):CRM P g args bs v bs':=by
 intro K β w args' cs hid ha hr;refine⟨?_,hlen⟩;unfold Ui at h;obtain⟨m,v1,st1,h1,h2⟩:=(jP hE n n).call _ _ _ _ _ h;obtain⟨β1,fr,w1,v',a1,a2,a3,a4,a5,a6⟩:=(gU hN hct m K).call g args (af bs) v1 st1 h1 β w args' .normal cs (Or.inl rfl) ha hr;split at h2
 ·rename_i ms hm;cases hb:Nat.ble bs.length st1.next with
  |false=>rw[hb]at h2; cases h2
  |true=>
   rw[hb]at h2;simp only[Option.some.injEq,Prod.mk.injEq]at h2;obtain⟨rfl,hst⟩:=h2;obtain⟨m1,m2,m3⟩:=ig hm;simp only[dQ]at m2 m3 hst;have hmid:=iZ (N:=bs.length) (src:=new) a3 (fun i hi=>(hid i hi).elim) (Nat.le_of_ble_eq_true hb) m1 m2;have hren:RenOk true (bY bs.length new) β1 (gu bs.length new β1):=by
    refine⟨fun b b' l hb hl=>?_,fun _ k l h=>h⟩;unfold bY at hb;split at hb
    ·rename_i j hj;obtain rfl:=Option.some.inj hb;obtain⟨k,rfl,hk⟩:=oP _ _ _ _ hj;show(if bs.length+k<bs.length then β1 ((bs.length+k:Nat):Int)else match new[bs.length+k-bs.length]? with | some b=>β1 (b:Int) | none=>none)=_;rw[if_neg (by omega),show bs.length+k-bs.length=k by omega,hk]; exact hl
    ·split at hb
     ·rename_i hle;obtain rfl:=Option.some.inj hb;have:b<bs.length:=Nat.le_of_ble_eq_true hle;show(if b<bs.length then β1 (b:Int)else _)=_;rw[if_pos this]; exact hl
     ·cases hb
   refine⟨gu bs.length new β1,fr,w1,v',a1,fun i l hi=>?_,?_,a4,fO hren _ _ a5,a6⟩
   ·cases i with
    |negSucc k=>exact a2 _ _ hi
    |ofNat i=>
     have:i<bs.length:=(hr.dom i l hi).1;show(if i<bs.length then β1 (i:Int)else _)=_;rw[if_pos this]; exact a2 _ _ hi
   ·rw[<-hst,m3]; exact hmid
 ·cases h2
end
end Go.VS
end

noncomputable section
namespace Go.VS

section
variable{P:Program}{K:Prot}{β:Env}{st:St}{w:World}
theorem Vq(hr:Rel P K β st w){a:Addr}{c:List Value}{e:TypeId}{len:Nat}{v':Value}(hg:st.heap.get a.block=some (.cells c e false))(ho:a.off<=c.length)(hv:VR β (.slice (some a) len unk) v') :
  ∃ β',β.le β'/\Rel P K β' (newRow (kill st a.block) (c.drop a.off) e false).2 w/\VR β' (.slice (some (newRow (kill st a.block) (c.drop a.off) e false).1) len unk) v':=by
 simp only[VR]at hv;obtain⟨hs,l,hl,hsl⟩:=hv;obtain⟨l',k1,hbk⟩:=hr.get_cells hg;obtain rfl:l'=l:=by rw[k1]at hl; exact Option.some.inj hl
 rcases hbk with⟨hvt,hc,_⟩ | ⟨hvt,k2,cc,f,k3,k4,k5,k6,k7,k8,k9⟩
 ·subst hc;have hk:=hr.kill a.block (by intro o e; rw[hg]at e; cases e);have hv:=hk.virt e 0 0;refine⟨_,hk.le_put _,by rw[List.drop_nil]; exact hv,⟨rfl,_,d_ _ _ _,?_⟩⟩;unfold dW at hsl ⊢;rw[if_pos hvt]at hsl;rw[if_pos rfl];exact⟨hsl.1,rfl,Or.inr rfl,hsl.2.2.2⟩
 ·unfold dW at hsl;rw[if_neg (by simp[hvt]),if_neg (by simp),if_pos rfl]at hsl;refine⟨β.put st.next ⟨l'.blk,l'.base+a.off,l'.total-a.off,l'.esize,none,false⟩,hr.le_put _,hr.move hg rfl rfl rfl k1 hvt rfl rfl rfl (fun _ _=>rfl) ?_,⟨rfl,_,d_ _ _ _,?_⟩⟩
  ·refine gW.mono (hr.le_put _) (Or.inr ⟨rfl,cc,f,k3,k4,by show l'.base+a.off+(l'.total-a.off)<=_; omega,by rw[List.length_drop]; show _<=l'.total-a.off; omega,fun h=>(by cases h),?_,k9.1,fun _=>by have:=k9.2 rfl; show l'.total-a.off<9223372036854775808*l'.esize; omega⟩);have hh:=k8.drop a.off;rw[List.drop_take,List.drop_drop]at hh;rw[List.length_drop];exact hh
  ·unfold dW;rw[if_neg (by simp),if_neg (by simp),if_pos rfl];refine⟨?_,Nat.zero_le _⟩;rw[hsl.1];show _=Value.slice (some ⟨l'.blk,l'.base+a.off+0,none⟩) len ((l'.total-a.off-0) / l'.esize)
   rfl
def kz{α:Type}(b:Bool)(t:DT α):DT α:= .ite b t .fail
theorem iH{α:Type}{b:Bool}{t:DT α}{r:α}(h:(kz b t).eval=some r):b=true/\t.eval=some r:=by
 cases b with
 |true=>exact⟨rfl,h⟩
 |false=>cases h
def PW{α:Type}(str:Bool)(size:Nat)(st:St)(x:Value)(k:Nat->List Value->DT α):DT α:=match str with
 |false=>match x with
  | .slice (some a) n _=>match a.spot,dZ (path a.block) st.heap with
   |none,some (.cells c _ _)=>kz (Nat.ble (Nat.add a.off (Nat.mul n size)) c.length) (k n (takeC (Nat.mul n size) (bT a.off c)))
   |_,_=> .fail
  | .slice none n _=>kz (Nat.beq n 0) (k 0 [])
  | .iface t v=>match kw (.iface t v)with
   |some z=>kz (Nat.beq z.sz size) (k z.n z.cells)
   |none=> .fail
  |_=> .fail
 |true=>match x with
  | .string b=>kz (Nat.beq size 1) (k b.size (byteCells b))
  |_=> .fail
theorem Ri{α:Type}{str:Bool}{size:Nat}{x:Value}{k:Nat->List Value->DT α}{r:α}{xt:TypeDesc}(hxt:(match xt with | .slice _=>some false | .string=>some true | _=>none)=some str)(h:(PW str size st x k).eval=some r) :
  ∃ n new,kQ st size xt x=some (n,new)/\(k n new).eval=some r:=by
 unfold PW at h;split at h
 ·have hx:∃ e,xt = .slice e:=by
   cases xt<;>simp at hxt ⊢
  obtain⟨e,rfl⟩:=hx;split at h
  ·rename_i a n cap;split at h
   ·rename_i c e' ex hs hg;rw[dQ]at hg;obtain⟨hle,h3⟩:=iH h;have hle:a.off+n*size<=c.length:=Nat.le_of_ble_eq_true hle;exact⟨n,(c.drop a.off).take (n*size),by simp only[kQ,cellsAt,hs,hg,Option.isSome_none,Bool.false_eq_true,if_false,hle,if_true],h3⟩
   ·cases h
  ·rename_i n cap;obtain⟨hc,h⟩:=iH h;exact⟨_,_,by simp only[kQ,Nat.eq_of_beq_eq_true hc,if_true],h⟩
  ·rename_i t v;split at h
   ·rename_i z hz;obtain⟨hc,h⟩:=iH h;exact⟨_,_,by simp only[kQ,hz,Nat.eq_of_beq_eq_true hc,if_true],h⟩
   ·cases h
  ·cases h
 ·have hx:xt = .string:=by
   cases xt<;>simp at hxt ⊢
  subst hx;split at h
  ·rename_i b;obtain⟨hc,h⟩:=iH h;exact⟨_,_,by simp only[kQ,Nat.eq_of_beq_eq_true hc,if_true],h⟩
  ·cases h
def jR(off:Nat)(c:List Value):List Value:=match off with
 |0=>c
 |k+1=>bT (k+1) c
theorem Zt(off:Nat)(c:List Value):jR off c=c.drop off:=by cases off<;>rfl
def WO(e:TypeId)(size n:Nat)(new:List Value)(st:St)(s:Value):Option (DT (Value×St)):=match s with
 | .slice none len cap=>some (kz (and (Nat.beq len 0) (and (Nat.beq cap 0) (Nat.ble n big))) (.leaf (.slice (some ⟨st.next,0,none⟩) n unk,⟨dX (path st.next) st.heap (.cells new e false),Nat.succ st.next⟩)))
 | .slice (some a) len cap=>match Nat.beq cap unk with
  |true=>match a.spot,dZ (path a.block) st.heap with
   |none,some (.cells c e' ex)=>some (kz (and (not ex) (Nat.beq e' e)) (kz (Nat.ble (Nat.add len n) big) (kz (Nat.beq (Nat.add a.off (Nat.mul len size)) c.length)
     (.leaf (.slice (some ⟨st.next,0,none⟩) (Nat.add len n) unk,⟨dX (path st.next) (dX (path a.block) st.heap .dead) (.cells (List.append (jR a.off c) new) e false),Nat.succ st.next⟩)))))
   |_,_=>none
  |false=>none
 |_=>none
def oI(P:Program)(o:Oper)(ρ:Operand->Value)(st:St):Option (DT (Value×St)):=match o.op with
 | .call c=>match c.callee,c.args.toList,c.argTypes.toList with
  | .builtin .append,[x,y],[tx,ty]=>match Jq P tx ty with
   |some r=>match WO r.1 r.2.1 0 [] st (ρ x)with
    |some _=>some (PW r.2.2 r.2.1 st (ρ y) fun n new=>match WO r.1 r.2.1 n new st (ρ x)with
     |some t=>kz (new.all oneCell) t
     |none=> .fail)
    |none=>none
   |none=>none
  |_,_,_=>none
 |_=>none
theorem JD(hN:noNum P=true)(o:Oper)(ρ:Operand->Value)(st:St)(v:Value)(st':St)(h:(oI P o ρ st).bind DT.eval=some (v,st')) :
  gK o.op=false/\∀ (K:Prot) (β:Env) (w:World) (ρ':Operand->Value),(∀ x,VR β (ρ x) (ρ' x))->Rel P K β st w->dK P K β st w ((execOp ρ' o).run P w) (.val v st'):=by
 obtain⟨dst,op,type,pos,after,guard⟩:=o;unfold oI at h;simp only at h;split at h
 ·rename_i c;refine⟨rfl,fun K β w ρ' hρ hr=>?_⟩;split at h
  ·rename_i x y tx ty hc1 hc2 hc3;split at h
   ·rename_i rr hk;obtain⟨e,size,str⟩:=rr;simp only at h;split at h
    ·simp only[Option.bind_some]at h;unfold Jq at hk;simp only[eU,lw,rM]at hk;split at hk
     ·rename_i e' xt hs hx;split at hk
      ·rename_i str' ei z hxt hi hz;split at hk
       ·cases hk
       ·rename_i hcond;simp only[Option.some.injEq,Prod.mk.injEq]at hk;obtain⟨rfl,rfl,rfl⟩:=hk;have ht0:c.argTypes[0]? = some tx:=by rw[<-Array.getElem?_toList,hc3]; rfl
        have ht1:c.argTypes[1]? = some ty:=by rw[<-Array.getElem?_toList,hc3]; rfl
        have hev:aY P ρ ⟨dst, .call c,type,pos,after,guard⟩ st=match lU P st tx ty (ρ x) (ρ y)with
         |some (v,st)=>some (.val v st)
         |none=>none:=by
         simp only[aY,hc1,hc2,List.map_cons,List.map_nil,iR,ht0,ht1];cases lU P st tx ty (ρ x) (ρ y)<;>rfl
        have happ:lU P st tx ty (ρ x) (ρ y)=match kQ st ei.size xt (ρ y)with
          |some (n,new)=>if new.all oneCell then f_ P st e' ei.size n new (ρ x)else none
          |none=>none:=by
         simp only[lU,hs,hx,hi,hz];rw[if_neg hcond];cases kQ st ei.size xt (ρ y)<;>rfl
        obtain⟨n,new,h1,h2⟩:=Ri hxt h;split at h2
        ·rename_i t happT;obtain⟨hone,h3⟩:=iH h2;obtain⟨new',hsrc,hnew⟩:=EG hr (hρ y) hx h1 hone;have hlen:new.length=n*ei.size:=by rw[hnew.length,hsrc.newsLen]
         have hev2:aY P ρ ⟨dst, .call c,type,pos,after,guard⟩ st=match f_ P st e' ei.size n new (ρ x)with
           |some (v,st)=>some (.val v st)
           |none=>none:=by
          rw[hev,happ,h1];simp only[hone,if_true]
         unfold WO at happT;split at happT
         ·rename_i len cap hsx;obtain rfl:=Option.some.inj happT;obtain⟨hc,h3⟩:=iH h3;simp only[DT.eval,Option.some.injEq,Prod.mk.injEq]at h3;obtain⟨rfl,rfl⟩:=h3;simp only[Bool.and_eq_true]at hc;have c1:=Nat.eq_of_beq_eq_true hc.1;have c2:=Nat.eq_of_beq_eq_true hc.2.1;have c3:=Nat.le_of_ble_eq_true hc.2.2;subst c1 c2;have hst:(⟨dX (path st.next) st.heap (.cells new e' false),Nat.succ st.next⟩:St)=(newRow st new e' false).2:=by rw[dY]; rfl
          rw[hst];by_cases hn:n=0
          ·subst hn;have:new=[]:=List.eq_nil_of_length_eq_zero (by omega);subst this;have hap:f_ P st e' ei.size 0 [] (ρ x)=some (.slice none 0 0,st):=by
            rw[hsx]; simp only[f_];rw[if_neg (by simp)]; rfl
           rw[hap]at hev2;obtain⟨β',w',v',r1,r2,r3,r4,r5⟩:=qV hN hr hρ hev2;refine⟨_,w',v',r1,r2.trans (r3.le_put _),r3.virt e' 0 0,⟨rfl,_,d_ _ _ _,?_⟩,r5⟩;unfold dW;rw[if_pos rfl];exact⟨rfl,rfl,Or.inr rfl,r4⟩
          ·have hap:f_ P st e' ei.size n new (ρ x)=some (.slice (some (newRow st new e' false).1) n unk,(newRow st new e' false).2):=by
            rw[hsx]; simp only[f_];rw[if_neg (by simp; omega),if_neg hn]
           rw[hap]at hev2;exact qV hN hr hρ hev2
         ·rename_i a len cap hsx;split at happT
          ·rename_i hcap;have hcap:=Nat.eq_of_beq_eq_true hcap;subst hcap;split at happT
           ·rename_i c0 e0 ex hsp hg;rw[dQ]at hg;obtain rfl:=Option.some.inj happT;obtain⟨d1,h3⟩:=iH h3;obtain⟨d2,h3⟩:=iH h3;obtain⟨d3,h3⟩:=iH h3;simp only[DT.eval,Option.some.injEq,Prod.mk.injEq]at h3;obtain⟨rfl,rfl⟩:=h3;simp only[Bool.and_eq_true,Bool.not_eq_true']at d1;obtain⟨rfl,d1⟩:=d1;have d1:=Nat.eq_of_beq_eq_true d1;have d2:len+n<=big:=Nat.le_of_ble_eq_true d2;have d3:a.off+len*ei.size=c0.length:=Nat.eq_of_beq_eq_true d3;subst d1;have hst:(⟨dX (path st.next) (dX (path a.block) st.heap .dead) (.cells (List.append (jR a.off c0) new) e0 false),Nat.succ st.next⟩:St)=(newRow (kill st a.block) (c0.drop a.off++new) e0 false).2:=by
             rw[dY,dY,Zt]; rfl
            have htk:(c0.drop a.off).take (len*ei.size)=c0.drop a.off:=List.take_of_length_le (by rw[List.length_drop]; omega);rw[hst];by_cases hn:n=0
            ·subst hn;have:new=[]:=List.eq_nil_of_length_eq_zero (by omega);subst this;have hap:f_ P st e0 ei.size 0 [] (ρ x)=some (.slice (some a) len unk,st):=by
              rw[hsx]; simp only[f_];rw[if_neg (by omega),if_neg (by omega),hg];simp only;rw[if_neg (by simp[hsp]; omega),if_pos trivial,if_pos (by omega)]
             rw[hap]at hev2;obtain⟨β',w',v',r1,r2,r3,r4,r5⟩:=qV hN hr hρ hev2;obtain⟨β2,q1,q2,q3⟩:=Vq r3 hg (by omega) r4;rw[List.append_nil];exact⟨β2,w',v',r1,r2.trans q1,q2,q3,r5⟩
            ·have hap:f_ P st e0 ei.size n new (ρ x)=some (.slice (some (newRow (kill st a.block) (c0.drop a.off++new) e0 false).1) (len+n) unk,(newRow (kill st a.block) (c0.drop a.off++new) e0 false).2):=by
              rw[hsx]; simp only[f_];rw[if_neg (by omega),if_neg (by omega),hg];simp only;rw[if_neg (by simp[hsp]; omega),if_neg hn,if_pos (by rw[Nat.sub_self,Nat.add_zero]; exact d3),htk]
             rw[hap]at hev2;exact qV hN hr hρ hev2
           ·cases happT
          ·cases happT
         ·cases happT
        ·cases h2
      ·cases hk
     ·cases hk
    ·cases h
   ·cases h
  ·cases h
 ·cases h
theorem MB(o:Oper)(ρ ρ':Operand->Value)(st:St)(h:∀ x∈o.op.operands,ρ x=ρ' x):oI P o ρ st=oI P o ρ' st:=by
 obtain⟨dst,op,type,pos,after,guard⟩:=o;cases op<;>first | rfl | skip
 rename_i c;have hargs:∀ x∈c.args.toList,ρ x=ρ' x:=fun x hx=>h x (by simp[Op.operands,Call.operands]; exact(by first | exact Or.inr (by simpa using hx) | exact Or.inl (by simpa using hx)));unfold oI;simp only;split
 ·rename_i x y tx ty h1 h2 h3;rw[h2]at hargs;rw[hargs x (by simp),hargs y (by simp)]
 ·rfl
end
end Go.VS
end

noncomputable section
namespace Go.VS.Tryz
open Go.VS
set_option maxRecDepth 1000000
abbrev P:Program:=Go.Proofs.Tryz.prog
abbrev E:Eng:=acj P
theorem az:VS.noNum P=true:=by kernel_rfl
theorem bf(ct:Ct):EngOk P ct E:=ZW P ct
theorem Eo{ct:Ct}(hct:CtOk P ct){g n:Nat}{R:kY}(h:∀ args t,R args=some t->∀ v bs,t.eval=some (v,bs)->lQ P E ct n g args=some (v,af bs)):CallOkR P g R:=
 ⟨fun args t hR v bs hev=>CR.of (bf ct) az hct (h args t hR v bs hev)⟩
def sl(b n:Nat):Value:= .slice (some ⟨b,0,none⟩) n unk
def atB(v:Value)(b n:Nat):Bool:=match v with
 | .slice (some a) n' c=>a.block == b&&a.off == 0&&a.spot.isNone&&n' == n&&c == unk
 |_=>false
theorem acl{v:Value}{b n:Nat}(h:atB v b n=true):v=sl b n:=by
 unfold atB at h;split at h
 ·rename_i a n' c;simp only[Bool.and_eq_true,beq_iff_eq,Option.isNone_iff_eq_none]at h;obtain⟨⟨⟨⟨h1,h2⟩,h3⟩,h4⟩,h5⟩:=h;obtain⟨bb,oo,ss⟩:=a;simp only at h1 h2 h3;subst h1 h2 h3 h4 h5
  rfl
 ·cases h
theorem aca(b n:Nat):atB (sl b n) b n=true:=by simp[atB,sl]
theorem aK{x y:Res}:ak true x y=x:=rfl
theorem aH{x y:Res}:ak false x y=y:=rfl
theorem Gv{a b:Nat}:Nat.beq a b=true↔a=b:=by rw[Nat.beq_eq]
theorem dm(s:ByteArray):bU (.string s) (.string s)=true:=by simp[bU]
theorem dU(k:IntKind)(n:Int):bU (.int k n) (.int k n)=true:=by simp[bU]
theorem aA(c:List Value):jR 0 c=c:=rfl
theorem a_(a b:List UInt8):List.append (bc a) (bc b)=bc (a++b):=(v_ a b).symm
theorem bC:[Value.int .u8 (1:Int)]=bc [1]:=rfl
theorem aV:[Value.int .u8 (0:Int)]=bc [0]:=rfl
theorem size_eq(s:ByteArray):s.size=s.data.toList.length:=by rw[Array.length_toList]; rfl
def io_(n:Int):Value:= .int .i64 n
def sl_(a n:Nat):Value:= .slice (some ⟨a,0,none⟩) n 18446744073709551616
def pt_(a:Nat):Value:= .pointer (some ⟨a,0,none⟩)
def lb_(f:Nat->Option Nat)(n k:Nat)(c:List Value)(t:Nat):Blk:=(Blk.cells (aZ Bool.true f (takeC (Nat.mul n k) (bT 0 c))) t Bool.false)
def nb_(n k:Nat)(c:List Value)(x:Res):Res:=(ae (Nat.ble (Nat.add 0 (Nat.mul n k)) (List.length c)) x)
def fa_(n b:Nat)(c:List Value):Value:=(.iface 18446744073709551619 (.agg ⟨.slice none n b::c⟩))
def fb_(n b:Nat)(c:List Value):Value:=(.iface 18446744073709551617 (.agg ⟨.slice none n b::c⟩))
def fc_(n b:Nat)(c:List Value):Value:=(.iface 18446744073709551618 (.agg ⟨.slice none n b::c⟩))
def rn_:Nat->Nat->List Nat->List Nat
 |0,_,r=>r
 |n+1,a,r=>a::rn_ n (a+1) r
def rg_:List Nat->List Nat
 |a::n::r=>rn_ n a (rg_ r)
 |_=>[]
def ro_(l:List Nat):Nat->Option Nat:=bY 0 (rg_ l)
def so_(p q a n:Nat):Blk:=(.cells [pt_ p,pt_ q,sl_ a n] 174 true)
def tb_(m:Nat):Blk:=(Blk.cells [(Value.map (Option.some m))] 98 Bool.true)
def Hva:Head:=⟨0,23,[1,5],[(5,5)]⟩
def Bva:Code:=(dR P 50 0).getD .skip
theorem SL:dR P 50 0=some Bva:=by kernel_rfl
theorem G5:Occ P 50 (.block 0 (.loop Bva)):=fA SL
theorem UK(x:Int)(c:List Value):oU P E rZ 50 50 Bva Hva [.int .u64 x, .slice (some ⟨0,0,none⟩) c.length unk] [.cells c 5 false] =
 (ak (ltI x (128:Int))
 (some ((Value.tuple (Array.mk [(Value.int IntKind.i64 (1:Int)),(Value.int IntKind.u64 x),(Value.slice (Option.some (Addr.mk 0 0 none)) (List.length c) 18446744073709551616)])),(af [(Blk.cells (aZ Bool.true (bY 0 [0]) c) 5 Bool.false)])))
 (ae (Bool.and (Bool.not Bool.false) (Bool.and (Nat.beq 5 5) (Bool.and (Nat.ble 0 (List.length c)) (Nat.ble (Nat.add (List.length c) 1) 4194304))))
 (ae (Nat.beq (Nat.add 0 (Nat.mul (List.length c) 1)) (List.length c))
 (some ((Value.tuple (Array.mk [(Value.int IntKind.i64 (0:Int)),(Value.int IntKind.u64 (GL IntKind.u64 x (7:Int))),(Value.slice (Option.some (Addr.mk 0 0 none)) (Nat.add (List.length c) 1) 18446744073709551616)])),(af [(Blk.cells (aZ Bool.true (bY 0 [2]) (List.append (takeC (Nat.mul (List.length c) 1) (bT 0 c)) [(Value.int IntKind.u8 (orI IntKind.u8 (cvI IntKind.u8 x) (128:Int)))])) 5 Bool.false)])))))):=by kernel_rfl
def hiM:Nat->Nat->List UInt8
 |0,_=>[]
 |k+1,n=>match Nat.ble 128 n with
  |true=>UInt8.ofNat (n % 128+128)::hiM k (n / 128)
  |false=>[]
def lC:Nat->Nat->Nat
 |0,n=>n
 |k+1,n=>match Nat.ble 128 n with
  |true=>lC k (n / 128)
  |false=>n
def dP(n:Nat):List UInt8:=hiM 10 n++[UInt8.ofNat (lC 10 n)]
theorem uf:∀ (k n:Nat),(hiM k n).length<=k
 |0,_=>Nat.le_refl _
 |k+1,n=>by
  unfold hiM;split
  ·have:=uf k (n / 128); simp; omega
  ·simp
theorem Px:∀ (k n:Nat),n<128^(k+1)->lC k n<128
 |0,n,h=>by simpa [lC]using h
 |k+1,n,h=>by
  unfold lC;split
  ·exact Px k (n / 128) (by rw[Nat.div_lt_iff_lt_mul (by decide)]; rw[Nat.pow_succ]at h; exact h)
  ·rename_i hb;have:=Nat.ble_eq (x:=128) (y:=n);rw[hb]at this;simp at this;omega
theorem ad6:∀ n:Fin 256,orI .u8 (n.val:Int) 128=((n.val % 128+128:Nat):Int):=by decide +kernel
theorem Iz(n:Nat):IntKind.u8.wrap (n:Int)=((n % 256:Nat):Int):=by
 have e:IntKind.u8.wrap (n:Int)=(n:Int) % 256:=by
  show(if(false&&decide ((n:Int) % (2^8:Int)>=(2^(8-1):Int)))=true then(n:Int) % (2^8:Int)-(2^8:Int)else(n:Int) % (2^8:Int))=_;simp
 rw[e]; omega
theorem gY{n:Nat}(h:n<18446744073709551616):IntKind.u64.wrap (n:Int)=(n:Int):=by
 have e:IntKind.u64.wrap (n:Int)=(n:Int) % 18446744073709551616:=by
  show(if(false&&decide ((n:Int) % (2^64:Int)>=(2^(64-1):Int)))=true then(n:Int) % (2^64:Int)-(2^64:Int)else(n:Int) % (2^64:Int))=_;simp
 rw[e]; omega
theorem Kw{n:Nat}(h:n<256):((UInt8.ofNat n).toNat:Int)=(n:Int):=by
 simp only[UInt8.toNat_ofNat']; omega
theorem YB(n:Nat):orI .u8 (cvI .u8 (n:Int)) 128=((UInt8.ofNat (n % 128+128)).toNat:Int):=by
 rw[Kw (by omega)];unfold cvI;rw[Iz];have:=ad6 ⟨n % 256,by omega⟩;simp only at this;rw[this];congr 2;omega
theorem aej(n:Nat):GL .u64 (n:Int) 7=((n / 128:Nat):Int):=by
 show(n:Int).fdiv (2^7)=_;rw[show(2:Int)^7=128 from rfl,Int.fdiv_eq_ediv_of_nonneg _ (by decide)];omega
theorem NJ{ρ:Nat->Option Nat}{c l:List Value}(hc:gy c=true)(hl:gy l=true):aZ true ρ (List.append (takeC (Nat.mul c.length 1) (bT 0 c)) l)=c++l:=by
 rw[Wv];show aZ true ρ (c++l)=_;rw[CP,qI hc,qI hl]
theorem AZ{n:Nat}:Nat.ble 128 n=!decide (n<128):=by
 cases h:Nat.ble 128 n with
 |true=>have:=Nat.le_of_ble_eq_true h; simp; omega
 |false=>
  by_cases h2:n<128
  ·simp[h2]
  ·rw[Nat.ble_eq_true_of_le (by omega)]at h; cases h
theorem VW(k:IntKind)(n:Int):gy [.int k n]=true:=rfl
theorem XL{n:Nat}{c:List Value}(h:128<=n)(hn:n<18446744073709551616)(hc:gy c=true)(hb:c.length+1<=4194304) :
  oU P E rZ 50 50 Bva Hva [.int .u64 n,sl 0 c.length] [.cells c 5 false] =
   some (.tuple ⟨exV .normal::[.int .u64 ((n / 128:Nat):Int),sl 0 (c++bc [UInt8.ofNat (n % 128+128)]).length]⟩,af [.cells (c++bc [UInt8.ofNat (n % 128+128)]) 5 false]):=by
 unfold sl;rw[UK];refine k_ (by simp[ltI]; omega) ?_;refine iP (kE rfl (kE rfl (kE (lY (Nat.zero_le _)) (lY (by show c.length+1<=4194304; exact hb))))) ?_;refine iP (tH (by simp)) ?_;refine Bc ?_ ?_
 ·rw[aej];simp[exV,bc,unk]
 ·rw[NJ hc (VW _ _),YB]
  rfl
theorem Py{n:Nat}{c:List Value}(h:n<128)(hc:gy c=true) :
  oU P E rZ 50 50 Bva Hva [.int .u64 n,sl 0 c.length] [.cells c 5 false] =
   some (.tuple ⟨exV (.exit 0)::[.int .u64 n,sl 0 c.length]⟩,af [.cells c 5 false]):=by
 unfold sl;rw[UK];refine lJ (by simp[ltI]; omega) ?_;refine Bc rfl ?_;rw[qI hc]
theorem OO:∀ (k n:Nat) (c:List Value),n<128^(k+1)->n<18446744073709551616->gy c=true->c.length+k<=4194304->
  LR P 50 0 Bva Hva [.int .u64 n,sl 0 c.length] [.cells c 5 false] .normal [.int .u64 (lC k n),sl 0 (c++bc (hiM k n)).length] [.cells (c++bc (hiM k n)) 5 false]
 |0,n,c,h1,h2,hc,hb=>by
  have e:c++bc (hiM 0 n)=c:=by simp[hiM,bc]
  rw[e];exact LR.stop (bf rZ) az (qE P) G5 (by kernel_rfl) (e:= .exit 0) (Py (by simpa using h1) hc) (by intro h; cases h)
 |k+1,n,c,h1,h2,hc,hb=>by
  by_cases hn:n<128
  ·have e1:hiM (k+1) n=[]:=by simp only[hiM,AZ,hn]; rfl
   have e2:lC (k+1) n=n:=by simp only[lC,AZ,hn]; rfl
   have e:c++bc (hiM (k+1) n)=c:=by rw[e1]; simp[bc]
   rw[e,e2];exact LR.stop (bf rZ) az (qE P) G5 (by kernel_rfl) (e:= .exit 0) (Py hn hc) (by intro h; cases h)
  ·have e1:hiM (k+1) n=UInt8.ofNat (n % 128+128)::hiM k (n / 128):=by simp only[hiM,AZ,hn]; rfl
   have e2:lC (k+1) n=lC k (n / 128):=by simp only[lC,AZ,hn]; rfl
   have hr:=XL (n:=n) (c:=c) (by omega) h2 hc (by omega);have ih:=OO k (n / 128) (c++bc [UInt8.ofNat (n % 128+128)]) (by rw[Nat.div_lt_iff_lt_mul (by decide)]; rw[Nat.pow_succ]at h1; exact h1) (by omega) (by rw[zS,hc,uz]; rfl) (by rw[List.length_append,ah]; simp; omega);have e:c++bc [UInt8.ofNat (n % 128+128)]++bc (hiM k (n / 128))=c++bc (hiM (k+1) n):=by
    rw[e1,List.append_assoc,<-v_]; rfl
   rw[e]at ih;rw[e2];exact LR.again (bf rZ) az (qE P) G5 (by kernel_rfl) hr ih
def vaC(x:Int)(v1:Value)(c:List Value)(e1:TypeId):Bool:=inI x 18446744073709551616&&atB v1 0 c.length&&gy c&&e1 == 5&&Nat.ble (c.length+10) 4194304
def VY:jO:=fun vs bs=>match vs,bs with
 |[.int .u64 x,v1],[.cells c e1 false]=>some (.ite (vaC x v1 c e1)
   (.leaf (.normal,[.int .u64 (lC 10 x.toNat),sl 0 (c++bc (hiM 10 x.toNat)).length],[.cells (c++bc (hiM 10 x.toNat)) 5 false])) .fail)
 |_,_=>none
theorem U5:LoopOk P 50 0 Bva Hva VY where
 occ:=dL SL
 ok:=by kernel_rfl
 run:=by
  intro vs bs t hR e vs' bs' hev;unfold VY at hR;split at hR
  ·rename_i x v1 c e1;obtain rfl:=Option.some.inj hR;cases hc:vaC x v1 c e1 with
   |false=>rw[hc]at hev; cases hev
   |true=>
    rw[hc]at hev;simp only[DT.eval,Option.some.injEq,Prod.mk.injEq]at hev;obtain⟨rfl,rfl,rfl⟩:=hev;simp only[vaC,Bool.and_eq_true,beq_iff_eq,inI,decide_eq_true_eq]at hc;obtain⟨⟨⟨⟨h1,h2⟩,h3⟩,h4⟩,h5⟩:=hc;have h5:=Nat.le_of_ble_eq_true h5;rw[acl h2];subst h4;obtain⟨n,rfl⟩:=Int.eq_ofNat_of_zero_le h1.1;exact OO 10 n c (Nat.lt_of_lt_of_le (by omega:n<18446744073709551616) (by decide)) (by omega) h3 (by omega)
  ·cases hR
def AA:Ct:=xH 50 0 Hva VY rZ
theorem NK:CtOk P AA:=C_ rfl (qE P) U5
theorem ZT(n b:Nat)(c:List Value)(x:Int):lQ P E AA 50 50 [aX 1 n b c, .int .u64 x] =
 (ae (List.all c oneCell)
 (ae (Bool.and (Nat.beq 0 0) (Bool.and (Nat.beq 0 0) (Nat.ble n 4194304)))
 (ak (Nat.beq n 0)
 (ae (vaC x (Value.slice (Option.some (Addr.mk 0 0 none)) 0 18446744073709551616) [] 5)
 (ae (Bool.and (Bool.not Bool.false) (Bool.and (Nat.beq 5 5) (Bool.and (Nat.ble 0 (List.length (aZ Bool.true (fF 1) (HAppend.hAppend [] (bc (hiM 10 (Int.toNat x))))))) (Nat.ble (Nat.add (List.length (HAppend.hAppend [] (bc (hiM 10 (Int.toNat x))))) 1) 4194304))))
 (ae (Nat.beq (Nat.add 0 (Nat.mul (List.length (HAppend.hAppend [] (bc (hiM 10 (Int.toNat x))))) 1)) (List.length (aZ Bool.true (fF 1) (HAppend.hAppend [] (bc (hiM 10 (Int.toNat x)))))))
 (some ((Value.slice (Option.some (Addr.mk 0 0 none)) (Nat.add (List.length (HAppend.hAppend [] (bc (hiM 10 (Int.toNat x))))) 1) 18446744073709551616),(af [(Blk.cells (aZ Bool.true (bY 0 [3]) (List.append (takeC (Nat.mul (List.length (HAppend.hAppend [] (bc (hiM 10 (Int.toNat x))))) 1) (bT 0 (aZ Bool.true (fF 1) (HAppend.hAppend [] (bc (hiM 10 (Int.toNat x))))))) [(Value.int IntKind.u8 (cvI IntKind.u8 (Nat.cast (lC 10 (Int.toNat x)))))])) 5 Bool.false)]))))))
 (ae (vaC x (Value.slice (Option.some (Addr.mk 0 0 none)) n 18446744073709551616) (aZ Bool.true (bY 0 [0]) c) 5)
 (ae (Bool.and (Bool.not Bool.false) (Bool.and (Nat.beq 5 5) (Bool.and (Nat.ble 0 (List.length (aZ Bool.true (fF 1) (HAppend.hAppend (aZ Bool.true (bY 0 [0]) c) (bc (hiM 10 (Int.toNat x))))))) (Nat.ble (Nat.add (List.length (HAppend.hAppend (aZ Bool.true (bY 0 [0]) c) (bc (hiM 10 (Int.toNat x))))) 1) 4194304))))
 (ae (Nat.beq (Nat.add 0 (Nat.mul (List.length (HAppend.hAppend (aZ Bool.true (bY 0 [0]) c) (bc (hiM 10 (Int.toNat x))))) 1)) (List.length (aZ Bool.true (fF 1) (HAppend.hAppend (aZ Bool.true (bY 0 [0]) c) (bc (hiM 10 (Int.toNat x)))))))
 (some ((Value.slice (Option.some (Addr.mk 0 0 none)) (Nat.add (List.length (HAppend.hAppend (aZ Bool.true (bY 0 [0]) c) (bc (hiM 10 (Int.toNat x))))) 1) 18446744073709551616),(af [(Blk.cells (aZ Bool.true (bY 0 [3]) (List.append (takeC (Nat.mul (List.length (HAppend.hAppend (aZ Bool.true (bY 0 [0]) c) (bc (hiM 10 (Int.toNat x))))) 1) (bT 0 (aZ Bool.true (fF 1) (HAppend.hAppend (aZ Bool.true (bY 0 [0]) c) (bc (hiM 10 (Int.toNat x))))))) [(Value.int IntKind.u8 (cvI IntKind.u8 (Nat.cast (lC 10 (Int.toNat x)))))])) 5 Bool.false)]))))))))):=by kernel_rfl
theorem aa6(x:Int):lQ P E AA 50 50 [.slice none 0 0, .int .u64 x] =
 (ae (vaC x (Value.slice (Option.some (Addr.mk 0 0 none)) 0 18446744073709551616) [] 5)
 (ae (Bool.and (Bool.not Bool.false) (Bool.and (Nat.beq 5 5) (Bool.and (Nat.ble 0 (List.length (aZ Bool.true (fF 1) (HAppend.hAppend [] (bc (hiM 10 (Int.toNat x))))))) (Nat.ble (Nat.add (List.length (HAppend.hAppend [] (bc (hiM 10 (Int.toNat x))))) 1) 4194304))))
 (ae (Nat.beq (Nat.add 0 (Nat.mul (List.length (HAppend.hAppend [] (bc (hiM 10 (Int.toNat x))))) 1)) (List.length (aZ Bool.true (fF 1) (HAppend.hAppend [] (bc (hiM 10 (Int.toNat x)))))))
 (some ((Value.slice (Option.some (Addr.mk 0 0 none)) (Nat.add (List.length (HAppend.hAppend [] (bc (hiM 10 (Int.toNat x))))) 1) 18446744073709551616),(af [(Blk.cells (aZ Bool.true (bY 0 [3]) (List.append (takeC (Nat.mul (List.length (HAppend.hAppend [] (bc (hiM 10 (Int.toNat x))))) 1) (bT 0 (aZ Bool.true (fF 1) (HAppend.hAppend [] (bc (hiM 10 (Int.toNat x))))))) [(Value.int IntKind.u8 (cvI IntKind.u8 (Nat.cast (lC 10 (Int.toNat x)))))])) 5 Bool.false)])))))):=by kernel_rfl
def fzB(t n:Nat)(c:List Value):Bool:=Nat.beq t (FZ+1)&&Nat.beq n c.length&&tq c&&Nat.ble (c.length+64) 4194304
theorem uZ{t n:Nat}{c:List Value}(h:fzB t n c=true):t=FZ+1/\n=c.length/\(∃ l,c=bc l/\l=c.map byteOf)/\c.length+64<=4194304:=by
 unfold fzB at h;simp only[Bool.and_eq_true]at h;obtain⟨⟨⟨h1,h2⟩,h3⟩,h4⟩:=h;exact⟨Nat.eq_of_beq_eq_true h1,Nat.eq_of_beq_eq_true h2,⟨_,Q3 h3,rfl⟩,Nat.le_of_ble_eq_true h4⟩
theorem wZ{n:Nat}{l:List UInt8}(h:n=l.length)(h2:l.length+64<=4194304):fzB (FZ+1) n (bc l)=true:=by
 unfold fzB;rw[zK,ah,tH rfl,tH h,lY h2]; rfl
theorem Sv(a b:List UInt8):bc a++bc b=bc (a++b):=(v_ a b).symm
def rX(l:List UInt8):Value×List Blk:=(sl 0 l.length,[.cells (bc l) 5 false])
def jK(x:Int):Bool:=inI x 18446744073709551616
def sK(V:Nat->List UInt8)(C:Int->Bool):kY
 |[.iface t (.agg ⟨.slice none n b::c⟩), .int .u64 x]=>some (.ite (fzB t n c&&C x) (.leaf (rX (c.map byteOf++V x.toNat))) .fail)
 |[.slice none n b, .int .u64 x]=>some (.ite (Nat.beq n 0&&Nat.beq b 0&&C x) (.leaf (rX (V x.toNat))) .fail)
 |_=>none
def Vs:kY:=sK dP jK
theorem JL{x:Nat}{l:List UInt8}(hx:x<18446744073709551616)(hl:l.length+10<=4194304):vaC x (.slice (some ⟨0,0,none⟩) l.length 18446744073709551616) (bc l) 5=true:=by
 unfold vaC;have h1:inI (x:Int) 18446744073709551616=true:=jk (by omega) (by omega);have h2:atB (.slice (some ⟨0,0,none⟩) l.length 18446744073709551616) 0 (bc l).length=true:=by rw[ah]; exact aca 0 _
 rw[h1,h2,uz,ah,lY hl]; rfl
theorem D_{n:Nat}(h:n<18446744073709551616):cvI .u8 ((lC 10 n:Nat):Int)=((UInt8.ofNat (lC 10 n)).toNat:Int):=by
 have:=Px 10 n (Nat.lt_of_lt_of_le h (by decide));rw[Kw (by omega)];unfold cvI;rw[Iz];congr 1;omega
theorem F7{a:List UInt8}{b:UInt8}{ρ:Nat->Option Nat}:aZ true ρ (List.append (takeC (Nat.mul a.length 1) (bT 0 (bc a))) [Value.int .u8 (b.toNat:Int)])=bc (a++[b]):=by
 have:=NJ (ρ:=ρ) (uz a) (uz [b]);rw[ah]at this;rw[v_];exact this
section
variable{l:List UInt8}{b n:Nat}
theorem Yz(hl:l.length+64<=4194304)(hn:n<18446744073709551616):lQ P E AA 50 50 [aX 1 l.length b (bc l), .int .u64 n]=some ((rX (l++dP n)).1,af (rX (l++dP n)).2):=by
 have hh:=uf 10 n;rw[ZT];simp only[Int.toNat_natCast,aP,List.nil_append,Sv,ah];refine iP (bu l) (iP (kE rfl (kE rfl (lY (by omega)))) ?_);cases hz:Nat.beq l.length 0 with
 |true=>
  have hl0:l=[]:=List.eq_nil_of_length_eq_zero (Nat.eq_of_beq_eq_true hz);subst hl0;refine lJ rfl (iP (JL (l:=[]) hn (by simp)) (iP (kE rfl (kE rfl (kE (lY (Nat.zero_le _)) (lY (by show _+1<=_; omega))))) (iP (tH (by simp)) ?_)));rw[D_ hn,F7];simp[rX,dP,sl,unk]
 |false=>
  refine k_ rfl (iP (JL hn (by omega)) (iP (kE rfl (kE rfl (kE (lY (Nat.zero_le _)) (lY (by show _+1<=_; rw[List.length_append]; omega))))) (iP (tH (by simp)) ?_)));rw[D_ hn,F7];simp[rX,dP,sl,unk,Nat.add_assoc]
theorem WU(hn:n<18446744073709551616):lQ P E AA 50 50 [.slice none 0 0, .int .u64 n]=some ((rX (dP n)).1,af (rX (dP n)).2):=by
 have hh:=uf 10 n;rw[aa6];simp only[Int.toNat_natCast,aP,List.nil_append,Sv,ah];refine iP (JL (l:=[]) hn (by simp)) (iP (kE rfl (kE rfl (kE (lY (Nat.zero_le _)) (lY (by show _+1<=_; omega))))) (iP (tH (by simp)) ?_));rw[D_ hn,F7];simp[rX,dP,sl,unk]
end
theorem app_any{F:Nat}(h1:∀ {l:List UInt8} {b n:Nat},l.length+64<=4194304->n<18446744073709551616->lQ P E AA 50 F [aX 1 l.length b (bc l), .int .u64 n]=some ((rX (l++dP n)).1,af (rX (l++dP n)).2))
  (h2:∀ {n:Nat},n<18446744073709551616->lQ P E AA 50 F [.slice none 0 0, .int .u64 n]=some ((rX (dP n)).1,af (rX (dP n)).2)):CallOkR P F Vs:=by
 refine Eo NK (n:=50) fun args t hR v bs hev=>?_;unfold Vs sK at hR;split at hR
 ·rename_i t n b c x;obtain rfl:=Option.some.inj hR;cases hc:fzB t n c&&jK x with
  |false=>rw[hc]at hev; cases hev
  |true=>
   rw[hc]at hev;simp only[Bool.and_eq_true,jK,inI,decide_eq_true_eq]at hc;obtain⟨h,hx⟩:=hc;obtain⟨rfl,rfl,⟨l,rfl,hl⟩,h4⟩:=uZ h;obtain⟨n,rfl⟩:=Int.eq_ofNat_of_zero_le hx.1;rw[<-hl]at hev;simp only[DT.eval,Option.some.injEq,Prod.mk.injEq,Int.toNat_natCast]at hev;obtain⟨rfl,rfl⟩:=hev;rw[ah]at h4;have:=h1 (b:=b) h4 (show n<18446744073709551616 by omega);rw[ah];exact this
 ·rename_i n b x;obtain rfl:=Option.some.inj hR;cases hc:Nat.beq n 0&&Nat.beq b 0&&jK x with
  |false=>rw[hc]at hev; cases hev
  |true=>
   rw[hc]at hev;simp only[Bool.and_eq_true,jK,inI,decide_eq_true_eq]at hc;obtain⟨⟨hn,hb⟩,hx⟩:=hc;obtain rfl:=Nat.eq_of_beq_eq_true hn;obtain rfl:=Nat.eq_of_beq_eq_true hb;obtain⟨n,rfl⟩:=Int.eq_ofNat_of_zero_le hx.1;simp only[DT.eval,Option.some.injEq,Prod.mk.injEq,Int.toNat_natCast]at hev;obtain⟨rfl,rfl⟩:=hev;exact h2 (show n<18446744073709551616 by omega)
 ·cases hR
theorem tC:CallOkR P 50 Vs:=app_any Yz WU
def XX(V:Nat->List UInt8)(C:Int->Bool):Ct:=kG P 50 (sK V C) AA
def rP:Ct:=XX dP jK
theorem uw:CtOk P rP:=ji NK tC
def Hvr:Head:=⟨0,40,[2,3,4,7,8,9],[]⟩
def Bvr:Code:=(dR P 164 0).getD .skip
theorem T_:dR P 164 0=some Bvr:=by kernel_rfl
theorem xu:Occ P 164 (.block 0 (.loop Bvr)):=fA T_
theorem LJ(V:Nat->List UInt8)(C:Int->Bool)(x i z:Int)(n b:Nat)(c:List Value):oU P E (XX V C) 50 164 Bvr Hvr [.int .u64 x, .int .i64 0, .int .i64 0,aX 1 n b c, .int .i64 z, .int .i64 i] [] =
 (ak (ltI i z)
 (ae (Bool.and (Nat.beq 1 1) (inI i n))
 (ae (Bool.and (Nat.ble (Nat.add (atN i 1) 1) (List.length c)) (eu (Eta.int IntKind.u8) (aU c (atN i 1))))
 (ak (eqI i (9:Int))
 (ak (gtI (asI (aU c (atN i 1))) (1:Int))
 (some ((Value.tuple (Array.mk [(Value.int IntKind.i64 (1:Int)),(Value.int IntKind.u64 x),(Value.int IntKind.i64 (0:Int)),(Value.int IntKind.i64 (0:Int)),(Value.iface 18446744073709551617 (Value.agg (Array.mk ((Value.slice none n b)::c)))),(Value.int IntKind.i64 z),(Value.int IntKind.i64 i)])),(af [])))
 (ae (Aa (qR IntKind.i64 (7:Int) i))
 (ak (geI (asI (aU c (atN i 1))) (128:Int))
 (some ((Value.tuple (Array.mk [(Value.int IntKind.i64 (0:Int)),(Value.int IntKind.u64 (orI IntKind.u64 x (tX IntKind.u64 (cvI IntKind.u64 (tK IntKind.u8 (asI (aU c (atN i 1))) (127:Int))) (qR IntKind.i64 (7:Int) i)))),(Value.int IntKind.i64 (0:Int)),(Value.int IntKind.i64 (0:Int)),(Value.iface 18446744073709551617 (Value.agg (Array.mk ((Value.slice none n b)::c)))),(Value.int IntKind.i64 z),(Value.int IntKind.i64 (dO IntKind.i64 i (1:Int)))])),(af [])))
 (ak (eqI (asI (aU c (atN i 1))) (0:Int))
 (ak (gtI i (0:Int))
 (some ((Value.tuple (Array.mk [(Value.int IntKind.i64 (1:Int)),(Value.int IntKind.u64 (orI IntKind.u64 x (tX IntKind.u64 (cvI IntKind.u64 (tK IntKind.u8 (asI (aU c (atN i 1))) (127:Int))) (qR IntKind.i64 (7:Int) i)))),(Value.int IntKind.i64 (0:Int)),(Value.int IntKind.i64 (0:Int)),(Value.iface 18446744073709551617 (Value.agg (Array.mk ((Value.slice none n b)::c)))),(Value.int IntKind.i64 z),(Value.int IntKind.i64 i)])),(af [])))
 (some ((Value.tuple (Array.mk [(Value.int IntKind.i64 (-1:Int)),(Value.int IntKind.u64 (orI IntKind.u64 x (tX IntKind.u64 (cvI IntKind.u64 (tK IntKind.u8 (asI (aU c (atN i 1))) (127:Int))) (qR IntKind.i64 (7:Int) i)))),(Value.int IntKind.i64 (dO IntKind.i64 i (1:Int))),(Value.int IntKind.i64 (0:Int)),(Value.iface 18446744073709551617 (Value.agg (Array.mk ((Value.slice none n b)::c)))),(Value.int IntKind.i64 z),(Value.int IntKind.i64 i)])),(af []))))
 (some ((Value.tuple (Array.mk [(Value.int IntKind.i64 (-1:Int)),(Value.int IntKind.u64 (orI IntKind.u64 x (tX IntKind.u64 (cvI IntKind.u64 (tK IntKind.u8 (asI (aU c (atN i 1))) (127:Int))) (qR IntKind.i64 (7:Int) i)))),(Value.int IntKind.i64 (dO IntKind.i64 i (1:Int))),(Value.int IntKind.i64 (0:Int)),(Value.iface 18446744073709551617 (Value.agg (Array.mk ((Value.slice none n b)::c)))),(Value.int IntKind.i64 z),(Value.int IntKind.i64 i)])),(af [])))))))
 (ae (Aa (qR IntKind.i64 (7:Int) i))
 (ak (geI (asI (aU c (atN i 1))) (128:Int))
 (some ((Value.tuple (Array.mk [(Value.int IntKind.i64 (0:Int)),(Value.int IntKind.u64 (orI IntKind.u64 x (tX IntKind.u64 (cvI IntKind.u64 (tK IntKind.u8 (asI (aU c (atN i 1))) (127:Int))) (qR IntKind.i64 (7:Int) i)))),(Value.int IntKind.i64 (0:Int)),(Value.int IntKind.i64 (0:Int)),(Value.iface 18446744073709551617 (Value.agg (Array.mk ((Value.slice none n b)::c)))),(Value.int IntKind.i64 z),(Value.int IntKind.i64 (dO IntKind.i64 i (1:Int)))])),(af [])))
 (ak (eqI (asI (aU c (atN i 1))) (0:Int))
 (ak (gtI i (0:Int))
 (some ((Value.tuple (Array.mk [(Value.int IntKind.i64 (1:Int)),(Value.int IntKind.u64 (orI IntKind.u64 x (tX IntKind.u64 (cvI IntKind.u64 (tK IntKind.u8 (asI (aU c (atN i 1))) (127:Int))) (qR IntKind.i64 (7:Int) i)))),(Value.int IntKind.i64 (0:Int)),(Value.int IntKind.i64 (0:Int)),(Value.iface 18446744073709551617 (Value.agg (Array.mk ((Value.slice none n b)::c)))),(Value.int IntKind.i64 z),(Value.int IntKind.i64 i)])),(af [])))
 (some ((Value.tuple (Array.mk [(Value.int IntKind.i64 (-1:Int)),(Value.int IntKind.u64 (orI IntKind.u64 x (tX IntKind.u64 (cvI IntKind.u64 (tK IntKind.u8 (asI (aU c (atN i 1))) (127:Int))) (qR IntKind.i64 (7:Int) i)))),(Value.int IntKind.i64 (dO IntKind.i64 i (1:Int))),(Value.int IntKind.i64 (0:Int)),(Value.iface 18446744073709551617 (Value.agg (Array.mk ((Value.slice none n b)::c)))),(Value.int IntKind.i64 z),(Value.int IntKind.i64 i)])),(af []))))
 (some ((Value.tuple (Array.mk [(Value.int IntKind.i64 (-1:Int)),(Value.int IntKind.u64 (orI IntKind.u64 x (tX IntKind.u64 (cvI IntKind.u64 (tK IntKind.u8 (asI (aU c (atN i 1))) (127:Int))) (qR IntKind.i64 (7:Int) i)))),(Value.int IntKind.i64 (dO IntKind.i64 i (1:Int))),(Value.int IntKind.i64 (0:Int)),(Value.iface 18446744073709551617 (Value.agg (Array.mk ((Value.slice none n b)::c)))),(Value.int IntKind.i64 z),(Value.int IntKind.i64 i)])),(af [])))))))))
 (some ((Value.tuple (Array.mk [(Value.int IntKind.i64 (1:Int)),(Value.int IntKind.u64 x),(Value.int IntKind.i64 (0:Int)),(Value.int IntKind.i64 (0:Int)),(Value.iface 18446744073709551617 (Value.agg (Array.mk ((Value.slice none n b)::c)))),(Value.int IntKind.i64 z),(Value.int IntKind.i64 i)])),(af [])))):=by kernel_rfl
def fw_(n:Nat)(c:List Value):Bool:=fzB 18446744073709551617 n c
theorem fz1:FZ+1=18446744073709551617:=by unfold FZ; rfl
theorem MW(n:Nat):IntKind.u64.wrap (n:Int)=((n % 18446744073709551616:Nat):Int):=by
 have e:IntKind.u64.wrap (n:Int)=(n:Int) % 18446744073709551616:=by
  show(if(false&&decide ((n:Int) % (2^64:Int)>=(2^(64-1):Int)))=true then(n:Int) % (2^64:Int)-(2^64:Int)else(n:Int) % (2^64:Int))=_;simp
 rw[e]; omega
theorem adl:∀ n:Fin 256,tK .u8 (n.val:Int) 127=((n.val % 128:Nat):Int):=by decide +kernel
theorem YN(a b:Nat)(hb:b<=64):tX .u64 (a:Int) (b:Int)=((a*2^b % 18446744073709551616:Nat):Int):=by
 unfold tX;have e:min (b:Int).toNat IntKind.u64.bits=b:=by
  have:IntKind.u64.bits=64:=rfl;rw[this,Int.toNat_natCast]; omega
 rw[e,show(a:Int)*2^b=((a*2^b:Nat):Int) by push_cast; rfl,MW]
theorem ac7(a b:Nat)(ha:a<18446744073709551616)(hb:b<18446744073709551616):orI .u64 (a:Int) (b:Int)=((a ||| b:Nat):Int):=by
 unfold orI;have hbits:IntKind.u64.bits=64:=rfl;rw[hbits];have e1:(BitVec.ofInt 64 (a:Int) ||| BitVec.ofInt 64 (b:Int)).toNat=a ||| b:=by
  rw[BitVec.toNat_or];have f:∀ n:Nat,n<18446744073709551616->(BitVec.ofInt 64 (n:Int)).toNat=n:=by
   intro n hn;rw[BitVec.toNat_ofInt];have:((2^64:Nat):Int)=18446744073709551616:=by decide
   rw[this];omega
  rw[f a ha,f b hb]
 rw[e1];have:a ||| b<2^64:=Nat.or_lt_two_pow (by simpa using ha) (by simpa using hb)
 exact gY (by simpa using this)
theorem abM{X a i:Nat}(hX:X<2^i):X ||| a*2^i=X+a*2^i:=by
 have:=Nat.shiftLeft_add_eq_or_of_lt hX a;rw[Nat.shiftLeft_eq]at this;rw[Nat.or_comm,<-this,Nat.add_comm]
def lH(X i c:Nat):Nat:=X+c % 128*2^(7*i) % 18446744073709551616
theorem Ua{i:Nat}(h:i<=9):2^(7*i)<=9223372036854775808:=by
 have:=Nat.pow_le_pow_right (n:=2) (by decide) (show 7*i<=63 by omega);simpa using this
theorem aa9{a i:Nat}(h:i<=9):∃ a',a*2^(7*i) % 18446744073709551616=a'*2^(7*i)/\a'*2^(7*i)<18446744073709551616:=by
 have hp:=Ua h;have e:(18446744073709551616:Nat)=2^(64-7*i)*2^(7*i):=by
  rw[<-Nat.pow_add,show 64-7*i+7*i=64 by omega]
 refine⟨a % 2^(64-7*i),?_,?_⟩
 ·rw[e,Nat.mul_mod_mul_right]
 ·rw[e];exact Nat.mul_lt_mul_of_pos_right (Nat.mod_lt _ (Nat.pow_pos (by decide))) (Nat.pow_pos (by decide))
theorem aau{X i c:Nat}(hi:i<=9)(hX:X<2^(7*i)):orI .u64 (X:Int) (tX .u64 ((c % 128:Nat):Int) ((7*i:Nat):Int))=((lH X i c:Nat):Int):=by
 rw[YN _ _ (by omega)];obtain⟨a',h1,h2⟩:=aa9 (a:=c % 128) hi;have hp:=Ua hi;unfold lH;rw[h1,ac7 _ _ (by omega) h2,abM hX]
theorem aep{i:Nat}(hi:i<=10):qR .i64 7 (i:Int)=((7*i:Nat):Int):=by
 unfold qR;rw[wrap64 (by omega) (by omega)]; omega
theorem acY(c:UInt8):cvI .u64 (tK .u8 (c.toNat:Int) 127)=((c.toNat % 128:Nat):Int):=by
 have:=adl ⟨c.toNat,c.toNat_lt⟩;simp only at this;rw[this];unfold cvI;exact gY (by omega)
theorem add1{i:Nat}(hi:i<9223372036854775800):dO .i64 (i:Int) 1=((i+1:Nat):Int):=by
 unfold dO;rw[wrap64 (by omega) (by omega)]; omega
theorem step_next{X i c:Nat}(hi:i<=8)(hX:X<2^(7*i)):lH X i c<2^(7*(i+1)):=by
 have h1:2^(7*(i+1))=128*2^(7*i):=by rw[show 7*(i+1)=7*i+7 by omega,Nat.pow_add]; omega
 have hp:=Nat.pow_le_pow_right (n:=2) (by decide) (show 7*i<=56 by omega);have hp:2^(7*i)<=72057594037927936:=by simpa using hp
 have h2:c % 128*2^(7*i)<=127*2^(7*i):=Nat.mul_le_mul_right _ (by omega);unfold lH;rw[Nat.mod_eq_of_lt (by omega),h1];omega
theorem abR{l:List UInt8}{i:Nat}(h:i<l.length):aU (bc l) (atN (i:Int) 1) = .int .u8 (l[i].toNat):=by
 have e:atN (i:Int) 1=i:=by simp[atN]
 rw[e]; exact adx h
theorem NM(k:IntKind)(n:Int):asI (.int k n)=n:=rfl
theorem Oy(n:Int):eu (.int .u8) (.int .u8 n)=true:=rfl
def iC:Nat->Nat->List UInt8->Bool×Nat×Nat
 |i,X,[]=>(false,X,i)
 |i,X,c::r=>match decide (i=9/\1<c.toNat),decide (128<=c.toNat),decide (c.toNat=0/\0<i)with
  |true,_,_=>(false,X,i)
  |false,true,_=>iC (i+1) (lH X i c.toNat) r
  |false,false,true=>(false,lH X i c.toNat,i)
  |false,false,false=>(true,lH X i c.toNat,i+1)
section
variable{l:List UInt8}{b:Nat}{i X:Nat}
def vrS(l:List UInt8)(b:Nat)(X:Nat)(n e:Int)(i:Nat):List Value:=[.int .u64 X, .int .i64 n, .int .i64 e,aX 1 l.length b (bc l), .int .i64 l.length, .int .i64 i]
theorem adp(h:i=l.length):oU P E rP 50 164 Bvr Hvr (vrS l b X 0 0 i) []=some (.tuple ⟨exV (.exit 0)::vrS l b X 0 0 i⟩,af []):=by
 unfold vrS rP;rw[LJ];exact k_ (by simp[ltI,h]) (Bc (by simp only[aX,fz1]; rfl) rfl)
theorem aaO(h:i<l.length)(h9:i=9)(hc:1<l[i].toNat):oU P E rP 50 164 Bvr Hvr (vrS l b X 0 0 i) []=some (.tuple ⟨exV (.exit 0)::vrS l b X 0 0 i⟩,af []):=by
 unfold vrS rP;rw[LJ];simp only[abR h,NM,Oy,ah];refine lJ (by simp[ltI,h]) (iP (kE rfl (jk (by omega) (by show(i:Int)<(l.length:Int); omega))) (iP (kE (lY (by show atN (i:Int) 1+1<=_; simp[atN]; omega)) rfl) ?_));exact lJ (by simp[eqI,h9]) (lJ (by simp[gtI]; omega) (Bc (by simp only[aX,fz1]; rfl) rfl))
theorem aag(h:i<l.length)(hi:i<=9)(hX:X<2^(7*i))(h9:¬(i=9/\1<l[i].toNat)){r:Res}
  (k:ak (geI (l[i].toNat:Int) 128) (some (.tuple ⟨exV .normal::vrS l b (lH X i l[i].toNat) 0 0 (i+1)⟩,af []))
   (ak (eqI (l[i].toNat:Int) 0) (ak (gtI (i:Int) 0) (some (.tuple ⟨exV (.exit 0)::vrS l b (lH X i l[i].toNat) 0 0 i⟩,af [])) (some (.tuple ⟨exV .ret::vrS l b (lH X i l[i].toNat) ((i+1:Nat):Int) 0 i⟩,af [])))
    (some (.tuple ⟨exV .ret::vrS l b (lH X i l[i].toNat) ((i+1:Nat):Int) 0 i⟩,af [])))=r) :
  oU P E rP 50 164 Bvr Hvr (vrS l b X 0 0 i) []=r:=by
 rw[<-k];clear k;unfold vrS rP;rw[LJ];simp only[abR h,NM,Oy,ah,acY,aep (show i<=10 by omega),aau hi hX,add1 (show i<9223372036854775800 by omega)];refine lJ (by simp[ltI,h]) (iP (kE rfl (jk (by omega) (by show(i:Int)<(l.length:Int); omega))) (iP (kE (lY (by show atN (i:Int) 1+1<=_; simp[atN]; omega)) rfl) ?_));have hpos:Aa ((7*i:Nat):Int)=true:=by simp[Aa]; omega
 by_cases hh:i=9
 ·refine lJ (by simp[eqI,hh]) (k_ ?_ (iP hpos (by simp only[aX,fz1]; rfl)));simp only[gtI,decide_eq_false_iff_not];omega
 ·refine k_ (by simp[eqI]; omega) (iP hpos (by simp only[aX,fz1]; rfl))
end
def vrE(l:List UInt8)(b:Nat)(q:Bool×Nat×Nat):Ex×List Value:=match q.1 with
 |true=>(.ret,vrS l b q.2.1 (q.2.2:Int) 0 (q.2.2-1))
 |false=>(.normal,vrS l b q.2.1 0 0 q.2.2)
theorem OD(l:List UInt8)(b:Nat)(hl:l.length<9223372036854775800):∀ (k i X:Nat),i+k=l.length->i<=9->X<2^(7*i)->
  LR P 164 0 Bvr Hvr (vrS l b X 0 0 i) [] (vrE l b (iC i X (l.drop i))).1 (vrE l b (iC i X (l.drop i))).2 []
 |0,i,X,hi,h9,hX=>by
  have e:l.drop i=[]:=List.drop_of_length_le (by omega);rw[e];exact LR.stop (bf rP) az uw xu (by kernel_rfl) (e:= .exit 0) (adp (by omega)) (by intro h; cases h)
 |k+1,i,X,hi,h9,hX=>by
  have hlt:i<l.length:=by omega
  rw[List.drop_eq_getElem_cons hlt];by_cases h1:i=9/\1<l[i].toNat
  ·have e:iC i X (l[i]::l.drop (i+1))=(false,X,i):=by
    have d:=decide_eq_true h1;simp only[iC,d]
   rw[e];exact LR.stop (bf rP) az uw xu (by kernel_rfl) (e:= .exit 0) (aaO hlt h1.1 h1.2) (by intro h; cases h)
  ·have hs:=fun {r:Res}=>aag (l:=l) (b:=b) (i:=i) (X:=X) hlt h9 hX h1 (r:=r);by_cases h2:128<=l[i].toNat
   ·have e:iC i X (l[i]::l.drop (i+1))=iC (i+1) (lH X i l[i].toNat) (l.drop (i+1)):=by simp only[iC,h1,h2,decide_true,decide_false]
    rw[e];have h8:i<=8:=by
     have:i≠9:=fun h=>h1 ⟨h,by omega⟩;omega
    have ih:=OD l b hl k (i+1) (lH X i l[i].toNat) (by omega) (by omega) (step_next h8 hX);exact LR.again (bf rP) az uw xu (by kernel_rfl) (hs (lJ (by simp[geI]; omega) rfl)) ih
   ·by_cases h3:l[i].toNat=0/\0<i
    ·have e:iC i X (l[i]::l.drop (i+1))=(false,lH X i l[i].toNat,i):=by simp only[iC,h1,h2,h3,decide_true,decide_false]; simp
     rw[e];exact LR.stop (bf rP) az uw xu (by kernel_rfl) (e:= .exit 0) (hs (k_ (by simp[geI]; omega) (lJ (by simp[eqI]; omega) (lJ (by simp[gtI]; omega) rfl)))) (by intro h; cases h)
    ·have e:iC i X (l[i]::l.drop (i+1))=(true,lH X i l[i].toNat,i+1):=by simp only[iC,h1,h2,h3,decide_true,decide_false]
     rw[e];refine LR.stop (bf rP) az uw xu (by kernel_rfl) (e:= .ret) (hs (k_ (by simp[geI]; omega) ?_)) (by intro h; cases h);by_cases h0:l[i].toNat=0
     ·exact lJ (by simp[eqI,h0]) (k_ (by simp[gtI]; omega) rfl)
     ·exact k_ (by simp[eqI]; omega) rfl
theorem BZ:∀ (r:List UInt8) (i X:Nat),(iC i X r).1=true->i<(iC i X r).2.2/\(iC i X r).2.2<=i+r.length
 |[],i,X,h=>by simp[iC]at h
 |c::r,i,X,h=>by
  simp only[iC]at h ⊢;split at h
  ·cases h
  ·have:=BZ r (i+1) _ h;simp only[List.length_cons];omega
  ·cases h
  ·simp
def vrC(x e n:Int)(t n1:Nat)(c:List Value)(z i:Int):Bool:=x == 0&&e == 0&&n == 0&&i == 0&&Nat.beq t (FZ+1)&&Nat.beq n1 c.length&&z == (c.length:Int)&&tq c&&Nat.ble (c.length+64) 4194304
def XK(Q:List UInt8->Bool)(N:List UInt8->Nat×Nat):jO:=fun vs bs=>match vs,bs with
 |[.int .u64 x, .int .i64 n, .int .i64 e, .iface t (.agg ⟨.slice none n1 b::c⟩), .int .i64 z, .int .i64 i],[]=>some (.ite (vrC x e n t n1 c z i)
   (.ite (Q (c.map byteOf)) (.leaf (.ret,(vrE (c.map byteOf) b (true,N (c.map byteOf))).2,[])) (.leaf (.normal,(vrE (c.map byteOf) b (false,N (c.map byteOf))).2,[]))) .fail)
 |_,_=>none
def abr:jO:=XK (fun l=>(iC 0 0 l).1) (fun l=>(iC 0 0 l).2)
theorem U9:LoopOk P 164 0 Bvr Hvr abr where
 occ:=dL T_
 ok:=by kernel_rfl
 run:=by
  intro vs bs t hR e vs' bs' hev;unfold abr XK at hR;split at hR
  ·rename_i x n e0 t n1 b c z i;obtain rfl:=Option.some.inj hR;cases hc:vrC x e0 n t n1 c z i with
   |false=>rw[hc]at hev; cases hev
   |true=>
    rw[hc]at hev;simp only[vrC,Bool.and_eq_true,beq_iff_eq]at hc;obtain⟨⟨⟨⟨⟨⟨⟨⟨h1,h2⟩,h3⟩,h4⟩,h5⟩,h6⟩,h7⟩,h8⟩,h9⟩:=hc;have h9:=Nat.le_of_ble_eq_true h9;obtain rfl:=Nat.eq_of_beq_eq_true h5;obtain rfl:=Nat.eq_of_beq_eq_true h6;subst h1 h2 h3 h4 h7;have hcb:=Q3 h8;generalize c.map byteOf=l at hcb hev;subst hcb;simp only[]at hev;have:=OD l b (by rw[ah]at h9; omega) l.length 0 0 (by omega) (by omega) (by decide);rw[List.drop_zero]at this;rw[ah];generalize hq:iC 0 0 l=q at this hev;obtain⟨ok,q⟩:=q;cases ok with
    |true=>
     simp only[DT.eval,Option.some.injEq,Prod.mk.injEq]at hev;obtain⟨rfl,rfl,rfl⟩:=hev;exact this
    |false=>
     simp only[DT.eval,Option.some.injEq,Prod.mk.injEq]at hev;obtain⟨rfl,rfl,rfl⟩:=hev;exact this
  ·cases hR
def gZ(l:List UInt8):Nat×Nat×Int:=match iC 0 0 l with
 |(true,X,n)=>(X,n,0)
 |(false,_)=>(0,0,5)
def Xc(q:Bool×Nat×Nat):Nat×Nat×Int:=match q with
 |(true,X,n)=>(X,n,0)
 |(false,_)=>(0,0,5)
section
variable{l:List UInt8}{b:Nat}{i X:Nat}
end
def X_(Q:List UInt8->Bool)(N:List UInt8->Nat×Nat):Ct:=xH 164 0 Hvr (XK Q N) rP
def Jv:Ct:=X_ (fun l=>(iC 0 0 l).1) (fun l=>(iC 0 0 l).2)
theorem PI:CtOk P Jv:=C_ rfl uw U9
theorem VP(Q:List UInt8->Bool)(N:List UInt8->Nat×Nat)(n b:Nat)(c:List Value):lQ P E (X_ Q N) 50 164 [aX 1 n b c] =
 (ae (vrC (0:Int) (0:Int) (0:Int) 18446744073709551617 n c (ag n) (0:Int))
 (ak (Q (List.map byteOf c))
 (some ((Value.tuple (Array.mk [(Value.int IntKind.u64 (Nat.cast (Prod.fst (N (List.map byteOf c))))),(Value.int IntKind.i64 (Nat.cast (Prod.snd (N (List.map byteOf c))))),(Value.int IntKind.i64 (0:Int))])),(af [])))
 (some ((Value.tuple (Array.mk [(Value.int IntKind.u64 (0:Int)),(Value.int IntKind.i64 (0:Int)),(Value.int IntKind.i64 (5:Int))])),(af []))))):=by kernel_rfl
theorem abj(l:List UInt8):gZ l=Xc (iC 0 0 l):=by
 unfold gZ Xc;rcases iC 0 0 l with⟨ok,X,n⟩
 cases ok<;>rfl
theorem ab9{l:List UInt8}(h:l.length+64<=4194304):vrC 0 0 0 18446744073709551617 l.length (bc l) (ag l.length) 0=true:=by
 unfold vrC;rw[zK,ah,fz1,lY h,tH rfl,tH rfl];simp[ag]
def Xe(x:Nat)(n:Nat)(e:Int):Value:= .tuple ⟨[.int .u64 x, .int .i64 n, .int .i64 e]⟩
def I4(X N:List UInt8->Nat)(Z:List UInt8->Int):kY
 |[.iface t (.agg ⟨.slice none n b::c⟩)]=>some (.ite (fzB t n c) (.leaf (Xe (X (c.map byteOf)) (N (c.map byteOf)) (Z (c.map byteOf)),[])) .fail)
 |_=>none
def PR:kY:=I4 (fun l=>(gZ l).1) (fun l=>(gZ l).2.1) (fun l=>(gZ l).2.2)
theorem XH{l:List UInt8}{b:Nat}(h:l.length+64<=4194304):lQ P E Jv 50 164 [aX 1 l.length b (bc l)]=some (Xe (gZ l).1 (gZ l).2.1 (gZ l).2.2,af []):=by
 unfold Jv;rw[VP];simp only[aO];refine iP (ab9 h) ?_;rw[abj];unfold Xc;rcases iC 0 0 l with⟨ok,X,n⟩
 cases ok<;>rfl
theorem VI{F:Nat}(h:∀ {l:List UInt8} {b:Nat},l.length+64<=4194304->lQ P E Jv 50 F [aX 1 l.length b (bc l)]=some (Xe (gZ l).1 (gZ l).2.1 (gZ l).2.2,af [])):CallOkR P F PR:=by
 refine Eo PI (n:=50) fun args t hR v bs hev=>?_;unfold PR I4 at hR;split at hR
 ·rename_i t n b c;obtain rfl:=Option.some.inj hR;cases hc:fzB t n c with
  |false=>rw[hc]at hev; cases hev
  |true=>
   rw[hc]at hev;obtain⟨rfl,rfl,⟨l,rfl,hl⟩,h4⟩:=uZ hc;rw[<-hl]at hev;simp only[DT.eval,Option.some.injEq,Prod.mk.injEq]at hev;obtain⟨rfl,rfl⟩:=hev;rw[ah]at h4 ⊢;exact h h4
 ·cases hR
theorem YC:CallOkR P 164 PR:=VI XH
def Yg(X N:List UInt8->Nat)(Z:List UInt8->Int):Ct:=kG P 164 (I4 X N Z) Jv
def QG:Ct:=Yg (fun l=>(gZ l).1) (fun l=>(gZ l).2.1) (fun l=>(gZ l).2.2)
theorem aaG:CtOk P QG:=ji PI YC
theorem UI(X N:List UInt8->Nat)(Z:List UInt8->Int)(n b:Nat)(c:List Value)(m:Int):lQ P E (Yg X N Z) 50 135 [aX 1 n b c, .int .i64 m] =
 (ae (fzB 18446744073709551617 n c)
 (ak (neI (Z (List.map byteOf c)) (0:Int))
 (some ((Value.tuple (Array.mk [(Value.int IntKind.i64 (0:Int)),(Value.int IntKind.i64 (0:Int)),(Value.int IntKind.i64 (5:Int))])),(af [])))
 (ak (ltI m (0:Int))
 (some ((Value.tuple (Array.mk [(Value.int IntKind.i64 (0:Int)),(Value.int IntKind.i64 (0:Int)),(Value.int IntKind.i64 (5:Int))])),(af [])))
 (ak (gtI (Nat.cast (X (List.map byteOf c))) (cvI IntKind.u64 m))
 (some ((Value.tuple (Array.mk [(Value.int IntKind.i64 (0:Int)),(Value.int IntKind.i64 (0:Int)),(Value.int IntKind.i64 (5:Int))])),(af [])))
 (some ((Value.tuple (Array.mk [(Value.int IntKind.i64 (cvI IntKind.i64 (Nat.cast (X (List.map byteOf c))))),(Value.int IntKind.i64 (Nat.cast (N (List.map byteOf c)))),(Value.int IntKind.i64 (0:Int))])),(af []))))))):=by kernel_rfl
def DV(x:Int):Bool:=inI x 9223372036854775808
def pK(l:List UInt8)(m:Int):Bool:=(gZ l).2.2 == 0&&decide (((gZ l).1:Int)<=m)
def smV(x n:Int)(e:Int):Value:= .tuple ⟨[.int .i64 x, .int .i64 n, .int .i64 e]⟩
def NC(C:Int->Bool)(K:List UInt8->Int->Bool)(X N:List UInt8->Int):kY
 |[.iface t (.agg ⟨.slice none n b::c⟩), .int .i64 m]=>some (.ite (fzB t n c&&C m) (.ite (K (c.map byteOf) m) (.leaf (smV (X (c.map byteOf)) (N (c.map byteOf)) 0,[])) (.leaf (.tuple ⟨[.int .i64 0, .int .i64 0, .int .i64 5]⟩,[]))) .fail)
 |_=>none
def KW:kY:=NC DV pK (fun l=>((gZ l).1:Int)) (fun l=>((gZ l).2.1:Int))
theorem Sr{F:Nat}(h:∀ (l:List UInt8) (b:Nat) (m:Int),lQ P E QG 50 F [aX 1 l.length b (bc l), .int .i64 m]=ae (fzB 18446744073709551617 l.length (bc l)) (ak (neI (gZ l).2.2 0) (some (.tuple ⟨[.int .i64 0, .int .i64 0, .int .i64 5]⟩,af []))
   (ak (ltI m 0) (some (.tuple ⟨[.int .i64 0, .int .i64 0, .int .i64 5]⟩,af [])) (ak (gtI ((gZ l).1:Int) (cvI .u64 m)) (some (.tuple ⟨[.int .i64 0, .int .i64 0, .int .i64 5]⟩,af []))
    (some (.tuple ⟨[.int .i64 (cvI .i64 ((gZ l).1:Int)), .int .i64 (gZ l).2.1, .int .i64 0]⟩,af [])))))):CallOkR P F KW:=by
 refine Eo aaG (n:=50) fun args t hR v bs hev=>?_;unfold KW NC at hR;split at hR
 ·rename_i t n b c m;obtain rfl:=Option.some.inj hR;cases hc:fzB t n c&&DV m with
  |false=>rw[hc]at hev; cases hev
  |true=>
   rw[hc]at hev;simp only[Bool.and_eq_true]at hc;obtain⟨hc,hm⟩:=hc;simp only[DV,inI,decide_eq_true_eq]at hm;obtain⟨rfl,rfl,⟨l,rfl,hl⟩,h4⟩:=uZ hc;rw[<-hl]at hev;rw[ah]at h4 hc ⊢;show lQ P E QG 50 F [aX 1 l.length b (bc l), .int .i64 m]=_;rw[h l b m,<-fz1];refine iP hc ?_;have hcv:cvI .u64 m=m:=by
    obtain⟨m,rfl⟩:=Int.eq_ofNat_of_zero_le hm.1;exact gY (by omega)
   rw[hcv];have hlt:ltI m 0=false:=by simp[ltI]; omega
   simp only[]at hev;unfold pK at hev;generalize gZ l=q at hev ⊢;obtain⟨X,N,e⟩:=q;simp only at hev ⊢;by_cases he:e=0
   ·subst he;by_cases hx:(X:Int)<=m
    ·have hb:((0:Int) == 0&&decide ((X:Int)<=m))=true:=by simp[hx]
     rw[hb]at hev;simp only[DT.eval,Option.some.injEq,Prod.mk.injEq]at hev;obtain⟨rfl,rfl⟩:=hev;refine k_ (by simp[neI]) (k_ hlt (k_ (by simp[gtI]; omega) ?_));have:cvI .i64 (X:Int)=X:=by unfold cvI; exact wrap64 (by omega) (by omega)
     rw[this]; rfl
    ·have hb:((0:Int) == 0&&decide ((X:Int)<=m))=false:=by simp[hx]
     rw[hb]at hev;simp only[DT.eval,Option.some.injEq,Prod.mk.injEq]at hev;obtain⟨rfl,rfl⟩:=hev;exact k_ (by simp[neI]) (k_ hlt (lJ (by simp[gtI]; omega) rfl))
   ·have hb:(e == 0&&decide ((X:Int)<=m))=false:=by simp[he]
    rw[hb]at hev;simp only[DT.eval,Option.some.injEq,Prod.mk.injEq]at hev;obtain⟨rfl,rfl⟩:=hev;exact lJ (by simp[neI,he]) rfl
 ·cases hR
theorem Xg:CallOkR P 135 KW:=Sr fun l b m=>by
 unfold QG;rw[UI];simp only[aO]
theorem Ue(p:Bool)(k v:ByteArray):lQ P E rZ 50 47 [.agg ⟨[.bool p, .string k, .string v]⟩] =
 (ak (ltI (ag (ByteArray.size k)) (1:Int))
 (some ((Value.int IntKind.i64 (2:Int)),(af [])))
 (ak (gtI (ag (ByteArray.size k)) (16:Int))
 (some ((Value.int IntKind.i64 (2:Int)),(af [])))
 (ak (gtI (ag (ByteArray.size v)) (32:Int))
 (some ((Value.int IntKind.i64 (2:Int)),(af [])))
 (ak (fM p)
 (ak (neS v (ByteArray.mk #[]))
 (some ((Value.int IntKind.i64 (2:Int)),(af [])))
 (some ((Value.int IntKind.i64 (0:Int)),(af []))))
 (some ((Value.int IntKind.i64 (0:Int)),(af []))))))):=by kernel_rfl
def pG(p:Bool)(k v:ByteArray):Bool:=decide (1<=k.size)&&decide (k.size<=16)&&decide (v.size<=32)&&(p || v.data.toList == [])
def Gn(O:Bool->ByteArray->ByteArray->Bool):kY
 |[.agg ⟨[.bool p, .string k, .string v]⟩]=>some (.ite (O p k v) (.leaf (.int .i64 0,[])) (.leaf (.int .i64 2,[])))
 |_=>none
def JA:kY:=Gn pG
theorem Rn(p:Bool)(k v:ByteArray):ak (ltI (ag k.size) 1) (some (.int .i64 2,af [])) (ak (gtI (ag k.size) 16) (some (.int .i64 2,af [])) (ak (gtI (ag v.size) 32) (some (.int .i64 2,af []))
  (ak (fM p) (ak (neS v ⟨#[]⟩) (some (.int .i64 2,af [])) (some (.int .i64 0,af []))) (some (.int .i64 0,af [])))))=(some (.int .i64 (match pG p k v with | true=>0 | false=>2),af []):Res):=by
 unfold pG;by_cases h1:1<=k.size
 ·refine k_ (by show decide ((k.size:Int)<1)=false; exact decide_eq_false (by omega)) ?_;by_cases h2:k.size<=16
  ·refine k_ (by simp[gtI,ag]; omega) ?_;by_cases h3:v.size<=32
   ·refine k_ (by simp[gtI,ag]; omega) ?_;rw[decide_eq_true h1,decide_eq_true h2,decide_eq_true h3];cases p with
    |true=>exact k_ rfl rfl
    |false=>
     refine lJ rfl ?_;cases h4:v.data.toList == []with
     |true=>exact k_ (by rw[Vl]; show(!(v.data.toList == []))=false; rw[h4]; rfl) rfl
     |false=>exact lJ (by rw[Vl]; show(!(v.data.toList == []))=true; rw[h4]; rfl) rfl
   ·rw[decide_eq_false h3];exact lJ (by simp[gtI,ag]; omega) (by simp)
  ·rw[decide_eq_false h2];exact lJ (by simp[gtI,ag]; omega) (by simp)
 ·rw[decide_eq_false h1];exact lJ (by show decide ((k.size:Int)<1)=true; exact decide_eq_true (by omega)) (by simp)
theorem check_any{F:Nat}(h:∀ p k v,lQ P E rZ 50 F [.agg ⟨[.bool p, .string k, .string v]⟩]=some (.int .i64 (match pG p k v with | true=>0 | false=>2),af [])):CallOkR P F JA:=by
 refine Eo (qE P) (n:=50) fun args t hR v bs hev=>?_;unfold JA Gn at hR;split at hR
 ·rename_i p k w;obtain rfl:=Option.some.inj hR;rw[h];cases hc:pG p k w<;>rw[hc]at hev<;>(simp only[DT.eval,Option.some.injEq,Prod.mk.injEq]at hev; obtain⟨rfl,rfl⟩:=hev; rfl)
 ·cases hR
theorem VB:CallOkR P 47 JA:=check_any fun p k v=>by rw[Ue]; exact Rn p k v
theorem Es(l:List UInt8):(gZ l).2.1<=l.length:=by
 unfold gZ;have:=BZ l 0 0;revert this;rcases iC 0 0 l with⟨ok,X,n⟩
 intro this;cases ok with
 |true=>have:=this rfl; simp only at this ⊢; omega
 |false=>simp
end Go.VS.Tryz
end

noncomputable section
namespace Go.VS
open Go.RowKit
section
variable{P:Program}{ct:Ct}
def numsD(h:Nat->Option Blk)(n:Nat):List Value->List Nat->List Nat:=
 @Nat.rec (fun _=>List Value->List Nat->List Nat) (fun _ acc=>acc)
  (fun _ ih vs acc=>match vs with
   |[]=>acc
   |v::vs=>match(match v with
     | .slice (some a) _ _=>some a.block
     | .pointer (some a)=>some a.block
     | .map (some r)=>some r
     |_=>none)with
    |none=>ih vs acc
    |some b=>@Bool.rec (fun _=>List Nat)
      (match h b with
       |some (.cells c _ true)=>ih (c.append vs) (acc.append [b])
       |_=>ih vs (acc.append [b]))
      (ih vs acc) (nT acc b)) n
def jB(st:St)(i:Nat):Option Blk:=dZ (path i) st.heap
def YV(R:iW)(args:List Value)(st:St):Option (DT (Value×St)):=
 match iI 0 (numsD (jB st) 1000 args []) (fun i=>dZ (path i) st.heap) (numsD (jB st) 1000 args [])with
 |some ms=>match R (args.map (eP true (bY 0 (numsD (jB st) 1000 args [])))) ms with
  |some t=>some (t.map fun x=>(eP true (bH (numsD (jB st) 1000 args []) st.next) x.1,zH (numsD (jB st) 1000 args []) st x.2))
  |none=>none
 |none=>none
end
section
variable{P:Program}{ct:Ct}
def Rx(m c:Nat):Bool:=match Nat.ble unk c with
 |true=>true
 |false=>Nat.ble m c
def j_(P:Program)(off m c:Nat)(cs:List Value)(e:TypeId):Bool:=and (gJ cs) (and (Nat.ble (Nat.add off (Nat.mul m (esz P e))) cs.length) (and (Nat.ble 1 (esz P e)) (Rx m c)))
def KO(P:Program)(off m c:Nat)(cs:List Value)(e:TypeId):Value:=aX (esz P e) m 0 (takeC (Nat.mul m (esz P e)) (bT off cs))
theorem Y7{β:Env}{s n b:Nat}{c:List Value}{v:Value}(hs:s≠0)(h:VR β (aX s n b c) v):VR β (aX s n 0 c) v:=by
 unfold aX at h;have e:FZ+s-FZ=s:=by omega
 simp only[VR,if_neg (Nat.not_lt.2 (Nat.le_add_right FZ s)),VZ,VZA,VZL,e]at h;obtain⟨a',b',he,r⟩:=h;cases he;refine sH hs ?_;unfold iU at r ⊢;rw[if_neg hs]at r ⊢;obtain⟨h1,⟨h2,h3,h4⟩ | ⟨h2,p,cap,h3,h4⟩ | ⟨h0,k,o,cap,cs,e1,f,l,h3,h4,h5⟩⟩:=r
 ·exact⟨h1,Or.inl ⟨h2,by omega,h4⟩⟩
 ·exact⟨h1,Or.inr (Or.inl ⟨h2,p,cap,h3,fun h=>absurd rfl h⟩)⟩
 ·exact⟨h1,Or.inr (Or.inr ⟨h0,k,o,cap,cs,e1,f,l,h3,fun h=>absurd rfl h,h5⟩)⟩
theorem abp{β:Env}{s n c:Nat}{v:Value}(hs:s≠0)(hn:n=0)(hc:c=0)(h:VR β (.slice none n c) v):VR β (aX s 0 0 []) v:=by
 subst hn hc;have h:v = .slice none 0 0:=h;subst h;refine sH hs ?_;unfold iU;rw[if_neg hs];exact⟨by simp,Or.inl ⟨rfl,by omega,rfl⟩⟩
def F6(P:Program)(n:Nat):TypeId->List TypeId:=
 @Nat.rec (fun _=>TypeId->List TypeId) (fun t=>[t]) (fun _ ih t=>match gI P t with
  |some (.struct fs)=>@List.rec Field (fun _=>List TypeId) [] (fun f _ r=>(ih f.type).append r) fs.toList
  |some (.array k e)=>List.flatten (List.replicate k (ih e))
  |_=>[t]) n
def Jc(P:Program)(ts:List TypeId)(v:Value):Value:=match v with
 | .slice none 0 0=>match ts with
  |t::_=>match gI P t with
   |some (.slice e)=>match esz P e with
    |0=>v
    |s+1=>aX (s+1) 0 0 []
   |_=>v
  |[]=>v
 |_=>v
theorem Df{β:Env}{ts:List TypeId}{v x:Value}(h:VR β v x):VR β (Jc P ts v) x:=by
 unfold Jc;split
 ·split
  ·split
   ·split
    ·exact h
    ·exact abp (by omega) rfl rfl h
   ·exact h
  ·exact h
 ·exact h
def tlT(ts:List TypeId):List TypeId:=match ts with
 |[]=>[]
 |_::ts=>ts
def rE{α:Type}(P:Program)(n:Nat):List TypeId->List Value->St->(List Value->St->DT α)->DT α:=
 @Nat.rec (fun _=>List TypeId->List Value->St->(List Value->St->DT α)->DT α) (fun _ _ _ _=> .fail)
  (fun _ ih ts vs st k=>match vs with
   |[]=>k [] st
   |v::vs=>match v with
    | .slice (some a) m c=>match a.spot,dZ (path a.block) st.heap with
     |none,some (.cells cs e ex)=>@Bool.rec (fun _=>DT α)
       (kz (j_ P a.off m c cs e) (ih (tlT ts) vs ⟨dX (path a.block) st.heap .dead,st.next⟩ fun vs1 st1=>k (KO P a.off m c cs e::vs1) st1))
       (ih (List.flatten (List.replicate cs.length (F6 P 6 e))) cs st fun cs1 st1=>match dZ (path a.block) st1.heap with
        |some (.cells c1 e1 _)=>kz (and (Nat.beq e1 e) (and (Nat.beq cs1.length c1.length) (j_ P a.off m c cs1 e))) (ih (tlT ts) vs ⟨dX (path a.block) st1.heap .dead,st1.next⟩ fun vs1 st2=>k (KO P a.off m c cs1 e::vs1) st2)
        |_=> .fail) ex
     |_,_=>ih (tlT ts) vs st fun vs1 st1=>k (v::vs1) st1
    | .agg ⟨l⟩=>ih (match ts with | t::_=>F6 P 6 t | []=>[]) l st fun l1 st1=>ih (tlT ts) vs st1 fun vs1 st2=>k (.agg ⟨l1⟩::vs1) st2
    |v=>ih (tlT ts) vs st fun vs1 st1=>k (Jc P ts v::vs1) st1) n
theorem Jh{K:Prot}{β:Env}{st:St}{w:World}(hr:Rel P K β st w){a:Addr}{m c:Nat}{cs cs1:List Value}{e:TypeId}{ex:Bool}(hg:st.heap.get a.block=some (.cells cs e ex))(hlen:cs1.length=cs.length)(hc:j_ P a.off m c cs1 e=true)
  (hc1:∀ l cc f,β a.block=some l->l.virt=false->w.heap[l.blk]? = some (.cells cc e f)->VRL β cs1 ((cc.toList.drop l.base).take cs1.length)) :
  ∃ β',β.le β'/\Rel P K β' ⟨dX (path a.block) st.heap .dead,st.next⟩ w/\∀ x,VR β (.slice (some a) m c) x->VR β' (KO P a.off m c cs1 e) x:=by
 unfold j_ at hc;simp only[Bool.and_eq_true]at hc;obtain⟨c1,c2,c3,c4⟩:=hc;obtain⟨β',h1,h2,h3⟩:=hr.freeze hg hlen c1 hc1;refine⟨β',h1,?_,fun x hx=>?_⟩
 ·rw[dY]; exact h2
 ·have hs:a.spot=none:=by simp only[VR]at hx; exact hx.1
  have ea:a=⟨a.block,a.off,none⟩:=by cases a; simp_all
  have hcap:c<unk->m<=c:=fun hcu=>by
   unfold Rx at c4;have hb:Nat.ble unk c=false:=by
    cases hb:Nat.ble unk c with
    |false=>rfl
    |true=>have:=Nat.le_of_ble_eq_true hb; omega
   rw[hb]at c4;exact Nat.le_of_ble_eq_true c4
  have h0:esz P e≠0:=by have:=Nat.le_of_ble_eq_true c3; omega
  exact Y7 (b:=Gq c) h0 (h3 a.off m c x (by rw[<-ea]; exact hx) h0 (Nat.le_of_ble_eq_true c2) hcap)
theorem kT{α:Type}{r:α}:∀ (n:Nat) (ts:List TypeId) (vs:List Value) (st:St) (k:List Value->St->DT α),(rE P n ts vs st k).eval=some r->
  ∃ vs1 st1,(k vs1 st1).eval=some r/\st1.next=st.next/\vs1.length=vs.length/\∀ (K:Prot) (β:Env) (w:World) (xs:List Value),Rel P K β st w->VRL β vs xs->∃ β1,β.le β1/\Rel P K β1 st1 w/\VRL β1 vs1 xs
 |0,ts,vs,st,k,h=>by cases h
 |n+1,ts,vs,st,k,h=>by
  have keep:∀ (v v2:Value) (vs:List Value),(∀ (β:Env) x,VR β v x->VR β v2 x)->(rE P n (tlT ts) vs st fun vs1 st1=>k (v2::vs1) st1).eval=some r->
    ∃ vs1 st1,(k vs1 st1).eval=some r/\st1.next=st.next/\vs1.length=(v::vs).length/\∀ (K:Prot) (β:Env) (w:World) (xs:List Value),Rel P K β st w->VRL β (v::vs) xs->∃ β1,β.le β1/\Rel P K β1 st1 w/\VRL β1 vs1 xs:=by
   intro v v2 vs hv2 h;obtain⟨vs1,st1,h1,h2,h3,h4⟩:=kT n _ vs st _ h;refine⟨_,_,h1,h2,by simp[h3],fun K β w xs hr hx=>?_⟩;simp only[VRL]at hx;obtain⟨y,ys,rfl,hy,hys⟩:=hx;obtain⟨β1,a1,a2,a3⟩:=h4 K β w ys hr hys;exact⟨β1,a1,a2,VRL.cons (hv2 _ _ (hy.mono a1)) a3⟩
  cases vs with
  |nil=>exact⟨[],st,h,rfl,rfl,fun K β w xs hr hx=>⟨β,Env.le.refl _,hr,hx⟩⟩
  |cons v vs=>
   cases v with
   |slice p m c=>
    cases p with
    |none=>exact keep _ _ vs (fun _ _ h=>Df h) h
    |some a=>
     change (match a.spot,dZ (path a.block) st.heap with
      |none,some (.cells cs e ex)=>@Bool.rec (fun _=>DT α)
        (kz (j_ P a.off m c cs e) (rE P n (tlT ts) vs ⟨dX (path a.block) st.heap .dead,st.next⟩ fun vs1 st1=>k (KO P a.off m c cs e::vs1) st1))
        (rE P n (List.flatten (List.replicate cs.length (F6 P 6 e))) cs st fun cs1 st1=>match dZ (path a.block) st1.heap with
         |some (.cells c1 e1 _)=>kz (and (Nat.beq e1 e) (and (Nat.beq cs1.length c1.length) (j_ P a.off m c cs1 e))) (rE P n (tlT ts) vs ⟨dX (path a.block) st1.heap .dead,st1.next⟩ fun vs1 st2=>k (KO P a.off m c cs1 e::vs1) st2)
         |_=> .fail) ex
      |_,_=>rE P n (tlT ts) vs st fun vs1 st1=>k (.slice (some a) m c::vs1) st1).eval=some r at h
     split at h
     ·rename_i cs e ex hsp hg;rw[dQ]at hg;cases ex with
      |false=>
       obtain⟨hc,h⟩:=iH h;obtain⟨vs1,st1,h1,h2,h3,h4⟩:=kT n _ vs _ _ h;refine⟨_,_,h1,h2,by simp[h3],fun K β w xs hr hx=>?_⟩;simp only[VRL]at hx;obtain⟨y,ys,rfl,hy,hys⟩:=hx;obtain⟨l,hl,hbk⟩:=hr.get_cells hg;obtain⟨β1,a1,a2,a3⟩:=Jh hr hg rfl hc (fun l' cc f hl' hv hw=>by
        rw[hl]at hl';obtain rfl:=Option.some.inj hl';rcases hbk with⟨hv',_⟩ | ⟨_,_,cc',f',g1,_,_,_,_,g6,_⟩
        ·rw[hv]at hv'; cases hv'
        ·rw[g1]at hw;cases hw
         exact g6)
       obtain⟨β2,b1,b2,b3⟩:=h4 K β1 w ys a2 (hys.mono a1);exact⟨β2,a1.trans b1,b2,VRL.cons ((a3 y hy).mono b1) b3⟩
      |true=>
       obtain⟨cs1,st1,h1,h2,h3,h4⟩:=kT n _ cs st _ h;split at h1
       ·rename_i c1 e1 ex1 hg1;rw[dQ]at hg1;obtain⟨hc,h1⟩:=iH h1;simp only[Bool.and_eq_true]at hc;obtain⟨hc0,hln,hc⟩:=hc;have hln:=Nat.eq_of_beq_eq_true hln;have hc0:=Nat.eq_of_beq_eq_true hc0;subst hc0;obtain⟨vs1,st2,k1,k2,k3,k4⟩:=kT n _ vs _ _ h1;refine⟨_,_,k1,by rw[k2]; exact h2,by simp[k3],fun K β w xs hr hx=>?_⟩;simp only[VRL]at hx;obtain⟨y,ys,rfl,hy,hys⟩:=hx;obtain⟨l,hl,hbk⟩:=hr.get_cells hg;rcases hbk with⟨_,_,hx0⟩ | ⟨hv,hnK,cc,f,g1,g2,g3,g4,g5,g6,g7⟩
        ·cases hx0
        ·obtain⟨β1,a1,a2,a3⟩:=h4 K β w _ hr g6;obtain⟨l1,hl1,hbk1⟩:=a2.get_cells hg1;have hll:l1=l:=by rw[a1 _ _ hl]at hl1; exact(Option.some.inj hl1).symm
         subst hll;rcases hbk1 with⟨hv1,_⟩ | ⟨_,_,cc1,f1,q1,q2,q3,q4,q5,q6,q7⟩
         ·rw[hv]at hv1; cases hv1
         ·obtain⟨β2,b1,b2,b3⟩:=Jh a2 hg1 hln hc (fun l' cc' f' hl' hv' hw=>by
           rw[hl1]at hl';obtain rfl:=Option.some.inj hl';rw[g1]at hw;cases hw
           rw[h3]; exact a3)
          obtain⟨β3,d1,d2,d3⟩:=k4 K β2 w ys b2 ((hys.mono a1).mono b1);exact⟨β3,(a1.trans b1).trans d1,d2,VRL.cons ((b3 y (hy.mono a1)).mono d1) d3⟩
       ·cases h1
     ·exact keep _ _ vs (fun _ _ h=>h) h
   |agg l=>
    obtain⟨l⟩:=l;obtain⟨l1,st1,h1,h2,h3,h4⟩:=kT n _ l st _ h;obtain⟨vs1,st2,k1,k2,k3,k4⟩:=kT n _ vs st1 _ h1;refine⟨_,_,k1,by rw[k2,h2],by simp[k3],fun K β w xs hr hx=>?_⟩;simp only[VRL]at hx;obtain⟨y,ys,rfl,hy,hys⟩:=hx;simp only[VR]at hy;obtain⟨⟨l'⟩,rfl,hl'⟩:=hy;simp only[VRA]at hl';obtain⟨β1,a1,a2,a3⟩:=h4 K β w l' hr hl';obtain⟨β2,b1,b2,b3⟩:=k4 K β1 w ys a2 (hys.mono a1);refine⟨β2,a1.trans b1,b2,VRL.cons ?_ b3⟩;simp only[VR];exact⟨_,rfl,by simp only[VRA]; exact a3.mono b1⟩
   |_=>exact keep _ _ vs (fun _ _ h=>Df h) h
def QR(P:Program)(g:FuncId):List TypeId:=match qQ P g with
 |some fb=>fb.1.params.toList
 |none=>[]
def aeK(P:Program)(g:FuncId)(R:iW)(args:List Value)(st:St):Option (DT (Value×St)):=
 some (rE P 100 (QR P g) args st fun args1 st1=>match YV R args1 st1 with
  |some t=>t
  |none=> .fail)
def A8(P:Program)(o:Oper)(ρ:Operand->Value)(st:St):Option (DT (Value×St)):=match o.op with
 | .call c=>match c.callee,c.args.toList with
  | .builtin .append,[_,y]=>match ρ y with
   | .slice (some a) _ _=>match dZ (path a.block) st.heap with
    |some (.cells cs e true)=>match oI P o ρ st with
     |some _=>some (rE P 100 (List.flatten (List.replicate cs.length (F6 P 6 e))) cs st fun cs1 st1=>match dZ (path a.block) st1.heap with
      |some (.cells c1 e1 _)=>kz (and (Nat.beq e1 e) (Nat.beq cs1.length c1.length)) (match oI P o ρ ⟨dX (path a.block) st1.heap (.cells cs1 e true),st1.next⟩with
       |some t=>t
       |none=> .fail)
      |_=> .fail)
     |none=>none
    |_=>oI P o ρ st
   |_=>oI P o ρ st
  |_,_=>oI P o ρ st
 |_=>oI P o ρ st
theorem JR(hN:noNum P=true)(o:Oper)(ρ:Operand->Value)(st:St)(v:Value)(st':St)(h:(A8 P o ρ st).bind DT.eval=some (v,st')) :
  gK o.op=false/\∀ (K:Prot) (β:Env) (w:World) (ρ':Operand->Value),(∀ x,VR β (ρ x) (ρ' x))->Rel P K β st w->dK P K β st w ((execOp ρ' o).run P w) (.val v st'):=by
 have dflt:(oI P o ρ st).bind DT.eval=some (v,st')->gK o.op=false/\∀ (K:Prot) (β:Env) (w:World) (ρ':Operand->Value),(∀ x,VR β (ρ x) (ρ' x))->Rel P K β st w->dK P K β st w ((execOp ρ' o).run P w) (.val v st'):=JD hN o ρ st v st';unfold A8 at h;split at h
 ·rename_i c hop;split at h
  ·rename_i x y hc1 hc2;split at h
   ·rename_i a n cap hy;split at h
    ·rename_i cs e hg;rw[dQ]at hg;split at h
     ·simp only[Option.bind_some]at h;obtain⟨cs1,st1,h1,h2,h3,h4⟩:=kT _ _ _ _ _ h;split at h1
      ·rename_i c1 e1 ex1 hg1;rw[dQ]at hg1;obtain⟨hc,h1⟩:=iH h1;simp only[Bool.and_eq_true]at hc;have he:=Nat.eq_of_beq_eq_true hc.1;have hln:=Nat.eq_of_beq_eq_true hc.2;subst he;split at h1
       ·rename_i t ht;have hs:=JD hN o ρ ⟨dX (path a.block) st1.heap (.cells cs1 e1 true),st1.next⟩ v st' (by rw[ht]; exact h1);refine⟨hs.1,fun K β w ρ' hρ hr=>?_⟩;obtain⟨l,hl,hbk⟩:=hr.get_cells hg;rcases hbk with⟨_,_,hx0⟩ | ⟨hv,hnK,cc,f,g1,g2,g3,g4,g5,g6,g7⟩
        ·cases hx0
        ·obtain⟨β1,a1,a2,a3⟩:=h4 K β w _ hr g6;have hl1:=a1 _ _ hl;have hrel:Rel P K β1 ⟨dX (path a.block) st1.heap (.cells cs1 e1 true),st1.next⟩ w:=by
          rw[dY];refine a2.update (b':= .cells cs1 e1 true) hg1 rfl rfl rfl hl1 rfl (fun _ _=>rfl) (Or.inr ⟨hv,cc,f,g1,g2,g3,by omega,fun _=>by rw[h3]; exact g5 rfl,by rw[h3]; exact a3,g7.1,fun h=>by cases h⟩)
         obtain⟨β2,w2,v2,b1,b2,b3,b4,b5⟩:=hs.2 K β1 w ρ' (fun z=>(hρ z).mono a1) hrel;exact⟨β2,w2,v2,b1,a1.trans b2,b3,b4,b5⟩
       ·cases h1
      ·cases h1
     ·cases h
    ·exact dflt h
   ·exact dflt h
  ·exact dflt h
 ·exact dflt h
def XV(P:Program):Ct:=⟨fun _ _ _=>none,fun _ _ _ _=>none,A8 P⟩
theorem Ny(o:Oper)(ρ ρ':Operand->Value)(st:St)(h:∀ x∈o.op.operands,ρ x=ρ' x):A8 P o ρ st=A8 P o ρ' st:=by
 have hs:∀ st,oI P o ρ st=oI P o ρ' st:=fun st=>MB o ρ ρ' st h;unfold A8;simp only[hs];split
 ·rename_i c hop;split
  ·rename_i x y hc1 hc2;have hargs:∀ x∈c.args.toList,ρ x=ρ' x:=fun x hx=>h x (by rw[hop]; simp[Op.operands,Call.operands]; exact(by first | exact Or.inr (by simpa using hx) | exact Or.inl (by simpa using hx)));rw[hargs y (by rw[hc2]; simp)]
  ·rfl
 ·rfl
theorem VE(hN:noNum P=true):CtOk P (XV P):=⟨fun _ _ _ _ _ _ h=>(by cases h),fun _ _ _ _ _ _ _ _ _ h=>(by cases h),Ny,fun K o ρ st v st' h=>⟨(JR hN o ρ st v st' h).1,(JR hN o ρ st v st' h).2 K⟩⟩
end
section
variable{P:Program}{ct:Ct}
theorem V9{K:Prot}{β:Env}{st:St}{w:World}(hr:Rel P K β st w){a:Addr}{c:List Value}{e:TypeId}{len m:Nat}{v':Value}(hg:st.heap.get a.block=some (.cells c e false))(ho:a.off+m<=c.length)(hv:VR β (.slice (some a) len unk) v') :
  ∃ β',β.le β'/\Rel P K β' (newRow (kill st a.block) ((c.drop a.off).take m) e false).2 w/\VR β' (.slice (some (newRow (kill st a.block) ((c.drop a.off).take m) e false).1) len unk) v':=by
 simp only[VR]at hv;obtain⟨hs,l,hl,hsl⟩:=hv;obtain⟨l',k1,hbk⟩:=hr.get_cells hg;obtain rfl:l'=l:=by rw[k1]at hl; exact Option.some.inj hl
 rcases hbk with⟨hvt,hc,_⟩ | ⟨hvt,k2,cc,f,k3,k4,k5,k6,k7,k8,k9⟩
 ·subst hc;have hk:=hr.kill a.block (by intro o e; rw[hg]at e; cases e);have hv:=hk.virt e 0 0;refine⟨_,hk.le_put _,by rw[List.drop_nil,List.take_nil]; exact hv,⟨rfl,_,d_ _ _ _,?_⟩⟩;unfold dW at hsl ⊢;rw[if_pos hvt]at hsl;rw[if_pos rfl];exact⟨hsl.1,rfl,Or.inr rfl,hsl.2.2.2⟩
 ·unfold dW at hsl;rw[if_neg (by simp[hvt]),if_neg (by simp),if_pos rfl]at hsl;have hlen:((c.drop a.off).take m).length=m:=by rw[List.length_take,List.length_drop]; omega
  refine⟨β.put st.next ⟨l'.blk,l'.base+a.off,l'.total-a.off,l'.esize,none,false⟩,hr.le_put _,hr.move hg rfl rfl rfl k1 hvt rfl rfl rfl (fun _ _=>rfl) ?_,⟨rfl,_,d_ _ _ _,?_⟩⟩
  ·refine gW.mono (hr.le_put _) (Or.inr ⟨rfl,cc,f,k3,k4,by show l'.base+a.off+(l'.total-a.off)<=_; omega,by rw[hlen]; show _<=l'.total-a.off; omega,fun h=>(by cases h),?_,k9.1,fun _=>by have:=k9.2 rfl; show l'.total-a.off<9223372036854775808*l'.esize; omega⟩);have hh:=(k8.drop a.off).take m;rw[List.drop_take,List.drop_drop,List.take_take]at hh;rw[hlen];have:min m (c.length-a.off)=m:=by omega
   rw[this]at hh;exact hh
  ·unfold dW;rw[if_neg (by simp),if_neg (by simp),if_pos rfl];refine⟨?_,Nat.zero_le _⟩;rw[hsl.1];show _=Value.slice (some ⟨l'.blk,l'.base+a.off+0,none⟩) len ((l'.total-a.off-0) / l'.esize)
   rfl
theorem TD{K:Prot}{β:Env}{st:St}{w:World}(hr:Rel P K β st w){a:Addr}{c:List Value}{e:TypeId}{len cp:Nat}{v':Value}(hg:st.heap.get a.block=some (.cells c e false))(h1:cp≠unk)(h2:unk<=cp)(hv:VR β (.slice (some a) len cp) v') :
  ∃ β',β.le β'/\Rel P K β' (newRow (kill st a.block) [] e false).2 w/\VR β' (.slice (some (newRow (kill st a.block) [] e false).1) 0 unk) v':=by
 simp only[VR]at hv;obtain⟨hs,l,hl,hsl⟩:=hv;obtain⟨l',k1,hbk⟩:=hr.get_cells hg;obtain rfl:l'=l:=by rw[k1]at hl; exact Option.some.inj hl
 have hu:unk≠0:=by unfold unk; omega
 rcases hbk with⟨hvt,hc,_⟩ | ⟨hvt,k2,cc,f,k3,k4,k5,k6,k7,k8,k9⟩
 ·unfold dW at hsl;rw[if_pos hvt]at hsl;rcases hsl.2.2.1 with h | h
  ·omega
  ·exact absurd h h1
 ·unfold dW at hsl;rw[if_neg (by simp[hvt]),if_neg (by omega),if_neg h1]at hsl;obtain⟨rfl,q2,q3,q4⟩:=hsl;have hpos:0<l'.esize:=by
   have:=k9.2 rfl;rcases Nat.eq_zero_or_pos l'.esize with h | h
   ·rw[h]at this; omega
   ·exact h
  have make:∀ (b t:Nat),l'.base<=b->b+t<=l'.base+l'.total->v' = .slice (some ⟨l'.blk,b,none⟩) 0 (t / l'.esize)->
    ∃ β',β.le β'/\Rel P K β' (newRow (kill st a.block) [] e false).2 w/\VR β' (.slice (some (newRow (kill st a.block) [] e false).1) 0 unk) v':=by
   intro b t hb ht hv;refine⟨β.put st.next ⟨l'.blk,b,t,l'.esize,none,false⟩,hr.le_put _,hr.move hg rfl rfl rfl k1 hvt rfl rfl rfl (fun _ _=>rfl) ?_,⟨rfl,_,d_ _ _ _,?_⟩⟩
   ·refine gW.mono (hr.le_put _) (Or.inr ⟨rfl,cc,f,k3,k4,by show b+t<=_; omega,Nat.zero_le _,fun h=>(by cases h),?_,k9.1,fun _=>by have:=k9.2 rfl; show t<9223372036854775808*l'.esize; omega⟩);rw[List.length_nil,List.take_zero]; exact VRL.nil
   ·unfold dW;rw[if_neg (by simp),if_neg (by simp),if_pos rfl];refine⟨?_,Nat.zero_le _⟩;rw[hv]
    rfl
  split at q4
  ·rename_i hq;exact make (l'.base+a.off) 0 (by omega) (by omega) (by rw[q4,Nat.zero_div])
  ·have hm:(cp-unk)*l'.esize<=l'.total-a.off:=Nat.le_trans (Nat.mul_le_mul_right _ q2) (Nat.div_mul_le_self _ _);refine make (l'.base+(a.off+(cp-unk)*l'.esize)) (l'.total-a.off-(cp-unk)*l'.esize) (by omega) (by omega) ?_;rw[q4,Nat.mul_comm (cp-unk),Nat.sub_mul_div]
theorem UQ{K:Prot}{β:Env}{st:St}{w:World}(hr:Rel P K β st w){a:Addr}{c:List Value}{e:TypeId}{len cp:Nat}{v':Value}(hg:st.heap.get a.block=some (.cells c e false))(h1:cp<unk)(hm:len<=cp)(ho:a.off+cp*esz P e<=c.length)(hv:VR β (.slice (some a) len cp) v') :
  ∃ β',β.le β'/\Rel P K β' (newRow (kill st a.block) ((c.drop a.off).take (len*esz P e)) e false).2 w/\VR β' (.slice (some (newRow (kill st a.block) ((c.drop a.off).take (len*esz P e)) e false).1) len unk) v':=by
 simp only[VR]at hv;obtain⟨hs,l,hl,hsl⟩:=hv;obtain⟨l',k1,hbk⟩:=hr.get_cells hg;obtain rfl:l'=l:=by rw[k1]at hl; exact Option.some.inj hl
 rcases hbk with⟨hvt,hc,_⟩ | ⟨hvt,k2,cc,f,k3,k4,k5,k6,k7,k8,k9⟩
 ·subst hc;have hk:=hr.kill a.block (by intro o e; rw[hg]at e; cases e);have hv:=hk.virt e 0 0;refine⟨_,hk.le_put _,by rw[List.drop_nil,List.take_nil]; exact hv,⟨rfl,_,d_ _ _ _,?_⟩⟩;unfold dW at hsl ⊢;rw[if_pos hvt]at hsl;rw[if_pos rfl];exact⟨hsl.1,rfl,Or.inr rfl,hsl.2.2.2⟩
 ·unfold dW at hsl;rw[if_neg (by simp[hvt]),if_pos h1]at hsl;rw[<-k4]at ho ⊢;have hpos:0<l'.esize:=by
   have:=k9.2 rfl;rcases Nat.eq_zero_or_pos l'.esize with h | h
   ·rw[h]at this; omega
   ·exact h
  have hle:len*l'.esize<=cp*l'.esize:=Nat.mul_le_mul_right _ hm;have hlen:((c.drop a.off).take (len*l'.esize)).length=len*l'.esize:=by rw[List.length_take,List.length_drop]; omega
  refine⟨β.put st.next ⟨l'.blk,l'.base+a.off,cp*l'.esize,l'.esize,none,false⟩,hr.le_put _,hr.move hg rfl rfl rfl k1 hvt rfl rfl rfl (fun _ _=>rfl) ?_,⟨rfl,_,d_ _ _ _,?_⟩⟩
  ·refine gW.mono (hr.le_put _) (Or.inr ⟨rfl,cc,f,k3,k4,by show l'.base+a.off+cp*l'.esize<=_; omega,by rw[hlen]; exact hle,fun h=>(by cases h),?_,k9.1,fun _=>by have:=k9.2 rfl; show cp*l'.esize<9223372036854775808*l'.esize; omega⟩);have hh:=(k8.drop a.off).take (len*l'.esize);rw[List.drop_take,List.drop_drop,List.take_take]at hh;rw[hlen];have:min (len*l'.esize) (c.length-a.off)=len*l'.esize:=by omega
   rw[this]at hh;exact hh
  ·unfold dW;rw[if_neg (by simp),if_neg (by simp),if_pos rfl];refine⟨?_,Nat.zero_le _⟩;rw[hsl];show _=Value.slice (some ⟨l'.blk,l'.base+a.off+0,none⟩) len ((cp*l'.esize-0) / l'.esize);rw[Nat.sub_zero,Nat.mul_div_cancel _ hpos]
   rfl
/-- Of a list: it is only read; it may grow; it is left where it lies (another one may point to the same). -/
inductive Fl where
 |val | own | keep
def kX{α:Type}(P:Program)(n:Nat):List Fl->List TypeId->List Value->St->(List Value->List Nat->St->DT α)->DT α:=
 @Nat.rec (fun _=>List Fl->List TypeId->List Value->St->(List Value->List Nat->St->DT α)->DT α) (fun _ _ _ _ _=> .fail)
  (fun _ ih fl ts vs st k=>match vs with
   |[]=>k [] [] st
   |v::vs=>match v with
    | .pointer (some a)=>ih (fl.drop 1) (tlT ts) vs st fun vs1 ps st1=>k (v::vs1) (a.block::ps) st1
    | .slice none m c=>match(match fl with | .own::_=>true | .keep::_=>true | _=>false)with
     |true=>match ts with
      |t::_=>match gI P t with
       |some (.slice e)=>kz (and (Nat.beq m 0) (Nat.beq c 0)) (ih (fl.drop 1) (tlT ts) vs ⟨dX (path st.next) st.heap (.cells [] e false),Nat.succ st.next⟩ fun vs1 ps st1=>k (.slice (some ⟨st.next,0,none⟩) 0 unk::vs1) ps st1)
       |_=> .fail
      |[]=> .fail
     |false=>ih (fl.drop 1) (tlT ts) vs st fun vs1 ps st1=>k (Jc P ts v::vs1) ps st1
    | .slice (some a) m c=>match fl with
     | .keep::_=>ih (fl.drop 1) (tlT ts) vs st fun vs1 ps st1=>k (v::vs1) ps st1
     | .own::_=>match dZ (path a.block) st.heap with
      |some (.cells cs e false)=> .ite (Nat.beq c unk)
        (kz (Nat.ble (Nat.add a.off (Nat.mul m (esz P e))) cs.length) (ih (fl.drop 1) (tlT ts) vs ⟨dX (path st.next) (dX (path a.block) st.heap .dead) (.cells (takeC (Nat.mul m (esz P e)) (bT a.off cs)) e false),Nat.succ st.next⟩ fun vs1 ps st1=>k (.slice (some ⟨st.next,0,none⟩) m unk::vs1) ps st1))
        (.ite (Nat.ble unk c)
         (ih (fl.drop 1) (tlT ts) vs ⟨dX (path st.next) (dX (path a.block) st.heap .dead) (.cells [] e false),Nat.succ st.next⟩ fun vs1 ps st1=>k (.slice (some ⟨st.next,0,none⟩) 0 unk::vs1) ps st1)
         (.ite (and (Nat.ble m c) (Nat.ble (Nat.add a.off (Nat.mul c (esz P e))) cs.length))
         (ih (fl.drop 1) (tlT ts) vs ⟨dX (path st.next) (dX (path a.block) st.heap .dead) (.cells (takeC (Nat.mul m (esz P e)) (bT a.off cs)) e false),Nat.succ st.next⟩ fun vs1 ps st1=>k (.slice (some ⟨st.next,0,none⟩) m unk::vs1) ps st1)
         (ih (fl.drop 1) (tlT ts) vs st fun vs1 ps st1=>k (v::vs1) ps st1)))
      |_=>ih (fl.drop 1) (tlT ts) vs st fun vs1 ps st1=>k (v::vs1) ps st1
     |_=>rE P 20 ts [v] st fun l1 st1=>match l1 with
      |[v1]=>ih (fl.drop 1) (tlT ts) vs st1 fun vs1 ps st2=>k (v1::vs1) ps st2
      |_=> .fail
    |v=>ih (fl.drop 1) (tlT ts) vs st fun vs1 ps st1=>k (v::vs1) ps st1) n
theorem iQ{α:Type}{r:α}:∀ (n:Nat) (fl:List Fl) (ts:List TypeId) (vs:List Value) (st:St) (k:List Value->List Nat->St->DT α),(kX P n fl ts vs st k).eval=some r->
  ∃ vs1 ps st1,(k vs1 ps st1).eval=some r/\vs1.length=vs.length/\∀ (K:Prot) (β:Env) (w:World) (xs:List Value),Rel P K β st w->VRL β vs xs->∃ β1,β.le β1/\Rel P K β1 st1 w/\VRL β1 vs1 xs
 |0,fl,ts,vs,st,k,h=>by cases h
 |n+1,fl,ts,vs,st,k,h=>by
  have keep:∀ (v v2:Value) (vs:List Value) (f:List Nat->List Nat),(∀ (β:Env) x,VR β v x->VR β v2 x)->(kX P n (fl.drop 1) (tlT ts) vs st fun vs1 ps st1=>k (v2::vs1) (f ps) st1).eval=some r->
    ∃ vs1 ps st1,(k vs1 ps st1).eval=some r/\vs1.length=(v::vs).length/\∀ (K:Prot) (β:Env) (w:World) (xs:List Value),Rel P K β st w->VRL β (v::vs) xs->∃ β1,β.le β1/\Rel P K β1 st1 w/\VRL β1 vs1 xs:=by
   intro v v2 vs f hv2 h;obtain⟨vs1,ps,st1,h1,h3,h4⟩:=iQ n _ _ vs st _ h;refine⟨_,_,_,h1,by simp[h3],fun K β w xs hr hx=>?_⟩;simp only[VRL]at hx;obtain⟨y,ys,rfl,hy,hys⟩:=hx;obtain⟨β1,a1,a2,a3⟩:=h4 K β w ys hr hys;exact⟨β1,a1,a2,VRL.cons (hv2 _ _ (hy.mono a1)) a3⟩
  cases vs with
  |nil=>exact⟨[],[],st,h,rfl,fun K β w xs hr hx=>⟨β,Env.le.refl _,hr,hx⟩⟩
  |cons v vs=>
   cases v with
   |pointer p=>
    cases p with
    |none=>exact keep _ _ vs id (fun _ _ h=>h) h
    |some a=>exact keep _ _ vs (a.block::·) (fun _ _ h=>h) h
   |slice p m c=>
    cases p with
    |none=>
     change (match(match fl with | .own::_=>true | .keep::_=>true | _=>false)with
      |true=>match ts with
       |t::_=>match gI P t with
        |some (.slice e)=>kz (and (Nat.beq m 0) (Nat.beq c 0)) (kX P n (fl.drop 1) (tlT ts) vs ⟨dX (path st.next) st.heap (.cells [] e false),Nat.succ st.next⟩ fun vs1 ps st1=>k (.slice (some ⟨st.next,0,none⟩) 0 unk::vs1) ps st1)
        |_=> .fail
       |[]=> .fail
      |false=>kX P n (fl.drop 1) (tlT ts) vs st fun vs1 ps st1=>k (Jc P ts (.slice none m c)::vs1) ps st1).eval=some r at h
     split at h
     ·split at h
      ·split at h
       ·rename_i e _;obtain⟨hc,h⟩:=iH h;simp only[Bool.and_eq_true]at hc;obtain rfl:=Nat.eq_of_beq_eq_true hc.1;obtain rfl:=Nat.eq_of_beq_eq_true hc.2;obtain⟨vs1,ps,st1,h1,h3,h4⟩:=iQ n _ _ vs _ _ h;refine⟨_,_,_,h1,by simp[h3],fun K β w xs hr hx=>?_⟩;simp only[VRL]at hx;obtain⟨y,ys,rfl,hy,hys⟩:=hx;have hv:=hr.virt e 0 0;have hst:(st.new (.cells [] e false)).2=⟨dX (path st.next) st.heap (.cells [] e false),Nat.succ st.next⟩:=by rw[dY]; rfl
        rw[hst]at hv;obtain⟨β1,a1,a2,a3⟩:=h4 K _ w ys hv (hys.mono (hr.le_put _));refine⟨β1,(hr.le_put _).trans a1,a2,VRL.cons ?_ a3⟩;refine⟨rfl,_,a1 _ _ (d_ _ _ _),?_⟩;unfold dW;rw[if_pos rfl];exact⟨rfl,rfl,Or.inr rfl,hy⟩
       ·cases h
      ·cases h
     ·exact keep _ _ vs id (fun _ _ h=>Df h) h
    |some a=>
     change (match fl with
      | .keep::_=>kX P n (fl.drop 1) (tlT ts) vs st fun vs1 ps st1=>k (.slice (some a) m c::vs1) ps st1
      | .own::_=>match dZ (path a.block) st.heap with
       |some (.cells cs e false)=> .ite (Nat.beq c unk)
         (kz (Nat.ble (Nat.add a.off (Nat.mul m (esz P e))) cs.length) (kX P n (fl.drop 1) (tlT ts) vs ⟨dX (path st.next) (dX (path a.block) st.heap .dead) (.cells (takeC (Nat.mul m (esz P e)) (bT a.off cs)) e false),Nat.succ st.next⟩ fun vs1 ps st1=>k (.slice (some ⟨st.next,0,none⟩) m unk::vs1) ps st1))
         (.ite (Nat.ble unk c)
          (kX P n (fl.drop 1) (tlT ts) vs ⟨dX (path st.next) (dX (path a.block) st.heap .dead) (.cells [] e false),Nat.succ st.next⟩ fun vs1 ps st1=>k (.slice (some ⟨st.next,0,none⟩) 0 unk::vs1) ps st1)
          (.ite (and (Nat.ble m c) (Nat.ble (Nat.add a.off (Nat.mul c (esz P e))) cs.length))
           (kX P n (fl.drop 1) (tlT ts) vs ⟨dX (path st.next) (dX (path a.block) st.heap .dead) (.cells (takeC (Nat.mul m (esz P e)) (bT a.off cs)) e false),Nat.succ st.next⟩ fun vs1 ps st1=>k (.slice (some ⟨st.next,0,none⟩) m unk::vs1) ps st1)
           (kX P n (fl.drop 1) (tlT ts) vs st fun vs1 ps st1=>k (.slice (some a) m c::vs1) ps st1)))
       |_=>kX P n (fl.drop 1) (tlT ts) vs st fun vs1 ps st1=>k (.slice (some a) m c::vs1) ps st1
      |_=>rE P 20 ts [.slice (some a) m c] st fun l1 st1=>match l1 with
       |[v1]=>kX P n (fl.drop 1) (tlT ts) vs st1 fun vs1 ps st2=>k (v1::vs1) ps st2
       |_=> .fail).eval=some r at h
     split at h
     ·exact keep _ _ vs id (fun _ _ h=>h) h
     ·split at h
      ·rename_i cs e hg;rw[dQ]at hg;cases hcu:Nat.beq c unk with
       |true=>
        rw[hcu]at h;have h:(kz (Nat.ble (Nat.add a.off (Nat.mul m (esz P e))) cs.length) (kX P n _ (tlT ts) vs ⟨dX (path st.next) (dX (path a.block) st.heap .dead) (.cells (takeC (Nat.mul m (esz P e)) (bT a.off cs)) e false),Nat.succ st.next⟩ fun vs1 ps st1=>k (.slice (some ⟨st.next,0,none⟩) m unk::vs1) ps st1)).eval=some r:=h;obtain rfl:=Nat.eq_of_beq_eq_true hcu;obtain⟨hc,h⟩:=iH h;have hc:a.off+m*esz P e<=cs.length:=Nat.le_of_ble_eq_true hc;obtain⟨vs1,ps,st1,h1,h3,h4⟩:=iQ n _ _ vs _ _ h;refine⟨_,_,_,h1,by simp[h3],fun K β w xs hr hx=>?_⟩;simp only[VRL]at hx;obtain⟨y,ys,rfl,hy,hys⟩:=hx;obtain⟨β1,a1,a2,a3⟩:=V9 hr hg hc hy;have hst:(newRow (kill st a.block) ((cs.drop a.off).take (m*esz P e)) e false).2=⟨dX (path st.next) (dX (path a.block) st.heap .dead) (.cells (takeC (Nat.mul m (esz P e)) (bT a.off cs)) e false),Nat.succ st.next⟩:=by
         rw[dY,dY]; rfl
        rw[hst]at a2;obtain⟨β2,b1,b2,b3⟩:=h4 K β1 w ys a2 (hys.mono a1);exact⟨β2,a1.trans b1,b2,VRL.cons (a3.mono b1) b3⟩
       |false=>
        rw[hcu]at h;cases hcb:Nat.ble unk c with
        |true=>
         rw[hcb]at h;have h:(kX P n _ (tlT ts) vs ⟨dX (path st.next) (dX (path a.block) st.heap .dead) (.cells [] e false),Nat.succ st.next⟩ fun vs1 ps st1=>k (.slice (some ⟨st.next,0,none⟩) 0 unk::vs1) ps st1).eval=some r:=h;obtain⟨vs1,ps,st1,h1,h3,h4⟩:=iQ n _ _ vs _ _ h;refine⟨_,_,_,h1,by simp[h3],fun K β w xs hr hx=>?_⟩;simp only[VRL]at hx;obtain⟨y,ys,rfl,hy,hys⟩:=hx;obtain⟨β1,a1,a2,a3⟩:=TD hr hg (Nat.ne_of_beq_eq_false hcu) (Nat.le_of_ble_eq_true hcb) hy;have hst:(newRow (kill st a.block) [] e false).2=⟨dX (path st.next) (dX (path a.block) st.heap .dead) (.cells [] e false),Nat.succ st.next⟩:=by
          rw[dY,dY]; rfl
         rw[hst]at a2;obtain⟨β2,b1,b2,b3⟩:=h4 K β1 w ys a2 (hys.mono a1);exact⟨β2,a1.trans b1,b2,VRL.cons (a3.mono b1) b3⟩
        |false=>
         rw[hcb]at h;have hlt:c<unk:=by
          rcases Nat.lt_or_ge c unk with q | q
          ·exact q
          ·rw[Nat.ble_eq_true_of_le q]at hcb; cases hcb
         cases hcd:and (Nat.ble m c) (Nat.ble (Nat.add a.off (Nat.mul c (esz P e))) cs.length)with
         |false=>
          rw[hcd]at h;exact keep _ _ vs id (fun _ _ h=>h) h
         |true=>
          rw[hcd]at h;have h:(kX P n _ (tlT ts) vs ⟨dX (path st.next) (dX (path a.block) st.heap .dead) (.cells (takeC (Nat.mul m (esz P e)) (bT a.off cs)) e false),Nat.succ st.next⟩ fun vs1 ps st1=>k (.slice (some ⟨st.next,0,none⟩) m unk::vs1) ps st1).eval=some r:=h;simp only[Bool.and_eq_true]at hcd;obtain⟨vs1,ps,st1,h1,h3,h4⟩:=iQ n _ _ vs _ _ h;refine⟨_,_,_,h1,by simp[h3],fun K β w xs hr hx=>?_⟩;simp only[VRL]at hx;obtain⟨y,ys,rfl,hy,hys⟩:=hx;obtain⟨β1,a1,a2,a3⟩:=UQ hr hg hlt (Nat.le_of_ble_eq_true hcd.1) (Nat.le_of_ble_eq_true hcd.2) hy;have hst:(newRow (kill st a.block) ((cs.drop a.off).take (m*esz P e)) e false).2=⟨dX (path st.next) (dX (path a.block) st.heap .dead) (.cells (takeC (Nat.mul m (esz P e)) (bT a.off cs)) e false),Nat.succ st.next⟩:=by
           rw[dY,dY]; rfl
          rw[hst]at a2;obtain⟨β2,b1,b2,b3⟩:=h4 K β1 w ys a2 (hys.mono a1);exact⟨β2,a1.trans b1,b2,VRL.cons (a3.mono b1) b3⟩
      ·exact keep _ _ vs id (fun _ _ h=>h) h
     ·obtain⟨l1,st1,h1,h2,h3,h4⟩:=kT _ _ _ _ _ h;split at h1
      ·rename_i v1;obtain⟨vs1,ps,st2,k1,k3,k4⟩:=iQ n _ _ vs _ _ h1;refine⟨_,_,_,k1,by simp[k3],fun K β w xs hr hx=>?_⟩;simp only[VRL]at hx;obtain⟨y,ys,rfl,hy,hys⟩:=hx;obtain⟨β1,a1,a2,a3⟩:=h4 K β w [y] hr (VRL.cons hy VRL.nil);obtain⟨β2,b1,b2,b3⟩:=k4 K β1 w ys a2 (hys.mono a1);simp only[VRL]at a3;obtain⟨y',ys',e',hy',_⟩:=a3;cases e';exact⟨β2,a1.trans b1,b2,VRL.cons (hy'.mono b1) b3⟩
      ·cases h1
   |_=>exact keep _ _ vs id (fun _ _ h=>h) h
abbrev Pol:=TypeId->Option (List Fl)
def qf{α:Type}(P:Program)(pol:Pol)(n:Nat):List Nat->List Nat->St->(St->DT α)->DT α:=
 @Nat.rec (fun _=>List Nat->List Nat->St->(St->DT α)->DT α) (fun _ _ _ _=> .fail)
  (fun _ ih todo seen st k=>match todo with
   |[]=>k st
   |b::todo=>@Bool.rec (fun _=>DT α)
     (match dZ (path b) st.heap with
      |some (.cells c e true)=>match pol e with
       |some fl=>kX P 60 fl (F6 P 6 e) c st fun c1 ps st1=>match dZ (path b) st1.heap with
        |some (.cells c2 e2 x2)=>kz (and (Nat.beq e2 e) (and x2 (Nat.beq c1.length c2.length))) (ih (ps.append todo) (b::seen) ⟨dX (path b) st1.heap (.cells c1 e true),st1.next⟩ k)
        |_=> .fail
       |none=>ih todo (b::seen) st k
      |_=>ih todo (b::seen) st k)
     (ih todo seen st k) (nT seen b)) n
theorem jq{α:Type}{r:α}{pol:Pol}:∀ (n:Nat) (todo seen:List Nat) (st:St) (k:St->DT α),(qf P pol n todo seen st k).eval=some r->
  ∃ st1,(k st1).eval=some r/\∀ (K:Prot) (β:Env) (w:World),Rel P K β st w->∃ β1,β.le β1/\Rel P K β1 st1 w
 |0,todo,seen,st,k,h=>by cases h
 |n+1,todo,seen,st,k,h=>by
  cases todo with
  |nil=>exact⟨st,h,fun K β w hr=>⟨β,Env.le.refl _,hr⟩⟩
  |cons b todo=>
   change (@Bool.rec (fun _=>DT α)
     (match dZ (path b) st.heap with
      |some (.cells c e true)=>match pol e with
       |some fl=>kX P 60 fl (F6 P 6 e) c st fun c1 ps st1=>match dZ (path b) st1.heap with
        |some (.cells c2 e2 x2)=>kz (and (Nat.beq e2 e) (and x2 (Nat.beq c1.length c2.length))) (qf P pol n (ps.append todo) (b::seen) ⟨dX (path b) st1.heap (.cells c1 e true),st1.next⟩ k)
        |_=> .fail
       |none=>qf P pol n todo (b::seen) st k
      |_=>qf P pol n todo (b::seen) st k)
     (qf P pol n todo seen st k) (nT seen b)).eval=some r at h
   cases hb:nT seen b with
   |true=>rw[hb]at h; exact jq n _ _ _ _ h
   |false=>
    rw[hb]at h;simp only at h;split at h
    ·rename_i c e hg;rw[dQ]at hg;split at h
     ·obtain⟨c1,ps,st1,h1,h3,h4⟩:=iQ _ _ _ _ _ _ h;split at h1
      ·rename_i c2 e2 x2 hg1;rw[dQ]at hg1;obtain⟨hc,h5⟩:=iH h1;clear h1;simp only[Bool.and_eq_true]at hc;obtain⟨q1,q2,q3⟩:=hc;have q1:=Nat.eq_of_beq_eq_true q1;have q3:=Nat.eq_of_beq_eq_true q3;subst q1 q2;obtain⟨st2,k1,k2⟩:=jq n _ _ _ _ h5;refine⟨st2,k1,fun K β w hr=>?_⟩;obtain⟨l,hl,hbk⟩:=hr.get_cells hg;rcases hbk with⟨_,_,hx0⟩ | ⟨hv,hnK,cc,f,g1,g2,g3,g4,g5,g6,g7⟩
       ·cases hx0
       ·obtain⟨β1,a1,a2,a3⟩:=h4 K β w _ hr g6;have hrel:Rel P K β1 ⟨dX (path b) st1.heap (.cells c1 e2 true),st1.next⟩ w:=by
         rw[dY];exact a2.update (b':= .cells c1 e2 true) hg1 rfl rfl rfl (a1 _ _ hl) rfl (fun _ _=>rfl) (Or.inr ⟨hv,cc,f,g1,g2,g3,by omega,fun _=>by rw[h3]; exact g5 rfl,by rw[h3]; exact a3,g7.1,fun h=>by cases h⟩)
        obtain⟨β2,b1,b2⟩:=k2 K β1 w hrel;exact⟨β2,a1.trans b1,b2⟩
      ·cases h1
     ·exact jq n _ _ _ _ h
    ·exact jq n _ _ _ _ h
def xJ(l:List Value):List Nat:=@List.rec Value (fun _=>List Nat) [] (fun v _ ih=>match v with
 | .pointer (some a)=>a.block::ih
 |_=>ih) l
end
/-- A loop's head: slots that are looked at; of what kind the lists are that they hold; their types; the objects' fields likewise. -/
structure HeadD where
 nt:Nat
 L:List Tmp
 fl:List Fl
 ts:List TypeId
 pol:Pol
def HeadD.head(D:HeadD):Head:=⟨0,D.nt,D.L,[]⟩
section
variable{P:Program}{ct:Ct}
theorem uj{β:Env}{s:Trie Value}{n:Nat}{tmps:Array Value}(h:h_ β s n tmps)(L:List Tmp):VRL β (L.map (lM s)) (L.map fun t=>tmps.getD t undef):=
 VRL.map _ _ L fun t _=>by rw[nC]; exact h.2 t
theorem Hy{β:Env}{tmps:Array Value}:∀ (L:List Tmp) (vs:List Value) (s:Trie Value),(∀ i,VR β ((s.get i).getD undef) (tmps.getD i undef))->VRL β vs (L.map fun t=>tmps.getD t undef)->∀ i,VR β (((mM L vs s).get i).getD undef) (tmps.getD i undef)
 |[],[],s,h,_,i=>by simpa [mM]using h i
 |[],v::vs,s,h,hv,i=>by simpa [mM]using h i
 |t::L,[],s,h,hv,i=>by simpa [mM]using h i
 |t::L,v::vs,s,h,hv,i=>by
  simp only[List.map_cons,VRL]at hv;obtain⟨y,ys,e,hy,hys⟩:=hv;cases e;simp only[mM];refine Hy L vs _ (fun j=>?_) hys i;rw[dY,Trie.get_set];by_cases hj:j=t
  ·subst hj; rw[if_pos rfl]; exact hy
  ·rw[if_neg hj]; exact h j
theorem sD{β:Env}{tmps:Array Value}{nt:Nat}{L:List Tmp}{vs:List Value}(hsz:tmps.size=nt)(hv:VRL β vs (L.map fun t=>tmps.getD t undef)):h_ β (mkS nt L vs) nt tmps:=by
 refine⟨hsz,fun i=>?_⟩;unfold mkS;refine Hy L vs _ (fun j=>?_) hv i;rw[nP];split
 ·rename_i hj;simp only[List.length_replicate]at hj;rw[List.getElem?_replicate,if_pos (by omega)];exact trivial
 ·rename_i hj;simp only[List.length_replicate]at hj;have hge:tmps.size<=j:=by omega
  have:tmps.getD j undef=undef:=by simp[Array.getD,Nat.not_lt.2 hge]
  rw[this];exact VR.flat_refl undef rfl
end
end Go.VS
end

noncomputable section
namespace Go.VS

section
/-- How a struct lies in cells. -/
structure Enc(α:Type) where
 sz:Nat
 f:α->List Value
 len:∀ a,(f a).length=sz
 pos:0<sz
 inj:∀ a b,f a=f b->a=b
 nr:∀ a,gJ (f a)=true
variable{α:Type}(E:Enc α)
def Enc.all(l:List α):List Value:=l.flatMap E.f
theorem Enc.all_nil:E.all []=[]:=rfl
theorem Enc.all_cons(a:α)(l:List α):E.all (a::l)=E.f a++E.all l:=List.flatMap_cons
theorem Enc.all_append(a b:List α):E.all (a++b)=E.all a++E.all b:=List.flatMap_append
theorem Enc.all_one(a:α):E.all [a]=E.f a:=by rw[E.all_cons,E.all_nil,List.append_nil]
theorem Enc.all_length(l:List α):(E.all l).length=l.length*E.sz:=by
 induction l with
 |nil=>simp[Enc.all_nil]
 |cons a l ih=>rw[E.all_cons,List.length_append,E.len,ih,List.length_cons,Nat.add_mul]; omega
theorem Enc.all_nr(l:List α):gJ (E.all l)=true:=by
 induction l with
 |nil=>rfl
 |cons a l ih=>rw[E.all_cons,yK,E.nr,ih]; rfl
theorem Enc.all_ren(ρ:Nat->Option Nat)(l:List α):aZ true ρ (E.all l)=E.all l:=Gz (E.all_nr l)
theorem Enc.all_inj(a b:List α)(h:E.all a=E.all b):a=b:=by
 induction a generalizing b with
 |nil=>
  cases b with
  |nil=>rfl
  |cons y b=>
   have:=congrArg List.length h;rw[E.all_length,E.all_length,List.length_nil,List.length_cons,Nat.zero_mul]at this;have:=Nat.mul_pos (Nat.succ_pos b.length) E.pos;simp only[Nat.succ_eq_add_one]at this;omega
 |cons x a ih=>
  cases b with
  |nil=>
   have:=congrArg List.length h;rw[E.all_length,E.all_length,List.length_nil,List.length_cons,Nat.zero_mul]at this;have:=Nat.mul_pos (Nat.succ_pos a.length) E.pos;simp only[Nat.succ_eq_add_one]at this;omega
  |cons y b=>
   rw[E.all_cons,E.all_cons]at h;obtain⟨h1,h2⟩:=List.append_inj h (by rw[E.len,E.len]);rw[E.inj _ _ h1,ih b h2]
theorem Enc.all_drop(n:Nat):∀ l:List α,(E.all l).drop (n*E.sz)=E.all (l.drop n):=by
 induction n with
 |zero=>intro l; simp
 |succ n ih=>
  intro l;cases l with
  |nil=>simp[Enc.all_nil]
  |cons a l=>
   rw[E.all_cons,Nat.add_mul,Nat.one_mul,Nat.add_comm,<-List.drop_drop,List.drop_left' (E.len a),ih l]
   rfl
theorem Enc.all_take(n:Nat):∀ l:List α,(E.all l).take (n*E.sz)=E.all (l.take n):=by
 induction n with
 |zero=>intro l; simp[Enc.all_nil]
 |succ n ih=>
  intro l;cases l with
  |nil=>simp[Enc.all_nil]
  |cons a l=>
   rw[E.all_cons,List.take_succ_cons,E.all_cons,List.take_append,E.len,List.take_of_length_le (by rw[E.len,Nat.add_mul]; omega)];have:(n+1)*E.sz-E.sz=n*E.sz:=by rw[Nat.add_mul]; omega
   rw[this,ih l]
theorem Enc.all_self(l:List α):(E.all l).take (l.length*E.sz)=E.all l:=by rw[E.all_take,List.take_length]
theorem Enc.nth{l:List α}{i j:Nat}(hi:i<l.length)(hj:j<E.sz):aU (E.all l) (i*E.sz+j)=(E.f l[i]).getD j undef:=by
 unfold aU;have h1:E.all l=E.all (l.take i)++(E.f l[i]++E.all (l.drop (i+1))):=by
  rw[<-E.all_cons,<-E.all_append];congr 1;rw[<-List.drop_eq_getElem_cons hi,List.take_append_drop]
 have h2:(E.all (l.take i)).length=i*E.sz:=by rw[E.all_length,List.length_take]; congr 1; omega
 rw[h1,List.getD_eq_getElem?_getD,List.getD_eq_getElem?_getD,List.getElem?_append_right (by omega),h2,List.getElem?_append_left (by rw[E.len]; omega)];congr 2;omega
open Classical in
def Enc.is(c:List Value):Bool:=decide (∃ l,E.all l=c)
open Classical in
def Enc.dec(c:List Value):List α:=if h:∃ l,E.all l=c then h.choose else []
open Classical in
theorem Enc.is_all(l:List α):E.is (E.all l)=true:=by unfold Enc.is; exact decide_eq_true ⟨l,rfl⟩
open Classical in
theorem Enc.all_dec{c:List Value}(h:E.is c=true):E.all (E.dec c)=c:=by
 unfold Enc.is at h;have h:=of_decide_eq_true h;unfold Enc.dec;rw[dif_pos h];exact h.choose_spec
theorem Enc.dec_all(l:List α):E.dec (E.all l)=l:=E.all_inj _ _ (E.all_dec (E.is_all l))
def Enc.fz(m t n:Nat)(c:List Value):Bool:=Nat.beq t (FZ+E.sz)&&E.is c&&Nat.beq n (E.dec c).length&&Nat.ble (E.dec c).length m
theorem Enc.fz_all{m:Nat}{l:List α}(h:l.length<=m){t n:Nat}(ht:t=FZ+E.sz)(hn:n=l.length):E.fz m t n (E.all l)=true:=by
 unfold Enc.fz;rw[E.is_all,E.dec_all,ht,hn,Nat.beq_refl,Nat.beq_refl,Nat.ble_eq_true_of_le h]; rfl
theorem Enc.fz_of{m t n:Nat}{c:List Value}(h:E.fz m t n c=true):∃ l,t=FZ+E.sz/\c=E.all l/\n=l.length/\l.length<=m/\E.dec c=l:=by
 unfold Enc.fz at h;simp only[Bool.and_eq_true]at h;obtain⟨⟨⟨h1,h2⟩,h3⟩,h4⟩:=h;exact⟨E.dec c,Nat.eq_of_beq_eq_true h1,(E.all_dec h2).symm,Nat.eq_of_beq_eq_true h3,Nat.le_of_ble_eq_true h4,rfl⟩
end
end Go.VS
end

noncomputable section
namespace Go.VS.Tryz
open Go.VS
set_option maxRecDepth 1000000
theorem oO{s n m:Nat}{a b:List Value}(h:aX s n 0 a=aX s m 0 b):a=b:=by
 unfold aX at h;simp only[Value.iface.injEq,Value.agg.injEq,Array.mk.injEq,List.cons.injEq]at h;exact h.2.2
theorem yj(s n b:Nat)(c:List Value):jD (aX s n b c)=true:=by
 unfold aX;simp only[jD];rw[Nat.ble_eq_true_of_le (Nat.le_add_right FZ s)]
structure OpM where
 p:Bool
 k:ByteArray
 v:ByteArray
def EOp:Enc OpM where
 sz:=3
 f o:=[.bool o.p, .string o.k, .string o.v]
 len _:=rfl
 pos:=by decide
 inj a b h:=by
  obtain⟨p,k,v⟩:=a;obtain⟨p',k',v'⟩:=b;simp only[List.cons.injEq,Value.bool.injEq,Value.string.injEq,and_true]at h;obtain⟨rfl,rfl,rfl⟩:=h
  rfl
 nr _:=rfl
structure CmM where
 e:Int
 n:Int
 ops:List OpM
def ECm:Enc CmM where
 sz:=3
 f c:=[.int .i64 c.e, .int .i64 c.n,aX 3 c.ops.length 0 (EOp.all c.ops)]
 len _:=rfl
 pos:=by decide
 inj a b h:=by
  obtain⟨e,n,o⟩:=a;obtain⟨e',n',o'⟩:=b;simp only[List.cons.injEq,Value.int.injEq,true_and,and_true]at h;obtain⟨rfl,rfl,h⟩:=h;obtain rfl:=EOp.all_inj _ _ (oO h)
  rfl
 nr c:=by simp only[gJ,jD,yj,Bool.and_self]
structure RunM where
 a:Int
 b:Int
 ops:List OpM
def eF:Enc RunM where
 sz:=3
 f c:=[.int .i64 c.a, .int .i64 c.b,aX 3 c.ops.length 0 (EOp.all c.ops)]
 len _:=rfl
 pos:=by decide
 inj a b h:=by
  obtain⟨e,n,o⟩:=a;obtain⟨e',n',o'⟩:=b;simp only[List.cons.injEq,Value.int.injEq,true_and,and_true]at h;obtain⟨rfl,rfl,h⟩:=h;obtain rfl:=EOp.all_inj _ _ (oO h)
  rfl
 nr c:=by simp only[gJ,jD,yj,Bool.and_self]
theorem uM:∀ {a b:List UInt8},bc a=bc b->a=b:=by
 intro a b h;have:=congrArg (List.map byteOf) h;rwa [aO,aO]at this
/-- A raw step of a disk: its kind,its file,bytes,a length. -/
structure StM where
 kind:Int
 file:Int
 bytes:List UInt8
 len:Int
def ESt:Enc StM where
 sz:=4
 f s:=[.int .i64 s.kind, .int .i64 s.file,aX 1 s.bytes.length 0 (bc s.bytes), .int .i64 s.len]
 len _:=rfl
 pos:=by decide
 inj a b h:=by
  obtain⟨k,f,o,l⟩:=a;obtain⟨k',f',o',l'⟩:=b;simp only[List.cons.injEq,Value.int.injEq,true_and,and_true]at h;obtain⟨rfl,rfl,h,rfl⟩:=h;obtain rfl:=uM (oO h)
  rfl
 nr c:=by simp only[gJ,jD,yj,Bool.and_self]
theorem ve{l:List OpM}{i:Nat}(h:i<l.length):aU (EOp.all l) (atN (i:Int) 3) = .bool l[i].p:=by
 have e:atN (i:Int) 3=i*EOp.sz+0:=by simp[atN]; rfl
 rw[e,EOp.nth h (by decide)]; rfl
theorem qh{l:List OpM}{i:Nat}(h:i<l.length):aU (EOp.all l) (Nat.add (atN (i:Int) 3) 1) = .string l[i].k:=by
 have e:Nat.add (atN (i:Int) 3) 1=i*EOp.sz+1:=by simp[atN]; rfl
 rw[e,EOp.nth h (by decide)]; rfl
theorem vk{l:List OpM}{i:Nat}(h:i<l.length):aU (EOp.all l) (Nat.add (Nat.add (atN (i:Int) 3) 1) 1) = .string l[i].v:=by
 have e:Nat.add (Nat.add (atN (i:Int) 3) 1) 1=i*EOp.sz+2:=by simp[atN]; rfl
 rw[e,EOp.nth h (by decide)]; rfl
theorem pI{l:List CmM}{i:Nat}(h:i<l.length):aU (ECm.all l) (atN (i:Int) 3) = .int .i64 l[i].e:=by
 have e:atN (i:Int) 3=i*ECm.sz+0:=by simp[atN]; rfl
 rw[e,ECm.nth h (by decide)]; rfl
theorem Az{l:List CmM}{i:Nat}(h:i<l.length):aU (ECm.all l) (Nat.add (atN (i:Int) 3) 1) = .int .i64 l[i].n:=by
 have e:Nat.add (atN (i:Int) 3) 1=i*ECm.sz+1:=by simp[atN]; rfl
 rw[e,ECm.nth h (by decide)]; rfl
theorem xP{l:List CmM}{i:Nat}(h:i<l.length):aU (ECm.all l) (Nat.add (Nat.add (atN (i:Int) 3) 1) 1)=aX 3 l[i].ops.length 0 (EOp.all l[i].ops):=by
 have e:Nat.add (Nat.add (atN (i:Int) 3) 1) 1=i*ECm.sz+2:=by simp[atN]; rfl
 rw[e,ECm.nth h (by decide)]; rfl
theorem acw{l:List StM}{i:Nat}(h:i<l.length):aU (ESt.all l) (atN (i:Int) 4) = .int .i64 l[i].kind:=by
 have e:atN (i:Int) 4=i*ESt.sz+0:=by simp[atN]; rfl
 rw[e,ESt.nth h (by decide)]; rfl
theorem abJ{l:List StM}{i:Nat}(h:i<l.length):aU (ESt.all l) (Nat.add (atN (i:Int) 4) 1) = .int .i64 l[i].file:=by
 have e:Nat.add (atN (i:Int) 4) 1=i*ESt.sz+1:=by simp[atN]; rfl
 rw[e,ESt.nth h (by decide)]; rfl
theorem acW{l:List StM}{i:Nat}(h:i<l.length):aU (ESt.all l) (Nat.add (Nat.add (atN (i:Int) 4) 1) 1)=aX 1 l[i].bytes.length 0 (bc l[i].bytes):=by
 have e:Nat.add (Nat.add (atN (i:Int) 4) 1) 1=i*ESt.sz+2:=by simp[atN]; rfl
 rw[e,ESt.nth h (by decide)]; rfl
theorem acU{l:List StM}{i:Nat}(h:i<l.length):aU (ESt.all l) (Nat.add (Nat.add (Nat.add (atN (i:Int) 4) 1) 1) 1) = .int .i64 l[i].len:=by
 have e:Nat.add (Nat.add (Nat.add (atN (i:Int) 4) 1) 1) 1=i*ESt.sz+3:=by simp[atN]; rfl
 rw[e,ESt.nth h (by decide)]; rfl
theorem BK{s n b:Nat}{c:List Value}(hs:s≠0):kw (aX s n b c)=some ⟨s,n,b,c⟩:=by
 unfold kw aX;simp only;rw[if_pos (Nat.ble_eq_true_of_le (by omega))];have e:FZ+s-FZ=s:=by omega
 rw[e]
theorem Be{s n b:Nat}{c:List Value}(hs:s≠0):zN (aX s n b c)=n:=by unfold zN; rw[BK hs]
theorem Yj{s n b:Nat}{c:List Value}(hs:s≠0):zB (aX s n b c)=b:=by unfold zB; rw[BK hs]
theorem IQ{s n b:Nat}{c:List Value}(hs:s≠0):zC (aX s n b c)=c:=by unfold zC; rw[BK hs]
theorem En{s n b:Nat}{c:List Value}(hs:s≠0):isZ s (aX s n b c)=true:=by unfold isZ; rw[BK hs]; simp
theorem fzU:FZ+1=18446744073709551617:=by unfold FZ; rfl
theorem tJ:FZ+3=18446744073709551619:=by unfold FZ; rfl
theorem yw(l:List UInt8)(a k:Nat):takeC k (bT a (bc l))=bc ((l.drop a).take k):=by
 unfold takeC bT bc;rw[List.map_take,List.map_drop]
theorem fK{l:List UInt8}{k:Nat}(h:k=l.length):takeC k (bT 0 (bc l))=bc l:=by rw[yw,h,List.drop_zero,List.take_length]
theorem aQ(n:Nat):Nat.mul n 1=n:=Nat.mul_one n
theorem aG(n:Nat):Nat.add 0 n=n:=Nat.zero_add n
theorem abx(n:Nat):iV 0 (ag n)=n:=by simp[iV,ag]
theorem abw(k n:Nat):iV (k:Int) (ag n)=n-k:=by simp[iV,ag]
theorem aey(n:Nat):iV (ag n) (ag n)=0:=by simp[iV]
theorem cap0(n:Nat):zT 0 n=0:=by simp[zT]
theorem uJ{l:List StM}{n:Nat}(h:n=l.length):takeC (Nat.mul n 4) (bT 0 (ESt.all l))=ESt.all l:=by
 subst h; exact ESt.all_self l
theorem QY{l:List UInt8}{n:Nat}(h:n=l.length):j_ P 0 n 18446744073709551616 (bc l) 5=true:=by
 subst h;have he:esz P 5=1:=by kernel_rfl
 unfold j_;rw[he];have h1:gJ (bc l)=true:=by
  refine o8.2 fun v hv=>?_;unfold bc at hv;obtain⟨b,_,rfl⟩:=List.mem_map.1 hv
  rfl
 rw[h1,ah];have h2:Nat.ble (Nat.add 0 (Nat.mul l.length 1)) l.length=true:=by rw[aQ,aG]; exact Nat.ble_eq_true_of_le (Nat.le_refl _)
 rw[h2]; rfl
theorem dB(a n c:Nat):bU (.slice (some ⟨a,0,none⟩) n c) (.slice (some ⟨a,0,none⟩) n c)=true:=by simp[bU]
def fq_(n:Nat)(c:List Value)(t:Nat):Bool:=j_ P 0 n 18446744073709551616 c t
end Go.VS.Tryz
end

noncomputable section
namespace Go.VS

section
/-- How a state lies in values and blocks. -/
structure Con(σ:Type) where
 enc:σ->List Value×List Blk
 ok:σ->Prop
 inj:∀ a b,enc a=enc b->a=b
 dflt:σ
variable{σ:Type}(k:Con σ)
open Classical in
def Con.C(vs:List Value)(bs:List Blk):Bool:=decide (∃ s,k.enc s=(vs,bs)/\k.ok s)
open Classical in
def Con.D(vs:List Value)(bs:List Blk):σ:=if h:∃ s,k.enc s=(vs,bs)then h.choose else k.dflt
open Classical in
theorem Con.D_enc{s:σ}{vs:List Value}{bs:List Blk}(h:k.enc s=(vs,bs)):k.D vs bs=s:=by
 have hx:∃ s,k.enc s=(vs,bs):=⟨s,h⟩
 unfold Con.D;rw[dif_pos hx];exact k.inj _ _ (hx.choose_spec.trans h.symm)
open Classical in
theorem Con.C_enc{s:σ}{vs:List Value}{bs:List Blk}(h:k.enc s=(vs,bs))(ho:k.ok s):k.C vs bs=true:=by
 unfold Con.C; exact decide_eq_true ⟨s,h,ho⟩
open Classical in
theorem Con.of{vs:List Value}{bs:List Blk}(h:k.C vs bs=true):∃ s,k.enc s=(vs,bs)/\k.ok s/\k.D vs bs=s:=by
 unfold Con.C at h;obtain⟨s,h1,h2⟩:=of_decide_eq_true h;exact⟨s,h1,h2,k.D_enc h1⟩
def yc(C:List Value->List Blk->Bool)(D:List Value->List Blk->σ)(res:σ->DT (Value×List Blk)):iW:=fun args bs=>some (.ite (C args bs) (res (D args bs)) .fail)
def Dn(C:List Value->List Blk->Bool)(D:List Value->List Blk->σ)(res:σ->DT (Ex×List Value×List Blk)):jO:=fun vs bs=>some (.ite (C vs bs) (res (D vs bs)) .fail)
end
end Go.VS
end

noncomputable section
namespace Go.VS
open Go.RowKit
section
variable{P:Program}{ct:Ct}
def oV(X L:List Nat)(st:St)(bs:List Blk):St:=⟨oG (bH X st.next) X bs st.next (pX L st.heap),st.next+(bs.length-X.length)⟩
theorem sW{K:Prot}{β:Env}{st:St}{w:World}(h:Rel P K β st w){X L:List Nat}(hndS:(X++L).Nodup)(hcells:∀ b∈X++L,∃ x,st.heap.get b=some x/\Eb x=true) :
  ∃ K':Prot,(∀ k,K k->K' k)/\(∀ i,¬K'.id i)/\Rel P K' (gu 0 (X++L) β) (af ((X++L).map fun b=>ku true (bY 0 (X++L)) (st.heap.get b))) w/\
   ∀ (β1:Env) (bs1:List Blk) (w1:World),leN X.length (gu 0 (X++L) β) β1->X.length<=bs1.length->Rel P K' β1 (af bs1) w1->Bel K' w w1->
    β.le (kW X st.next β β1)/\Rel P K (kW X st.next β β1) (oV X L st bs1) w1/\RenOk true (bH X st.next) β1 (kW X st.next β β1):=by
 generalize hS:X++L=src at hndS hcells ⊢;have hnd:X.Nodup:=by rw[<-hS]at hndS; exact(List.nodup_append.1 hndS).1
 have hXs:∀ b∈X,b∈src:=fun b hb=>by rw[<-hS]; exact List.mem_append_left _ hb
 have hLs:∀ b∈L,b∈src:=fun b hb=>by rw[<-hS]; exact List.mem_append_right _ hb
 have hsX:∀ b,b∉X->b∉L->b∉src:=fun b h1 h2 h=>by rw[<-hS]at h; exact(List.mem_append.1 h).elim h1 h2
 let st0:St:=⟨wL (src.map fun b=>(b,(st.heap.get b).getD .dead)) .leaf,st.next⟩
 have h0:∀ i,st0.heap.get i=if i∈src then st.heap.get i else none:=by
  intro i;show(wL _ .leaf).get i=_;rw[uS];rcases pO (src.map fun b=>(b,(st.heap.get b).getD .dead)) i ((Trie.leaf:Trie Blk).get i)with⟨n,e⟩ | ⟨n,b',hb',e⟩
  ·rw[e];have:i∉src:=fun hi=>n (by simp only[List.map_map,List.mem_map]; exact⟨i,hi,rfl⟩);rw[if_neg this]; rfl
  ·rw[e];obtain⟨j,hj,hje⟩:=List.mem_map.1 hb';simp only[Prod.mk.injEq]at hje;obtain⟨rfl,rfl⟩:=hje;obtain⟨x,hc,hcm⟩:=hcells j hj;rw[if_pos hj,hc]; rfl
 obtain⟨K1,k1,k2,k3,k4⟩:=h.part (st0:=st0) rfl (fun i b hi _=>by
  rw[h0]at hi;split at hi
  ·exact hi
  ·cases hi) (fun i o hi=>by
  rw[h0]at hi;split at hi
  ·rename_i hm;obtain⟨x,hc,hcm⟩:=hcells i hm;rw[hc]at hi; cases hi; cases hcm
  ·cases hi)
 let K':Prot:=⟨K1.blk,fun _=>False,K1.nofz,K1.obs,K1.sub⟩
 have r0:Rel P K' β st0 w:=⟨k3.base,k3.dom,k3.blk,k3.inj,fun i hi=>hi.elim,k3.nofz,k3.frz,k3.objs⟩
 have hmid:=iZ (N:=0) (src:=src) r0 (fun i hi=>hi.elim) (Nat.zero_le _) hndS (fun b hb=>by
  obtain⟨x,hc,hcm⟩:=hcells b hb
  exact⟨x,by rw[h0,if_pos hb]; exact hc,hcm⟩)
 have hms:(src.map fun b=>ku true (bY 0 src) (st0.heap.get b))=src.map fun b=>ku true (bY 0 src) (st.heap.get b):=by
  apply List.map_congr_left;intro b hb;rw[h0,if_pos hb]
 have hsrc:∀ b∈src,∃ l,β (b:Int)=some l/\b<st.next:=by
  intro b hb;obtain⟨x,hc,hcm⟩:=hcells b hb;obtain⟨l,hl,_⟩:=h.blk b _ hc (H8 hcm);exact⟨l,hl,(h.dom b l hl).1⟩
 refine⟨K',k1,fun i hi=>hi,by rw[<-hms]; exact hmid,fun β1 bs1 w1 hle hlen h1 hb=>?_⟩;have hneg:∀ k l,β (Int.negSucc k)=some l->β1 (Int.negSucc k)=some l:=fun k l hk=>hle (Int.negSucc k) l (by have:=Int.negSucc_lt_zero k; omega) hk;have hre:∀ (j b:Nat),X[j]? = some b->β1 (j:Int)=β (b:Int):=by
  intro j b hjX;have hjl:j<X.length:=(List.getElem?_eq_some_iff.1 hjX).1;have hj:src[j]? = some b:=by rw[<-hS,List.getElem?_append_left hjl]; exact hjX
  obtain⟨l,hl,_⟩:=hsrc b (List.mem_of_getElem? hj);rw[hl];refine hle j l (by omega) ?_;show(if j<0 then β (j:Int)else match src[j-0]? with | some b=>β (b:Int) | none=>none)=_;rw[if_neg (by omega),Nat.sub_zero,hj]; exact hl
 have hple:β.le (kW X st.next β β1):=by
  intro i l hi;cases i with
  |negSucc k=>exact hneg k l hi
  |ofNat i=>
   have:=(h.dom i l hi).1;show(if i<st.next then β (i:Int)else _)=_;rw[if_pos this]; exact hi
 have hold:∀ i,i<st.next->kW X st.next β β1 (i:Int)=β (i:Int):=by
  intro i hi;show(if i<st.next then β (i:Int)else _)=_;rw[if_pos hi]
 have hbig:∀ i,st.next<=i->kW X st.next β β1 (i:Int)=β1 ((i-st.next+X.length:Nat):Int):=by
  intro i hi;show(if i<st.next then β (i:Int)else _)=_;rw[if_neg (by omega)]
 have hren:RenOk true (bH X st.next) β1 (kW X st.next β β1):=by
  refine⟨fun b b' l hb hl=>?_,fun _ k l hk=>hk⟩;by_cases hbl:b<X.length
  ·rw[uP _ _ _ hbl]at hb;rw[hold b' (hsrc b' (hXs _ (List.mem_of_getElem? hb))).choose_spec.2,<-hre b b' hb]; exact hl
  ·rw[uU _ _ _ (by omega)]at hb;obtain rfl:=Option.some.inj hb;rw[hbig _ (Nat.le_add_right _ _),show st.next+(b-X.length)-st.next+X.length=b by omega]; exact hl
 have hfrom:∀ (t:Trie Blk) (i:Nat) b,(oG (bH X st.next) X bs1 st.next t).get i=some b->(∃ (j:Nat) (b0:Blk),bs1[j]? = some b0/\b=oz (bH X st.next) b0/\kW X st.next β β1 (i:Int)=β1 (j:Int)/\bH X st.next j=some i/\(i∈X\/st.next<=i/\i<st.next+(bs1.length-X.length)))\/(i∉X/\¬(st.next<=i/\i<st.next+(bs1.length-X.length))/\t.get i=some b):=by
  intro t i b hi;rcases nH X bs1 st.next t i hnd hlen (fun b hb=>(hsrc b (hXs b hb)).choose_spec.2)with⟨j,g1,g2⟩ | ⟨g1,g2⟩
  ·rw[g2]at hi;cases hx:bs1[j]? with
   |none=>rw[hx]at hi; cases hi
   |some b0=>
    rw[hx]at hi;have hm:=List.mem_of_getElem? g1;refine Or.inl ⟨j,b0,hx,(Option.some.inj hi).symm,?_,?_,Or.inl hm⟩
    ·rw[hold i (hsrc i (hXs i hm)).choose_spec.2,hre j i g1]
    ·rw[uP _ _ _ (List.getElem?_eq_some_iff.1 g1).1]; exact g1
  ·rw[g2]at hi;split at hi
   ·rename_i hr;cases hx:bs1[i-st.next+X.length]? with
    |none=>rw[hx]at hi; cases hi
    |some b0=>
     rw[hx]at hi;refine Or.inl ⟨_,b0,hx,(Option.some.inj hi).symm,hbig i hr.1,?_,Or.inr hr⟩;rw[uU _ _ _ (by omega)];congr 1;omega
   ·rename_i hr;exact Or.inr ⟨g1,hr,hi⟩
 have hlone:∀ (i:Nat) b,(oV X [] ⟨.leaf,st.next⟩ bs1).heap.get i=some b->∃ (j:Nat) (b0:Blk),(af bs1).heap.get j=some b0/\b=oz (bH X st.next) b0/\kW X st.next β β1 (i:Int)=β1 (j:Int)/\bH X st.next j=some i:=by
  intro i b hi;rcases hfrom .leaf i b hi with⟨j,b0,g1,g2,g3,g4,_⟩ | ⟨_,_,g⟩
  ·exact⟨j,b0,by rw[oN]; exact g1,g2,g3,g4⟩
  ·cases g
 have hnx:(af bs1).next=bs1.length:=rfl
 have rl:Rel P K1 (kW X st.next β β1) (oV X [] ⟨.leaf,st.next⟩ bs1) w1:=by
  refine⟨h1.base,fun i l hi=>?_,fun i b hi hl=>?_,fun i j bi bj li lj hi hbi hj hbj hli hlj v1 v2 e=>?_,fun i hi=>?_,fun k l hk=>h1.nofz k l hk,fun k l hk=>?_,h1.objs.1.neg fun _ _ h=>h,fun _ _=>False,fun i o hi=>?_,fun i k hk=>hk.elim⟩
  ·by_cases hin:i<st.next
   ·rw[hold i hin]at hi;obtain⟨a1,a2⟩:=h.dom i l hi;exact⟨Nat.lt_of_lt_of_le a1 (Nat.le_add_right _ _),fun hv=>Nat.lt_of_lt_of_le (a2 hv) hb.size⟩
   ·rw[hbig i (by omega)]at hi;obtain⟨a1,a2⟩:=h1.dom _ l hi;exact⟨by show i<st.next+(bs1.length-X.length); omega,a2⟩
  ·obtain⟨j,b0,a2,rfl,a3,_⟩:=hlone i b hi;obtain⟨l,c1,c2,c3⟩:=h1.blk _ b0 a2 (jZ hl);exact⟨l,by rw[a3]; exact c1,c2,D5 hren c3⟩
  ·obtain⟨i',b0,a2,rfl,a3,a4⟩:=hlone i bi hi;obtain⟨j',d0,c2,rfl,c3,c4⟩:=hlone j bj hj;rw[a3]at hli;rw[c3]at hlj;have:=h1.inj _ _ b0 d0 li lj a2 (jZ hbi) c2 (jZ hbj) hli hlj v1 v2 e;rw[this,c4]at a4;exact(Option.some.inj a4).symm
  ·rw[k2]at hi;obtain⟨a1,a2⟩:=h.res i hi;exact⟨Nat.lt_of_lt_of_le a1 (Nat.le_add_right _ _),by rw[hold i a1]; exact a2⟩
  ·obtain⟨f1,f2,f3⟩:=h1.frz k l hk;refine⟨f1,f2,fun j bj lj hj hbj hlj hv=>?_⟩;obtain⟨j',d0,c2,rfl,c3,_⟩:=hlone j bj hj;rw[c3]at hlj;exact f3 _ d0 lj c2 (jZ hbj) hlj hv
  ·obtain⟨_,b0,_,e,_⟩:=hlone i _ hi;exact(rU e.symm).elim
 refine⟨hple,k4 _ (oV X [] ⟨.leaf,st.next⟩ bs1) _ w1 hple rl ⟨hb.os,hb.tape,hb.output,hb.size,hb.block⟩ (Nat.le_add_right _ _) (fun i o hi=>?_) rfl (fun i b hi hl=>?_) (fun i o hi hdead=>?_),hren⟩
 ·obtain⟨_,b0,_,e,_⟩:=hlone i _ hi;exact(rU e.symm).elim
 ·have hq:=nH (ρ:=bH X st.next) X bs1 st.next .leaf i hnd hlen (fun b hb=>(hsrc b (hXs b hb)).choose_spec.2)
  have hq2:=nH (ρ:=bH X st.next) X bs1 st.next (pX L st.heap) i hnd hlen (fun b hb=>(hsrc b (hXs b hb)).choose_spec.2)
  have hi:(oG (bH X st.next) X bs1 st.next (pX L st.heap)).get i=some b:=hi;rcases hq2 with⟨j,g1,g2⟩ | ⟨g1,g2⟩
  ·refine Or.inl ?_;rcases hq with⟨j',g1',g2'⟩ | ⟨g1',_⟩
   ·have:j'=j:=zl hnd g1' g1;subst this;show(oG _ X bs1 st.next .leaf).get i=_;rw[g2',<-g2]; exact hi
   ·exact absurd (List.mem_of_getElem? g1) g1'
  ·rcases hq with⟨j',g1',g2'⟩ | ⟨g1',g2'⟩
   ·exact absurd (List.mem_of_getElem? g1') g1
   ·rw[g2]at hi;split at hi
    ·rename_i hr;refine Or.inl ?_;show(oG _ X bs1 st.next .leaf).get i=_;rw[g2',if_pos hr]; exact hi
    ·rename_i hr;rw[sZ]at hi;split at hi
     ·obtain rfl:=Option.some.inj hi; cases hl
     ·rename_i hns;refine Or.inr ⟨fun c hc=>?_,fun c hc=>?_,hi⟩
      ·have hc:(oG _ X bs1 st.next .leaf).get i=some c:=hc;rw[g2',if_neg hr]at hc; cases hc
      ·rw[h0,if_neg (hsX i g1 hns)]at hc; cases hc
 ·obtain⟨l,hl,_⟩:=h.blk i _ hi rfl;have hlt:=(h.dom i l hl).1;show(oG _ X bs1 st.next (pX L st.heap)).get i=_;rcases nH (ρ:=bH X st.next) X bs1 st.next (pX L st.heap) i hnd hlen (fun b hb=>(hsrc b (hXs b hb)).choose_spec.2)with⟨j,g1,g2⟩ | ⟨g1,g2⟩
  ·obtain⟨x,hc,hcm⟩:=hcells i (hXs i (List.mem_of_getElem? g1));rw[hi]at hc; cases hc; cases hcm
  ·rw[g2,if_neg (by omega),sZ,if_neg]
   ·exact hi
   ·intro hm;obtain⟨x,hc,hcm⟩:=hcells i (hLs i hm);rw[hi]at hc; cases hc; cases hcm
def adz(v:Value)(vs:List Value):List Value:=match v with
 | .func _ a b=>List.append a.toList (List.append b.toList vs)
 |_=>vs
def slotL:Trie Value->List Value
 | .leaf=>[]
 | .node v l r=>match v with
  |some v=>v::List.append (slotL l) (slotL r)
  |none=>List.append (slotL l) (slotL r)
def lK{α:Type}(h:Nat->Option Blk)(n:Nat):List Value->List Nat->List Nat->(List Nat->List Nat->α)->α:=
 @Nat.rec (fun _=>List Value->List Nat->List Nat->(List Nat->List Nat->α)->α) (fun _ X L k=>k X L)
  (fun _ ih vs X L k=>match vs with
   |[]=>k X L
   |v::vs=>match(match v with
     | .slice (some a) _ _=>some a.block
     | .pointer (some a)=>some a.block
     | .map (some r)=>some r
     | .iface _ (.pointer (some a))=>some a.block
     | .func (.yield l) _ _=>some l
     |_=>none)with
    |none=>ih (adz v vs) X L k
    |some b=>@Bool.rec (fun _=>α)
      (match h b with
       |some (.cells c _ true)=>ih (c.append vs) (X.append [b]) L k
       |some (.map _ _)=>ih vs (X.append [b]) L k
       |some (.loop R)=>ih ((slotL R.slots).append (.pointer (some ⟨R.defers,0,none⟩)::vs)) (X.append [b]) L k
       |some .deferred=>ih vs (X.append [b]) L k
       |_=>ih vs X (L.append [b]) k)
      (ih vs X L k) (or (nT X b) (nT L b))) n
theorem jE{α:Type}(h:Nat->Option Blk):∀ (n:Nat) (vs:List Value) (X L:List Nat) (k:List Nat->List Nat->α),∃ X' L',lK h n vs X L k=k X' L'
 |0,vs,X,L,k=>⟨X,L,rfl⟩
 |n+1,[],X,L,k=>⟨X,L,rfl⟩
 |n+1,v::vs,X,L,k=>by
  show ∃ X' L',(match(match v with
     | .slice (some a) _ _=>some a.block
     | .pointer (some a)=>some a.block
     | .map (some r)=>some r
     | .iface _ (.pointer (some a))=>some a.block
     | .func (.yield l) _ _=>some l
     |_=>none)with
    |none=>lK h n (adz v vs) X L k
    |some b=>@Bool.rec (fun _=>α)
      (match h b with
       |some (.cells c _ true)=>lK h n (c.append vs) (X.append [b]) L k
       |some (.map _ _)=>lK h n vs (X.append [b]) L k
       |some (.loop R)=>lK h n ((slotL R.slots).append (.pointer (some ⟨R.defers,0,none⟩)::vs)) (X.append [b]) L k
       |some .deferred=>lK h n vs (X.append [b]) L k
       |_=>lK h n vs X (L.append [b]) k)
      (lK h n vs X L k) (or (nT X b) (nT L b)))=k X' L'
  split
  ·exact jE h n _ _ _ k
  ·rename_i b _;cases or (nT X b) (nT L b)with
   |true=>exact jE h n _ _ _ k
   |false=>
    simp only;split
    ·exact jE h n _ _ _ k
    ·exact jE h n _ _ _ k
    ·exact jE h n _ _ _ k
    ·exact jE h n _ _ _ k
    ·exact jE h n _ _ _ k
def upTo(n:Nat):List Nat->Nat->Bool:=@Nat.rec (fun _=>List Nat->Nat->Bool) (fun _ _=>true)
 (fun _ ih X i=>match X with
  |b::X=>match Nat.beq b i with
   |true=>ih X (Nat.succ i)
   |false=>false
  |[]=>false) n
theorem o6:∀ (n:Nat) (X:List Nat) (i:Nat),upTo n X i=true->n<=X.length/\∀ j,j<n->X[j]? = some (i+j)
 |0,X,i,h=>⟨Nat.zero_le _,fun j hj=>by omega⟩
 |n+1,[],i,h=>by cases h
 |n+1,b::X,i,h=>by
  have h:(match Nat.beq b i with | true=>upTo n X (i+1) | false=>false)=true:=h;split at h
  ·rename_i hb;obtain rfl:=Nat.eq_of_beq_eq_true hb;obtain⟨h1,h2⟩:=o6 n X _ h;refine⟨by simpa using h1,fun j hj=>?_⟩;cases j with
   |zero=>rfl
   |succ j=>rw[List.getElem?_cons_succ,h2 j (by omega)]; congr 1; omega
  ·cases h
theorem qB{N:Nat}{X L:List Nat}{β:Env}(h:upTo N X 0=true):leN N β (gu 0 (X++L) β):=by
 obtain⟨h1,h2⟩:=o6 _ _ _ h;intro i l hi hl;cases i with
 |negSucc k=>exact hl
 |ofNat i=>
  have hi:i<N:=by have:((i:Nat):Int)<(N:Nat):=hi; omega
  show(if i<0 then β (i:Int)else match(X++L)[i-0]? with | some b=>β (b:Int) | none=>none)=some l;rw[if_neg (by omega),Nat.sub_zero,List.getElem?_append_left (by omega),h2 i hi,Nat.zero_add]; exact hl
/-- A loop's head: how many objects,slots,of what kind the lists are that they hold; their types; the objects' fields likewise. -/
structure HeadX where
 N:Nat
 nt:Nat
 L:List Tmp
 fl:List Fl
 ts:List TypeId
 pol:Pol
def HeadX.head(D:HeadX):Head:=⟨D.N,D.nt,D.L,[]⟩
def xF{α:Type}(P:Program)(D:HeadX)(s:Trie Value)(st:St)(k:List Nat->List Nat->St->List Value->List Blk->DT α):DT α:=
 kX P 60 D.fl D.ts (D.L.map (lM s)) st fun vs1 ps st1=>qf P D.pol 200 ps [] st1 fun st2=>
  lK (jB st2) 1000 vs1 [] [] fun X L=>match Nat.beq X.length D.N,iI 0 (X.append L) (fun i=>dZ (path i) st2.heap) (X.append L)with
  |true,some ms=>k X L st2 (vs1.map (eP true (bY 0 (X.append L)))) ms
  |_,_=> .fail
theorem yM{α:Type}{r:α}{D:HeadX}{s:Trie Value}{st:St}{k:List Nat->List Nat->St->List Value->List Blk->DT α}(h:(xF P D s st k).eval=some r) :
  ∃ X L st2 vs1 ms,(k X L st2 (vs1.map (eP true (bY 0 (X++L)))) ms).eval=some r/\X.length=D.N/\iI 0 (X++L) (fun i=>st2.heap.get i) (X++L)=some ms/\
   ∀ (K:Prot) (β:Env) (w:World) (n:Nat) (tmps:Array Value),Rel P K β st w->h_ β s n tmps->∃ β1,β.le β1/\Rel P K β1 st2 w/\VRL β1 vs1 (D.L.map fun t=>tmps.getD t undef):=by
 unfold xF at h;obtain⟨vs1,ps,st1,h1,h3,h4⟩:=iQ _ _ _ _ _ _ h;obtain⟨st2,k1,k2⟩:=jq _ _ _ _ _ h1;obtain⟨X,L,hX⟩:=jE (jB st2) 1000 vs1 [] [] fun X L=>match Nat.beq X.length D.N,iI 0 (X.append L) (fun i=>dZ (path i) st2.heap) (X.append L)with
  |true,some ms=>k X L st2 (vs1.map (eP true (bY 0 (X.append L)))) ms
  |_,_=> .fail
 rw[hX]at k1;split at k1
 ·rename_i ms hn hm;refine⟨X,L,st2,vs1,ms,k1,Nat.eq_of_beq_eq_true hn,by simp only[dQ]at hm; exact hm,fun K β w n tmps hr hs=>?_⟩;obtain⟨β1,a1,a2,a3⟩:=h4 K β w _ hr (uj hs D.L);obtain⟨β2,b1,b2⟩:=k2 K β1 w a2;exact⟨β2,a1.trans b1,b2,a3.mono b1⟩
 ·cases k1
def LRX(P:Program)(fid id:Nat)(B:Code)(H:Head)(vs:List Value)(bs:List Blk)(e:Ex)(vs':List Value)(bs':List Blk):Prop:=
 ∀ (K:Prot) (β:Env) (w:World) (fr:Frame) (cs:List Frame) (k:List Item),(∀ i,¬K.id i)->fr.todo = .code B:: .inLoop B:: .inBlock id::k->fr.fn=fid->FrR β (H.fr vs) fr->Rel P K β (af bs) w->
  xq H.N P K β fr cs w e k (H.fr vs') (af bs')/\H.N<=bs'.length
def TA(P:Program)(D:HeadX):Ex->Trie Value->List Deferred->St->Res:=fun e s d st=>match d with
 |[]=>DT.run (xF P D s st fun X _ _ vs ms=>match upTo D.N X 0 with
  |true=> .leaf (vs,ms)
  |false=> .fail) fun r=>some (.tuple ⟨exV e::r.1⟩,af r.2)
 |_=>none
def bV(P:Program)(E:Eng)(ct:Ct)(n:Nat)(fid:Nat)(B:Code)(D:HeadX)(vs:List Value)(bs:List Blk):Res:=
 pF P E ct n (o9 P E ct n n) fid D.nt none B (mkS D.nt D.L vs) [] (af bs) (TA P D)
theorem zM{E:Eng}(hE:EngOk P ct E)(hN:noNum P=true)(hct:CtOk P ct){n fid id:Nat}{B:Code}{D:HeadX}(hocc:Occ P fid (.block id (.loop B))){vs vs1:List Value}{bs bs1:List Blk}{e:Ex}
  (h:bV P E ct n fid B D vs bs=some (.tuple ⟨exV e::vs1⟩,af bs1)) (K:Prot) (β:Env) (w:World) (fr:Frame) (cs:List Frame) (k:List Item) (hid:∀ i,¬K.id i) (ht:fr.todo = .code B::k) (hfid:fr.fn=fid) (hf:FrR β (D.head.fr vs) fr) (hr:Rel P K β (af bs) w) :
  xq D.head.N P K β fr cs w e k (D.head.fr vs1) (af bs1)/\D.head.N<=bs1.length:=by
 unfold bV at h;obtain⟨m,e1,s1,d1,st1,h1,h2⟩:=jQ hE (jP hE n n) n fid D.nt none B _ _ _ _ _ h;unfold TA at h2;split at h2
 ·obtain⟨r,hc,h2⟩:=DT.run_spec h2;obtain⟨X,L,st2,vs2,ms,hc1,hlen,hm,hc2⟩:=yM hc;split at hc1
  ·rename_i hup;simp only[DT.eval,Option.some.injEq]at hc1;subst hc1;simp only[Option.some.injEq,Prod.mk.injEq,Value.tuple.injEq,Array.mk.injEq,List.cons.injEq]at h2;obtain⟨⟨he,rfl⟩,hst⟩:=h2;obtain rfl:=Bl he;obtain⟨β1,fr1,w1,a1,a2,a3,a4,a5,a6,a7,a8,a9⟩:=(gU hN hct m K).code fid B _ _ _ _ _ h1 (hocc.sub (.block (.loop (.refl _)))) β w fr cs k ht hfid hf hr;obtain⟨β2,b1,b2,b3⟩:=hc2 K β1 w1 _ _ a3 a5.slots;obtain⟨m1,m2,m3⟩:=ig hm;have hmid:=iZ (N:=0) (src:=X++L) b2 (fun i hi=>(hid i hi).elim) (Nat.zero_le _) m1 m2;have hren:=m_ (X++L) β2;have hms:(af ms).next=bs1.length:=by rw[hst]; rfl
   have hmsl:ms.length=bs1.length:=hms;refine⟨⟨gu 0 (X++L) β2,fr1,w1,a1,(a2.trans b1 |>.leN _).trans (qB hup),?_,a4,⟨sD a5.slots.1 ?_,by have:=a5.defers; unfold l9 at this; rw[this]; rfl,by have:=a5.round; exact this,a5.mode⟩,a6,a7,a8,a9⟩,?_⟩
   ·rw[<-hst,m3]; exact hmid
   ·exact b3.mapr fun v _ x hx=>fO hren v x hx
   ·rw[<-hmsl,m3,List.length_map,List.length_append];show D.N<=_;omega
  ·cases hc1
 ·cases h2
theorem LRX.again{E:Eng}(hE:EngOk P ct E)(hN:noNum P=true)(hct:CtOk P ct){n fid id:Nat}{B:Code}{D:HeadX}(hocc:Occ P fid (.block id (.loop B))){vs vs1 vs':List Value}{bs bs1 bs':List Blk}{e:Ex}
  (h:bV P E ct n fid B D vs bs=some (.tuple ⟨exV .normal::vs1⟩,af bs1)) (hl:LRX P fid id B D.head vs1 bs1 e vs' bs'):LRX P fid id B D.head vs bs e vs' bs':=by
 intro K β w fr cs k hid ht hfid hf hr;obtain⟨⟨β1,fr1,w1,a1,a2,a3,a4,a5,a6,a7,a8,a9⟩,_⟩:=zM hE hN hct hocc h K β w fr cs _ hid ht hfid hf hr;have a9:fr1.todo = .inLoop B:: .inBlock id::k:=a9;have hs:=uX (P:=P) (cs:=cs) (w:=w1) a5.mode a9;obtain⟨⟨β2,fr2,w2,b1,b2,b3,b4,b5,b6,b7,b8,b9⟩,hb⟩:=hl K β1 w1 { fr1 with todo:= .code B:: .inLoop B:: .inBlock id::k } cs k hid rfl (a7.trans hfid) ⟨a5.slots,a5.defers,a5.round,a5.mode⟩ a3;exact⟨⟨β2,fr2,w2,a1.trans (.head hs b1),a2.trans b2,b3,a4.trans b4,b5,b6.trans a6,b7.trans a7,b8.trans a8,b9⟩,hb⟩
theorem LRX.stop{E:Eng}(hE:EngOk P ct E)(hN:noNum P=true)(hct:CtOk P ct){n fid id:Nat}{B:Code}{D:HeadX}(hocc:Occ P fid (.block id (.loop B))){vs vs1:List Value}{bs bs1:List Blk}{e:Ex}
  (h:bV P E ct n fid B D vs bs=some (.tuple ⟨exV e::vs1⟩,af bs1)) (he:e≠ .normal):LRX P fid id B D.head vs bs (jM id e) vs1 bs1:=by
 intro K β w fr cs k hid ht hfid hf hr;obtain⟨⟨β1,fr1,w1,a1,a2,a3,a4,a5,a6,a7,a8,a9⟩,hb⟩:=zM hE hN hct hocc h K β w fr cs _ hid ht hfid hf hr;refine⟨?_,hb⟩;have a9:=a9.under he (fun i e=>by cases e);cases e with
 |normal=>exact absurd rfl he
 |ret=>exact⟨β1,fr1,w1,a1,a2,a3,a4,a5,a6,a7,a8,a9⟩
 |exit i=>
  obtain⟨k2,h1,h2⟩:=a9;cases hb:Nat.beq i id with
  |true=>
   have hx2:jM id (.exit i) = .normal:=by simp only[jM,hb]
   rw[hx2];have:=Nat.eq_of_beq_eq_true hb;subst this;have hx:exitTo i k2=some k:=by rw[h2]; simp[exitTo]
   exact⟨β1,{ fr1 with todo:=k },w1,a1.trans (.one (s_exit a5.mode h1 hx)),a2,a3,a4,a5.todo k,a6,a7,a8,rfl⟩
  |false=>
   have hx2:jM id (.exit i) = .exit i:=by simp only[jM,hb]
   rw[hx2];have:=Nat.ne_of_beq_eq_false hb;refine⟨β1,fr1,w1,a1,a2,a3,a4,a5,a6,a7,a8,k2,h1,?_⟩;rw[h2];have:(id == i)=false:=by simp; exact fun ee=>this ee.symm
   simp[exitTo,this]
theorem LRX.iter{E:Eng}(hE:EngOk P ct E)(hN:noNum P=true)(hct:CtOk P ct){n fid id:Nat}{B:Code}{D:HeadX}(hocc:Occ P fid (.block id (.loop B))){vs:Nat->List Value}{bs:Nat->List Blk}{e:Ex}{vs':List Value}{bs':List Blk}(m:Nat)
  (h:∀ i,i<m->bV P E ct n fid B D (vs i) (bs i)=some (.tuple ⟨exV .normal::vs (i+1)⟩,af (bs (i+1)))) (hl:LRX P fid id B D.head (vs m) (bs m) e vs' bs'):LRX P fid id B D.head (vs 0) (bs 0) e vs' bs':=by
 induction m generalizing vs bs with
 |zero=>exact hl
 |succ m ih=>exact LRX.again hE hN hct hocc (h 0 (by omega)) (ih (vs:=fun i=>vs (i+1)) (bs:=fun i=>bs (i+1)) (fun i hi=>h (i+1) (by omega)) hl)
structure LoopOkX(P:Program)(fid id:Nat)(B:Code)(H:Head)(R:jO):Prop where
 occ:∀ c,Occ P fid (.block id c)->c = .loop B
 run:∀ vs bs t,R vs bs=some t->∀ e vs' bs',t.eval=some (e,vs',bs')->LRX P fid id B H vs bs e vs' bs'
def Oa(P:Program)(D:HeadX)(R:jO)(f:Fr)(st:St):Option (DT (Ex×Trie Value×St)):=
 match f.defers,f.roundOf,Nat.beq f.ntmps D.nt with
 |[],none,true=>some (xF P D f.slots st fun X L st2 vs ms=>match R vs ms with
  |some t=>t.map fun x=>(x.1,mkS D.nt D.L (x.2.1.map (eP true (bH X st2.next))),oV X L st2 x.2.2)
  |none=> .fail)
 |_,_,_=>none
def eY(P:Program)(fid id:Nat)(D:HeadX)(R:jO)(ct:Ct):Ct where
 call:=ct.call
 loop:=fun fid' id' f st=>match and (Nat.beq fid' fid) (Nat.beq id' id)with
  |true=>Oa P D R f st
  |false=>ct.loop fid' id' f st
 op:=ct.op
theorem dV{fid id:Nat}{B:Code}{D:HeadX}{R:jO}(hct:CtOk P ct)(h:LoopOkX P fid id B D.head R):CtOk P (eY P fid id D R ct) where
 opc:=hct.opc
 op:=hct.op
 call:=hct.call
 loop:=by
  intro K fid' id' c f st e s' st' hl hocc β w fr cs k ht hfid hf hr;simp only[eY]at hl;split at hl
  ·rename_i hb;simp only[Bool.and_eq_true]at hb;obtain rfl:=Nat.eq_of_beq_eq_true hb.1;obtain rfl:=Nat.eq_of_beq_eq_true hb.2;obtain rfl:=h.occ c hocc;unfold Oa at hl;split at hl
   ·rename_i hd hro hnt;have hnt:=Nat.eq_of_beq_eq_true hnt;simp only[Option.bind_some]at hl;obtain⟨X,L,st2,vs1,ms,hk,hXN,hm,hrel⟩:=yM hl;split at hk
    ·rename_i t hR;obtain⟨⟨e1,vs2,bs2⟩,hev,heq⟩:=DT.map_eval hk;simp only[Prod.mk.injEq]at heq;obtain⟨rfl,rfl,rfl⟩:=heq;obtain⟨β0,b1,b2,b3⟩:=hrel K β w _ _ hr hf.slots;obtain⟨m1,m2,m3⟩:=ig hm;obtain⟨K',k1,k2,k3,k4⟩:=sW b2 m1 m2;have hslots:h_ (gu 0 (X++L) β0) (mkS D.nt D.L (vs1.map (eP true (bY 0 (X++L))))) D.nt fr.tmps:=
      sD (by rw[hf.slots.1]; exact hnt) (b3.mapr fun v _ x hx=>fO (m_ (X++L) β0) v x hx)
     have s1:=wQ (P:=P) (cs:=cs) (w:=w) hf.mode ht;have s2:=zA (P:=P) (fr:={ fr with todo:= .code (.loop B):: .inBlock id'::k }) (cs:=cs) (w:=w) hf.mode rfl;have hdf:fr.defers=[]:=by have:=hf.defers; rw[hd]at this; exact this
     have hrf:fr.roundOf=none:=by have:=hf.round; rw[hro]at this; exact this
     obtain⟨⟨β1,fr1,w1,a1,a2,a3,a4,a5,a6,a7,a8,a9⟩,a10⟩:=h.run _ _ t hR _ _ _ hev K' (gu 0 (X++L) β0) w { fr with todo:= .code B:: .inLoop B:: .inBlock id'::k } cs k k2 rfl hfid ⟨hslots,hdf,hrf,hf.mode⟩ (by rw[m3]; exact k3);have a2:leN X.length (gu 0 (X++L) β0) β1:=by rw[hXN]; exact a2
     have a10:X.length<=bs2.length:=by rw[hXN]; exact a10
     obtain⟨c1,c2,c3⟩:=k4 β1 bs2 w1 a2 a10 a3 a4;refine⟨_,fr1,w1, .head s1 (.head s2 a1),b1.trans c1,c2,a4.mono k1,⟨⟨by rw[a5.slots.1]; exact hnt.symm,fun i=>?_⟩,?_,?_,a5.mode⟩,a6,a7,a8,a9⟩
     ·show VR _ (((mkS D.nt D.L (vs2.map (eP true (bH X st2.next)))).get i).getD undef) _;rw[BO rfl sS];exact fO c3 _ _ (a5.slots.2 i)
     ·show l9 _ f.defers _;rw[hd]; exact a5.defers
     ·show nG _ f.roundOf _;rw[hro]; exact a5.round
    ·cases hk
   ·cases hl
  ·exact hct.loop K fid' id' c f st e s' st' hl hocc β w fr cs k ht hfid hf hr
def QD(N:Nat)(P:Program)(K:Prot)(β:Env)(g:FuncId)(args':Array Value)(kind:CallKind)(cs:List Frame)(w:World)(v:Value)(st':St):Prop:=
 ∃ β' fr w' v',Steps P (lone (Frame.enter P g args' kind) cs w) (lone fr cs w')/\leN N β β'/\Rel P K β' st' w'/\Bel K w w'/\VR β' v v'/\Left P fr g kind v' w'
def CRX(P:Program)(N:Nat)(g:FuncId)(args:List Value)(bs:List Blk)(v:Value)(bs':List Blk):Prop:=
 ∀ (K:Prot) (β:Env) (w:World) (args':Array Value) (cs:List Frame),(∀ i,¬K.id i)->VRL β args args'.toList->Rel P K β (af bs) w->QD N P K β g args' .normal cs w v (af bs')/\N<=bs'.length
structure CallOkX(P:Program)(N:Nat)(g:FuncId)(R:iW):Prop where
 run:∀ args bs t,R args bs=some t->∀ v bs',t.eval=some (v,bs')->CRX P N g args bs v bs'
def O3(P:Program)(pol:Pol)(N:Nat)(g:FuncId)(R:iW)(args:List Value)(st:St):DT (Value×St):=
 qf P pol 200 (xJ args) [] st fun st1=>rE P 100 (QR P g) args st1 fun args1 st2=>
  lK (jB st2) 1000 args1 [] [] fun X L=>match Nat.beq X.length N,iI 0 (X.append L) (fun i=>dZ (path i) st2.heap) (X.append L)with
  |true,some ms=>match R (args1.map (eP true (bY 0 (X.append L)))) ms with
   |some t=>t.map fun x=>(eP true (bH X st2.next) x.1,oV X L st2 x.2)
   |none=> .fail
  |_,_=> .fail
def aT(P:Program)(pol:Pol)(N:Nat)(g:FuncId)(R:iW)(ct:Ct):Ct where
 call:=fun g' args st=>match Nat.beq g' g with
  |true=>some (O3 P pol N g R args st)
  |false=>ct.call g' args st
 loop:=ct.loop
 op:=ct.op
theorem aj{pol:Pol}{N:Nat}{g:FuncId}{R:iW}(hct:CtOk P ct)(h:CallOkX P N g R):CtOk P (aT P pol N g R ct) where
 opc:=hct.opc
 op:=hct.op
 loop:=hct.loop
 call:=by
  intro K g' args st v st' hl β w args' cs ha hr;simp only[aT]at hl;split at hl
  ·rename_i hb;obtain rfl:=Nat.eq_of_beq_eq_true hb;simp only[O3,Option.bind_some]at hl;obtain⟨st1,h1,h2⟩:=jq _ _ _ _ _ hl;obtain⟨args1,st2,k1,k2,k3,k4⟩:=kT _ _ _ _ _ h1;obtain⟨X,L,hX⟩:=jE (jB st2) 1000 args1 [] [] fun X L=>match Nat.beq X.length N,iI 0 (X.append L) (fun i=>dZ (path i) st2.heap) (X.append L)with
    |true,some ms=>match R (args1.map (eP true (bY 0 (X.append L)))) ms with
     |some t=>t.map fun(x:Value×List Blk)=>(eP true (bH X st2.next) x.1,oV X L st2 x.2)
     |none=> .fail
    |_,_=> .fail
   rw[hX]at k1;split at k1
   ·rename_i ms hn hm;have hm:iI 0 (X++L) (fun i=>dZ (path i) st2.heap) (X++L)=some ms:=hm;have hXN:=Nat.eq_of_beq_eq_true hn;split at k1
    ·rename_i t hR;obtain⟨⟨v1,bs1⟩,hev,heq⟩:=DT.map_eval k1;simp only[Prod.mk.injEq]at heq;obtain⟨rfl,rfl⟩:=heq;obtain⟨β1,a1,a2⟩:=h2 K β w hr;obtain⟨β2,b1,b2,b3⟩:=k4 K β1 w args'.toList a2 (ha.mono a1);obtain⟨m1,m2,m3⟩:=ig hm;simp only[dQ]at m2 m3;obtain⟨K',q1,q2,q3,q4⟩:=sW b2 m1 m2;have ha':VRL (gu 0 (X++L) β2) (args1.map (eP true (bY 0 (X++L)))) args'.toList:=b3.mapr fun v _ x hx=>fO (m_ _ _) v x hx;obtain⟨⟨β3,fr,w1,v',d1,d2,d3,d4,d5,d6⟩,d7⟩:=h.run _ _ t hR v1 bs1 hev K' _ w args' cs q2 ha' (by rw[m3]; exact q3);obtain⟨c1,c2,c3⟩:=q4 β3 bs1 w1 (by rw[hXN]; exact d2) (by rw[hXN]; exact d7) d3 d4;exact⟨_,fr,w1,v',d1,(a1.trans b1).trans c1,c2,d4.mono q1,fO c3 _ _ d5,d6⟩
    ·cases k1
   ·cases k1
  ·exact hct.call K g' args st v st' hl β w args' cs ha hr
def mX(v:Value):List Value:=match v with
 | .tuple ⟨a⟩=>a
 |v=>[v]
def rQ(v:Value)(l:List Value):Value:=match v with
 | .tuple _=> .tuple ⟨l⟩
 |_=>match l with
  |[x]=>x
  |l=> .tuple ⟨l⟩
def dD(P:Program)(E:Eng)(ct:Ct)(n:Nat)(pol:Pol)(fl:List Fl)(ts:List TypeId)(N:Nat)(g:FuncId)(args:List Value)(bs:List Blk):Res:=
 (o9 P E ct n n).call g args (af bs) fun v st=>DT.run (kX P 60 fl ts (mX v) st fun vs1 ps st1=>qf P pol 200 (List.append (xJ args) ps) [] st1 fun st2=>
  lK (jB st2) 1000 (List.append args vs1) [] [] fun X L=>match upTo N X 0,Nat.beq vs1.length (mX v).length,iI 0 (X.append L) (fun i=>dZ (path i) st2.heap) (X.append L)with
  |true,true,some ms=> .leaf (rQ v (vs1.map (eP true (bY 0 (X.append L)))),ms)
  |_,_,_=> .fail) fun r=>some (r.1,af r.2)
theorem uI{β:Env}{v v':Value}(h:VR β v v'):∃ xs,VRL β (mX v) xs/\∀ (β':Env) (vs:List Value),vs.length=(mX v).length->VRL β' vs xs->VR β' (rQ v vs) v':=by
 by_cases hn:∃ a,v = .tuple a
 ·obtain⟨⟨a⟩,rfl⟩:=hn;simp only[VR]at h;obtain⟨a',rfl,ha⟩:=h;refine⟨a'.toList,?_,fun β' vs _ hv=>?_⟩
  ·simp only[VRA]at ha;exact ha
  ·simp only[rQ,VR];exact⟨a',rfl,by simp only[VRA]; exact hv⟩
 ·have h1:mX v=[v]:=by cases v<;>first | rfl | exact absurd ⟨_,rfl⟩ hn
  have h2:∀ x,rQ v [x]=x:=by intro x; cases v<;>first | rfl | exact absurd ⟨_,rfl⟩ hn
  rw[h1];refine⟨[v'],VRL.cons h VRL.nil,fun β' vs hl hv=>?_⟩
  match vs,hl with
  |[x],_=>
   rw[h2];simp only[VRL]at hv;obtain⟨y,ys,e,hy,_⟩:=hv;cases e;exact hy
theorem CRX.of{E:Eng}(hE:EngOk P ct E)(hN:noNum P=true)(hct:CtOk P ct){n:Nat}{pol:Pol}{fl:List Fl}{ts:List TypeId}{N:Nat}{g:FuncId}{args:List Value}{bs:List Blk}{v:Value}{bs':List Blk}(h:dD P E ct n pol fl ts N g args bs=some (v,af bs')):CRX P N g args bs v bs':=by
 intro K β w args' cs hid ha hr;unfold dD at h;obtain⟨m,v1,st1,h1,h2⟩:=(jP hE n n).call _ _ _ _ _ h;obtain⟨β1,fr,w1,v',a1,a2,a3,a4,a5,a6⟩:=(gU hN hct m K).call g args (af bs) v1 st1 h1 β w args' .normal cs (Or.inl rfl) ha hr;obtain⟨r,hc,h2⟩:=DT.run_spec h2;obtain⟨vs1,ps,st2,f1,f2,f3⟩:=iQ _ _ _ _ _ _ hc;obtain⟨st3,g1,g2⟩:=jq _ _ _ _ _ f1;obtain⟨X,L,hX⟩:=jE (jB st3) 1000 (List.append args vs1) [] [] fun X L=>match upTo N X 0,Nat.beq vs1.length (mX v1).length,iI 0 (X.append L) (fun i=>dZ (path i) st3.heap) (X.append L)with
  |true,true,some ms=>DT.leaf (rQ v1 (vs1.map (eP true (bY 0 (X.append L)))),ms)
  |_,_,_=> .fail
 rw[hX]at g1;split at g1
 ·rename_i ms hup hvl hm;have hm:iI 0 (X++L) (fun i=>dZ (path i) st3.heap) (X++L)=some ms:=hm;simp only[DT.eval,Option.some.injEq]at g1;subst g1;simp only[Option.some.injEq,Prod.mk.injEq]at h2;obtain⟨rfl,hst⟩:=h2;obtain⟨m1,m2,m3⟩:=ig hm;simp only[dQ]at m2 m3;have hvl:=Nat.eq_of_beq_eq_true hvl;obtain⟨xs,x1,x2⟩:=uI a5;obtain⟨β2,c1,c2,c3⟩:=f3 K β1 w1 xs a3 x1;obtain⟨β3,d1,d2⟩:=g2 K β2 w1 c2;have hmid:=iZ (N:=0) (src:=X++L) d2 (fun i hi=>(hid i hi).elim) (Nat.zero_le _) m1 m2;have hren:=m_ (X++L) β3;have hmsl:ms.length=bs'.length:=by have:=congrArg St.next hst; exact this
  refine⟨⟨gu 0 (X++L) β3,fr,w1,v',a1,(((a2.trans c1).trans d1).leN _).trans (qB hup),?_,a4,?_,a6⟩,?_⟩
  ·rw[<-hst,m3]; exact hmid
  ·refine x2 _ _ (by rw[List.length_map]; exact hvl) ((c3.mono d1).mapr fun v _ x hx=>fO hren v x hx)
  ·rw[<-hmsl,m3,List.length_map,List.length_append];have:=(o6 _ _ _ hup).1;omega
 ·cases g1
theorem wV{σ:Type}(k:Con σ){N:Nat}{g:FuncId}{res:σ->DT (Value×List Blk)}(h:∀ s,k.ok s->∀ v bs',(res s).eval=some (v,bs')->CRX P N g (k.enc s).1 (k.enc s).2 v bs'):CallOkX P N g (yc k.C k.D res):=by
 refine⟨fun args bs t hR v bs' hev=>?_⟩;unfold yc at hR;obtain rfl:=Option.some.inj hR;cases hc:k.C args bs with
 |false=>rw[hc]at hev; cases hev
 |true=>
  rw[hc]at hev;obtain⟨s,h1,h2,h3⟩:=k.of hc;have hev:(res (k.D args bs)).eval=some (v,bs'):=hev;rw[h3]at hev;have:=h s h2 v bs' hev;rwa [h1]at this
theorem yE{σ:Type}(k:Con σ){fid id:Nat}{B:Code}{H:Head}{res:σ->DT (Ex×List Value×List Blk)}(hocc:∀ c,Occ P fid (.block id c)->c = .loop B)
  (h:∀ s,k.ok s->∀ e vs' bs',(res s).eval=some (e,vs',bs')->LRX P fid id B H (k.enc s).1 (k.enc s).2 e vs' bs'):LoopOkX P fid id B H (Dn k.C k.D res) where
 occ:=hocc
 run:=by
  intro vs bs t hR e vs' bs' hev;unfold Dn at hR;obtain rfl:=Option.some.inj hR;cases hc:k.C vs bs with
  |false=>rw[hc]at hev; cases hev
  |true=>
   rw[hc]at hev;obtain⟨s,h1,h2,h3⟩:=k.of hc;have hev:(res (k.D vs bs)).eval=some (e,vs',bs'):=hev;rw[h3]at hev;have:=h s h2 e vs' bs' hev;rwa [h1]at this
open Classical in
def Con.at{σ:Type}(k:Con σ)(s:σ):List Value->List Blk->Bool:=fun vs bs=>decide (k.enc s=(vs,bs))
open Classical in
theorem Con.at_true{σ:Type}(k:Con σ){s:σ}{vs:List Value}{bs:List Blk}(h1:(k.enc s).1=vs)(h2:(k.enc s).2=bs):k.at s vs bs=true:=by
 unfold Con.at; exact decide_eq_true (by rw[<-h1,<-h2])
open Classical in
theorem Con.at_of{σ:Type}(k:Con σ){s:σ}{vs:List Value}{bs:List Blk}(h:k.at s vs bs=true):k.enc s=(vs,bs):=by
 unfold Con.at at h; exact of_decide_eq_true h
def cu(C:List Value->List Blk->Bool)(t:DT (Value×List Blk)):iW:=fun args bs=>some (.ite (C args bs) t .fail)
def gX(C:List Value->List Blk->Bool)(t:DT (Ex×List Value×List Blk)):jO:=fun vs bs=>some (.ite (C vs bs) t .fail)
theorem ZI{σ:Type}(k:Con σ){N:Nat}{g:FuncId}{res:σ->DT (Value×List Blk)}(h:CallOkX P N g (yc k.C k.D res)){s:σ}(ho:k.ok s):CallOkX P N g (cu (k.at s) (res s)):=by
 refine⟨fun args bs t hR v bs' hev=>?_⟩;unfold cu at hR;obtain rfl:=Option.some.inj hR;cases hc:k.at s args bs with
 |false=>rw[hc]at hev; cases hev
 |true=>
  rw[hc]at hev;have he:=k.at_of hc;refine h.run args bs _ rfl v bs' ?_;rw[k.C_enc he ho,k.D_enc he];exact hev
theorem BA{σ:Type}(k:Con σ){fid id:Nat}{B:Code}{H:Head}{res:σ->DT (Ex×List Value×List Blk)}(h:LoopOkX P fid id B H (Dn k.C k.D res)){s:σ}(ho:k.ok s):LoopOkX P fid id B H (gX (k.at s) (res s)) where
 occ:=h.occ
 run:=by
  intro vs bs t hR e vs' bs' hev;unfold gX at hR;obtain rfl:=Option.some.inj hR;cases hc:k.at s vs bs with
  |false=>rw[hc]at hev; cases hev
  |true=>
   rw[hc]at hev;have he:=k.at_of hc;refine h.run vs bs _ rfl e vs' bs' ?_;rw[k.C_enc he ho,k.D_enc he];exact hev
end
end Go.VS
end
