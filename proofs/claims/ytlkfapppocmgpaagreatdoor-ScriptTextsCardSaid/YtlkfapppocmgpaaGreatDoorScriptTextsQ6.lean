/- The law 'ScriptTexts': texts are read and acts printed as the answer says: the call returns true; the row and its tied card. Conditions: none. -/
import Derived.Test.YtlkfapppocmgpaaGreatDoorScriptTextsQ2
import Derived.Test.YtlkfapppocmgpaaGreatDoorScriptTextsQ3
import Derived.Test.YtlkfapppocmgpaaGreatDoorScriptTextsQ4
import Derived.Test.YtlkfapppocmgpaaGreatDoorScriptTextsQ5
import Derived.ChangeSlices
import Derived.Deep.Slices
import Derived.ChangeArms
import Derived.Test.YtlkfapppocmgpaaGreatDoorRows
import Derived.Test.YtlkfapppocmgpaaGreatDoorCards
import Derived.Test.YtlkfapppocmgpaaGreatDoorTie
import Derived.WalkKit
import Derived.ProofKit
import Derived.OpenShut
import Derived.LaidMore
import Derived.LaidSub
import Derived.LaidHandle
import Derived.Lay
import Derived.SevenTiedAt
import Derived.Stop.Joined
import Derived.Stop.LaidErr
import Derived.Lib.LaidU8
import Derived.Lib.LaidTab
import Derived.Carry
set_option linter.unusedSimpArgs false
set_option linter.unusedVariables false
noncomputable section
namespace Go.VS.Tryz
open Go.VS
set_option maxRecDepth 1000000
theorem XQ(s:ByteArray):CRX P 0 9 [.string s] [] (.tuple ⟨[fzActs (dK s).2,paE (dK s).1]⟩) []:=by
 by_cases hs:s.size<=4194302
 ·exact CRX.of (aF (aag s)) au (aO (bf aW (gU A_ KI (s:=s) hs)) uj) (J6 s)
 ·have q:=Kw (fun _ _=>false) (kY s).1.isNone (kY s).2.1 (kY s).2.2.1.length (aH.all (kY s).2.2.1) (kY s).2.2.2 ((kY s).1.getD (0,0)).1 ((kY s).1.getD (0,0)).2 s;refine CRX.of (aF _) au (aO (bf aW (lD (bz NL))) uj) (q.trans ?_);have hfz0:∀ l:List ActM,fzActs l = .iface 18446744073709551622 (.agg ⟨.slice none l.length 0::aH.all l⟩):=fun l=>by unfold fzActs ai FZ; rfl
  have hfp:∀ i e:Int,gX i e = .iface 75 (.iface 18446744073709551616 (.agg ⟨[.slice none 0 0, .int .i64 i, .int .i64 e]⟩)):=fun i e=>by unfold gX jl FZ; rfl
  have g:gtI (af s.size) 65536=true:=by unfold gtI af; exact decide_eq_true (by omega)
  unfold dK;rw[g];simp only[az];unfold paE;simp only[hfz0,hfp]
  rfl
theorem acp:CallOkX P 0 9 (Dk (fun _=>true) um ut pW sG sQ):=⟨fun args bs t hR v bs' hev=>by
 unfold Dk at hR;split at hR
 ·rename_i s;obtain rfl:=Option.some.inj hR;have q:=XQ s;simp only[DT.eval]at hev;unfold um ut pW sG sQ at hev;cases hp:(dK s).1 with
  |none=>
   rw[hp]at hev q;simp only[Option.isNone_none,DT.eval,Option.some.injEq,Prod.mk.injEq]at hev;obtain⟨rfl,rfl⟩:=hev;exact q
  |some p=>
   rw[hp]at hev q;simp only[Option.isNone_some,Option.getD_some,DT.eval,Option.some.injEq,Prod.mk.injEq]at hev;obtain⟨rfl,rfl⟩:=hev;exact q
 ·cases hR⟩
def rpN(s:ByteArray):Nat:=(nZ s).1.length
def rpL(s:ByteArray):List Value:=aH.all (nZ s).1
def rpI(s:ByteArray):Int:=(nZ s).2.1
def rpE(s:ByteArray):Int:=(nZ s).2.2
theorem acj:CallOkX P 0 13 (Z7 rpN rpL rpI rpE):=⟨fun args bs t hR v bs' hev=>by
 unfold Z7 at hR;split at hR
 ·rename_i s;obtain rfl:=Option.some.inj hR;simp only[DT.eval,Option.some.injEq,Prod.mk.injEq]at hev;obtain⟨rfl,rfl⟩:=hev;exact UR s
 ·cases hR⟩
def aOk(l:List ActM):Prop:=200<l.length\/l.length<4194304/\∀ a∈l,kCk.ok a
open Classical in
def ou(n:Nat)(c:List Value):Bool:=decide (∃ l,aH.all l=c/\n=l.length/\aOk l)
theorem Su{l:List ActM}(h:200<l.length):CRX P 0 8 [fzActs l] [] (.tuple ⟨[.string (dL l).1,paE (dL l).2]⟩) []:=by
 have hfp:∀ i e:Int,(Value.iface 75 (.iface 18446744073709551616 (.agg ⟨[.slice none 0 0, .int .i64 i, .int .i64 e]⟩)))=gX i e:=fun i e=>by unfold gX jl FZ; rfl
 have q:=Cm (fun _ _=>false) (fun _ _=>false) (fun _ _=>false) true 0 0 0 0 [] ⟨#[]⟩ l.length 0 (aH.all l);refine CRX.of (aF _) au (bf (bf (aO (aO aW uj) LW) (lD (bz Gs))) (lD (bz NE))) (n:=50) (pol:=aJ) (fl:=[]) (ts:=[]) (q.trans ?_);have g1:gtI (af l.length) 200=true:=by unfold gtI af; exact decide_eq_true (by omega)
 unfold dL;rw[g1];refine Eq.trans az ?_;rw[hfp]; rfl
theorem print_any{l:List ActM}(h:aOk l):CRX P 0 8 [fzActs l] [] (.tuple ⟨[.string (dL l).1,paE (dL l).2]⟩) []:=by
 rcases h with h | ⟨h1,h2⟩
 ·exact Su h
 ·exact JC h1 h2
open Classical in
theorem aeX:CallOkX P 0 8 (Oo ou prO prS prI prE):=⟨fun args bs t hR v bs' hev=>by
 unfold Oo at hR;split at hR
 ·rename_i t0 n c;split at hR
  ·rename_i ht;obtain rfl:=Option.some.inj hR;cases hc:ou n c with
   |false=>rw[hc]at hev; cases hev
   |true=>
    rw[hc]at hev;unfold ou at hc;obtain⟨l,rfl,rfl,h1⟩:=of_decide_eq_true hc;rw[yu _ _ ht];have q:=print_any h1;unfold prO prS prI prE at hev;rw[k_]at hev;cases hp:(dL l).2 with
    |none=>
     rw[hp]at hev q;simp only[Option.isNone_none,DT.eval,Option.some.injEq,Prod.mk.injEq]at hev;obtain⟨rfl,rfl⟩:=hev;exact q
    |some x=>
     rw[hp]at hev q;rw[uA hp]at q;simp only[Option.isNone_some,Option.getD_some,DT.eval,Option.some.injEq,Prod.mk.injEq]at hev;obtain⟨rfl,rfl⟩:=hev;exact q
  ·cases hR
 ·cases hR⟩
def rqS(c:List Value):ByteArray:=(xx (unA c)).1
def rqI(c:List Value):Int:=(xx (unA c)).2.1
def rqE(c:List Value):Int:=(xx (unA c)).2.2
open Classical in
theorem ae8:CallOkX P 0 14 (ZL ou rqS rqI rqE):=⟨fun args bs t hR v bs' hev=>by
 unfold ZL at hR;split at hR
 ·rename_i t0 n c;split at hR
  ·rename_i ht;obtain rfl:=Option.some.inj hR;cases hc:ou n c with
   |false=>rw[hc]at hev; cases hev
   |true=>
    rw[hc]at hev;unfold ou at hc;obtain⟨l,rfl,rfl,h1⟩:=of_decide_eq_true hc;rw[yu _ _ ht];have q:=UD (l:=l) (h1.imp id fun h a ha=>(h.2 a ha).2.2.2);unfold rqS rqI rqE at hev;rw[k_]at hev;simp only[DT.eval,Option.some.injEq,Prod.mk.injEq]at hev;obtain⟨rfl,rfl⟩:=hev;exact q
  ·cases hR
 ·cases hR⟩
def adI(l:List ActM)(s:ByteArray)(LC:List Value->List Blk->Bool):Ct:=aby um ut pW sG sQ rpN rpL rpI rpE ou prO prS prI prE ou rqS rqI rqE ssC ssS yZ wrV LC (lF 0 l).isNone l.length (aH.all l) s ((lF 0 l).getD 0:Nat)
theorem adt{l:List ActM}{s:ByteArray}(hl:l.length<=9223372036854775807):CtOk P (adI l s (yS.at (l,s))):=by
 have q:=gU yS Yq (s:=(l,s)) hl;exact aO (aO (aO (aO (aO (aO (aO (bf aW q) abw) afN) ae8) aeX) acj) acp) aaj
theorem Gm{l:List ActM}{x:Int×Int}(h:(dL l).2=some x):eqI x.2 0=false:=by
 unfold dL at h;split at h
 ·cases h; rfl
 ·rename_i y _ hf;cases h;have:=uX l 0 y (by assumption);show eqI y.2 0=false;rw[this]; rfl
 ·cases h; rfl
 ·cases h
theorem D_{x:Int×Int}(h:eqI x.2 0=false):ql (some x) x.1 x.2=true:=by
 unfold ql;simp only[h,Bool.false_eq_true,if_false,ig.2 rfl,Bool.and_self]
theorem VK{s:ByteArray}(hs:s.size<=8000\/65536<s.size):qh (dK s).2:=by
 rcases hs with hs | hs
 ·obtain⟨w1,w2,_⟩:=aaW hs;exact(aeu w1 w2).few
 ·have g:gtI (af s.size) 65536=true:=by unfold gtI af; exact decide_eq_true (by omega)
  unfold dK;rw[g];exact⟨show(0:Nat)<_ by decide,fun a ha=>by cases ha⟩
open Classical in
theorem YX{l:List ActM}{s:ByteArray}(hs:s.size<=8000\/65536<s.size)(hl:aOk l) :
  (ag (um s)
   (ae (ou l.length (aH.all l)) (ag (prO l.length (aH.all l))
    (ae (ou l.length (aH.all l)) (ae (ssC (ut s) (pW s) (rpN s) (rpL s)) (ag (ssS (pW s) (rpL s)) (ag (yZ (rpI s) (rpE s)) (ag (eqS (prS (aH.all l)) (rqS (aH.all l))) (some (.bool (yZ (rqI (aH.all l)) (rqE (aH.all l))),mkSt [])) (some (.bool false,mkSt []))) (some (.bool false,mkSt []))) (some (.bool false,mkSt [])))))
    (ae (ou l.length (aH.all l)) (ae (ssC (ut s) (pW s) (rpN s) (rpL s)) (ag (ssS (pW s) (rpL s)) (ag (yZ (rpI s) (rpE s)) (ag (eqS ⟨#[]⟩ (rqS (aH.all l))) (some (.bool (wrV (prI (aH.all l)) (prE (aH.all l)) (rqI (aH.all l)) (rqE (aH.all l))),mkSt [])) (some (.bool false,mkSt []))) (some (.bool false,mkSt []))) (some (.bool false,mkSt [])))))))
   (ae (ou l.length (aH.all l)) (ag (prO l.length (aH.all l))
    (ae (ou l.length (aH.all l)) (ae (ssC (ut s) (pW s) (rpN s) (rpL s)) (ag (ssS (pW s) (rpL s)) (ag (wrV (sG s) (sQ s) (rpI s) (rpE s)) (ag (eqS (prS (aH.all l)) (rqS (aH.all l))) (some (.bool (yZ (rqI (aH.all l)) (rqE (aH.all l))),mkSt [])) (some (.bool false,mkSt []))) (some (.bool false,mkSt []))) (some (.bool false,mkSt [])))))
    (ae (ou l.length (aH.all l)) (ae (ssC (ut s) (pW s) (rpN s) (rpL s)) (ag (ssS (pW s) (rpL s)) (ag (wrV (sG s) (sQ s) (rpI s) (rpE s)) (ag (eqS ⟨#[]⟩ (rqS (aH.all l))) (some (.bool (wrV (prI (aH.all l)) (prE (aH.all l)) (rqI (aH.all l)) (rqE (aH.all l))),mkSt [])) (some (.bool false,mkSt []))) (some (.bool false,mkSt []))) (some (.bool false,mkSt [])))))))
   : Res)=some (.bool true,mkSt []):=by
 obtain⟨e1,e2⟩:=Tn s;have n1:rpN s=(dK s).2.length:=by unfold rpN; rw[e1]
 have n2:rpL s=aH.all (dK s).2:=by unfold rpL; rw[e1]
 have n3:ut s=(dK s).2.length:=rfl;have n4:pW s=aH.all (dK s).2:=rfl;have pf:=VK hs;have c1:ssC (dK s).2.length (aH.all (dK s).2) (dK s).2.length (aH.all (dK s).2)=true:=by unfold ssC; exact decide_eq_true ⟨_,_,rfl,rfl,rfl,rfl,pf,pf⟩
 have c2:ou l.length (aH.all l)=true:=by unfold ou; exact decide_eq_true ⟨l,rfl,rfl,hl⟩
 have c3:ssS (aH.all (dK s).2) (aH.all (dK s).2)=true:=afn _;have r1:rqS (aH.all l)=(dL l).1:=by unfold rqS xx; rw[k_]
 have r2:rqI (aH.all l)=((dL l).2.getD (0,0)).1:=by unfold rqI xx; rw[k_]
 have r3:rqE (aH.all l)=((dL l).2.getD (0,0)).2:=by unfold rqE xx; rw[k_]
 have p1:prO l.length (aH.all l)=(dL l).2.isNone:=by unfold prO; rw[k_]
 have p2:prS (aH.all l)=(dL l).1:=by unfold prS; rw[k_]
 have p3:prI (aH.all l)=((dL l).2.getD (0,0)).1:=by unfold prI; rw[k_]
 have p4:prE (aH.all l)=((dL l).2.getD (0,0)).2:=by unfold prE; rw[k_]
 have u1:ql (dK s).1 (rpI s) (rpE s)=true:=e2;rw[n1,n2,n3,n4];simp only[c1,c2,c3,r1,r2,r3,p1,p2,p3,p4,aA,az];have hP:∀ o,(dK s).1=o->um s=o.isNone:=fun o h=>by unfold um; rw[h]
 cases ho:(dK s).1 with
 |none=>
  rw[hP _ ho];rw[ho]at u1;have w0:yZ (rpI s) (rpE s)=true:=u1;simp only[w0,Option.isNone_none,az];cases hp:(dL l).2 with
  |none=>
   simp only[Option.isNone_none,Option.getD_none,az,dG]
   rfl
  |some x=>
   have:=D_ (Gm hp);have w:wrV x.1 x.2 x.1 x.2=true:=this;simp only[Option.isNone_some,Option.getD_some,ax,uA hp,dG,az,w]
 |some y=>
  rw[hP _ ho];rw[ho]at u1;have w0:wrV (sG s) (sQ s) (rpI s) (rpE s)=true:=by
   unfold wrV sG sQ;rw[ho]; exact u1
  simp only[w0,Option.isNone_some,ax,az];cases hp:(dL l).2 with
  |none=>
   simp only[Option.isNone_none,Option.getD_none,az,dG]
   rfl
  |some x=>
   have:=D_ (Gm hp);have w:wrV x.1 x.2 x.1 x.2=true:=this;simp only[Option.isNone_some,Option.getD_some,ax,uA hp,dG,az,w]
theorem texts_run{l:List ActM}{s:ByteArray}(hlen:l.length<=9223372036854775807)(hl:∀ a∈l,inR a.node=true/\inR a.n=true/\inR a.t=true):CRX P 0 4 [.string s,fzActs l] [] (.bool true) []:=by
 have q:=acF um ut pW sG sQ rpN rpL rpI rpE ou prO prS prI prE ou rqS rqI rqE ssC ssS yZ wrV (yS.at (l,s)) (lF 0 l).isNone l.length (aH.all l) s ((lF 0 l).getD 0:Nat);refine CRX.of (aF (adI l s (yS.at (l,s)))) au (adt hlen) (n:=50) (pol:=aJ) (fl:=[]) (ts:=[]) (Eq.trans ?_ (q.trans ?_))
 ·rfl
 clear q;have tail:(s.size<=8000\/65536<s.size)->(l.length<=60\/200<l.length)->lF 0 l=none->_:=fun h1 h2 hm=>YX (l:=l) h1 (by
  rcases h2 with h2 | h2
  ·exact Or.inr ⟨by omega,fun a ha=>by
    obtain⟨r1,r2,r3⟩:=hl a ha;exact⟨r1,r2,r3,by have:=GG l 0 hm a ha; omega⟩⟩
  ·exact Or.inl h2)
 have look:∀ (X:Res),((s.size<=8000\/65536<s.size)->(l.length<=60\/200<l.length)->lF 0 l=none->X=some (.bool true,mkSt []))->(s.size<=8000\/65536<s.size)->(l.length<=60\/200<l.length)->
   ae (yS.at (l,s) [.string s, .iface 18446744073709551622 (.agg ⟨.slice none l.length 0::aH.all l⟩), .bool false, .int .i64 0] []) (ag (lF 0 l).isNone X (some (.bool true,mkSt [])))=some (.bool true,mkSt []):=fun X hX h1 h2=>by
  refine bu (k:=yS) (s:=(l,s)) (by show stV _ _ _ _=_; unfold stV; rw[<-fzA l]; try rfl) rfl ?_;cases hm:lF 0 l with
  |some j=>rfl
  |none=>exact Eq.trans az (hX h1 h2 hm)
 have gt:∀ (n m:Nat),gtI (af n) (m:Int)=decide (m<n):=fun n m=>by unfold gtI af; exact decide_eq_decide.2 (by omega)
 have le:∀ (n m:Nat),leI (af n) (m:Int)=decide (n<=m):=fun n m=>by unfold leI af; exact decide_eq_decide.2 (by omega)
 have g1:=gt s.size 8000;have g2:=le s.size 65536;have g3:=gt l.length 60;have g4:=le l.length 200;simp only[Int.cast_ofNat_Int]at g1 g2 g3 g4;rw[g1,g2,g3,g4];by_cases a1:8000<s.size
 ·rw[decide_eq_true a1];refine Eq.trans az ?_;by_cases a2:s.size<=65536
  ·rw[decide_eq_true a2]; exact az
  ·rw[decide_eq_false a2];refine Eq.trans ax ?_;by_cases a3:60<l.length
   ·rw[decide_eq_true a3];refine Eq.trans az ?_;by_cases a4:l.length<=200
    ·rw[decide_eq_true a4]; exact az
    ·rw[decide_eq_false a4];exact Eq.trans ax (look _ tail (Or.inr (by omega)) (Or.inr (by omega)))
   ·rw[decide_eq_false a3];exact Eq.trans ax (look _ tail (Or.inr (by omega)) (Or.inl (by omega)))
 ·rw[decide_eq_false a1];refine Eq.trans ax ?_;by_cases a3:60<l.length
  ·rw[decide_eq_true a3];refine Eq.trans az ?_;by_cases a4:l.length<=200
   ·rw[decide_eq_true a4]; exact az
   ·rw[decide_eq_false a4];exact Eq.trans ax (look _ tail (Or.inl (by omega)) (Or.inr (by omega)))
  ·rw[decide_eq_false a3];exact Eq.trans ax (look _ tail (Or.inl (by omega)) (Or.inl (by omega)))
end Go.VS.Tryz
end

noncomputable section
namespace Go.VS

section
variable{P:Program}
theorem add_zero(a:Addr):a.add 0=a:=by unfold Addr.add; simp
theorem J3{w:World}{a:Addr}{v:Value}(h:w.cell? (a.add 0)=some v):a.spot=none:=by
 rw[add_zero]at h;unfold World.cell? at h;split at h
 ·cases hs:a.spot with
  |none=>rfl
  |some s=>rw[hs]at h; cases h
 ·cases h
theorem zI{w:World}{a:Addr}{i:Nat}{v:Value}(hs:a.spot=none)(h:w.cell? (a.add i)=some v):∃ c e f,w.heap[a.block]? = some (.cells c e f)/\c[a.off+i]? = some v:=by
 have:a.add i=⟨a.block,a.off+i,none⟩:=by
  obtain⟨b,o,s⟩:=a;cases hs; simp[Addr.add]
 rw[this]at h;unfold World.cell? at h;split at h
 ·rename_i c e f hg;exact⟨c,e,f,hg,by simpa using h⟩
 ·cases h
theorem aep{w:World}{a:Addr}{cs:List Value}{n sz cap:Nat}(hsz:sz≠0)(hcap:n<=cap)(hlen:cs.length=n*sz)(hf:bT cs=true)(hc:∀ i v,cs[i]? = some v->w.cell? (a.add i)=some v)(h1:∀ v∈cs,v.oneCell'=true):VR (envOf w) (ai sz n 0 cs) (.slice (some a) n cap):=by
 refine tN hsz ?_;unfold gW;rw[if_neg hsz];refine⟨hlen,?_⟩;by_cases hn:n=0
 ·exact Or.inr (Or.inl ⟨hn,a,cap,by rw[hn],fun h=>absurd rfl h⟩)
 ·have h0:0<cs.length:=by rw[hlen]; exact Nat.mul_pos (by omega) (by omega)
  obtain⟨v0,hv0⟩:∃ v,cs[0]? = some v:=⟨_,List.getElem?_eq_getElem h0⟩
  have g2:=J3 (hc 0 v0 hv0);obtain⟨c,e,f,g1,g3⟩:=zI g2 (hc 0 v0 hv0);have hget:∀ i v,cs[i]? = some v->c[a.off+i]? = some v:=by
   intro i v hi;obtain⟨c',e',f',k1,k3⟩:=zI g2 (hc i v hi);rw[g1]at k1;simp only[Option.some.injEq,Obj.cells.injEq]at k1;obtain⟨rfl,rfl,rfl⟩:=k1;exact k3
  have hseg:(c.toList.drop a.off).take cs.length=cs:=by
   apply List.ext_getElem?;intro i;rw[List.getElem?_take];split
   ·rename_i hi;rw[List.getElem?_drop,List.getElem?_eq_getElem hi];have:=hget i _ (List.getElem?_eq_getElem hi);rw[Array.getElem?_toList]; exact this
   ·rename_i hi;rw[List.getElem?_eq_none (by omega)]
  have hle:a.off+cs.length<=c.size:=by
   have:=hget (cs.length-1) _ (List.getElem?_eq_getElem (by omega));have:=(Array.getElem?_eq_some_iff.1 this).1;omega
  have haddr:a=⟨a.block,a.off,none⟩:=by
   obtain⟨b,o,s⟩:=a;cases g2; rfl
  have henv:envOf w (Int.negSucc a.block)=some ⟨a.block,0,0,0,some (.cells c e f),false⟩:=by simp[envOf,g1]
  refine Or.inr (Or.inr ⟨by omega,a.block,a.off,cap,c,e,f,_,by rw[<-haddr],fun h=>absurd rfl h,henv,rfl,hle,?_,?_⟩)
  ·rw[uK,hseg];exact VRL.flat_refl _ hf
  ·exact hcap
variable{H:Type}{enc:TypeId×Value->H}
open Go.ChangeShapes in
/-- A list of ints that came in. -/
theorem adM{w:World}{t e:TypeId}{k:IntKind}{v:Value}{d:DataW H}{ps:List MemPlace}{r:Reach}{b0:Nat}(ht:P.underlying t=some (.slice e))(he:P.underlying e=some (.int k))(hc:P.cellsOf e=1)
  (hval:Value.okWide P w r b0 t v) (h:DataW.Trod enc P w 0 (fun _=>true) true t v d ps) :
  ∃ zs rest:List Int,VR (envOf w) (ai 1 zs.length 0 (zs.map (Value.int k))) v/\(d = .nil/\zs=[]\/d = .slice (lits k zs) (lits k rest))/\∀ n∈zs,(Lit.int k n).wf=true:=by
 have hv:v.cells=#[v]:=by
  unfold Value.okWide at hval;rw[ht]at hval;have:=Lu hval;cases v<;>first | rfl | simp[Value.oneCell']at this
 obtain⟨fuel,h⟩:=h;rw[hv]at h;rcases open_ints ht he hc h with⟨h1,h2⟩ | ⟨a,len,cap,zs,h1,h2,h3,h4,h5,h6,h7,h8⟩
 ·simp only[List.cons.injEq,and_true]at h1;subst h1;simp only[Prod.mk.injEq]at h2;refine⟨[],[],?_,Or.inl ⟨h2.1,rfl⟩,by simp⟩;refine tN (by decide) ?_;unfold gW;rw[if_neg (by decide)];exact⟨rfl,Or.inl ⟨rfl,by omega,rfl⟩⟩
 ·simp only[List.cons.injEq,and_true]at h1;subst h1;simp only[if_true]at h5;simp only[Prod.mk.injEq]at h6;refine⟨zs.take len,zs.drop len,?_,Or.inr h6.1,fun n hn=>h8 n (List.mem_of_mem_take hn)⟩;have hl:(zs.take len).length=len:=by rw[List.length_take]; omega
  rw[hl];refine aep (by decide) h3 (by rw[List.length_map,hl,Nat.mul_one]) ?_ ?_ ?_
  ·generalize zs.take len=l
   induction l with
   |nil=>rfl
   |cons x l ih=>simpa [bT,flat]using ih
  ·intro i v hi;rw[List.getElem?_map,Option.map_eq_some_iff]at hi;obtain⟨n,hn,rfl⟩:=hi;have hi:i<len:=by have:=(List.getElem?_eq_some_iff.1 hn).1; omega
   rw[h7 i (by omega)];rw[List.getElem?_take,if_pos hi]at hn;rw[List.getD_eq_getElem?_getD,hn]; rfl
  ·intro v hv;obtain⟨n,_,rfl⟩:=List.mem_map.1 hv
   rfl
end
section
variable{P:Program}
theorem Ri{w:World}{a:Addr}{ms cs:List Value}{n sz cap:Nat}(hsz:sz≠0)(hcap:n<=cap)(hlen:cs.length=n*sz)(hm:VRL (envOf w) ms cs)(hc:∀ i v,cs[i]? = some v->w.cell? (a.add i)=some v):VR (envOf w) (ai sz n 0 ms) (.slice (some a) n cap):=by
 have hml:=hm.length;refine tN hsz ?_;unfold gW;rw[if_neg hsz,hml];refine⟨hlen,?_⟩;by_cases hn:n=0
 ·exact Or.inr (Or.inl ⟨hn,a,cap,by rw[hn],fun h=>absurd rfl h⟩)
 ·have h0:0<cs.length:=by rw[hlen]; exact Nat.mul_pos (by omega) (by omega)
  obtain⟨v0,hv0⟩:∃ v,cs[0]? = some v:=⟨_,List.getElem?_eq_getElem h0⟩
  have g2:=J3 (hc 0 v0 hv0);obtain⟨c,e,f,g1,g3⟩:=zI g2 (hc 0 v0 hv0);have hget:∀ i v,cs[i]? = some v->c[a.off+i]? = some v:=by
   intro i v hi;obtain⟨c',e',f',k1,k3⟩:=zI g2 (hc i v hi);rw[g1]at k1;simp only[Option.some.injEq,Obj.cells.injEq]at k1;obtain⟨rfl,rfl,rfl⟩:=k1;exact k3
  have hseg:(c.toList.drop a.off).take cs.length=cs:=by
   apply List.ext_getElem?;intro i;rw[List.getElem?_take];split
   ·rename_i hi;rw[List.getElem?_drop,List.getElem?_eq_getElem hi];have:=hget i _ (List.getElem?_eq_getElem hi);rw[Array.getElem?_toList]; exact this
   ·rename_i hi;rw[List.getElem?_eq_none (by omega)]
  have hle:a.off+cs.length<=c.size:=by
   have:=hget (cs.length-1) _ (List.getElem?_eq_getElem (by omega));have:=(Array.getElem?_eq_some_iff.1 this).1;omega
  have haddr:a=⟨a.block,a.off,none⟩:=by
   obtain⟨b,o,s⟩:=a;cases g2; rfl
  have henv:envOf w (Int.negSucc a.block)=some ⟨a.block,0,0,0,some (.cells c e f),false⟩:=by simp[envOf,g1]
  refine Or.inr (Or.inr ⟨by omega,a.block,a.off,cap,c,e,f,_,by rw[<-haddr],fun h=>absurd rfl h,henv,rfl,hle,?_,?_⟩)
  ·rw[uK,hseg];exact hm
  ·exact hcap
theorem MS{Y:Env}{J:Type}(f:J->List Value)(cs:Nat->List Value)(A:Nat->J):∀ n,(∀ i,i<n->VRL Y (f (A i)) (cs i))->VRL Y (((List.range n).map A).flatMap f) ((List.range n).flatMap cs)
 |0,_=>VRL.nil
 |n+1,h=>by
  rw[List.range_succ,List.map_append,List.flatMap_append,List.flatMap_append];refine(MS f cs A n fun i hi=>h i (by omega)).append ?_;simpa using h n (by omega)
theorem flat_get{cs:Nat->List Value}{sz:Nat}(hs:sz≠0):∀ n,(∀ i,i<n->(cs i).length=sz)->((List.range n).flatMap cs).length=n*sz/\∀ j v,((List.range n).flatMap cs)[j]? = some v->∃ i k,i<n/\j=i*sz+k/\k<sz/\(cs i)[k]? = some v
 |0,_=>by simp
 |n+1,h=>by
  obtain⟨h1,h2⟩:=flat_get hs n fun i hi=>h i (by omega);rw[List.range_succ,List.flatMap_append];have hn:=h n (by omega);simp only[List.flatMap_cons,List.flatMap_nil,List.append_nil];refine⟨by rw[List.length_append,h1,hn,Nat.add_mul]; omega,fun j v hj=>?_⟩;by_cases hlt:j<n*sz
  ·rw[List.getElem?_append_left (by rw[h1]; exact hlt)]at hj;obtain⟨i,k,a,b,c,d⟩:=h2 j v hj;exact⟨i,k,by omega,b,c,d⟩
  ·rw[List.getElem?_append_right (by rw[h1]; omega),h1]at hj;have:=(List.getElem?_eq_some_iff.1 hj).1;exact⟨n,j-n*sz,by omega,by omega,by omega,hj⟩
variable{H:Type}{enc:TypeId×Value->H}
open Go.ChangeShapes Go.Deep in
/-- A list that came in: of each element it is known what it is. -/
theorem Ag{J:Type}(f:J->List Value){sz:Nat}(hsz:sz≠0){good:J->Prop}{w:World}{t e:TypeId}{fuel:Nat}{cs:List Value}{x:DataW H×List MemPlace}(ht:P.underlying t=some (.slice e))(hc:P.cellsOf e=sz)
  (hel:∀ n cs' y,cs'.length=sz->DataW.trod enc P w 0 (fun _=>true) true n e cs'=some y->∃ a,VRL (envOf w) (f a) cs'/\good a)
  (h:DataW.trod enc P w 0 (fun _=>true) true fuel t cs=some x) :
  ∃ v,cs=[v]/\∃ l:List J,VR (envOf w) (ai sz l.length 0 (l.flatMap f)) v/\(∀ a∈l,good a)/\l.length<=maxLen:=by
 rcases open_slice ht h with⟨h1,h2⟩ | ⟨a,len,cap,m,n,D,Pl,h1,_,h3,h4,h5,_,h7⟩
 ·refine⟨_,h1,[],?_,by simp,Nat.zero_le _⟩;refine tN hsz ?_;unfold gW;rw[if_neg hsz];exact⟨by simp,Or.inl ⟨rfl,by omega,rfl⟩⟩
 ·refine⟨_,h1,?_⟩;rw[hc]at h7;have hlm:len<=m:=by rw[h5]; split<;>omega
  have q:∀ i,i<len->∃ p:J×List Value,w.cells? 0 (a.add (i*sz)) sz=some p.2/\p.2.length=sz/\VRL (envOf w) (f p.1) p.2/\good p.1:=fun i hi=>by
   obtain⟨cs',k1,k2⟩:=h7 i (by omega);have hl:=(World.cells?_some k1).1;have hl:cs'.length=sz:=by first | exact hl.2 | exact hl.1 | exact hl | exact(World.cells?_some k1).2.1
   obtain⟨a0,k3,k4⟩:=hel n cs' _ hl k2;exact⟨(a0,cs'),k1,hl,k3,k4⟩
  by_cases hl0:len=0
  ·subst hl0;refine⟨[],Ri hsz h3 (by simp:([]:List Value).length=0*sz) VRL.nil (fun i v hv=>by simp at hv),by simp,Nat.zero_le _⟩
  ·have inh:Inhabited (J×List Value):=⟨(q 0 (by omega)).choose⟩
   obtain⟨A,hA⟩:=choose_lt q;refine⟨(List.range len).map fun i=>(A i).1,?_,?_,?_⟩
   ·obtain⟨l1,l2⟩:=flat_get (cs:=fun i=>(A i).2) hsz len fun i hi=>(hA i hi).2.1;rw[show((List.range len).map fun i=>(A i).1).length=len by simp];refine Ri hsz h3 l1 (MS f (fun i=>(A i).2) (fun i=>(A i).1) len fun i hi=>(hA i hi).2.2.1) fun j v hj=>?_;obtain⟨i,k,hi,hjk,hk,hv⟩:=l2 j v hj;have hcell:=(World.cells?_some (hA i hi).1)
    subst hjk;rw[<-add_add];first | exact hcell.2.2 k v hv | (have:=hcell.2.2 k hk; rw[this]; exact hv) | (have:=hcell.2 k hk; rw[this]; exact hv) | (have:=hcell.2.2 k; rw[hv]at this; exact this)
   ·intro b hb;obtain⟨i,hi,rfl⟩:=List.mem_map.1 hb;exact(hA i (List.mem_range.1 hi)).2.2.2
   ·simp; omega
end
end Go.VS
end

noncomputable section
namespace Go.VS.Tryz
open Go.VS Go.RowKit Go.ChangeShapes
set_option maxRecDepth 1000000
section
theorem o7{J:Type}{xs:List J}{n i:Nat}(h:xs.length=n)(hi:i<n):∃ y,xs[i]? = some y:=⟨xs[i]'(by omega),List.getElem?_eq_getElem (by omega)⟩
variable{H:Type}{enc:TypeId×Value->H}
theorem OG{n:Int}(h:(Lit.int .i64 n).wf=true):inR n=true:=by
 have:-9223372036854775808<=n/\n<=9223372036854775807:=by
  unfold Lit.wf at h;rw[Bool.and_eq_true,decide_eq_true_eq,decide_eq_true_eq]at h;exact h
 unfold inR leI;rw[Bool.and_eq_true,decide_eq_true_eq,decide_eq_true_eq];exact this
theorem ady{W:World}{n:Nat}{cs:List Value}{y:DataW H×List MemPlace}(hl:cs.length=3)(h:DataW.trod enc P W 0 (fun _=>true) true n 74 cs=some y):∃ o:OpM,VRL (envOf W) (EOp.f o) cs/\True:=by
 match cs,hl with
 |[c0,c1,c2],_=>
  obtain⟨xs,m,_,_,_,hx,hall⟩:=DataW.trod_struct Go.Proofs.Tryz.underlying74 h;have hx:xs.length=3:=hx;have cb:P.cellsOf 4=1:=by kernel_rfl
  have cs:P.cellsOf 9=1:=by kernel_rfl
  have h0:=hall 0 _ rfl;have h1:=hall 1 _ rfl;have h2:=hall 2 _ rfl;obtain⟨y0,e0⟩:=o7 hx (i:=0) (by decide);obtain⟨y1,e1⟩:=o7 hx (i:=1) (by decide);obtain⟨y2,e2⟩:=o7 hx (i:=2) (by decide);have h0:DataW.trod enc P W 0 (fun _=>true) true m 4 (([c0,c1,c2].drop 0).take (P.cellsOf 4))=some y0:=h0.trans e0;have h1:DataW.trod enc P W 0 (fun _=>true) true m 9 (([c0,c1,c2].drop 1).take (P.cellsOf 9))=some y1:=h1.trans e1;have h2:DataW.trod enc P W 0 (fun _=>true) true m 9 (([c0,c1,c2].drop 2).take (P.cellsOf 9))=some y2:=h2.trans e2;rw[cb]at h0;rw[cs]at h1 h2;obtain⟨p,q0,_⟩:=DataW.trod_bool Go.Proofs.Tryz.underlying4 h0;obtain⟨k,q1,_⟩:=DataW.trod_string Go.Proofs.Tryz.underlying9 h1;obtain⟨v,q2,_⟩:=DataW.trod_string Go.Proofs.Tryz.underlying9 h2;replace q0:[c0]=[.bool p]:=q0;replace q1:[c1]=[.string k]:=q1;replace q2:[c2]=[.string v]:=q2;simp only[List.cons.injEq,and_true]at q0 q1 q2;subst q0 q1 q2;exact⟨⟨p,k,v⟩,VRL.cons rfl (VRL.cons rfl (VRL.cons rfl VRL.nil)),trivial⟩
theorem Z5{W:World}{n:Nat}{cs:List Value}{y:DataW H×List MemPlace}(hl:cs.length=6)(h:DataW.trod enc P W 0 (fun _=>true) true n 24 cs=some y) :
  ∃ a:ActM,VRL (envOf W) (aH.f a) cs/\(inR a.node=true/\inR a.n=true/\inR a.t=true):=by
 match cs,hl with
 |[c0,c1,c2,c3,c4,c5],_=>
  obtain⟨xs,m,_,_,_,hx,hall⟩:=DataW.trod_struct Go.Proofs.Tryz.underlying24 h;have hx:xs.length=6:=hx;have ci:P.cellsOf 3=1:=by kernel_rfl
  have cs:P.cellsOf 9=1:=by kernel_rfl
  have co:P.cellsOf 22=1:=by kernel_rfl
  obtain⟨y0,e0⟩:=o7 hx (i:=0) (by decide);obtain⟨y1,e1⟩:=o7 hx (i:=1) (by decide);obtain⟨y2,e2⟩:=o7 hx (i:=2) (by decide);obtain⟨y3,e3⟩:=o7 hx (i:=3) (by decide);obtain⟨y4,e4⟩:=o7 hx (i:=4) (by decide);obtain⟨y5,e5⟩:=o7 hx (i:=5) (by decide);have h0:=hall 0 _ rfl;have h0:DataW.trod enc P W 0 (fun _=>true) true m 3 (([c0,c1,c2,c3,c4,c5].drop 0).take (P.cellsOf 3))=some y0:=h0.trans e0;have h1:=hall 1 _ rfl;have h1:DataW.trod enc P W 0 (fun _=>true) true m 3 (([c0,c1,c2,c3,c4,c5].drop 1).take (P.cellsOf 3))=some y1:=h1.trans e1;have h2:=hall 2 _ rfl;have h2:DataW.trod enc P W 0 (fun _=>true) true m 3 (([c0,c1,c2,c3,c4,c5].drop 2).take (P.cellsOf 3))=some y2:=h2.trans e2;have h3:=hall 3 _ rfl;have h3:DataW.trod enc P W 0 (fun _=>true) true m 3 (([c0,c1,c2,c3,c4,c5].drop 3).take (P.cellsOf 3))=some y3:=h3.trans e3;have h4:=hall 4 _ rfl;have h4:DataW.trod enc P W 0 (fun _=>true) true m 9 (([c0,c1,c2,c3,c4,c5].drop 4).take (P.cellsOf 9))=some y4:=h4.trans e4;have h5:=hall 5 _ rfl;have h5:DataW.trod enc P W 0 (fun _=>true) true m 22 (([c0,c1,c2,c3,c4,c5].drop 5).take (P.cellsOf 22))=some y5:=h5.trans e5;rw[ci]at h0 h1 h2 h3;rw[cs]at h4;rw[co]at h5;obtain⟨a0,q0,_,w0⟩:=DataW.trod_int Go.Proofs.Tryz.underlying3 h0;obtain⟨a1,q1,_,w1⟩:=DataW.trod_int Go.Proofs.Tryz.underlying3 h1;obtain⟨a2,q2,_,w2⟩:=DataW.trod_int Go.Proofs.Tryz.underlying3 h2;obtain⟨a3,q3,_,w3⟩:=DataW.trod_int Go.Proofs.Tryz.underlying3 h3;obtain⟨a4,q4,_⟩:=DataW.trod_string Go.Proofs.Tryz.underlying9 h4;obtain⟨v,q5,l,hv,_,_⟩:=Ag EOp.f (sz:=3) (by decide) (good:=fun _=>True) Go.Proofs.Tryz.underlying22 (by kernel_rfl) (fun n cs' y hl h=>ady hl h) h5;replace q0:[c0]=[.int .i64 a0]:=q0;replace q1:[c1]=[.int .i64 a1]:=q1;replace q2:[c2]=[.int .i64 a2]:=q2;replace q3:[c3]=[.int .i64 a3]:=q3;replace q4:[c4]=[.string a4]:=q4;replace q5:[c5]=[v]:=q5;simp only[List.cons.injEq,and_true]at q0 q1 q2 q3 q4 q5;subst q0 q1 q2 q3 q4 q5;exact⟨⟨a0,a1,a2,a3,a4,l⟩,VRL.cons rfl (VRL.cons rfl (VRL.cons rfl (VRL.cons rfl (VRL.cons rfl (VRL.cons hv VRL.nil))))),OG w1,OG w2,OG w3⟩
theorem open_actsL{W:World}{v:Value}{d:DataW H}{ps:List MemPlace}{r:Reach}{b0:Nat}(hval:Value.okWide P W r b0 34 v)(h:DataW.Trod enc P W 0 (fun _=>true) true 34 v d ps) :
  ∃ l:List ActM,VR (envOf W) (fzActs l) v/\(∀ a∈l,inR a.node=true/\inR a.n=true/\inR a.t=true)/\l.length<=9223372036854775807:=by
 have hv:v.cells=#[v]:=by
  unfold Value.okWide at hval;rw[Go.Proofs.Tryz.underlying34]at hval;have:=Lu hval;cases v<;>first | rfl | simp[Value.oneCell']at this
 obtain⟨fuel,h⟩:=h;rw[hv]at h;obtain⟨v',e,l,h1,h2,h3⟩:=Ag aH.f (sz:=6) (by decide) (good:=fun a:ActM=>inR a.node=true/\inR a.n=true/\inR a.t=true) Go.Proofs.Tryz.underlying34 (by kernel_rfl) (fun n cs' y hl h=>Z5 hl h) h;simp only[List.cons.injEq,and_true]at e;subst e;exact⟨l,h1,h2,h3⟩
end
end Go.VS.Tryz
end

noncomputable section
namespace Go.Proofs.YtlkfapppocmgpaaGreatDoor.scriptTexts
open Go.ChangeShapes Go.WideShapes Go.ChangeAt Go.RowKit
set_option maxRecDepth 1000000
theorem own:ownKnob Tryz.prog.godebug=none:=by kernel_rfl
theorem et:Tryz.prog.globalNamed "errors.errorType" =some 0:=by kernel_rfl
theorem rt:(Tryz.prog.cutTypes.find? (·.1 == "internal/reflectlite.rtype")).map (·.2)=some 129:=by kernel_rfl
theorem size:Tryz.prog.types.size=208:=by kernel_rfl
theorem oneRow:((List.range 208).filter fun t=>Tryz.prog.rowNamed t [101,114,114,111,114])=[31]:=by kernel_rfl
abbrev dataL:List (String×DataW Unit):=[("math/bits.deBruijn32tab",Rows.laid_math_bits_deBruijn32tab),("math/bits.deBruijn64tab",Rows.laid_math_bits_deBruijn64tab),("internal/strconv.uint64pow10",Rows.laid_internal_strconv_uint64pow10),("strconv.ErrRange",Rows.laid_strconv_ErrRange),("strconv.ErrSyntax",Rows.laid_strconv_ErrSyntax)]
theorem parts{W:World}(h:laidMetH Tryz.prog Rows.scriptTextsRow.laid W):laidMet Tryz.prog dataL W/\handlesMet Tryz.prog [("errors.errorType",Rows.laid_errors_errorType)] W:=h
theorem handle_of_laid{W:World}(h:laidMetH Tryz.prog Rows.scriptTextsRow.laid W):W.var? Tryz.prog "errors.errorType" =some #[.iface 129 (.agg #[.pointer (some ⟨7,31,none⟩)])]:=by
 obtain⟨name,u,ty,e1,e2,e3,e4,e5⟩:=(parts h).2 _ (List.mem_singleton.2 rfl);have en:name=[101,114,114,111,114]:=(Option.some.inj e1).symm;subst en;obtain rfl:=Option.some.inj (rt.symm.trans e2);have hm:ty∈(List.range 208).filter fun t=>Tryz.prog.rowNamed t [101,114,114,111,114]:=List.mem_filter.2 ⟨List.mem_range.2 (by rw[<-size]; exact e3),e4⟩;rw[oneRow]at hm;obtain rfl:=List.mem_singleton.1 hm;have hh:typeHandle Tryz.prog 31 = .pointer (some ⟨7,31,none⟩):=by kernel_rfl
 rw[hh]at e5;exact e5
theorem var_heap{P:Program}{W:World}{n:String}{g:Nat}{cs:Array Value}(hg:P.globalNamed n=some g)(h:W.var? P n=some cs):∃ e f,W.heap[g]? = some (.cells cs e f):=by
 simp only[World.var?,hg,Option.bind_some]at h;split at h
 ·rename_i c e f hh;obtain rfl:=Option.some.inj h;exact⟨e,f,hh⟩
 ·cases h
theorem star: "*" ++ "errors.errorString" = "*errors.errorString" :=by decide
theorem rowE(u:TypeId)(h:Tryz.prog.typeName? 3 u=some "*errors.errorString"):u=176:=
 typeName_ptr_named (nm:= "errors.errorString") (by rw[star]; kernel_rfl) (by kernel_rfl) (by decide) u (by rw[star]; exact h)
theorem gS:Tryz.prog.globalNamed "strconv.ErrSyntax" =some 2:=by kernel_rfl
theorem gR:Tryz.prog.globalNamed "strconv.ErrRange" =some 3:=by kernel_rfl
theorem gP:Tryz.prog.globalNamed "internal/strconv.uint64pow10" =some 4:=by kernel_rfl
theorem sentinel_of{W:World}{n:String}{text:List UInt8}{g:Nat}(h:laidMet Tryz.prog [(n, .iface "*errors.errorString" (.ptr (.agg [.lit (.string text)])))] W)(hg:Tryz.prog.globalNamed n=some g)(ht:(Tryz.prog.globals[g]?).map (·.type)=some 31) :
  ∃ t p,W.var? Tryz.prog n=some #[.iface t p]:=by
 obtain⟨a0,s0,hv0,_⟩:=laid_sentinel h hg ht Tryz.underlying31 rowE Tryz.underlying176 Tryz.underlying178 rfl rfl Tryz.underlying9 (by kernel_rfl) (by kernel_rfl);exact⟨_,_,hv0⟩
theorem gw_of_laid{W:World}(h:laidMetH Tryz.prog Rows.scriptTextsRow.laid W):VS.GW W:=by
 have hd:=(parts h).1;have hS:laidMet Tryz.prog [("strconv.ErrSyntax",Rows.laid_strconv_ErrSyntax)] W:=hd.filter fun x=>x.1 == "strconv.ErrSyntax";have hR:laidMet Tryz.prog [("strconv.ErrRange",Rows.laid_strconv_ErrRange)] W:=hd.filter fun x=>x.1 == "strconv.ErrRange";obtain⟨tS,pS,vS⟩:=sentinel_of hS gS (by kernel_rfl);obtain⟨tR,pR,vR⟩:=sentinel_of hR gR (by kernel_rfl);obtain⟨g,t,cs,fuel,p,hg,ht,hv,hread⟩:=Lib.laidMet.reads hd (n:= "internal/strconv.uint64pow10") (d:=Rows.laid_internal_strconv_uint64pow10) (by simp);obtain rfl:=Option.some.inj (gP.symm.trans hg);obtain rfl:t=171:=(Option.some.inj (ht.symm.trans (by kernel_rfl)))
 have hc:=Lib.cells_of_tab (k:= .u64) (zs:=VS.pow10L) Tryz.underlying171 Tryz.underlying12 (by kernel_rfl) (by kernel_rfl) hread;obtain⟨e0,f0,k0⟩:=var_heap et (handle_of_laid h);obtain⟨e1,f1,k1⟩:=var_heap gP hv;obtain⟨e2,f2,k2⟩:=var_heap gS vS;obtain⟨e3,f3,k3⟩:=var_heap gR vR;have hcs:cs=⟨VS.pow10L.map fun n=> .int .u64 n⟩:=by
  obtain⟨l⟩:=cs;have hc:l=VS.pow10L.map fun n=> .int .u64 n:=hc;rw[hc]
 subst hcs;intro p hp;unfold VS.globs at hp;simp only[List.mem_cons,List.not_mem_nil,or_false]at hp;rcases hp with rfl | rfl | rfl | rfl
 ·exact⟨_,k0,e0,f0,rfl⟩
 ·exact⟨_,k1,e1,f1,rfl⟩
 ·first | exact⟨_,k2,tS,pS,e2,f2,rfl⟩ | exact⟨_,k3,tR,pR,e3,f3,rfl⟩
 ·first | exact⟨_,k2,tS,pS,e2,f2,rfl⟩ | exact⟨_,k3,tR,pR,e3,f3,rfl⟩
theorem laidOut:laidOutB Tryz.prog=true:=by kernel_rfl
theorem walk{l:List VS.Tryz.ActM}{s:ByteArray}{v1:Value}(hlen:l.length<=9223372036854775807)(hl:∀ a∈l,VS.Tryz.inR a.node=true/\VS.Tryz.inR a.n=true/\VS.Tryz.inR a.t=true)(w:World)(hG:VS.GW w)(h0:VS.VR (VS.envOf w) (VS.Tryz.fzActs l) v1) :
  Calls Tryz.prog 4 #[.string s,v1] w fun e w'=>e = .returned (.bool true)/\Below w.heap.size w w':=
 VS.CR.true_calls (VS.CR.ofX (VS.Tryz.texts_run (l:=l) (s:=s) hlen hl)) (args':=#[.string s,v1]) (VS.VRL.cons rfl (VS.VRL.cons h0 VS.VRL.nil)) hG
def laidW(os:Os):World:=
 let w0:=World.laidAll Tryz.prog os dataL
 { w0 with heap:=w0.heap.modify 0 fun
   | .cells _ t frozen=> .cells #[.iface 129 (.agg #[.pointer (some ⟨7,31,none⟩)])] t frozen
   |o=>o }
theorem laidW_met(os:Os)(args:Array Value):laidMetH Tryz.prog Rows.scriptTextsRow.laid ((laidW os).forCall (fun _ _=>0) ⟨#[],args,[]⟩).memory:=
 laidMetH_of_parts (laidMet_of_run' 8 (by kernel_rfl) (by kernel_rfl)) (by kernel_rfl)
theorem lifted(os:Os)(started:os.Started)(H:Type)(enc:TypeId×Value->H) :
  ReturnsInHanded {} Tryz.checked os 4 .any (fun w args=>(Rows.scriptTextsSpec.pre enc Tryz.prog Tryz.f4 Rows.scriptTextsRow.domain false w args/\laidMetH Tryz.prog Rows.scriptTextsRow.laid w)/\sizedMet enc Tryz.prog Tryz.f4 (OpenSpec.ofChange Rows.scriptTextsSpec) false w args)
   (Rows.scriptTextsSpec.post enc Tryz.prog Tryz.f4 false true false false):=by
 refine returnsInHanded_of_change_and (C:=Tryz.checked) (X:=fun w _=>laidMetH Tryz.prog Rows.scriptTextsRow.laid w) (fun _ _ _ hh h=>h.of_heap hh) own started (by kernel_rfl) Tryz.func4
  (ChangeSpec.witness_at (enc:=enc) (C:=Tryz.checked) (os:=os) (X:=fun w _=>laidMetH Tryz.prog Rows.scriptTextsRow.laid w) false (laidW os) #[.string .empty, .slice none 0 0] 8 (World.laidAll_os _ _ _) (by kernel_rfl) (by kernel_rfl) (by kernel_rfl) (by kernel_rfl) (by kernel_rfl) (laidW_met os _)) ?_
 intro W base args ds gs before hval0 hW hc _ hL _;have hval:∀ (j:Nat) t v,Tryz.f4.params[j]? = some t->args[j]? = some v->Value.okWide Tryz.prog W .any base t v:=hval0;have hW':=hW;obtain⟨p,q,hA0,hV,rfl,_,_⟩:=hW;have hA:DataW.TrodAll enc Tryz.prog W 0 (fun _=>true) true Tryz.f4.params.toList args.toList ds p:=hA0;rw[Tryz.params4]at hA hval;obtain⟨v0,vs0,d0,ds0,p0,q0,hargs,rfl,rfl,h0,r0⟩:=trodAll_cons hA;obtain⟨v1,vs1,d1,ds1,p1,q1,rfl,rfl,rfl,h1,r1⟩:=trodAll_cons r0;obtain⟨rfl,rfl,rfl⟩:=trodAll_nil r1;obtain rfl:args=#[v0,v1]:=by cases args; simp_all
 obtain⟨rfl,rfl⟩:=trodVars_none hV;obtain⟨s,rfl⟩:∃ s,v0 = .string s:=WideShapes.okWide_string Tryz.underlying9 (hval 0 9 v0 rfl rfl);obtain⟨l,g0,hl,hlen⟩:=VS.Tryz.open_actsL (hval 1 34 v1 rfl rfl) h1;clear hA0 hval0;simp only[List.append_nil]at hW';have hlt0:∀ x∈p0,x.block<W.heap.size:=fun x hx=>by simpa using hW'.lt x (by simp[hx])
 have hlt1:∀ x∈p1,x.block<W.heap.size:=fun x hx=>by simpa using hW'.lt x (by simp[hx])
 refine(walk hlen hl W (gw_of_laid hL) g0).mono fun e W' ⟨he,hg⟩=>?_;subst he;refine⟨_,rfl,_,_,_,[],p0++p1,[],hW',?_,?_,rfl,hg.frame _,fun h=>by cases h⟩
 ·exact trodAll_cons_mk (shut_bool Tryz.underlying4 _) trodAll_mk0
 ·have T2:=(trodAll_mk0:DataW.TrodAll enc Tryz.prog W' 0 (fun b=>decide (b<W.heap.size)) true [] [] [] [])
  have T1:=trodAll_cons_mk (Below.trod laidOut (by kernel_rfl) (of_decide_eq_true (by kernel_rfl)) h1 hg hlt1) T2;have T0:=trodAll_cons_mk (Below.trod laidOut (by kernel_rfl) (of_decide_eq_true (by kernel_rfl)) h0 hg hlt0) T1;simp only[List.append_nil]at T0;exact T0
theorem over:Rows.ScriptTextsSaid:=
 OpenClaim.holds_of_wide 4 Tryz.f4 rfl rfl rfl rfl rfl rfl rfl ⟨rfl,rfl,rfl,rfl,rfl⟩ rfl rfl rfl rfl rfl (by kernel_rfl) Tryz.func4 (by kernel_rfl)
  (of_decide_eq_true (by kernel_rfl)) (by unfold Func.isWrapper; first | (rw[if_pos (by decide +kernel)]; kernel_rfl) | (rw[if_neg (by decide +kernel)]; exact⟨rfl,rfl⟩))
  (fun os started H enc _=>lifted os started H enc)
theorem proved:Rows.ScriptTextsCardSaid:=
 Claim7.holds_tied_plain_at .later [] [.data, .data, .data, .handle, .sentinel, .sentinel] true (true,"42aa2ec331f49392af6cc87576e11029615cc15100496f779c24b52496d10617") true over (fun _ h=>by cases h) (by kernel_rfl) (fun _ h=>by cases h) scriptTexts_row_tie rfl ⟨rfl,rfl⟩ (by kernel_rfl) rfl
  (fun f fn hf hfn=>by
   obtain rfl:f=4:=Option.some.inj ((show Tryz.prog.funcNamed "lagleash/lagleashlaw25.ScriptTexts" =some 4 by kernel_rfl).symm.trans hf) |>.symm
   obtain rfl:fn=Tryz.f4:=(Option.some.inj (Tryz.func4.symm.trans hfn)).symm;exact⟨by kernel_rfl,fun j t ht=>by
    rw[Tryz.params4]at ht;have hm:t∈[9,34]:=by
     have:=Array.mem_of_getElem? ht;simpa using this
    have hall:([9,34].all fun u=>!Tryz.prog.wantsStandIn u)=true:=by kernel_rfl
    exact(show Tryz.prog.wantsStandIn t=false by simpa using List.all_eq_true.1 hall t hm)⟩)
  (by kernel_rfl)
#print axioms proved
end Go.Proofs.YtlkfapppocmgpaaGreatDoor.scriptTexts
end
