/- The law 'NodePair': whatever its arguments, the call returns true. Conditions: none. -/
import Derived.Test.YtofceohboacaoaaGreatNodePairQ2
import Derived.Test.YtofceohboacaoaaGreatNodePairQ3
import Derived.Test.YtofceohboacaoaaGreatNodePairQ4
import Derived.Test.YtofceohboacaoaaGreatNodePairQ5
import Derived.ChangeSlices
import Derived.Deep.Slices
import Derived.ChangeArms
import Derived.Test.YtofceohboacaoaaGreatRows
import Derived.Test.YtofceohboacaoaaGreatNpF2
set_option linter.unusedSimpArgs false
set_option linter.unusedVariables false
noncomputable section
namespace Go.VS.Tryz
open Go.VS
set_option maxRecDepth 1000000
theorem Fol.mk1{L l:List CmM}{c:CmM}(h1:cmE c=0)(h2:c.n-1=(L.length:Int))(h3:aY L<=c.e)(h4:Fol (L++[c]) l):Fol L (c::l):=by
 have h5:=h4.f;have e:((L++[c]).length:Int)=c.n:=by simp; omega
 rw[uf,e]at h5;exact⟨yQ ⟨h1,h2,h3,Ik 1 h5⟩⟩
theorem Fol.app:∀ {l1 l2 L:List CmM},Fol L l1->Fol (L++l1) l2->Fol L (l1++l2)
 |[],l2,L,h1,h2=>by rw[gG]at h2; exact h2
 |c::l1,l2,L,h1,h2=>by
  obtain⟨a1,a2,a3,a4⟩:=h1.cons;refine Fol.mk1 a1 a2 a3 (Fol.app a4 ?_);rw[fG];exact h2
theorem Fol.left:∀ {l1 l2 L:List CmM},Fol L (l1++l2)->Fol L l1
 |[],l2,L,h=>⟨rfl⟩
 |c::l1,l2,L,h=>by
  obtain⟨a1,a2,a3,a4⟩:=Fol.cons (l:=l1++l2) h;exact Fol.mk1 a1 a2 a3 a4.left
theorem Fol.right:∀ {l1 l2 L:List CmM},Fol L (l1++l2)->Fol (L++l1) l2
 |[],l2,L,h=>by rw[gG]; exact h
 |c::l1,l2,L,h=>by
  obtain⟨a1,a2,a3,a4⟩:=Fol.cons (l:=l1++l2) h;have:=a4.right;rw[fG]at this;exact this
theorem Fol.nil{l:List CmM}:Fol [] l↔fA 0 0 0 l=(0,0):=⟨fun h=>h.f,fun h=>⟨h⟩⟩
/-- So many commits of the first epoch,so many of the second one. -/
structure Lg(l:List CmM)(a b:Nat):Prop where
 f:Fol [] l
 n:l.length=a+b
 e1:∀ c∈l.take a,c.e=1
 e2:∀ c∈l.drop a,c.e=2
def ofK(a b:Nat):List (Int×Int):=match a,b with
 |0,0=>[]
 |_+1,0=>[(1,1)]
 |0,_+1=>[(2,1)]
 |a+1,_+1=>[(1,1),(2,(a:Int)+2)]
theorem Nj:∀ (l:List CmM) (o:List (Int×Int)) (x y:Int),o.getLast? = some (x,y)->(∀ c∈l,c.e=x)->ofG o l=o
 |[],o,x,y,h1,h2=>rfl
 |c::l,o,x,y,h1,h2=>by
  have e:ofS o c=o:=by
   have h3:eqI x c.e=true:=by unfold eqI; exact eU (h2 c (qQ ..)).symm
   unfold ofS;simp only[h1,h3]
  show ofG (ofS o c) l=o;rw[e];exact Nj l o x y h1 fun d hd=>h2 d (ni _ hd)
theorem ach(o:List (Int×Int))(l1 l2:List CmM):ofG o (l1++l2)=ofG (ofG o l1) l2:=List.foldl_append
theorem DL{l:List CmM}{x:Int}{L:List CmM}(hf:Fol L l)(h:∀ c∈l,c.e=x)(hl:l≠[])(o:List (Int×Int))(ho:o=[]\/∃ y z,o.getLast? = some (y,z)/\y≠x):ofG o l=o++[(x,(L.length:Int)+1)]:=by
 cases l with
 |nil=>exact absurd rfl hl
 |cons c l=>
  obtain⟨_,a2,_,_⟩:=hf.cons;have e1:=h c (qQ ..);have e2:c.n=(L.length:Int)+1:=by omega
  have e:ofS o c=o++[(x,(L.length:Int)+1)]:=by
   rcases ho with rfl | ⟨y,z,h1,h2⟩
   ·unfold ofS; simp only[List.getLast?_nil,e1,e2]
   ·have h3:eqI y c.e=false:=eF_ (by rw[e1]; exact h2);unfold ofS; simp only[h1,h3]; rw[e1,e2]
  show ofG (ofS o c) l=_;rw[e];exact Nj l _ x _ List.getLast?_concat fun d hd=>h d (ni _ hd)
theorem Lg.of{l:List CmM}{a b:Nat}(h:Lg l a b):ofG [] l=ofK a b:=by
 obtain⟨hf,hn,h1,h2⟩:=h;have e:l.take a++l.drop a=l:=sN a l;have l1:(l.take a).length=a:=by rw[fH]; omega
 have l2:(l.drop a).length=b:=by rw[gZ]; omega
 rw[<-e]at hf ⊢;rw[ach];have f1:=hf.left;have f2:=hf.right;rw[iY]at f2;generalize l.take a=x at *;generalize l.drop a=y at *;clear e hn;cases a with
 |zero=>
  obtain rfl:=o6.1 l1;cases b with
  |zero=>obtain rfl:=o6.1 l2; rfl
  |succ b=>
   have:=DL (x:=2) f2 h2 (by intro h; rw[h]at l2; cases l2) (ofG [] []) (Or.inl rfl);rw[this]; rfl
 |succ a=>
  have q1:=DL (x:=1) f1 h1 (by intro h; rw[h]at l1; cases l1) [] (Or.inl rfl);rw[q1];cases b with
  |zero=>obtain rfl:=o6.1 l2; rfl
  |succ b=>
   have:=DL (x:=2) f2 h2 (by intro h; rw[h]at l2; cases l2) ([]++[(1,(([]:List CmM).length:Int)+1)]) (Or.inr ⟨1,_,rfl,by decide⟩);rw[this,l1];show [(1,1),((2:Int),((a+1:Nat):Int)+1)]=[(1,1),(2,(a:Int)+2)]
   congr 3
theorem Jp(a b:Nat):(ofK a b).length<=2:=by cases a<;>cases b<;>simp[ofK]
theorem aha{a b:Nat}(h:a+b<=1000):Z_ (ofK a b):=by
 intro s hs;cases a<;>cases b<;>simp only[ofK,jY,A8,or_false]at hs
 ·subst hs; constructor<;>constructor<;>decide
 ·subst hs; constructor<;>constructor<;>decide
 ·rcases hs with rfl | rfl
  ·constructor<;>constructor<;>decide
  ·refine⟨⟨by show(0:Int)<=2; decide,by show(2:Int)<=1048576; decide⟩,?_⟩;show 0<=((_:Nat):Int)+2/\_<=_;omega
theorem XP{a b:Nat}(h:a+b<=1000):scE (ofK a b) ((a:Int)+b)=0:=by
 have two:∀ n:Int,1<=n->n<=1000->∀ x:Int,1<=x/\x<=1048576->scE [(x,1)] n=0:=by
  intro n h1 h2 x hx;have e1:ltI n 0=false:=lF_ (by omega);have e2:gtI n 1048576=false:=gF_ (by omega);have e3:eqI n 0=false:=eF_ (by omega);have e4:gtI 1 n=false:=gF_ (by omega);have e5:leI x 0=false:=mF_ (by omega);have e6:gtI x 1048576=false:=gF_ (by omega);have m:scM n (0,0) 0 [(x,1)]=true:=by
   simp only[scM,GV,e4,e5,e6]
   rfl
  unfold scE;simp only[e1,e2,e3,m]
  rfl
 cases a with
 |zero=>
  cases b with
  |zero=>decide
  |succ b=>exact two _ (by omega) (by omega) 2 (by omega)
 |succ a=>
  cases b with
  |zero=>exact two _ (by omega) (by omega) 1 (by omega)
  |succ b=>
   generalize hn:(((a+1:Nat):Int)+((b+1:Nat):Int))=n;have e1:ltI n 0=false:=lF_ (by omega);have e2:gtI n 1048576=false:=gF_ (by omega);have e3:eqI n 0=false:=eF_ (by omega);have e4:gtI 1 n=false:=gF_ (by omega);have e5:leI ((a:Int)+2) 1=false:=mF_ (by omega);have e6:gtI ((a:Int)+2) n=false:=gF_ (by omega);have m:scM n (0,0) 0 (ofK (a+1) (b+1))=true:=by
    simp only[ofK,scM,GV,e4,e5,e6]
    rfl
   unfold scE;simp only[e1,e2,e3,m]
   rfl
def gJ(e ro:Int)(a b:Nat):MsgM:=⟨1,e,ro,(a:Int)+b,ofK a b,0,0,[]⟩
theorem SY{e ro:Int}{a b:Nat}(he:1<=e/\e<=1048576)(hr:1<=ro/\ro<=3)(h:a+b<=1000)(hb:b=0\/2<=e):HelOk e ro ((a:Int)+b) (ofK a b):=by
 refine⟨he,hr,XP h,by have:=Jp a b; omega,fun hne=>?_⟩;cases a<;>cases b<;>simp only[ofK,jH,lL]<;>first | exact absurd rfl hne | (show(2:Int)<=e; omega) | (show(1:Int)<=e; omega)
/-- A letter and its bytes. -/
structure LtM(m:MsgM)(b:List UInt8):Prop where
 chk:CRX P 0 48 [mV m] [] (.int .i64 0) []
 enc:CRX P 0 21 [mV m] [] (.tuple ⟨[ax 1 b.length 0 (bc b), .int .i64 0]⟩) []
 dec:CRX P 0 53 [ax 1 b.length 0 (bc b)] [] (.tuple ⟨[mV m, .int .i64 0]⟩) []
theorem LtM.of{m:MsgM}{x y:List UInt8}(e:x=y)(h1:CRX P 0 48 [mV m] [] (.int .i64 0) [])(h2:CRX P 0 21 [mV m] [] (.tuple ⟨[ax 1 x.length 0 (bc x), .int .i64 0]⟩) [])(h3:CRX P 0 53 [ax 1 x.length 0 (bc x)] [] (.tuple ⟨[mV m, .int .i64 0]⟩) []):LtM m y:=by
 subst e;exact⟨h1,h2,h3⟩
theorem vm1:au 1=[1]:=by unfold au; rfl
theorem vm2:au 2=[2]:=by unfold au; rfl
theorem vm3:au 3=[3]:=by unfold au; rfl
theorem wI{e ro:Int}{a b:Nat}(he:1<=e/\e<=1048576)(hr:1<=ro/\ro<=3)(h:a+b<=1000)(hb:b=0\/2<=e):∃ x,LtM (gJ e ro a b) (1::x):=by
 have hk:=SY he hr h hb;have hn:0<=((a:Int)+b)/\((a:Int)+b)<=1048576:=by omega
 refine⟨_,LtM.of (x:=tH e ro ((a:Int)+b) (ofK a b)) (by unfold tH; rw[vm1]; rfl) (xE hk) ?_ (ae0 hk hn (aha h) (by have:=Jp a b; omega))⟩;unfold gJ;cases a with
 |zero=>
  cases b with
  |zero=>exact aiO hk hn
  |succ b=>exact ahm hk hn (by decide) (by decide)
 |succ a=>
  cases b with
  |zero=>exact ahm hk hn (by decide) (by decide)
  |succ b=>exact aiv hk hn (by decide) (by decide) (by decide) (by omega)
theorem aht{e en:Int}(he:1<=e/\e<=1048576)(hn:0<=en/\en<=1048576):∃ x,LtM ⟨3,e,0,en,[],0,0,[]⟩ (3::x):=
 ⟨_,LtM.of (x:=Bo e en) (by unfold Bo; rw[vm3]; rfl) (JW he hn) (ac9 he hn) (acK he hn)⟩
theorem Xf{e fr pv:Int}{cs:List CmM}(hk:ShpOk e fr pv cs)(hc:∀ c∈cs,cmE c=0):∃ x,LtM ⟨2,e,0,0,[],fr,pv,cs⟩ (2::x):=by
 refine⟨_,LtM.of (x:=kZ e fr pv cs) (by unfold kZ; rw[vm2]; rfl) (uX hk (fun c h=>by
  obtain⟨_,_,hb⟩:=fU.1 (hc c h);obtain⟨b1,b2,b3⟩:=dM.1 hb
  omega)) ?_ (adC hk hc)⟩
 have hn:=hk.hn
 match cs,hk,hc,hn with
 |[],hk,hc,_=>exact aig hk
 |[c1],hk,hc,_=>exact air hk (hc c1 (by simp))
 |[c1,c2],hk,hc,_=>exact aiP hk (hc c1 (by simp)) (hc c2 (by simp))
 |[c1,c2,c3],hk,hc,_=>exact aib hk (hc c1 (by simp)) (hc c2 (by simp)) (hc c3 (by simp))
 |[c1,c2,c3,c4],hk,hc,_=>exact aih hk (hc c1 (by simp)) (hc c2 (by simp)) (hc c3 (by simp)) (hc c4 (by simp))
 |_::_::_::_::_::_,_,_,h=>simp only[jH]at h; omega
theorem Lg.le{l:List CmM}{a b:Nat}(h:Lg l a b):aY l<=2/\(b=0->aY l<=1):=by
 obtain⟨hf,hn,h1,h2⟩:=h;have hm:∀ c∈l,c.e<=2/\(b=0->c.e<=1):=fun c hc=>by
  rw[<-sN a l,sH]at hc;rcases hc with hc | hc
  ·have:=h1 c hc; exact⟨by omega,fun _=>by omega⟩
  ·have:=h2 c hc;refine⟨by omega,fun hb=>?_⟩;have:(l.drop a).length=0:=by rw[gZ]; omega
   rw[o6.1 this]at hc;cases hc
 by_cases h0:l=[]
 ·subst h0; exact⟨by decide,fun _=>by decide⟩
 ·rw[nU h0];exact hm _ (kQ _)
theorem WR{e:Int}{log:List CmM}{a b kn:Nat}(h:Lg log a b)(he:1<=e/\e<=1048576)(hb:b=0\/2<=e)(hl:log.length<=1000)(hk:kn<=log.length):ShpOk e ((kn:Int)+1) (aY (log.take kn)) (shM log kn)/\(∀ c∈shM log kn,cmE c=0)/\Fol (log.take kn) (shM log kn):=by
 have hle:=h.le;have hE:aY log<=e:=by rcases hb with hb | hb; have:=hle.2 hb; omega; omega
 have hmem:∀ c∈shM log kn,c∈log:=fun c hc=>Et (oW hc);have hall:=mr (Fol.nil.1 h.f);have h1:Fol (log.take kn) (log.drop kn):=by
  have h0:=h.f;rw[<-sN kn log]at h0;have h1:=h0.right;rw[iY]at h1;exact h1
 have h2:Fol (log.take kn) (shM log kn):=by
  have:=h1;rw[<-sN 4 (log.drop kn)]at this;exact this.left
 have hlk:(log.take kn).length=kn:=by rw[fH]; omega
 have h3:=h2.f;rw[hlk]at h3;have hp:0<=aY (log.take kn)/\aY (log.take kn)<=e/\(aY (log.take kn)=0↔kn=0):=by
  by_cases h0:kn=0
  ·subst h0;rw[List.take_zero];exact⟨Int.le_refl _,by show(0:Int)<=e; omega,⟨fun _=>rfl,fun _=>rfl⟩⟩
  ·rw[BG (by omega) hk];have hm:=kQ (l:=log) (n:=kn-1) (by omega);have a1:=(fU.1 (hall _ hm)).1;have a2:=IL (Fol.nil.1 h.f) _ hm;exact⟨by omega,by omega,⟨fun hx=>by omega,fun hx=>absurd hx h0⟩⟩
 refine⟨⟨he,by omega,⟨hp.1,hp.2.1⟩,⟨fun hx=>by have:=hp.2.2.1 hx; omega,fun hx=>hp.2.2.2 (by omega)⟩,by unfold shM; rw[fH]; omega,?_,fun c hc=>?_⟩,fun c hc=>hall c (hmem c hc),h2⟩
 ·rw[show((kn:Int)+1-1)=(kn:Int) by omega]; exact h3
 ·have:=IL (Fol.nil.1 h.f) c (hmem c hc); omega
theorem BK{s:StaM}{k:Nat}(hq:StQ s k)(hf:fA 0 0 0 s.log=(0,0))(hl:s.log.length<=1000):CRX P 7 41 [p0] (stB s) (aQ s.log) (stB s):=IA hq.sr.tb (by omega) (fun c hc=>by have:=xH hf c hc; omega)
theorem Jm{n:NdM}{k:Nat}(hn:NdQ n k):CRX P 8 11 [p0] (ndB n) (aQ n.s.log) (ndB n):=by
 have q1:=BK hn.q hn.fol (by have:=hn.len; omega);refine co_ (af aA (az q1)) ((aet (ay [p0] (stB n.s)) n).trans ?_);clear q1;have ht:=hn.q.sr.tb.ren;simp (disch:=first|omega|(simp only[bU,bY,bZ,bT,bW,aH]<;>omega)|fail) only[nh_,mz_,ht,pgV,pgC,ndB,stN,stB,mgV,dC,cZ,uf_,bf rfl,nf_]
theorem aff{n:NdM}{k:Nat}(hn:NdQ n k):CRX P 8 16 [p0] (ndB n) (pgV n.s.pg) (ndB n):=by
 refine co_ aA ((ab8 n).trans ?_);have ht:=hn.q.sr.tb.ren;simp (disch:=first|omega|(simp only[bU,bY,bZ,bT,bW,aH]<;>omega)|fail) only[nh_,pg_,mz_,ht,pgV,pgC,ndB,stN,stB,mgV,dC,cZ,uf_,bf rfl,nf_]
theorem abV{n:NdM}{k:Nat}(hn:NdQ n k)(hr:n.s.pg.ro=1)(hac:0<=n.ac/\n.ac<=n.s.log.length):CRX P 8 14 [p0] (ndB n) (.int .i64 ((n.s.log.length:Int)-n.ac)) (ndB n):=by
 refine co_ aA ((adE n).trans ?_);have ht:=hn.q.sr.tb.ren;have hl:=hn.len;have e1:neI n.s.pg.ro 1=false:=by rw[hr]; rfl
 have e2:dJ .i64 (ah n.s.log.length) n.ac=(n.s.log.length:Int)-n.ac:=by unfold dJ ah; exact wrap64 (by omega) (by omega)
 simp (disch:=first|omega|(simp only[bU,bY,bZ,bT,bW,aH]<;>omega)|fail) only[nh_,mz_,ht,e1,e2,pgV,pgC,ndB,stN,stB,mgV,dC,cZ,uf_,bf rfl,nf_]
theorem abX{en:Int}(h:0<=en/\en<=1048576):CRX P 0 43 [pgV ⟨1,2,0,0,0,0⟩, .int .i64 en] [] (.tuple ⟨[pgV ⟨2,1,en,0,0,0⟩, .int .i64 0]⟩) []:=by
 have q:=nG ⟨1,2,0,0,0,0⟩;rw[show pgE ⟨1,2,0,0,0,0⟩=0 by decide]at q;refine co_ (af aA (az q)) ((aeC en).trans ?_);clear q;have g1:geI en 0=true:=hT_ h.1;have g2:leI en 1048576=true:=mT_ h.2;simp only[mz_,g1,g2,pgV,pgC,bC,aW,bu]
 rfl
theorem yS{p:PgM}(hp:pgE p=0)(he:1<=p.ep/\p.ep<=1048576):CRX P 0 54 [pgV p, .int .i64 p.ep] [] (.tuple ⟨[pgV p, .bool false, .int .i64 0]⟩) []:=by
 have q:=nG p;rw[hp]at q;refine co_ (af aA (az q)) ((S9 (ay [pgV p] []) p p.ep).trans ?_);clear q;have g1:geI p.ep 1=true:=hT_ (by omega);have g2:leI p.ep 1048576=true:=mT_ (by omega);have g3:gtI p.ep p.ep=false:=gF_ (by omega);simp only[pg_,mz_,g1,g2,g3,pgV,pgC,bC,aW,bu,bg,show eQ true=false from rfl]
theorem Y9{p:PgM}{e:Int}(hp:pgE p=0)(he:1<=e/\e<=1048576)(h:p.ep<e):CRX P 0 54 [pgV p, .int .i64 e] [] (.tuple ⟨[pgV ⟨e,3,0,1,0,0⟩, .bool true, .int .i64 0]⟩) []:=by
 have q:=nG p;rw[hp]at q;refine co_ (af aA (az q)) ((S9 (ay [pgV p] []) p e).trans ?_);clear q;have g1:geI e 1=true:=hT_ (by omega);have g2:leI e 1048576=true:=mT_ (by omega);have g3:gtI e p.ep=true:=gT_ (by omega);simp only[pg_,mz_,g1,g2,g3,pgV,pgC,bC,aW,bu,bg,show eQ true=false from rfl]
theorem aeJ{n:NdM}(hn:NdQ n 200000)(hpg:n.s.pg=⟨1,2,0,0,0,0⟩)(hle:aY n.s.log<=2) :
  ∃ k,k<=2/\CRX P 8 12 [p0] (ndB n) (.tuple ⟨[.int .i64 2, .int .i64 0]⟩) (ndB { n with s:=n.s.paged k ⟨2,1,n.s.log.length,0,0,0⟩,ac:=n.s.log.length,kn:=-1 }):=by
 have hl:=hn.len;have q1:=abX (en:=(n.s.log.length:Int)) (by omega);rw[<-hpg]at q1;have hr0:fP n.s.rs=0:=by rw[hn.rs]; rfl
 have hso:kD n.s.held ⟨2,1,n.s.log.length,0,0,0⟩ (n.s.log.length:Int) (aY n.s.log) (fP n.s.rs)=true:=by
  have e1:leI (aY n.s.log) 2=true:=mT_ hle;have e2:leI 0 (n.s.log.length:Int)=true:=mT_ (by omega);have e3:leI (n.s.log.length:Int) (n.s.log.length:Int)=true:=mT_ (by omega);rw[hr0];unfold kD;simp only[nh_,pg_,mz_,e1,e2,e3]
  rfl
 have hpe:pgE ⟨2,1,(n.s.log.length:Int),0,0,0⟩=0:=by
  have e1:geI (n.s.log.length:Int) 0=true:=hT_ (by omega);have e2:leI (n.s.log.length:Int) 1048576=true:=mT_ (by omega);unfold pgE DI;simp only[nh_,pg_,mz_,e1,e2]
  rfl
 obtain⟨k,k1,q2⟩:=xG (s:=n.s) (p:=⟨2,1,n.s.log.length,0,0,0⟩) (hn.q.mono (by omega)) hpe (by omega) hn.d1 hso;refine⟨k,k1,?_⟩;refine co_ (af (af aA (az q2)) (az q1)) ((aeO (ay [pgV n.s.pg, .int .i64 (n.s.log.length:Int)] []) (ay [p0,pgV ⟨2,1,n.s.log.length,0,0,0⟩] (stB n.s)) ⟨2,1,n.s.log.length,0,0,0⟩ n (n.s.paged k ⟨2,1,n.s.log.length,0,0,0⟩)).trans ?_);clear q1 q2;have hdo:=hn.q.dk.off;have ht:=hn.q.sr.tb.ren;have ht2:∀ ρ,aF true ρ (n.s.paged k ⟨2,1,n.s.log.length,0,0,0⟩).tb.es=(n.s.paged k ⟨2,1,n.s.log.length,0,0,0⟩).tb.es:=hn.q.sr.tb.ren;have hlg:(n.s.paged k ⟨2,1,n.s.log.length,0,0,0⟩).log.length=n.s.log.length:=rfl;have e0:ah n.s.log.length=(n.s.log.length:Int):=rfl;generalize n.s.paged k ⟨2,1,n.s.log.length,0,0,0⟩=s2 at ht2 hlg;simp (disch:=first|omega|(simp only[bU,bY,bZ,bT,bW,aH]<;>omega)|fail) only[nh_,pg_,mz_,hdo,ht,ht2,hlg,e0,oO,pgV,pgC,ndB,stN,stB,mgV,dC,cZ,uf_,bf rfl,nf_]
theorem MK{m1 m2:MsgM}{b1 b2:List UInt8}(q1:CRX P 0 21 [mV m1] [] (.tuple ⟨[ax 1 b1.length 0 (bc b1), .int .i64 0]⟩) [])(q2:CRX P 0 21 [mV m2] [] (.tuple ⟨[ax 1 b2.length 0 (bc b2), .int .i64 0]⟩) []) :
  CallOkX P 0 21 (RlE (ay [mV m1] []) (ay [mV m2] []) b1 b2):=⟨fun args bs t hR v bs' hev=>by
 unfold RlE at hR;split at hR
 ·rename_i kk k c;cases hk:eqI k 1 with
  |true=>
   rw[hk]at hR;simp only[dD]at hR;subst hR;exact(az q1).run _ _ _ rfl _ _ hev
  |false=>
   rw[hk]at hR;simp only[dD]at hR;subst hR;exact(az q2).run _ _ _ rfl _ _ hev
 ·cases hR⟩
def ltV(l:List (List UInt8)):Value:=ax 1 l.length 0 (l.map fun b=>ax 1 b.length 0 (bc b))
theorem aeW{n:NdM}{a b:Nat}{e:Int}(hn:NdQ n 100000)(hg:Lg n.s.log a b)(hpg:n.s.pg=⟨e,2,0,0,0,0⟩)(he:1<=e/\e<=1048576)(hb:b=0\/2<=e){x:List UInt8}(hx:LtM (gJ e 2 a b) x) :
  CRX P 8 39 [p0] (ndB n) (.tuple ⟨[ltV [x], .int .i64 0]⟩) (ndB n):=by
 have hl:=hn.len;have q1:=BK hn.q hn.fol (by omega);have hle:=hg.le;have q2:=Aw (e:=e) (ro:=2) (l:=n.s.log) (by omega) hn.fol he (by rcases hb with hb | hb; have:=hle.2 hb; omega; omega) (by omega);have hen:(n.s.log.length:Int)=(a:Int)+b:=by rw[hg.n]; omega
 rw[hg.of,hen]at q2;have hat:n.at2 e=n:=by
  obtain⟨nu,mo,⟨o,pg,log,held,dk,w1,w2,w3,r1,r2,tb,rest⟩,ac,kn,hel⟩:=n;simp only at hpg;subst hpg
  rfl
 have q:=ac8 (ay [p0] (stB n.s)) (ay [.int .i64 e, .int .u8 2,aQ n.s.log] []) (ay [mV (gJ e 2 a b)] []) (ay [mV (gJ e 2 a b)] []) (fun _ _=>false) n e 2 ((a:Int)+b) (ofK a b) 0 0 [] x x;rw[hat]at q;refine co_ (af (af (af (af aA fF) (MK hx.enc hx.enc)) (az q2)) (az q1)) (q.trans ?_);clear q q1 q2;have hdo:=hn.q.dk.off;have ht:=hn.q.sr.tb.ren;have n3:([]:List CmM).length=0:=rfl;have n4:ECm.all ([]:List CmM)=[]:=rfl;simp (disch:=first|omega|(simp only[bU,bY,bZ,bT,bW,aH]<;>omega)|fail) only[nh_,mz_,hdo,ht,hpg,n3,n4,ltV,ji,lK,jH,lL,nN,gJ,mV,pgV,pgC,ndB,stN,stB,mgV,dC,cZ,uf_,bf rfl,nf_]
theorem sZ{n:NdM}{e ac:Int}(h:n.s.pg=⟨e,1,ac,0,0,0⟩):n.at1 e ac n.kn=n:=by
 obtain⟨nu,mo,⟨o,pg,log,held,dk,w1,w2,w3,r1,r2,tb,rest⟩,ac,kn,hel⟩:=n;simp only at h;subst h
 rfl
theorem Jk{n:NdM}{a b:Nat}{e ac:Int}(hn:NdQ n 100000)(hg:Lg n.s.log a b)(hpg:n.s.pg=⟨e,1,ac,0,0,0⟩)(he:1<=e/\e<=1048576)(hb:b=0\/2<=e)(hk:n.kn<0){x:List UInt8}(hx:LtM (gJ e 1 a b) x) :
  CRX P 8 39 [p0] (ndB n) (.tuple ⟨[ltV [x], .int .i64 0]⟩) (ndB n):=by
 have hl:=hn.len;have q1:=BK hn.q hn.fol (by omega);have hle:=hg.le;have q2:=Aw (e:=e) (ro:=1) (l:=n.s.log) (by omega) hn.fol he (by rcases hb with hb | hb; have:=hle.2 hb; omega; omega) (by omega);have hen:(n.s.log.length:Int)=(a:Int)+b:=by rw[hg.n]; omega
 rw[hg.of,hen]at q2;have hat:=sZ hpg;have q:=Su (ay [p0] (stB n.s)) (ay [.int .i64 e, .int .u8 1,aQ n.s.log] []) (ay [mV (gJ e 1 a b)] []) (ay [mV (gJ e 1 a b)] []) (fun _ _=>false) n e ac n.kn 1 ((a:Int)+b) (ofK a b) 0 0 [] x x;rw[hat]at q;refine co_ (af (af (af (af aA fF) (MK hx.enc hx.enc)) (az q2)) (az q1)) (q.trans ?_);clear q q1 q2;have hdo:=hn.q.dk.off;have ht:=hn.q.sr.tb.ren;have n3:([]:List CmM).length=0:=rfl;have n4:ECm.all ([]:List CmM)=[]:=rfl;have k1:geI n.kn 0=false:=hF_ (by omega);simp (disch:=first|omega|(simp only[bU,bY,bZ,bT,bW,aH]<;>omega)|fail) only[nh_,mz_,hdo,ht,hpg,n3,n4,k1,ltV,ji,lK,jH,lL,nN,gJ,mV,pgV,pgC,ndB,stN,stB,mgV,dC,cZ,uf_,bf rfl,nf_]
theorem SH{n:NdM}{a b kn:Nat}{e ac:Int}(hn:NdQ n 100000)(hg:Lg n.s.log a b)(hpg:n.s.pg=⟨e,1,ac,0,0,0⟩)(he:1<=e/\e<=1048576)(hb:b=0\/2<=e)(hk:n.kn=(kn:Int))(hkl:kn<=n.s.log.length){x y:List UInt8}(hx:LtM (gJ e 1 a b) x)(hy:LtM (GM e n.s.log kn) y) :
  CRX P 8 39 [p0] (ndB n) (.tuple ⟨[ltV [x,y], .int .i64 0]⟩) (ndB n):=by
 have hl:=hn.len;have q1:=BK hn.q hn.fol (by omega);have hle:=hg.le;have hE:aY n.s.log<=e:=by rcases hb with hb | hb; have:=hle.2 hb; omega; omega
 have q2:=Aw (e:=e) (ro:=1) (l:=n.s.log) (by omega) hn.fol he hE (by omega);have q3:=ac3 (e:=e) (log:=n.s.log) (kn:=kn) (by omega) hn.fol he hE hkl;have hen:(n.s.log.length:Int)=(a:Int)+b:=by rw[hg.n]; omega
 rw[hg.of,hen]at q2;have hat:=sZ hpg;rw[hk]at hat;have q:=Su (ay [p0] (stB n.s)) (ay [.int .i64 e, .int .u8 1,aQ n.s.log] []) (ay [mV (gJ e 1 a b)] []) (ay [mV (GM e n.s.log kn)] []) (ay [.int .i64 e,aQ n.s.log, .int .i64 (kn:Int)] []) n e ac (kn:Int) 1 ((a:Int)+b) (ofK a b) ((kn:Int)+1) (aY (n.s.log.take kn)) (shM n.s.log kn) x y;rw[hat]at q;refine co_ (af (af (af (af aA (az q3)) (MK hx.enc hy.enc)) (az q2)) (az q1)) (q.trans ?_);clear q q1 q2 q3;have hdo:=hn.q.dk.off;have ht:=hn.q.sr.tb.ren;have n3:([]:List CmM).length=0:=rfl;have n4:ECm.all ([]:List CmM)=[]:=rfl;have n5:([]:List (Int×Int)).length=0:=rfl;have n6:ESa.all ([]:List (Int×Int))=[]:=rfl;have e0:ah n.s.log.length=(n.s.log.length:Int):=rfl;have k1:geI (kn:Int) 0=true:=hT_ (by omega);have k2:ltI (n.s.log.length:Int) (kn:Int)=false:=lF_ (by omega);simp (disch:=first|omega|(simp only[bU,bY,bZ,bT,bW,aH]<;>omega)|fail) only[nh_,mz_,hdo,ht,hpg,hk,n3,n4,n5,n6,e0,k1,k2,ltV,ji,lK,jH,lL,nN,gJ,GM,mV,pgV,pgC,ndB,stN,stB,mgV,dC,cZ,uf_,bf rfl,nf_]
theorem Hu{C1 C2 C3:List Value->List Blk->Bool}{B1 B2 B3:List Blk}{v2:Value}
  (h1:∀ args bs,C1 args bs=true->CRX P 8 22 args bs (.tuple ⟨[ax 1 0 0 [], .int .i64 0]⟩) B1)
  (h2:∀ args bs,C2 args bs=true->CRX P 8 22 args bs (.tuple ⟨[v2, .int .i64 0]⟩) B2)
  (h3:∀ args bs,C3 args bs=true->CRX P 8 22 args bs (.tuple ⟨[ax 1 0 0 [], .int .i64 0]⟩) B3) :
  CallOkX P 8 22 (RcK C1 C2 C3 B1 B2 B3 v2):=⟨fun args bs t hR v bs' hev=>by
 unfold RcK at hR;have leaf:∀ {C:List Value->List Blk->Bool} {args:List Value} {w:Value} {B:List Blk},(C args bs=true->CRX P 8 22 args bs w B)->(DT.ite (C args bs) (DT.leaf (w,B)) DT.fail).eval=some (v,bs')->CRX P 8 22 args bs v bs':=by
  intro C args w B h hev;cases hc:C args bs with
  |false=>rw[hc]at hev; cases hev
  |true=>
   rw[hc]at hev;have hev:(DT.leaf (w,B)).eval=some (v,bs'):=hev;simp only[DT.eval,dD,dA]at hev;obtain⟨rfl,rfl⟩:=hev;exact h hc
 split at hR
 ·rename_i x t0 y k0 k c;cases e1:eqI k 1<;>cases e2:eqI k 2<;>rw[e1,e2]at hR<;>simp only[dD]at hR<;>subst hR
  ·exact leaf (h3 _ bs) hev
  ·exact leaf (h2 _ bs) hev
  ·exact leaf (h1 _ bs) hev
  ·exact leaf (h1 _ bs) hev
 ·cases hR⟩
theorem xR{a0:List Value}{b0:List Blk}{v:Value}{B:List Blk}(h:CRX P 8 22 a0 b0 v B):∀ args bs,ay a0 b0 args bs=true->CRX P 8 22 args bs v B:=fun args bs hc=>by
 obtain⟨rfl,rfl⟩:=tK hc;exact h
theorem D_{v:Value}{B:List Blk}:∀ (args:List Value) (bs:List Blk),(fun _ _=>false:List Value->List Blk->Bool) args bs=true->CRX P 8 22 args bs v B:=fun args bs hc=>by cases hc
theorem zF1(n b:Nat)(c:List Value):zN (.iface 18446744073709551617 (.agg ⟨.slice none n b::c⟩))=n:=by
 rw[<-fJ];exact Ha (by decide)
/-- What of a node the evaluator's normal form leans on. -/
structure NdT(n:NdM):Prop where
 t:fZ n.s.tb
theorem AZ{x y x2 y2:NdM}{r1 r2 r3:List UInt8}(tx:NdT x)(ty:NdT y)(tx2:NdT x2)(ty2:NdT y2)
  (q0:CRX P 8 39 [p0] (ndB x) (.tuple ⟨[ax 1 1 0 [ltK 1 r1], .int .i64 0]⟩) (ndB x2)) (q1:CRX P 8 22 [p0,ltK 1 r1] (ndB y) (.tuple ⟨[ax 1 0 0 [], .int .i64 0]⟩) (ndB y2)) :
  CRX P 16 10 [ptV 0,ptV 8] (aX x y) (.bool true) (aX x2 y2):=by
 refine co_ (af (af aA (Hu (xR q1) D_ D_)) (az q0)) ((agd (ay [p0] (ndB x)) (ay [p0,ltK 1 r1] (ndB y)) (fun _ _=>false) (fun _ _=>false) x y x2 y2 r1).trans ?_);clear q0 q1;have hx:=tx.t.ren;have hy:=ty.t.ren;have hx2:=tx2.t.ren;have hy2:=ty2.t.ren;simp (disch:=first|omega|(simp only[bU,bY,bZ,bT,bW,aH]<;>omega)|fail) only[nh_,mz_,zF1,hx,hy,hx2,hy2,ltK,mgV,dC,fJ,cZ,pgC,aX,jS,ndB,ndG,stN,uf_,bf rfl,nf_]
theorem ahk{x y x2 y2:NdM}{ot:TbM}{orest:List CmM}{r1 r2 r3:List UInt8}(tx:NdT x)(ty:NdT y)(tx2:NdT x2)(ty2:NdT y2)(to:fZ ot)
  (q0:CRX P 8 39 [p0] (ndB x) (.tuple ⟨[ax 1 1 0 [ltK 1 r1], .int .i64 0]⟩) (ndG x2 ot orest)) (q1:CRX P 8 22 [p0,ltK 1 r1] (ndB y) (.tuple ⟨[ax 1 0 0 [], .int .i64 0]⟩) (ndB y2)) :
  CRX P 16 10 [ptV 0,ptV 8] (aX x y) (.bool true) (jS x2 y2 ot orest):=by
 refine cK_ (af (af aA (Hu (xR q1) D_ D_)) (az q0)) ((agL (ay [p0] (ndB x)) (ay [p0,ltK 1 r1] (ndB y)) (fun _ _=>false) (fun _ _=>false) x y x2 y2 ot orest r1).trans ?_);clear q0 q1;have hx:=tx.t.ren;have hy:=ty.t.ren;have hx2:=tx2.t.ren;have hy2:=ty2.t.ren;have hto:=to.ren;simp (disch:=first|omega|(simp only[bU,bY,bZ,bT,bW,aH]<;>omega)|fail) only[nh_,mz_,zF1,hx,hy,hx2,hy2,hto,ltK,mgV,dC,fJ,cZ,pgC,aX,jS,ndB,ndG,stN,uf_,bf rfl,nf_]
theorem afN{x y:NdM}{r1 r2 r3:List UInt8}(tx:NdT x)(ty:NdT y)
  (q0:CRX P 8 39 [p0] (ndB x) (.tuple ⟨[ax 1 2 0 [ltK 1 r1,ltK 2 r2], .int .i64 0]⟩) (ndB x)) (q1:CRX P 8 22 [p0,ltK 1 r1] (ndB y) (.tuple ⟨[ax 1 0 0 [], .int .i64 0]⟩) (ndB y)) (q2:CRX P 8 22 [p0,ltK 2 r2] (ndB y) (.tuple ⟨[ax 1 0 0 [], .int .i64 0]⟩) (ndB y)) :
  CRX P 16 10 [ptV 0,ptV 8] (aX x y) (.bool true) (aX x y):=by
 refine co_ (af (af aA (Hu (xR q1) (xR q2) D_)) (az q0)) ((afA (ay [p0] (ndB x)) (ay [p0,ltK 1 r1] (ndB y)) (ay [p0,ltK 2 r2] (ndB y)) (fun _ _=>false) x y r1 r2).trans ?_);clear q0 q1 q2;have hx:=tx.t.ren;have hy:=ty.t.ren;simp (disch:=first|omega|(simp only[bU,bY,bZ,bT,bW,aH]<;>omega)|fail) only[nh_,mz_,zF1,hx,hy,ltK,mgV,dC,fJ,cZ,pgC,aX,jS,ndB,ndG,stN,uf_,bf rfl,nf_]
theorem ag0{x y x2 y2:NdM}{r1 r2 r3:List UInt8}(tx:NdT x)(ty:NdT y)(tx2:NdT x2)(ty2:NdT y2)
  (q0:CRX P 8 39 [p0] (ndB x) (.tuple ⟨[ax 1 2 0 [ltK 1 r1,ltK 2 r2], .int .i64 0]⟩) (ndB x)) (q1:CRX P 8 22 [p0,ltK 1 r1] (ndB y) (.tuple ⟨[ax 1 0 0 [], .int .i64 0]⟩) (ndB y)) (q2:CRX P 8 22 [p0,ltK 2 r2] (ndB y) (.tuple ⟨[ax 1 1 0 [ltK 3 r3], .int .i64 0]⟩) (ndB y2)) (q3:CRX P 8 22 [p0,ltK 3 r3] (ndB x) (.tuple ⟨[ax 1 0 0 [], .int .i64 0]⟩) (ndB x2)) :
  CRX P 16 10 [ptV 0,ptV 8] (aX x y) (.bool true) (aX x2 y2):=by
 refine co_ (af (af aA (Hu (xR q1) (xR q2) (xR q3))) (az q0)) ((af5 (ay [p0] (ndB x)) (ay [p0,ltK 1 r1] (ndB y)) (ay [p0,ltK 2 r2] (ndB y)) (ay [p0,ltK 3 r3] (ndB x)) x y x2 y2 r1 r2 r3).trans ?_);clear q0 q1 q2 q3;have hx:=tx.t.ren;have hy:=ty.t.ren;have hx2:=tx2.t.ren;have hy2:=ty2.t.ren;simp (disch:=first|omega|(simp only[bU,bY,bZ,bT,bW,aH]<;>omega)|fail) only[nh_,mz_,zF1,hx,hy,hx2,hy2,ltK,mgV,dC,fJ,cZ,pgC,aX,jS,ndB,ndG,stN,uf_,bf rfl,nf_]
theorem acL{l:List CmM}{k m:Nat}(hk:k<=l.length)(hl:l.length<=500)(hm:m<=500):CRX P 0 182 [dC (ofM l), .int .i64 (l.length:Int),dC (ofK k m), .int .i64 ((k:Int)+m)] [] (.tuple ⟨[.int .i64 (k:Int), .int .i64 0]⟩) []:=by
 have hlen:=Jp k m;have q0:=Js (l:=ofM l) (en:=(l.length:Int)) (by unfold ofM; split<;>simp);rw[ahh (by omega)]at q0;have q1:=Js (l:=ofK k m) (en:=(k:Int)+m) (by omega);rw[XP (by omega)]at q1;have q2:=agC q0 q1;cases l with
 |nil=>
  obtain rfl:k=0:=by simpa using hk
  have e0:dC (ofM [])=ax 2 0 0 []:=rfl;have e1:(([]:List CmM).length:Int)=0:=rfl;cases m with
  |zero=>
   have e2:dC (ofK 0 0)=ax 2 0 0 []:=rfl;have e3:((0:Nat):Int)+((0:Nat):Int)=0:=rfl;rw[e0,e1,e2,e3]at q2 ⊢;refine co_ (af aA q2) ((aeQ _).trans ?_);simp only[mz_,cZ,bC,xq,wG,aW]
   rfl
  |succ m=>
   have e2:dC (ofK 0 (m+1))=ax 2 1 0 [.int .i64 2, .int .i64 1]:=rfl;rw[e0,e1,e2]at q2 ⊢;refine co_ (af aA q2) ((abS _ (((0:Nat):Int)+((m+1:Nat):Int))).trans ?_);simp only[mz_,cZ,bC,xq,wG,aW]
   rfl
 |cons c l=>
  have e0:dC (ofM (c::l))=ax 2 1 0 [.int .i64 1, .int .i64 1]:=rfl;rw[e0]at q2 ⊢;generalize hN:(c::l).length=N at *;cases k with
  |zero=>
   cases m with
   |zero=>
    have e2:dC (ofK 0 0)=ax 2 0 0 []:=rfl;have e3:((0:Nat):Int)+((0:Nat):Int)=0:=rfl;rw[e2,e3]at q2 ⊢;refine co_ (af aA q2) ((ad5 _ (N:Int)).trans ?_);simp only[mz_,cZ,bC,xq,wG,aW]
    rfl
   |succ m=>
    have e2:dC (ofK 0 (m+1))=ax 2 1 0 [.int .i64 2, .int .i64 1]:=rfl;rw[e2]at q2 ⊢;refine co_ (af aA q2) ((ab4 _ (N:Int) (((0:Nat):Int)+((m+1:Nat):Int))).trans ?_);simp only[mz_,cZ,bC,xq,wG,aW]
    rfl
  |succ k=>
   have s2:leI 1 ((k+1:Nat):Int)=true:=mT_ (by omega);cases m with
   |zero=>
    have e2:dC (ofK (k+1) 0)=ax 2 1 0 [.int .i64 1, .int .i64 1]:=rfl;have e3:((k+1:Nat):Int)+((0:Nat):Int)=((k+1:Nat):Int):=by omega
    rw[e2,e3]at q2 ⊢;refine co_ (af aA q2) ((aco _ (N:Int) ((k+1:Nat):Int)).trans ?_);simp only[mz_,s2,cZ,bC,xq,wG,aW,bu];by_cases h:k+1<N
    ·have s3:ltI ((k+1:Nat):Int) (N:Int)=true:=lT_ (by omega);simp only[mz_,s3,bu]
    ·have s3:ltI ((k+1:Nat):Int) (N:Int)=false:=lF_ (by omega);have s4:(N:Int)=((k+1:Nat):Int):=by omega
     simp only[mz_,s3,bg];simp only[mz_,s4,s2,bu]
   |succ m=>
    have e2:dC (ofK (k+1) (m+1))=ax 2 2 0 [.int .i64 1, .int .i64 1, .int .i64 2, .int .i64 ((k:Int)+2)]:=rfl;rw[e2]at q2 ⊢;refine co_ (af aA q2) ((ad3 _ (N:Int) ((k:Int)+2) (((k+1:Nat):Int)+((m+1:Nat):Int))).trans ?_);have s1:dJ .i64 ((k:Int)+2) 1=((k+1:Nat):Int):=by unfold dJ; rw[wrap64 (by omega) (by omega)]; omega
    simp only[mz_,s1,s2,cZ,bC,xq,wG,aW,bu];by_cases h:k+1<N
    ·have s3:ltI ((k+1:Nat):Int) (N:Int)=true:=lT_ (by omega);simp only[mz_,s3,bu]
    ·have s3:ltI ((k+1:Nat):Int) (N:Int)=false:=lF_ (by omega);have s4:(N:Int)=((k+1:Nat):Int):=by omega
     simp only[mz_,s3,bg];simp only[mz_,s4,s2,bu]
theorem GY{p:PgM}{a b:Nat}(hp:pgE p=0)(he:p.ep=2)(hr:p.ro=3)(h:a+b<=1000):CRX P 0 103 [pgV p,mV (gJ 2 1 a b)] [] (.bool true) []:=by
 have q1:=nG p;rw[hp]at q1;have q2:=xE (SY (e:=2) (ro:=1) (a:=a) (b:=b) (by omega) (by omega) h (Or.inr (by omega)));refine co_ (af (af aA (az q2)) (az q1)) ((acm (ay [pgV p] []) (ay [mV (gJ 2 1 a b)] []) p (gJ 2 1 a b)).trans ?_);clear q1 q2;have e1:eqI p.ro 3=true:=by rw[hr]; rfl
 have e2:eqI (gJ 2 1 a b).e p.ep=true:=by rw[he]; rfl
 have e3:eqI (gJ 2 1 a b).k 1=true:=rfl;have e4:eqI (gJ 2 1 a b).ro 1=true:=rfl;simp only[me_,pg_,e1,e2,e3,e4,mV,dC,cZ,aQ,dY,pgV,pgC,bC,aW,bu]
theorem aaE{s:StaM}{l:List CmM}{k m:Nat}(hs:StQ s 100000)(hlog:s.log=l)(hf:fA 0 0 0 l=(0,0))(he:∀ c∈l,c.e=1)(hl:l.length<=60)(hh:s.held=0)(hpg:s.pg=fM)(hk:k<=l.length)(hm:m<=100) :
  CRX P 7 155 [p0,mV (gJ 2 1 k m)] (stB s) (.tuple ⟨[pgV ⟨2,3,0,2,k,0⟩, .int .i64 0]⟩) (stB s):=by
 subst hlog;have q1:=GY (p:=fM) (a:=k) (b:=m) (by decide) rfl rfl (by omega);have q2:=abT (s:=s) hs.off hs.dk.off hs.sr.tb;have q3:=IA (s:=s) hs.sr.tb (by omega) (fun c hc=>by have:=xH hf c hc; omega);have q4:=afM (l:=s.log) (by omega) hf he;have q5:=acL (l:=s.log) (m:=m) hk (by omega) (by omega);have q6:=aeP (f:=k) (by omega);have q:=Zn (ay [pgV fM,mV (gJ 2 1 k m)] []) (ay [p0] (stB s)) (ay [p0] (stB s)) (ay [aQ s.log] []) (ay [dC (ofM s.log), .int .i64 (s.log.length:Int),dC (ofK k m), .int .i64 ((k:Int)+m)] []) (ay [pgV fM, .int .i64 (k:Int), .int .i64 0] []) s (gJ 2 1 k m) (ofM s.log) (k:Int) ⟨2,3,0,2,k,0⟩;refine co_ (af (af (af (af (af (af aA (az q6)) (az q5)) (az q4)) (az q3)) (az q2)) (az q1)) (q.trans ?_);clear q q1 q2 q3 q4 q5 q6;have ht:=hs.sr.tb.ren;have e0:ah s.log.length=(s.log.length:Int):=rfl;simp (disch:=first|omega|(simp only[bU,bY,bZ,bT,bW,aH]<;>omega)|fail) only[me_,pg_,mz_,ht,hpg,hh,e0,yF,mV,gJ,dC,cZ,fM,pgV,stB,pgC,uf_,aZ rfl,dE rfl,dH rfl,bf rfl,nf_]
theorem acW{s:StaM}{l:List CmM}{k m:Nat}(hs:StQ s 100000)(hlog:s.log=l)(hf:fA 0 0 0 l=(0,0))(he:∀ c∈l,c.e=1)(hl:l.length<=60)(hh:s.held=0)(hrs:s.rs=[])(hpg:s.pg=fM)(h1:s.dk.d1.length<=3000000)(hk:k<=l.length)(hm:m<=100) :
  ∃ j,j<=2/\CRX P 7 84 [p0,mV (gJ 2 1 k m)] (stB s) (.tuple ⟨[pgV ⟨2,3,0,2,k,0⟩, .int .i64 0]⟩) (stB (s.paged j ⟨2,3,0,2,k,0⟩)):=by
 have q1:=aaE hs hlog hf he hl hh hpg hk hm;have hr0:fP s.rs=0:=by rw[hrs]; rfl
 obtain⟨j,j1,q2⟩:=xG (s:=s) (p:=⟨2,3,0,2,k,0⟩) hs (qx 2 (by decide) (by omega) (by omega)) (by rw[hlog]; omega) h1 (by rw[hlog,hr0,hh]; exact Gm 2 (by decide) he (by decide) (by omega) (by omega) (k:=0) (ba:=0));refine⟨j,j1,?_⟩;have q:=aeL (ay [p0,mV (gJ 2 1 k m)] (stB s)) (ay [p0,pgV ⟨2,3,0,2,k,0⟩] (stB s)) s (s.paged j ⟨2,3,0,2,k,0⟩) (gJ 2 1 k m) ⟨2,3,0,2,k,0⟩;rw[yP hpg]at q;refine co_ (af (af aA (az q2)) (az q1)) (q.trans ?_);clear q q1 q2;have ht:=hs.sr.tb.ren;have ht2:∀ ρ,aF true ρ (s.paged j ⟨2,3,0,2,k,0⟩).tb.es=(s.paged j ⟨2,3,0,2,k,0⟩).tb.es:=hs.sr.tb.ren;generalize s.paged j ⟨2,3,0,2,k,0⟩=s2 at ht2;simp (disch:=first|omega|(simp only[bU,bY,bZ,bT,bW,aH]<;>omega)|fail) only[me_,pg_,mz_,ht,ht2,hpg,oO,yF,mV,gJ,dC,cZ,fM,pgV,stB,pgC,uf_,aZ rfl,dE rfl,dH rfl,bf rfl,nf_]
theorem acI(k e ro en fr pv:Int)(n b n2 b2:Nat)(cs:List CmM):bz (.agg ⟨[.int .i64 k, .int .i64 e, .int .u8 ro, .int .i64 en, .iface 18446744073709551618 (.agg ⟨[.slice none n b]⟩), .int .i64 fr, .int .i64 pv, .iface 18446744073709551619 (.agg ⟨.slice none n2 b2::ECm.all cs⟩)]⟩) (.agg ⟨[.int .i64 k, .int .i64 e, .int .u8 ro, .int .i64 en, .iface 18446744073709551618 (.agg ⟨[.slice none n b]⟩), .int .i64 fr, .int .i64 pv, .iface 18446744073709551619 (.agg ⟨.slice none n2 b2::ECm.all cs⟩)]⟩)=true:=yF k e ro en fr pv n b n2 b2 [] cs
theorem RG(k e ro en fr pv:Int)(n b n2 b2:Nat)(st:List (Int×Int)):bz (.agg ⟨[.int .i64 k, .int .i64 e, .int .u8 ro, .int .i64 en, .iface 18446744073709551618 (.agg ⟨.slice none n b::ESa.all st⟩), .int .i64 fr, .int .i64 pv, .iface 18446744073709551619 (.agg ⟨[.slice none n2 b2]⟩)]⟩) (.agg ⟨[.int .i64 k, .int .i64 e, .int .u8 ro, .int .i64 en, .iface 18446744073709551618 (.agg ⟨.slice none n b::ESa.all st⟩), .int .i64 fr, .int .i64 pv, .iface 18446744073709551619 (.agg ⟨[.slice none n2 b2]⟩)]⟩)=true:=yF k e ro en fr pv n b n2 b2 st []
def noL:Value:=ax 1 0 0 []
theorem V4:∀ {l L:List CmM},Fol L l->∀ c∈l,(L.length:Int)<c.n
 |[],_,_,c,h=>by cases h
 |d::l,L,hf,c,h=>by
  obtain⟨a1,a2,a3,a4⟩:=hf.cons;rcases jY.1 h with rfl | h
  ·omega
  ·have:=V4 a4 c h;rw[bP]at this;simp only[jH,lL]at this;omega
theorem Pj{n:NdM}{e ac:Int}{m:MsgM}{b:List UInt8}(hn:NdQ n 100000)(hpg:n.s.pg=⟨e,1,ac,0,0,0⟩)(he:1<=e/\e<=1048576)(hm:m.e=e)(hx:LtM m b)(hac:0<=n.ac/\n.ac<=n.s.log.length)(ht:tells m=true) :
  CRX P 8 22 [p0,ax 1 b.length 0 (bc b)] (ndB n) (.tuple ⟨[noL, .int .i64 0]⟩) (ndB { n with ac:=max n.ac (min (max (max n.kn 0) m.en) n.s.log.length),kn:=max (max n.kn 0) m.en }):=by
 have hl:=hn.len;have hpe:=hn.pg;rw[hpg]at hpe;have q1:=hx.dec;have q2:=yS hpe he;have q3:=Ru (kn:=n.kn) hm hx.chk;rw[ht]at q3;have q4:=aeY (en:=(n.s.log.length:Int)) (ac:=n.ac) (to:=max (max n.kn 0) m.en) ⟨hac.1,hac.2,by omega⟩;have hat:=sZ hpg;rw[cond_true]at q3;generalize hk2:max (max n.kn 0) m.en=k2 at *;generalize ha2:max n.ac (min k2 (n.s.log.length:Int))=a2 at *;have q:=OG (ay [ax 1 b.length 0 (bc b)] []) (ay [pgV ⟨e,1,ac,0,0,0⟩, .int .i64 e] []) (ay [.int .i64 e, .int .i64 n.kn,mV m] []) (ay [.int .i64 (n.s.log.length:Int), .int .i64 n.ac, .int .i64 k2] []) n e ac n.kn m k2 a2 true b;rw[hat]at q;rw[hpg]at q;refine co_ (af (af (af (af aA (az q4)) (az q3)) (az q2)) (az q1)) (q.trans ?_);clear q q1 q2 q3 q4;have hdo:=hn.q.dk.off;have htb:=hn.q.sr.tb.ren;have e0:ah n.s.log.length=(n.s.log.length:Int):=rfl;have g1:ltI e e=false:=lF_ (by omega);have z0:neI 0 0=false:=rfl;simp (disch:=first|omega|(simp only[bU,bY,bZ,bT,bW,aH]<;>omega)|fail) only[me_,nh_,pg_,mz_,hdo,htb,hpg,hm,e0,g1,z0,noL,mV,pgV,pgC,ndB,stN,stB,mgV,dC,fJ,cZ,uf_,bf rfl,nf_]
theorem TE{n:NdM}{e ac:Int}{m:MsgM}{b:List UInt8}(hn:NdQ n 100000)(hpg:n.s.pg=⟨e,1,ac,0,0,0⟩)(he:1<=e/\e<=1048576)(hm:m.e=e)(hx:LtM m b)(ht:tells m=false) :
  CRX P 8 22 [p0,ax 1 b.length 0 (bc b)] (ndB n) (.tuple ⟨[noL, .int .i64 0]⟩) (ndB n):=by
 have hpe:=hn.pg;rw[hpg]at hpe;have q1:=hx.dec;have q2:=yS hpe he;have q3:=Ru (kn:=n.kn) hm hx.chk;rw[ht,cond_false]at q3;have hat:=sZ hpg;generalize hk2:max n.kn 0=k2 at *;have q:=OG (ay [ax 1 b.length 0 (bc b)] []) (ay [pgV ⟨e,1,ac,0,0,0⟩, .int .i64 e] []) (ay [.int .i64 e, .int .i64 n.kn,mV m] []) (fun _ _=>false) n e ac n.kn m k2 0 false b;rw[hat]at q;rw[hpg]at q;refine co_ (af (af (af (af aA fF) (az q3)) (az q2)) (az q1)) (q.trans ?_);clear q q1 q2 q3;have hdo:=hn.q.dk.off;have htb:=hn.q.sr.tb.ren;have e0:ah n.s.log.length=(n.s.log.length:Int):=rfl;have g1:ltI e e=false:=lF_ (by omega);have z0:neI 0 0=false:=rfl;simp (disch:=first|omega|(simp only[bU,bY,bZ,bT,bW,aH]<;>omega)|fail) only[me_,nh_,pg_,mz_,hdo,htb,hpg,hm,e0,g1,z0,noL,mV,pgV,pgC,ndB,stN,stB,mgV,dC,fJ,cZ,uf_,bf rfl,nf_]
theorem Sr{n:NdM}{e ac:Int}{m:MsgM}{b:List UInt8}(hn:NdQ n 100000)(hpg:n.s.pg=⟨e,1,ac,0,0,0⟩)(hm:m.e<e)(hx:LtM m b) :
  CRX P 8 22 [p0,ax 1 b.length 0 (bc b)] (ndB n) (.tuple ⟨[noL, .int .i64 0]⟩) (ndB n):=by
 have q1:=hx.dec;have hat:=sZ hpg;have q:=OG (ay [ax 1 b.length 0 (bc b)] []) (fun _ _=>false) (fun _ _=>false) (fun _ _=>false) n e ac n.kn m 0 0 false b;rw[hat]at q;rw[hpg]at q;refine co_ (af (af (af (af aA fF) fF) fF) (az q1)) (q.trans ?_);clear q q1;have hdo:=hn.q.dk.off;have htb:=hn.q.sr.tb.ren;have g1:ltI m.e e=true:=lT_ hm;have z0:neI 0 0=false:=rfl;simp (disch:=first|omega|(simp only[bU,bY,bZ,bT,bW,aH]<;>omega)|fail) only[me_,nh_,pg_,mz_,hdo,htb,hpg,g1,z0,noL,mV,pgV,pgC,ndB,stN,stB,mgV,dC,fJ,cZ,uf_,bf rfl,nf_]
theorem EN{n:NdM}{e:Int}(h:n.s.pg=⟨e,2,0,0,0,0⟩):n.at2 e=n:=by
 obtain⟨nu,mo,⟨o,pg,log,held,dk,w1,w2,w3,r1,r2,tb,rest⟩,ac,kn,hel⟩:=n;simp only at h;subst h
 rfl
theorem afS{n:NdM}{e:Int}{ro:Int}{a c:Nat}{b:List UInt8}(hn:NdQ n 100000)(hpg:n.s.pg=⟨e,2,0,0,0,0⟩)(he:1<=e/\e<=1048576)(hx:LtM (gJ e ro a c) b) :
  CRX P 8 22 [p0,ax 1 b.length 0 (bc b)] (ndB n) (.tuple ⟨[noL, .int .i64 0]⟩) (ndB n):=by
 have hpe:=hn.pg;rw[hpg]at hpe;have q1:=hx.dec;have q2:=yS hpe he;have hat:=EN hpg;have q:=af0 (ay [ax 1 b.length 0 (bc b)] []) (ay [pgV ⟨e,2,0,0,0,0⟩, .int .i64 e] []) n e e ro ((a:Int)+c) (ofK a c) b;rw[hat]at q;rw[hpg]at q;refine co_ (af (af aA (az q2)) (az q1)) (q.trans ?_);clear q q1 q2;have hdo:=hn.q.dk.off;have htb:=hn.q.sr.tb.ren;have g1:ltI e e=false:=lF_ (by omega);have z0:neI 0 0=false:=rfl;simp (disch:=first|omega|(simp only[bU,bY,bZ,bT,bW,aH]<;>omega)|fail) only[nh_,pg_,mz_,hdo,htb,hpg,g1,z0,noL,mV,pgV,pgC,ndB,stN,stB,mgV,dC,fJ,cZ,uf_,bf rfl,nf_]
theorem afk{n:NdM}{e fr pv:Int}{cs:List CmM}{b x:List UInt8}(hn:NdQ n 200000)(hpg:n.s.pg=⟨e,2,0,0,0,0⟩)(he:1<=e/\e<=1048576)(hx:LtM ⟨2,e,0,0,[],fr,pv,cs⟩ b)(hfr:fr=(n.s.log.length:Int)+1)(hpv:pv=aY n.s.log)(hc:cs.length<=4)
  (hf:Fol n.s.log cs) (hE:aY (n.s.log++cs)<=e) (hk:LtM ⟨3,e,0,((n.s.log++cs).length:Int),[],0,0,[]⟩ x) :
  ∃ n2 k,k<=17*cs.length/\n2=(if cs=[]then n else { n with s:=n.s.added k cs })/\CRX P 8 22 [p0,ax 1 b.length 0 (bc b)] (ndB n) (.tuple ⟨[ltV [x], .int .i64 0]⟩) (ndB n2):=by
 have hl:=hn.len;have hpe:=hn.pg;rw[hpg]at hpe;have hops:∀ c∈cs,1<=c.ops.length/\c.ops.length<=8:=fun c hc=>by
  obtain⟨_,_,hb⟩:=fU.1 (hf.all c hc);obtain⟨b1,b2,b3⟩:=dM.1 hb;omega
 have q1:=hx.dec;have q2:=yS hpe he;have q5:=BK (hn.q.mono (k:=100000) (by omega)) hn.fol (by omega);have q6:=ady (e:=e) (log:=n.s.log) (m:=⟨2,e,0,0,[],fr,pv,cs⟩) (by omega) hn.fol rfl rfl (by show cs.length<1000; omega) hfr hpv (fun c hc=>by have:=V4 hf c hc; omega) hops hx.chk;have hln:(((n.s.log++cs).length:Nat):Int)=(n.s.log.length:Int)+(cs.length:Int):=by rw[bP]; omega
 have q8:=adU (e:=e) (en:=((n.s.log++cs).length:Int)) he (by rw[hln]; omega);have q9:=hk.enc;have hat:=EN hpg;have hadd:∃ s2 k,k<=17*cs.length/\s2=(if cs=[]then n.s else n.s.added k cs)/\s2.log=n.s.log++cs/\fZ s2.tb/\s2.dk.off=false/\s2.pg=n.s.pg/\CRX P 7 38 [p0,aQ cs] (stB n.s) (.int .i64 0) (stB s2):=by
  by_cases h0:cs=[]
  ·subst h0;exact⟨n.s,0,by decide,by rw[if_pos rfl],by rw[gG],hn.q.sr.tb,hn.q.dk.off,rfl,acN (hn.q.mono (by omega)) (by omega)⟩
  ·have hso:kD n.s.held n.s.pg ((n.s.log.length:Int)+(cs.length:Int)) (aY cs) (fP n.s.rs)=true:=by
    have hr0:fP n.s.rs=0:=by rw[hn.rs]; rfl
    have e1:aY cs<=e:=by
     rw[yu h0]at hE;exact hE
    have f1:leI 0 ((n.s.log.length:Int)+(cs.length:Int))=true:=mT_ (by omega);have f2:leI (aY cs) e=true:=mT_ e1;rw[hr0,hpg];unfold kD;simp only[me_,nh_,pg_,mz_,f1,f2]
    rfl
   obtain⟨k,k1,q7⟩:=YC (s:=n.s) (l:=cs) (hn.q.mono (by omega)) hf h0 (by omega) (by omega) (by have h1:=sW n.s.log (mr hn.fol); omega) hso;exact⟨n.s.added k cs,k,k1,by rw[if_neg h0],rfl,hn.q.sr.tb.log cs,hn.q.dk.off,rfl,q7⟩
 obtain⟨s2,k,k1,k2,k3,k4,k5,k6,q7⟩:=hadd;refine⟨{ n with s:=s2 },k,k1,by rw[k2]; by_cases h0:cs=[]<;>simp[h0],?_⟩;have q:=agv (ay [ax 1 b.length 0 (bc b)] []) (ay [pgV ⟨e,2,0,0,0,0⟩, .int .i64 e] []) (ay [p0] (stB n.s)) (ay [.int .i64 e,aQ n.s.log,mV ⟨2,e,0,0,[],fr,pv,cs⟩] []) (ay [p0,aQ cs] (stB n.s)) (ay [.int .i64 e, .int .i64 ((n.s.log++cs).length:Int)] []) (ay [mV ⟨3,e,0,((n.s.log++cs).length:Int),[],0,0,[]⟩] []) n e e fr pv cs ⟨3,e,0,((n.s.log++cs).length:Int),[],0,0,[]⟩ s2 b x;rw[hat]at q;rw[hpg]at q;refine co_ (af (af (af (af (af (af (af aA (az q9)) (az q8)) (az q7)) (az q6)) (az q5)) (az q2)) (az q1)) (q.trans ?_);clear q q1 q2 q5 q6 q7 q8 q9;have hdo:=hn.q.dk.off;have htb:=hn.q.sr.tb.ren;have htb2:=k4.ren;have g1:ltI e e=false:=lF_ (by omega);have z0:neI 0 0=false:=rfl;have e0:ah s2.log.length=((n.s.log++cs).length:Int):=by rw[k3]; rfl
 have k6':=k6.trans hpg;generalize ((n.s.log++cs).length:Int)=en at *;simp (disch:=first|omega|(simp only[bU,bY,bZ,bT,bW,aH]<;>omega)|fail) only[me_,nh_,pg_,mz_,acI,show([]:List (Int×Int)).length=0 from rfl,show ESa.all ([]:List (Int×Int))=[] from rfl,show([]:List CmM).length=0 from rfl,show ECm.all ([]:List CmM)=[] from rfl,hdo,k5,htb,htb2,hpg,k6',g1,z0,e0,ltV,ji,lK,jH,lL,nN,noL,mV,pgV,pgC,ndB,stN,stB,mgV,dC,fJ,cZ,uf_,bf rfl,nf_]
theorem ahj{n:NdM}{ph f:Int}{a c:Nat}{b:List UInt8}(hn:NdQ n 100000)(hpg:n.s.pg=⟨2,3,0,ph,f,0⟩)(hac:a+c<=1000)(hx:LtM (gJ 2 1 a c) b) :
  CRX P 8 22 [p0,ax 1 b.length 0 (bc b)] (ndB n) (.tuple ⟨[noL, .int .i64 0]⟩) (ndB { n with he:=gJ 2 1 a c }):=by
 have hpe:=hn.pg;rw[hpg]at hpe;have q1:=hx.dec;have q2:=yS hpe ⟨by show(1:Int)<=2; decide,by show(2:Int)<=1048576; decide⟩;have q3:=GY (p:=⟨2,3,0,ph,f,0⟩) (a:=a) (b:=c) hpe rfl rfl hac;have hat:n.at3 ph f n.kn=n:=by
  obtain⟨nu,mo,⟨o,pg,log,held,dk,w1,w2,w3,r1,r2,tb,rest⟩,ac,kn,hel⟩:=n;simp only at hpg;subst hpg
  rfl
 have q:=agc (ay [ax 1 b.length 0 (bc b)] []) (ay [pgV ⟨2,3,0,ph,f,0⟩, .int .i64 2] []) (ay [pgV ⟨2,3,0,ph,f,0⟩,mV (gJ 2 1 a c)] []) n ph f n.kn 2 1 ((a:Int)+c) (ofK a c) b;rw[hat]at q;rw[hpg]at q;refine co_ (af (af (af aA (az q3)) (az q2)) (az q1)) (q.trans ?_);clear q q1 q2 q3;have hdo:=hn.q.dk.off;have htb:=hn.q.sr.tb.ren;have z0:neI 0 0=false:=rfl;simp (disch:=first|omega|(simp only[bU,bY,bZ,bT,bW,aH]<;>omega)|fail) only[nh_,pg_,mz_,show([]:List CmM).length=0 from rfl,show ECm.all ([]:List CmM)=[] from rfl,RG,show ltI 2 2=false from rfl,hdo,htb,hpg,z0,gJ,noL,mV,pgV,pgC,ndB,stN,stB,mgV,dC,fJ,cZ,uf_,bf rfl,nf_]
theorem agn{n:NdM}{ac:Int}{a c:Nat}{b:List UInt8}(hn:NdQ n 200000)(hpg:n.s.pg=⟨1,1,ac,0,0,0⟩)(hac:a+c<=1000)(hx:LtM (gJ 2 1 a c) b)(hE:aY n.s.log<=1) :
  ∃ k,k<=2/\CRX P 8 22 [p0,ax 1 b.length 0 (bc b)] (ndB n) (.tuple ⟨[noL, .int .i64 0]⟩) (ndB { n with s:=n.s.paged k fM,ac:=0,kn:=-1,he:=gJ 2 1 a c }):=by
 have hl:=hn.len;have hpe:=hn.pg;rw[hpg]at hpe;have q1:=hx.dec;have q2:=Y9 (p:=⟨1,1,ac,0,0,0⟩) (e:=2) hpe (by decide) (by show(1:Int)<2; decide);have q3:=GY (p:=fM) (a:=a) (b:=c) (by decide) rfl rfl hac;have hr0:fP n.s.rs=0:=by rw[hn.rs]; rfl
 have hso:kD n.s.held fM (n.s.log.length:Int) (aY n.s.log) (fP n.s.rs)=true:=by
  have e1:leI (aY n.s.log) 2=true:=mT_ (by omega);have e2:leI 0 (n.s.log.length:Int)=true:=mT_ (by omega);have e3:ltI (aY n.s.log) 2=true:=lT_ (by omega);rw[hr0];unfold kD fM;simp only[nh_,pg_,mz_,e1,e2,e3]
  rfl
 obtain⟨k,k1,q4⟩:=xG (s:=n.s) (p:=fM) (hn.q.mono (by omega)) (by decide) (by omega) hn.d1 hso;refine⟨k,k1,?_⟩;have hat:=sZ hpg;have hp2:(n.s.paged k fM).pg=⟨2,3,0,1,0,0⟩:=rfl;have ha2:(n.s.paged k fM).at2 1 0=n.s.paged k fM:=yP hp2;have q:=agA (ay [ax 1 b.length 0 (bc b)] []) (ay [pgV ⟨1,1,ac,0,0,0⟩, .int .i64 2] []) (ay [pgV fM,mV (gJ 2 1 a c)] []) (ay [p0,pgV fM] (stB n.s)) n 1 ac n.kn 2 1 ((a:Int)+c) (ofK a c) (n.s.paged k fM) b;rw[hat,ha2]at q;refine co_ (af (af (af (af aA (az q4)) (az q3)) (az q2)) (az q1)) (q.trans ?_);clear q q1 q2 q3 q4;have hdo:=hn.q.dk.off;have htb:=hn.q.sr.tb.ren;have htb2:∀ ρ,aF true ρ (n.s.paged k fM).tb.es=(n.s.paged k fM).tb.es:=hn.q.sr.tb.ren;have z0:neI 0 0=false:=rfl;generalize n.s.paged k fM=s2 at htb2 hp2;simp (disch:=first|omega|(simp only[bU,bY,bZ,bT,bW,aH]<;>omega)|fail) only[nh_,pg_,mz_,show([]:List CmM).length=0 from rfl,show ECm.all ([]:List CmM)=[] from rfl,RG,show ltI 2 1=false from rfl,hdo,htb,htb2,hpg,hp2,z0,gJ,fM,noL,mV,pgV,pgC,ndB,stN,stB,mgV,dC,fJ,cZ,uf_,bf rfl,nf_]
def NdM.at4(n:NdM)(ph f:Int):NdM:={ n with s:=n.s.at2 ph f,kn:=-1 }
def agU(C0 C1 C2 C3:List Value->List Blk->Bool)(p:PgM)(s2:StaM)(B:List Blk)(h:MsgM)(b1:List UInt8):Ct:=ak P rF 7 84 (aP C0 (.leaf (.tuple ⟨[pgV p, .int .i64 0]⟩,B))) (ak P aB 7 41 (aP C1 (.leaf (aQ s2.log,stB s2))) (ak P aB 0 125 (aP C2 (.leaf (.tuple ⟨[mV h, .int .i64 0]⟩,[]))) (ak P rF 0 21 (aP C3 (.leaf (.tuple ⟨[ax 1 b1.length 0 (bc b1), .int .i64 0]⟩,[]))) ctF)))
def StaM.pgd(s:StaM)(ro ph f:Int):StaM:={ s with pg:=⟨2,ro,0,ph,f,0⟩ }
theorem aeh(C0 C1 C2 C3:List Value->List Blk->Bool)(n:NdM)(ph f:Int)(p:PgM)(s2:StaM)(ro ph2 f2:Int)(h:MsgM)(b1:List UInt8):aN P E (agU C0 C1 C2 C3 p (s2.pgd ro ph2 f2) (stB (s2.pgd ro ph2 f2)) h b1) 50 jb [.val, .val] [64,0] 8 39 [p0] (ndB (n.at4 ph f)) =
 (let z:=NdM.at4 n ph f;let y:=StaM.pgd s2 ro ph2 f2;let x:=rg_ [2,1,1,1,3,5];let w:=aT x 33;let v:=aT x 55;let u:=bk_ v w0_;let t:=ro_ [0,8,68,10];let s:=nn_ u y (some (.tuple ⟨[.iface 18446744073709551617 (.agg ⟨[.slice none 1 0,fb_ b1.length 0 (bc b1)]⟩),io_ 0]⟩,ag (nh_ z.nu z.mo z.ac z.kn 1 2 z.he::dk_ y.dk 8 9 10 11 12::sb_ y y.pg 1 13 3 4 5::wb_ y 1 14 15::rb_ y 1 16::so_ 6 4 17 y.rest.length::tb_ 7:: .map (aF true t (aF true v y.tb.es)) y.tb.ck::nl_ (cz_ t u) y [])));
 (aj (eQ (eQ z.s.dk.off)) (dn_ w0_ z.s.dk none) (ns_ z.s (ae (C0 [pt_ 0,me_ z.he] (sm_ z.s (ro_ [2,1,1,1,3,5,24,5,23,1,29,4]))) (nw_ y w (ae (C1 [pt_ 0] (sw_ y (ro_ [2,1,1,1,3,5,46,5,45,1,51,4]) w)) (ae (C2 [io_ y.pg.ep, .int .u8 y.pg.ro,fa_ y.log.length 0 (Enc.all ECm y.log)] []) (ae (C3 [me_ h] []) (aj (eqI y.pg.ro 1) s s))))))))):=by kernel_rfl
theorem adL(C0 C1 C2 C3:List Value->List Blk->Bool)(n:NdM)(ph f:Int)(p:PgM)(s2:StaM)(ro ph2 f2:Int)(ot:TbM)(orest:List CmM)(h:MsgM)(b1:List UInt8):rP P E (agU C0 C1 C2 C3 p (s2.pgd ro ph2 f2) (stG (s2.pgd ro ph2 f2) ot orest) h b1) 50 jb [.val, .val] [64,0] 8 [] 39 [p0] (ndB (n.at4 ph f)) =
 (let z:=NdM.at4 n ph f;let y:=z.s;let x:=z.he;let w:=ro_ [0,8,22,10];let v:=StaM.pgd s2 ro ph2 f2;let u:=aT (rg_ [2,1,1,1,3,5]) 33;let t:=aT [2,1,3,4,33,34,35] 59;let s:=bk_ t w0_;let r:=orest.length;let q:=aG true u (Enc.all ECm orest);let o:=ro_ [0,8,33,3,72,11];
 let m:=nn_ s v (nb_ r 3 q (some (.tuple ⟨[.iface 18446744073709551617 (.agg ⟨[.slice none 1 0,fb_ b1.length 0 (bc b1)]⟩),io_ 0]⟩,ag (nh_ z.nu z.mo z.ac z.kn 1 2 x::dk_ v.dk 11 12 13 14 15::sb_ v v.pg 1 16 3 4 8::wb_ v 1 17 18::rb_ v 1 19::so_ 6 4 21 r::tb_ 7:: .map (aF true o (aF true u ot.es)) ot.ck::so_ 9 4 20 v.rest.length::tb_ 10:: .map (aF true o (aF true t v.tb.es)) v.tb.ck::nl_ (cz_ o s) v [lb_ o r 3 q 47]))));
 (aj (eQ (eQ y.dk.off)) (nn_ w0_ y (some (.tuple ⟨[fb_ 0 0 [],io_ 6]⟩,ag (.cells [io_ z.nu,io_ z.mo,pt_ 1, .pointer none,io_ z.ac,io_ z.kn,io_ x.k,io_ x.e, .int .u8 x.ro,io_ x.en,fc_ x.st.length 0 (Enc.all ESa x.st),io_ x.fr,io_ x.pv,fa_ x.cs.length 0 (Enc.all ECm x.cs)] 82 true::dk_ y.dk 8 9 10 11 12::sb_ y y.pg 1 13 3 4 5::wb_ y 1 14 15::rb_ y 1 16::so_ 6 4 17 y.rest.length::tb_ 7:: .map (aF true w y.tb.es) y.tb.ck::nl_ (cz_ w w0_) y [])))) (ns_ y (ae (C0 [pt_ 0,me_ x] (sm_ y (ro_ [2,1,1,1,3,5,24,5,23,1,29,4]))) (nw_ v u (ae (C1 [pt_ 0] (sw_ v (ro_ [2,1,1,1,3,2,33,3,50,5,49,1,55,4]) u)) (ae (C2 [io_ v.pg.ep, .int .u8 v.pg.ro,fa_ v.log.length 0 (Enc.all ECm v.log)] []) (ae (C3 [me_ h] []) (aj (eqI v.pg.ro 1) m m))))))))):=by kernel_rfl
theorem Yx{n:NdM}{s2:StaM}{ph f ro ph2 f2:Int}{p:PgM}{a b:Nat}{x:List UInt8}(ht0:fZ n.s.tb)(hdo:n.s.dk.off=false)(hpg:n.s.pg=⟨2,3,0,ph,f,0⟩)(hkn:n.kn=-1)
  (q0:CRX P 7 84 [p0,mV n.he] (stB n.s) (.tuple ⟨[pgV p, .int .i64 0]⟩) (stB s2)) (h2:StQ s2 100000) (hpg2:s2.pg=⟨2,ro,0,ph2,f2,0⟩) (hro:ro=2\/ro=3) (hg:Lg s2.log a b) (hl:s2.log.length<=60) (hx:LtM (gJ 2 ro a b) x) :
  CRX P 8 39 [p0] (ndB n) (.tuple ⟨[ltV [x], .int .i64 0]⟩) (ndB { n with s:=s2 }):=by
 have hf:=Fol.nil.1 hg.f;have q1:=BK h2 hf (by omega);have hle:=hg.le;have q2:=Aw (e:=2) (ro:=ro) (l:=s2.log) (by omega) hf (by decide) (by omega) (by omega);have hen:(s2.log.length:Int)=(a:Int)+b:=by rw[hg.n]; omega
 rw[hg.of,hen]at q2;have hat:n.at4 ph f=n:=by
  obtain⟨nu,mo,⟨o,pg,log,held,dk,w1,w2,w3,r1,r2,tb,rest⟩,ac,kn,hel⟩:=n;simp only at hpg hkn;subst hpg hkn
  rfl
 have hat2:s2.pgd ro ph2 f2=s2:=by
  obtain⟨o,pg,log,held,dk,w1,w2,w3,r1,r2,tb,rest⟩:=s2;simp only at hpg2;subst hpg2
  rfl
 have q:=aeh (ay [p0,mV n.he] (stB n.s)) (ay [p0] (stB s2)) (ay [.int .i64 2, .int .u8 ro,aQ s2.log] []) (ay [mV (gJ 2 ro a b)] []) n ph f p s2 ro ph2 f2 (gJ 2 ro a b) x;rw[hat,hat2]at q;refine co_ (af (af (af (af aA (az hx.enc)) (az q2)) (az q1)) (az q0)) (q.trans ?_);clear q q0 q1 q2;have htb:=ht0.ren;have htb2:=h2.sr.tb.ren;have hd2:=h2.dk.off;have r1:eqI ro 1=false:=by rcases hro with rfl | rfl<;>rfl
 have z0:neI 0 0=false:=rfl;simp (disch:=first|omega|(simp only[bU,bY,bZ,bT,bW,aH]<;>omega)|fail) only[me_,nh_,mz_,hdo,hd2,htb,htb2,hpg,hpg2,hkn,r1,z0,ltV,ji,lK,jH,lL,nN,gJ,mV,pgV,pgC,ndG,ndB,stN,stB,stG,mgV,dC,fJ,cZ,uf_,bf rfl,nf_]
theorem acd{n:NdM}{s2:StaM}{ph f ro ph2 f2:Int}{p:PgM}{a b:Nat}{x:List UInt8}{ot:TbM}{orest:List CmM}(ht0:fZ n.s.tb)(hdo:n.s.dk.off=false)(hpg:n.s.pg=⟨2,3,0,ph,f,0⟩)(hkn:n.kn=-1)
  (q0:CRX P 7 84 [p0,mV n.he] (stB n.s) (.tuple ⟨[pgV p, .int .i64 0]⟩) (stG s2 ot orest)) (h2:StQ s2 100000) (hpg2:s2.pg=⟨2,ro,0,ph2,f2,0⟩) (hro:ro=2\/ro=3) (hg:Lg s2.log a b) (hl:s2.log.length<=60) (hx:LtM (gJ 2 ro a b) x) (hto:fZ ot) :
  CRX P 8 39 [p0] (ndB n) (.tuple ⟨[ltV [x], .int .i64 0]⟩) (ndG { n with s:=s2 } ot orest):=by
 have hf:=Fol.nil.1 hg.f;have q1:=BK h2 hf (by omega);have hle:=hg.le;have q2:=Aw (e:=2) (ro:=ro) (l:=s2.log) (by omega) hf (by decide) (by omega) (by omega);have hen:(s2.log.length:Int)=(a:Int)+b:=by rw[hg.n]; omega
 rw[hg.of,hen]at q2;have hat:n.at4 ph f=n:=by
  obtain⟨nu,mo,⟨o,pg,log,held,dk,w1,w2,w3,r1,r2,tb,rest⟩,ac,kn,hel⟩:=n;simp only at hpg hkn;subst hpg hkn
  rfl
 have hat2:s2.pgd ro ph2 f2=s2:=by
  obtain⟨o,pg,log,held,dk,w1,w2,w3,r1,r2,tb,rest⟩:=s2;simp only at hpg2;subst hpg2
  rfl
 have q:=adL (ay [p0,mV n.he] (stB n.s)) (ay [p0] (stB s2)) (ay [.int .i64 2, .int .u8 ro,aQ s2.log] []) (ay [mV (gJ 2 ro a b)] []) n ph f p s2 ro ph2 f2 ot orest (gJ 2 ro a b) x;rw[hat,hat2]at q;refine cK_ (af (af (af (af aA (az hx.enc)) (az q2)) (az q1)) (az q0)) (q.trans ?_);clear q q0 q1 q2;have htb:=ht0.ren;have htb2:=h2.sr.tb.ren;have hd2:=h2.dk.off;have r1:eqI ro 1=false:=by rcases hro with rfl | rfl<;>rfl
 have z0:neI 0 0=false:=rfl;simp (disch:=first|omega|(simp only[bU,bY,bZ,bT,bW,aH]<;>omega)|fail) only[me_,nh_,mz_,hdo,hd2,htb,htb2,hto.ren,hpg,hpg2,hkn,r1,z0,ltV,ji,lK,jH,lL,nN,gJ,mV,pgV,pgC,ndG,ndB,stN,stB,stG,mgV,dC,fJ,cZ,uf_,bf rfl,nf_]
theorem NdQ.added{n:NdM}{l:List CmM}{k K:Nat}(h:NdQ n (K+20000))(hk:k<=17*l.length)(hf:Fol n.s.log l)(hl:n.s.log.length+l.length<=60):NdQ { n with s:=n.s.added k l } K:=
 ⟨ad2 h.q hk (by omega),h.mo,h.rs,Fol.nil.1 (Fol.app (l1:=n.s.log) (L:=[]) (Fol.nil.2 h.fol) hf),by show(n.s.log++l).length<=60; rw[bP]; exact hl,h.d1,h.pg⟩
theorem NdQ.paged{n:NdM}{p:PgM}{k K:Nat}(h:NdQ n (K+20000))(hk:k<=2)(hp:pgE p=0)(hd:n.s.dk.d1.length<=2000000):NdQ { n with s:=n.s.paged k p } K:=
 ⟨Jw h.q hk,h.mo,h.rs,h.fol,h.len,by
  show(n.s.dk.d1++frM (kw p)).length<=3000000;have:=tq p
  rw[bP]; omega,hp⟩
theorem NdQ.st{n n2:NdM}{K:Nat}(h:NdQ n K)(hs:n2.s=n.s)(hm:n2.mo=n.mo):NdQ n2 K:=by
 refine⟨?_,?_,?_,?_,?_,?_,?_⟩
 ·rw[hs]; exact h.q
 ·rw[hm]; exact h.mo
 ·rw[hs]; exact h.rs
 ·rw[hs]; exact h.fol
 ·rw[hs]; exact h.len
 ·rw[hs]; exact h.d1
 ·rw[hs]; exact h.pg
theorem NdQ.t{n:NdM}{K:Nat}(h:NdQ n K):NdT n:=⟨h.q.sr.tb⟩
theorem Lg.ones{l:List CmM}(hf:fA 0 0 0 l=(0,0))(h:∀ c∈l,c.e=1):Lg l l.length 0:=by
 refine⟨Fol.nil.2 hf,rfl,fun c hc=>h c (oW hc),fun c hc=>?_⟩;rw[qc]at hc;cases hc
theorem afw(L:List CmM)(s:Nat):L.take s++shM L s=L.take (s+4):=by unfold shM; rw[List.take_add]
theorem afp{L:List CmM}{s:Nat}(h:s<=L.length):(shM L s).length=min (s+4) L.length-s/\(shM L s).length<=4:=by
 unfold shM;rw[fH,gZ];omega
theorem ZJ(L:List CmM)(s:Nat):L.take (min (s+4) L.length)=L.take (s+4):=by
 by_cases h:s+4<=L.length
 ·rw[Nat.min_eq_left h]
 ·rw[Nat.min_eq_right (by omega),rC,oC (by omega)]
theorem MP{x y:NdM}{e ac:Int}{L:List CmM}{s a b K:Nat}(nx:NdQ x 100000)(ny:NdQ y (K+220000))(hL:Lg L a b)(lx:x.s.log=L)(ly:y.s.log=L.take s)(hs:s<=L.length)(he:1<=e/\e<=1048576)(hb:b=0\/2<=e)
  (px:x.s.pg=⟨e,1,ac,0,0,0⟩) (py:y.s.pg=⟨e,2,0,0,0,0⟩) (hkn:x.kn=s) (hac:x.ac=s) :
  ∃ y2,NdQ y2 (K+200000)/\y2.s.log=L.take (min (s+4) L.length)/\y2.s.pg=y.s.pg/\y2.s.held=y.s.held/\y2.s.dk.d1=y.s.dk.d1/\y2.nu=y.nu/\y2.mo=y.mo/\
   CRX P 16 10 [ptV 0,ptV 8] (aX x y) (.bool true) (aX { x with ac:=((min (s+4) L.length:Nat):Int),kn:=((min (s+4) L.length:Nat):Int) } y2):=by
 subst lx;have hl:=nx.len;have hE:aY x.s.log<=e:=by have hle:=hL.le; rcases hb with hb | hb; have:=hle.2 hb; omega; omega
 obtain⟨o1,o2,o3⟩:=WR (e:=e) (kn:=s) hL he hb (by omega) hs;obtain⟨r1,z1⟩:=wI (e:=e) (ro:=1) (a:=a) (b:=b) he (by omega) (by have:=hL.n; omega) hb;obtain⟨r2,z2⟩:=Xf o1 o2;obtain⟨l1,l2⟩:=afp hs;have happ:y.s.log++shM x.s.log s=x.s.log.take (min (s+4) x.s.log.length):=by rw[ly,afw,ZJ]
 have hln:(y.s.log++shM x.s.log s).length=min (s+4) x.s.log.length:=by rw[happ,fH]; omega
 have hyl:y.s.log.length=s:=by rw[ly,fH]; omega
 obtain⟨r3,z3⟩:=aht (e:=e) (en:=((y.s.log++shM x.s.log s).length:Int)) he (by rw[hln]; omega);have hE2:aY (y.s.log++shM x.s.log s)<=e:=by
  rw[happ];by_cases h0:min (s+4) x.s.log.length=0
  ·rw[h0,List.take_zero]; show(0:Int)<=e; omega
  ·have hle:=IL nx.fol _ (kQ (l:=x.s.log) (n:=min (s+4) x.s.log.length-1) (by omega));rw[BG (by omega) (by omega)];omega
 have q0:=SH nx hL px he hb hkn hs z1 z2;have q1:=afS (ny.mono (by omega)) py he z1;obtain⟨y2,k,k1,hy2,q2⟩:=afk (ny.mono (by omega)) py he z2 (by rw[hyl]) (by rw[ly]) l2 (by rw[ly]; exact o3) hE2 z3;have q3:=Pj nx px he rfl z3 (by rw[hac]; omega) rfl;have en2:((y.s.log++shM x.s.log s).length:Int)=((min (s+4) x.s.log.length:Nat):Int):=by rw[hln]
 have kn2:max (max x.kn 0) ((y.s.log++shM x.s.log s).length:Int)=((min (s+4) x.s.log.length:Nat):Int):=by rw[en2,hkn]; omega
 have ac2:max x.ac (min ((min (s+4) x.s.log.length:Nat):Int) (x.s.log.length:Int))=((min (s+4) x.s.log.length:Nat):Int):=by rw[hac]; omega
 rw[kn2,ac2]at q3;have hq:NdQ y2 (K+200000):=by
  rw[hy2];by_cases h0:shM x.s.log s=[]
  ·rw[if_pos h0]; exact ny.mono (by omega)
  ·rw[if_neg h0];exact NdQ.added (ny.mono (by omega)) k1 (by rw[ly]; exact o3) (by omega)
 have tx2:NdT { x with ac:=((min (s+4) x.s.log.length:Nat):Int),kn:=((min (s+4) x.s.log.length:Nat):Int) }:=⟨nx.q.sr.tb⟩
 refine⟨y2,hq,?_,?_,?_,?_,?_,?_,ag0 nx.t ny.t tx2 hq.t q0 q1 q2 q3⟩;all_goals rw[hy2]
 all_goals by_cases h0:shM x.s.log s=[]
 all_goals first | rw[if_pos h0] | rw[if_neg h0]
 ·rw[h0,gG]at happ; exact happ
 ·exact happ
 all_goals rfl
theorem abj(a b:Nat)(e ro:Int):(gJ e ro a b).en=(a:Int)+b:=rfl
theorem Sj{x y:NdM}{e ac:Int}{a b:Nat}(nx:NdQ x 100000)(ny:NdQ y 100000)(hL:Lg x.s.log a b)(he:1<=e/\e<=1048576)(hb:b=0\/2<=e)(px:x.s.pg=⟨e,2,0,0,0,0⟩)(py:y.s.pg=⟨e,1,ac,0,0,0⟩)(hac:0<=y.ac/\y.ac<=y.s.log.length) :
  CRX P 16 10 [ptV 0,ptV 8] (aX x y) (.bool true) (aX x { y with ac:=max y.ac (min (max (max y.kn 0) ((a:Int)+b)) y.s.log.length),kn:=max (max y.kn 0) ((a:Int)+b) }):=by
 have hl:=nx.len;obtain⟨r1,z1⟩:=wI (e:=e) (ro:=2) (a:=a) (b:=b) he (by omega) (by have:=hL.n; omega) hb;have q0:=aeW nx hL px he hb z1;have q1:=Pj ny py he rfl z1 hac rfl;rw[abj]at q1;exact AZ (r2:=[]) (r3:=[]) nx.t ny.t nx.t ⟨ny.q.sr.tb⟩ q0 q1
theorem Oz{x y:NdM}{ac ph f:Int}{a b:Nat}(nx:NdQ x 100000)(ny:NdQ y 100000)(hL:Lg x.s.log a b)(px:x.s.pg=⟨2,1,ac,0,0,0⟩)(hk:x.kn<0)(py:y.s.pg=⟨2,3,0,ph,f,0⟩) :
  CRX P 16 10 [ptV 0,ptV 8] (aX x y) (.bool true) (aX x { y with he:=gJ 2 1 a b }):=by
 have hl:=nx.len;have hn:=hL.n;obtain⟨r1,z1⟩:=wI (e:=2) (ro:=1) (a:=a) (b:=b) (by decide) (by decide) (by omega) (by omega);have q0:=Jk nx hL px (by decide) (by omega) hk z1;have q1:=ahj ny py (by omega) z1;exact AZ (r2:=[]) (r3:=[]) nx.t ny.t nx.t ⟨ny.q.sr.tb⟩ q0 q1
theorem adZ{x y:NdM}{ac ac1:Int}{a b K:Nat}(nx:NdQ x 100000)(ny:NdQ y (K+220000))(hL:Lg x.s.log a b)(px:x.s.pg=⟨2,1,ac,0,0,0⟩)(hk:x.kn<0)(py:y.s.pg=⟨1,1,ac1,0,0,0⟩)(hE:aY y.s.log<=1)(hd:y.s.dk.d1.length<=2000000) :
  ∃ k,k<=2/\NdQ { y with s:=y.s.paged k fM,ac:=0,kn:=-1,he:=gJ 2 1 a b } (K+200000)/\CRX P 16 10 [ptV 0,ptV 8] (aX x y) (.bool true) (aX x { y with s:=y.s.paged k fM,ac:=0,kn:=-1,he:=gJ 2 1 a b }):=by
 have hl:=nx.len;have hn:=hL.n;obtain⟨r1,z1⟩:=wI (e:=2) (ro:=1) (a:=a) (b:=b) (by decide) (by decide) (by omega) (by omega);have q0:=Jk nx hL px (by decide) (by omega) hk z1;obtain⟨k,k1,q1⟩:=agn (ny.mono (by omega)) py (by omega) z1 hE;have hq:NdQ { y with s:=y.s.paged k fM,ac:=0,kn:=-1,he:=gJ 2 1 a b } (K+200000):=NdQ.st (n:={ y with s:=y.s.paged k fM }) (NdQ.paged (ny.mono (by omega)) k1 (by decide) hd) rfl rfl;exact⟨k,k1,hq,AZ (r2:=[]) (r3:=[]) nx.t ny.t nx.t hq.t q0 q1⟩
theorem aeH{x y:NdM}{ac ac2:Int}{kn:Nat}(nx:NdQ x 100000)(ny:NdQ y 100000)(he:∀ c∈x.s.log,c.e=1)(px:x.s.pg=⟨1,1,ac,0,0,0⟩)(hk:x.kn<0\/(x.kn=kn/\kn<=x.s.log.length))(py:y.s.pg=⟨2,1,ac2,0,0,0⟩) :
  CRX P 16 10 [ptV 0,ptV 8] (aX x y) (.bool true) (aX x y):=by
 have hl:=nx.len;have hL:=Lg.ones nx.fol he;obtain⟨r1,z1⟩:=wI (e:=1) (ro:=1) (a:=x.s.log.length) (b:=0) (by decide) (by decide) (by omega) (by omega);have q1:=Sr ny py (show(1:Int)<2 by decide) z1;rcases hk with hk | ⟨hk,hk2⟩
 ·exact AZ (r2:=[]) (r3:=[]) nx.t ny.t nx.t ny.t (Jk nx hL px (by decide) (by omega) hk z1) q1
 ·obtain⟨o1,o2,o3⟩:=WR (e:=1) (kn:=kn) hL (by decide) (Or.inl rfl) (by omega) hk2;obtain⟨r2,z2⟩:=Xf o1 o2;have q2:=Sr ny py (show((1:Int)<2) by decide) z2;exact afN (r3:=[]) nx.t ny.t (SH nx hL px (by decide) (by omega) hk hk2 z1 z2) q1 q2
theorem QY{x y:NdM}{s2:StaM}{ph f ph2 f2 ac:Int}{p:PgM}{a b:Nat}(nx:NdQ x 100000)(ny:NdQ y 100000)(px:x.s.pg=⟨2,3,0,ph,f,0⟩)(hkn:x.kn=-1)(q0:CRX P 7 84 [p0,mV x.he] (stB x.s) (.tuple ⟨[pgV p, .int .i64 0]⟩) (stB s2))(h2:StQ s2 100000)(hpg2:s2.pg=⟨2,3,0,ph2,f2,0⟩)(hg:Lg s2.log a b)(hl:s2.log.length<=60)
  (py:y.s.pg=⟨2,1,ac,0,0,0⟩):CRX P 16 10 [ptV 0,ptV 8] (aX x y) (.bool true) (aX { x with s:=s2 } y):=by
 have hn:=hg.n;obtain⟨r1,z1⟩:=wI (e:=2) (ro:=3) (a:=a) (b:=b) (by decide) (by decide) (by omega) (by omega);have q0:=Yx nx.q.sr.tb nx.q.dk.off px hkn q0 h2 hpg2 (Or.inr rfl) hg hl z1;have q1:=TE ny py (by decide) rfl z1 rfl;exact AZ (r2:=[]) (r3:=[]) nx.t ny.t ⟨h2.sr.tb⟩ ny.t q0 q1
theorem YT{x y:NdM}{s2:StaM}{ot:TbM}{orest:List CmM}{ph f ph2 f2 ac:Int}{p:PgM}{a b:Nat}(nx:NdQ x 100000)(ny:NdQ y 100000)(px:x.s.pg=⟨2,3,0,ph,f,0⟩)(hkn:x.kn=-1)(q0:CRX P 7 84 [p0,mV x.he] (stB x.s) (.tuple ⟨[pgV p, .int .i64 0]⟩) (stG s2 ot orest))(h2:StQ s2 100000)(hpg2:s2.pg=⟨2,3,0,ph2,f2,0⟩)(hg:Lg s2.log a b)(hl:s2.log.length<=60)
  (py:y.s.pg=⟨2,1,ac,0,0,0⟩) (hto:fZ ot):CRX P 16 10 [ptV 0,ptV 8] (aX x y) (.bool true) (jS { x with s:=s2 } y ot orest):=by
 have hn:=hg.n;obtain⟨r1,z1⟩:=wI (e:=2) (ro:=3) (a:=a) (b:=b) (by decide) (by decide) (by omega) (by omega);have q0:=acd nx.q.sr.tb nx.q.dk.off px hkn q0 h2 hpg2 (Or.inr rfl) hg hl z1 hto;have q1:=TE ny py (by decide) rfl z1 rfl;exact ahk (r2:=[]) (r3:=[]) nx.t ny.t ⟨h2.sr.tb⟩ ny.t hto q0 q1
theorem aaZ{x y:NdM}{s2:StaM}{ph f ac:Int}{p:PgM}{a b:Nat}(nx:NdQ x 100000)(ny:NdQ y 100000)(px:x.s.pg=⟨2,3,0,ph,f,0⟩)(hkn:x.kn=-1)(q0:CRX P 7 84 [p0,mV x.he] (stB x.s) (.tuple ⟨[pgV p, .int .i64 0]⟩) (stB s2))(h2:StQ s2 100000)(hpg2:s2.pg=⟨2,2,0,0,0,0⟩)(hg:Lg s2.log a b)(hl:s2.log.length<=60)
  (py:y.s.pg=⟨2,1,ac,0,0,0⟩) (hac:0<=y.ac/\y.ac<=y.s.log.length):CRX P 16 10 [ptV 0,ptV 8] (aX x y) (.bool true) (aX { x with s:=s2 } { y with ac:=max y.ac (min (max (max y.kn 0) ((a:Int)+b)) y.s.log.length),kn:=max (max y.kn 0) ((a:Int)+b) }):=by
 have hn:=hg.n;obtain⟨r1,z1⟩:=wI (e:=2) (ro:=2) (a:=a) (b:=b) (by decide) (by decide) (by omega) (by omega);have q0:=Yx nx.q.sr.tb nx.q.dk.off px hkn q0 h2 hpg2 (Or.inl rfl) hg hl z1;have q1:=Pj ny py (by decide) rfl z1 hac rfl;rw[abj]at q1;exact AZ (r2:=[]) (r3:=[]) nx.t ny.t ⟨h2.sr.tb⟩ ⟨ny.q.sr.tb⟩ q0 q1
/-- Before the replica is promoted. -/
structure InA(x y:NdM)(L:List CmM)(s j:Nat):Prop where
 nx:NdQ x (20000*j+200000)
 ny:NdQ y (20000*j+200000)
 lx:x.s.log=L
 ly:y.s.log=L.take s
 hs:s<=L.length
 e1:∀ c∈L,c.e=1
 px:x.s.pg=⟨1,1,0,0,0,0⟩
 py:y.s.pg=⟨1,2,0,0,0,0⟩
 ac:x.ac=s
 kn:x.kn=s\/(x.kn=-1/\s=0)
 hx:x.s.held=0
 d3:x.s.dk.d3=[]
 dx:x.s.dk.d1=[]
 dy:y.s.dk.d1=[]
 nux:x.nu=0
 nuy:y.nu=1
theorem NdQ.hasac{n:NdM}{K:Nat}{ac kn:Int}(h:NdQ n K):NdQ { n with ac:=ac,kn:=kn } K:=h.st rfl rfl
theorem zt{l:List CmM}{e:Int}(h0:0<=e)(h:∀ c∈l,c.e<=e):aY l<=e:=by
 by_cases h1:l=[]
 ·subst h1; exact h0
 ·rw[nU h1]; exact h _ (kQ _)
theorem InA.com{x y:NdM}{L:List CmM}{s j:Nat}(h:InA x y L s (j+1))(hl:L.length<=50)(ops:List OpM) :
  ∃ v x1 L1,CRX P 8 9 [p0,bD ops] (ndB x) v (ndB x1)/\InA x1 y L1 s j/\L1.length<=L.length+1:=by
 obtain⟨nx,ny,rfl,ly,hs,e1,px,py,ac,kn,hx,d3,dx,dy,nux,nuy⟩:=h;cases hr:x.room ops with
 |false=>
  obtain⟨v,q⟩:=abw (nx.mono (by omega)) (by rw[px]) (by rw[ac]; omega) hr;exact⟨v,x,x.s.log,q,⟨nx.mono (by omega),ny.mono (by omega),rfl,ly,hs,e1,px,py,ac,kn,hx,d3,dx,dy,nux,nuy⟩,by omega⟩
 |true=>
  have hE:aY x.s.log<=1:=zt (by decide) fun c hc=>by rw[e1 c hc]; decide
  obtain⟨v,k,k1,q⟩:=X_ (nx.mono (by omega)) (by rw[px]) (by rw[px]) (by rw[px]; show(0:Int)<=_; omega) (by rw[px]; decide) (by rw[px]; exact hE) (by rw[ac]; omega) hr;have hb:iJ ops=0:=by
   unfold NdM.room at hr;rw[bV]at hr;have:=hr.1;unfold eqI at this;exact lY this
  have hf:=Jn (n:=x) (l:=ops) hb (by rw[px]; decide) (by rw[px]; exact hE) (by omega);refine⟨v,_,x.s.log++[x.com ops],q,⟨NdQ.added (nx.mono (by omega)) (by simpa using k1) hf (by simp; omega),ny.mono (by omega),rfl,?_,?_,?_,px,py,ac,kn,hx,d3,dx,dy,nux,nuy⟩,by simp⟩
  ·rw[ly,IW hs]
  ·rw[bP]; omega
  ·intro c hc;rcases sH.1 hc with hc | hc
   ·exact e1 c hc
   ·rw[EU]at hc;subst hc;show x.s.pg.ep=1;rw[px]
theorem InA.ba{x y:NdM}{L:List CmM}{s j:Nat}(h:InA x y L s j):∃ x1,CRX P 16 10 [ptV 0,ptV 8] (aX y x) (.bool true) (aX y x1)/\InA x1 y L s j/\x1.kn=s:=by
 obtain⟨nx,ny,rfl,ly,hs,e1,px,py,ac,kn,hx,d3,dx,dy,nux,nuy⟩:=h;have hyl:y.s.log.length=s:=by rw[ly,fH]; omega
 have hL:Lg y.s.log s 0:=by
  have:=Lg.ones ny.fol (fun c hc=>e1 c (oW (by rw[ly]at hc; exact hc)));rwa [hyl]at this
 have q:=Sj (e:=1) (ny.mono (by omega)) (nx.mono (by omega)) hL (by decide) (Or.inl rfl) py px (by rw[ac]; omega);have k2:max (max x.kn 0) ((s:Int)+((0:Nat):Int))=s:=by rcases kn with kn | ⟨kn,k0⟩<;>rw[kn]<;>omega
 have a2:max x.ac (min (s:Int) (x.s.log.length:Int))=s:=by rw[ac]; omega
 rw[k2,a2]at q;exact⟨_,q,⟨nx.hasac,ny,rfl,ly,hs,e1,px,py,rfl,Or.inl rfl,hx,d3,dx,dy,nux,nuy⟩,rfl⟩
theorem InA.ab{x y:NdM}{L:List CmM}{s j:Nat}(h:InA x y L s (j+1))(hk:x.kn=s):∃ x1 y1 s1,CRX P 16 10 [ptV 0,ptV 8] (aX x y) (.bool true) (aX x1 y1)/\InA x1 y1 L s1 j:=by
 obtain⟨nx,ny,rfl,ly,hs,e1,px,py,ac,kn,hx,d3,dx,dy,nux,nuy⟩:=h;obtain⟨y2,b1,b2,b3,b4,b5,b6,b7,q⟩:=MP (K:=20000*j) (nx.mono (by omega)) (ny.mono (by omega)) (Lg.ones nx.fol e1) rfl ly hs (by decide) (Or.inl rfl) px py hk ac;exact⟨_,y2,_,q,⟨nx.hasac.mono (by omega),b1,rfl,b2,by omega,e1,px,by rw[b3]; exact py,rfl,Or.inl rfl,hx,d3,dx,by rw[b5]; exact dy,nux,by rw[b6]; exact nuy⟩⟩
/-- Behind it,before they talk again. -/
structure InP(x y:NdM)(L M:List CmM)(s j:Nat):Prop where
 nx:NdQ x (20000*j+200000)
 ny:NdQ y (20000*j+200000)
 lx:x.s.log=L
 ly:y.s.log=L.take s++M
 hs:s<=L.length
 e1:∀ c∈L,c.e=1
 e2:∀ c∈M,c.e=2
 px:x.s.pg=⟨1,1,0,0,0,0⟩
 py:y.s.pg=⟨2,1,s,0,0,0⟩
 kx:x.kn=s\/(x.kn=-1/\s=0)
 ky:y.kn=-1
 acy:y.ac=s
 hx:x.s.held=0
 d3:x.s.dk.d3=[]
 dx:x.s.dk.d1=[]
 dy:y.s.dk.d1.length<=200
 nux:x.nu=0
 nuy:y.nu=1
theorem InA.prom{x y:NdM}{L:List CmM}{s j:Nat}(h:InA x y L s (j+1)):∃ y1,CRX P 8 12 [p0] (ndB y) (.tuple ⟨[.int .i64 2, .int .i64 0]⟩) (ndB y1)/\InP x y1 L [] s j:=by
 obtain⟨nx,ny,rfl,ly,hs,e1,px,py,ac,kn,hx,d3,dx,dy,nux,nuy⟩:=h;have hyl:y.s.log.length=s:=by rw[ly,fH]; omega
 have hE:aY y.s.log<=2:=zt (by decide) fun c hc=>by rw[e1 c (oW (by rw[ly]at hc; exact hc))]; decide
 obtain⟨k,k1,q⟩:=aeJ (ny.mono (by omega)) py hE;have hl:=nx.len;have hpe:pgE ⟨2,1,(y.s.log.length:Int),0,0,0⟩=0:=by
  have e1:geI (y.s.log.length:Int) 0=true:=hT_ (by omega);have e2:leI (y.s.log.length:Int) 1048576=true:=mT_ (by omega);unfold pgE DI;simp only[e1,e2]
  rfl
 refine⟨_,q,⟨nx.mono (by omega),NdQ.st (n:={ y with s:=y.s.paged k ⟨2,1,y.s.log.length,0,0,0⟩ }) (NdQ.paged (ny.mono (by omega)) k1 hpe (by rw[dy]; decide)) rfl rfl,rfl,?_,hs,e1,(fun c hc=>by cases hc),px,?_,kn,rfl,?_,hx,d3,dx,?_,nux,nuy⟩⟩
 ·show y.s.log=_; rw[gG]; exact ly
 ·show(⟨2,1,(y.s.log.length:Int),0,0,0⟩:PgM)=_; rw[hyl]
 ·show(y.s.log.length:Int)=s; rw[hyl]
 ·show(y.s.dk.d1++frM (kw ⟨2,1,y.s.log.length,0,0,0⟩)).length<=200;have:=tq ⟨2,1,y.s.log.length,0,0,0⟩;rw[dy,iY]; omega
theorem InP.com{x y:NdM}{L M:List CmM}{s j:Nat}(h:InP x y L M s (j+1))(hl:y.s.log.length<=50)(ops:List OpM) :
  ∃ v y1 M1,CRX P 8 9 [p0,bD ops] (ndB y) v (ndB y1)/\InP x y1 L M1 s j/\y1.s.log.length<=y.s.log.length+1:=by
 obtain⟨nx,ny,rfl,ly,hs,e1,e2,px,py,kx,ky,acy,hx,d3,dx,dy,nux,nuy⟩:=h;have hyl:y.s.log.length=s+M.length:=by rw[ly,bP,fH]; omega
 cases hr:y.room ops with
 |false=>
  obtain⟨v,q⟩:=abw (ny.mono (by omega)) (by rw[py]) (by rw[acy]; omega) hr;exact⟨v,y,M,q,⟨nx.mono (by omega),ny.mono (by omega),rfl,ly,hs,e1,e2,px,py,kx,ky,acy,hx,d3,dx,dy,nux,nuy⟩,by omega⟩
 |true=>
  have hE:aY y.s.log<=2:=zt (by decide) fun c hc=>by
   rw[ly]at hc;rcases sH.1 hc with hc | hc
   ·rw[e1 c (oW hc)]; decide
   ·rw[e2 c hc]; decide
  obtain⟨v,k,k1,q⟩:=X_ (ny.mono (by omega)) (by rw[py]) (by rw[py]) (by rw[py]; show(s:Int)<=_; omega) (by rw[py]; show(1:Int)<=2/\(2:Int)<=1048576; decide) (by rw[py]; exact hE) (by rw[acy]; omega) hr;have hb:iJ ops=0:=by
   unfold NdM.room at hr;rw[bV]at hr;have:=hr.1;unfold eqI at this;exact lY this
  have hf:=Jn (n:=y) (l:=ops) hb (by rw[py]; show(1:Int)<=2/\(2:Int)<=1048576; decide) (by rw[py]; exact hE) (by omega);refine⟨v,_,M++[y.com ops],q,⟨nx.mono (by omega),NdQ.added (ny.mono (by omega)) (by simpa using k1) hf (by simp; omega),rfl,?_,hs,e1,?_,px,py,kx,ky,acy,hx,d3,dx,dy,nux,nuy⟩,by show(y.s.log++[_]).length<=_; simp⟩
  ·show y.s.log++[y.com ops]=_; rw[ly,fG]
  ·intro c hc;rcases sH.1 hc with hc | hc
   ·exact e2 c hc
   ·rw[EU]at hc;subst hc;show y.s.pg.ep=2;rw[py]
theorem Px{l L M:List CmM}{s:Nat}(hf:fA 0 0 0 l=(0,0))(hl:l=L.take s++M)(hs:s<=L.length)(e1:∀ c∈L,c.e=1)(e2:∀ c∈M,c.e=2):Lg l s M.length:=by
 have h1:(L.take s).length=s:=by rw[fH]; omega
 refine⟨Fol.nil.2 hf,by rw[hl,bP,h1],fun c hc=>?_,fun c hc=>?_⟩
 ·rw[hl,IW (by omega),oC (by omega)]at hc;exact e1 c (oW hc)
 ·have:(L.take s++M).drop s=M:=by
   have:=List.drop_left (l₁:=L.take s) (l₂:=M);rwa [h1]at this
  rw[hl,this]at hc;exact e2 c hc
/-- The new primary,while nothing is shipped. -/
structure PrN(y:NdM)(L M:List CmM)(s K:Nat):Prop where
 ny:NdQ y K
 ly:y.s.log=L.take s++M
 hs:s<=L.length
 e1:∀ c∈L,c.e=1
 e2:∀ c∈M,c.e=2
 py:y.s.pg=⟨2,1,s,0,0,0⟩
 ky:y.kn=-1
 acy:y.ac=s
 nuy:y.nu=1
theorem PrN.mono{y:NdM}{L M:List CmM}{s K k:Nat}(h:PrN y L M s K)(hk:k<=K):PrN y L M s k:=⟨h.ny.mono hk,h.ly,h.hs,h.e1,h.e2,h.py,h.ky,h.acy,h.nuy⟩
theorem PrN.lg{y:NdM}{L M:List CmM}{s K:Nat}(h:PrN y L M s K):Lg y.s.log s M.length:=Px h.ny.fol h.ly h.hs h.e1 h.e2
theorem PrN.len{y:NdM}{L M:List CmM}{s K:Nat}(h:PrN y L M s K):y.s.log.length=s+M.length:=by rw[h.ly,bP,fH]; have:=h.hs; omega
/-- The old one,deposed. -/
structure DpN(x:NdM)(X M:List CmM)(s:Nat)(ph f:Int)(K:Nat):Prop where
 nx:NdQ x K
 lx:x.s.log=X
 e1:∀ c∈X,c.e=1
 px:x.s.pg=⟨2,3,0,ph,f,0⟩
 kx:x.kn=-1
 he:x.he=gJ 2 1 s M.length
 hh:0<=x.s.held
 dx:x.s.dk.d1.length<=1000
 nux:x.nu=0
theorem DpN.mono{x:NdM}{X M:List CmM}{s:Nat}{ph f:Int}{K k:Nat}(h:DpN x X M s ph f K)(hk:k<=K):DpN x X M s ph f k:=⟨h.nx.mono hk,h.lx,h.e1,h.px,h.kx,h.he,h.hh,h.dx,h.nux⟩
def Psd(x y x2 y2:NdM):Prop:=CRX P 16 10 [ptV 0,ptV 8] (aX x y) (.bool true) (aX x2 y2)
theorem ah3{x y:NdM}{L M:List CmM}{s K:Nat}(nx:NdQ x (K+220000))(hy:PrN y L M s 100000)(lx:x.s.log=L)(px:x.s.pg=⟨1,1,0,0,0,0⟩)(kx:x.kn=s\/(x.kn=-1/\s=0))(hx:x.s.held=0)(d3:x.s.dk.d3=[])(dx:x.s.dk.d1=[])(nux:x.nu=0) :
  ∃ x1,Psd x y x y/\Psd y x y x1/\DpN x1 L M s 1 0 (K+200000)/\x1.s.held=0/\x1.s.dk.d3=[]/\x1.s.dk.d1.length<=200:=by
 subst lx;have hs:=hy.hs;have q1:=aeH (kn:=s) (nx.mono (by omega)) hy.ny hy.e1 px (by rcases kx with k | ⟨k,_⟩; exact Or.inr ⟨k,hs⟩; exact Or.inl (by omega)) hy.py;obtain⟨k,k1,hq,q2⟩:=adZ (K:=K) hy.ny nx hy.lg hy.py (by have:=hy.ky; omega) px (zt (by decide) fun c hc=>by rw[hy.e1 c hc]; decide) (by rw[dx]; decide);refine⟨_,q1,q2,⟨hq,rfl,hy.e1,rfl,rfl,rfl,by show(0:Int)<=x.s.held; omega,?_,nux⟩,hx,d3,?_⟩
 all_goals (
  show(x.s.dk.d1++frM (kw fM)).length<=_;have:=tq fM
  rw[dx,iY]; omega)
theorem NL{x y:NdM}{h:MsgM}{K:Nat}(hq:NdQ x K)(e:x.he=h)(q:CRX P 16 10 [ptV 0,ptV 8] (aX y x) (.bool true) (aX y { x with he:=h })):Psd y x y x:=by subst e; exact q
theorem ahB{x y:NdM}{L M:List CmM}{s K:Nat}(hx:DpN x L M s 1 0 (K+220000))(hy:PrN y L M s 100000)(h0:x.s.held=0)(d3:x.s.dk.d3=[])(hd:x.s.dk.d1.length<=200)(hM:M.length<=100) :
  ∃ x1,Psd x y x1 y/\Psd y x1 y x1/\DpN x1 L M s 2 s (K+200000)/\x1.s.held=0/\x1.s.dk.d3=[]/\x1.s.dk.d1.length<=300:=by
 obtain⟨nx,rfl,e1,px,kx,he,hh,dx,nux⟩:=hx;have hl:=nx.len;obtain⟨k,k1,q0⟩:=acW (m:=M.length) (nx.q.mono (by omega)) rfl nx.fol e1 (by omega) h0 nx.rs px (by omega) hy.hs hM;have hq:NdQ { x with s:=x.s.paged k ⟨2,3,0,2,s,0⟩ } (K+200000):=NdQ.paged (nx.mono (by omega)) k1 (qx 2 (by decide) (by omega) (by have:=hy.hs; omega)) (by omega);have q1:=QY (ph2:=2) (f2:=s) (a:=x.s.log.length) (b:=0) (nx.mono (by omega)) hy.ny px kx (by rw[he]; exact q0) (hq.q.mono (by omega)) rfl (Lg.ones nx.fol e1) nx.len hy.py;have q2:=Oz hy.ny (hq.mono (by omega)) hy.lg hy.py (by have:=hy.ky; omega) rfl;have q2:=NL hq he q2;refine⟨_,q1,q2,⟨hq,rfl,e1,rfl,kx,he,hh,?_,nux⟩,h0,d3,?_⟩
 all_goals (
  show(x.s.dk.d1++frM (kw ⟨2,3,0,2,s,0⟩)).length<=_;have:=tq ⟨2,3,0,2,s,0⟩
  rw[bP]; omega)
theorem ahV{x y:NdM}{L M:List CmM}{s K:Nat}(hx:DpN x L M s 2 s (K+260000))(hy:PrN y L M s 100000)(h0:x.s.held=0)(d3:x.s.dk.d3=[])(hd:x.s.dk.d1.length<=300) :
  ∃ x1,Psd x y x1 y/\Psd y x1 y x1/\DpN x1 L M s 3 s (K+200000)/\x1.s.dk.d1.length<=400:=by
 obtain⟨nx,rfl,e1,px,kx,he,hh,dx,nux⟩:=hx;have hl:=nx.len;have hs:=hy.hs;have hforked:∃ sf,StQ sf (K+220000)/\sf.log=x.s.log/\0<=sf.held/\sf.rs=[]/\sf.dk.d1=x.s.dk.d1/\CRX P 7 157 [p0] (stB x.s) (.tuple ⟨[pgV ⟨2,3,0,3,s,0⟩, .int .i64 0]⟩) (stB sf):=by
  by_cases h:s<x.s.log.length
  ·obtain⟨j,c1,c2⟩:=Za (s:=x.s) (l:=x.s.log) (k:=s) (nx.q.mono (by omega)) rfl nx.fol e1 hl h0 d3 px h;exact⟨_,adl (nx.q.mono (by omega)) c1,rfl,by show(0:Int)<=((encS (xW x.s.log s)).length:Int); omega,nx.rs,rfl,c2⟩
  ·exact⟨x.s,nx.q.mono (by omega),rfl,hh,nx.rs,rfl,aaz (s:=x.s) (l:=x.s.log) (k:=s) (nx.q.mono (by omega)) rfl nx.fol e1 hl px (by omega)⟩
 obtain⟨sf,f1,f2,f3,f4,f5,qf⟩:=hforked;obtain⟨k,k1,q0⟩:=acE (s:=x.s) (s1:=sf) (l:=x.s.log) (k:=s) (m:=x.he) (nx.q.mono (by omega)) (f1.mono (by omega)) f2 e1 hl f3 f4 px (by rw[f5]; omega) hs qf;have hpE:pgE ⟨2,3,0,3,(s:Int),0⟩=0:=qx 3 (by decide) (by omega) (by omega);have hd1:(sf.paged k ⟨2,3,0,3,s,0⟩).dk.d1.length<=400:=by
  show(sf.dk.d1++frM (kw ⟨2,3,0,3,s,0⟩)).length<=400;have:=tq ⟨2,3,0,3,s,0⟩;rw[bP,f5]; omega
 have hq:NdQ { x with s:=sf.paged k ⟨2,3,0,3,s,0⟩ } (K+200000):=⟨Jw (f1.mono (by omega)) k1,nx.mo,f4,by show fA 0 0 0 sf.log=_; rw[f2]; exact nx.fol,by show sf.log.length<=60; rw[f2]; exact hl,yD hd1 (by decide),hpE⟩
 have hlg:Lg sf.log x.s.log.length 0:=by rw[f2]; exact Lg.ones nx.fol e1
 have q1:=QY (ph2:=3) (f2:=s) (a:=x.s.log.length) (b:=0) (nx.mono (by omega)) hy.ny px kx q0 (hq.q.mono (by omega)) rfl hlg hq.len hy.py;have q2:=Oz hy.ny (hq.mono (by omega)) hy.lg hy.py (by have:=hy.ky; omega) rfl;have q2:=NL hq he q2;exact⟨_,q1,q2,⟨hq,f2,e1,rfl,kx,he,f3,yD hd1 (by decide),nux⟩,hd1⟩
theorem ahI{x y:NdM}{L M:List CmM}{s K:Nat}(hx:DpN x L M s 3 s (K+260000))(hy:PrN y L M s 100000)(hd:x.s.dk.d1.length<=400) :
  ∃ x1 ot orest,CRX P 16 10 [ptV 0,ptV 8] (aX x y) (.bool true) (jS x1 y ot orest)/\Psd y x1 y x1/\DpN x1 (L.take s) M s 4 s (K+200000)/\x1.s.dk.d1.length<=500/\fZ ot:=by
 obtain⟨nx,rfl,e1,px,kx,he,hh,dx,nux⟩:=hx;have hl:=nx.len;have hs:=hy.hs;have hpE:pgE ⟨2,3,0,4,(s:Int),0⟩=0:=qx 4 (by decide) (by omega) (by omega);obtain⟨k,k1,q0⟩:=acF (s:=x.s) (l:=x.s.log) (k:=s) (m:=x.he) (nx.q.mono (by omega)) rfl nx.fol e1 hl hh nx.rs px (by omega) hs;have w3:StQ ((x.s.short s).paged k ⟨2,3,0,4,s,0⟩) (K+200000):=Jw (TN (nx.q.mono (by omega)) nx.rs) k1;have hd1:((x.s.short s).paged k ⟨2,3,0,4,s,0⟩).dk.d1.length<=500:=by
  show(x.s.dk.d1++frM (kw ⟨2,3,0,4,s,0⟩)).length<=500;have:=tq ⟨2,3,0,4,s,0⟩;rw[bP]; omega
 have hlog:((x.s.short s).paged k ⟨2,3,0,4,s,0⟩).log=x.s.log.take s:=rfl;have hln:(x.s.log.take s).length=s:=by rw[fH]; omega
 have hfol:fA 0 0 0 (x.s.log.take s)=(0,0):=by
  have:=Fol.nil.2 nx.fol;rw[<-sN s x.s.log]at this;exact Fol.nil.1 this.left
 have he1:∀ c∈x.s.log.take s,c.e=1:=fun c hc=>e1 c (oW hc);have hq:NdQ { x with s:=(x.s.short s).paged k ⟨2,3,0,4,s,0⟩ } (K+200000):=⟨w3,nx.mo,nx.rs,hfol,by show(x.s.log.take s).length<=60; omega,yD hd1 (by decide),hpE⟩
 have hlg:Lg (x.s.log.take s) (x.s.log.take s).length 0:=Lg.ones hfol he1;have q1:=YT (ph2:=4) (f2:=s) (a:=(x.s.log.take s).length) (b:=0) (nx.mono (by omega)) hy.ny px kx q0 (w3.mono (by omega)) rfl hlg hq.len hy.py nx.q.sr.tb;have q2:=Oz hy.ny (hq.mono (by omega)) hy.lg hy.py (by have:=hy.ky; omega) rfl;have q2:=NL hq he q2;exact⟨_,_,_,q1,q2,⟨hq,rfl,he1,rfl,kx,he,hh,yD hd1 (by decide),nux⟩,hd1,nx.q.sr.tb⟩
/-- A replica again,that has so many of the new primary's commits. -/
structure InR(x y:NdM)(L M:List CmM)(s t K:Nat):Prop where
 nx:NdQ x K
 ny:NdQ y 100000
 lx:x.s.log=(L.take s++M).take t
 ly:y.s.log=L.take s++M
 hs:s<=L.length
 ht:s<=t/\t<=s+M.length
 e1:∀ c∈L,c.e=1
 e2:∀ c∈M,c.e=2
 px:x.s.pg=⟨2,2,0,0,0,0⟩
 py:y.s.pg=⟨2,1,s,0,0,0⟩
 ky:y.kn=t
 acy:y.ac=t
 nux:x.nu=0
 nuy:y.nu=1
theorem InR.tot{x y:NdM}{L M:List CmM}{s t K:Nat}(h:InR x y L M s t K):y.s.log.length=s+M.length:=by rw[h.ly,bP,fH]; have:=h.hs; omega
theorem InR.lgy{x y:NdM}{L M:List CmM}{s t K:Nat}(h:InR x y L M s t K):Lg y.s.log s M.length:=Px h.ny.fol h.ly h.hs h.e1 h.e2
theorem InR.lgx{x y:NdM}{L M:List CmM}{s t K:Nat}(h:InR x y L M s t K):Lg x.s.log s (t-s):=by
 have h1:(L.take s).length=s:=by rw[fH]; have:=h.hs; omega
 have h2:x.s.log=L.take s++M.take (t-s):=by
  rw[h.lx,List.take_append,h1,oC (by have:=h.ht; omega)]
 have h3:=Px h.nx.fol h2 h.hs h.e1 (fun c hc=>h.e2 c (oW hc));rwa [fH,show min (t-s) M.length=t-s by have:=h.ht; omega]at h3
theorem InR.ship{x y:NdM}{L M:List CmM}{s t K:Nat}(h:InR x y L M s t (K+220000)):∃ x1 y1,Psd y x y1 x1/\InR x1 y1 L M s (min (t+4) (s+M.length)) (K+200000):=by
 have hy:=h.tot;obtain⟨x2,b1,b2,b3,b4,b5,b6,b7,q⟩:=MP (e:=2) h.ny h.nx h.lgy rfl (by rw[h.lx,h.ly]) (by have:=h.ht; omega) (by decide) (by omega) h.py h.px h.ky h.acy;rw[hy]at b2 q;rw[h.ly]at b2;exact⟨x2,_,q,⟨b1,h.ny.hasac,b2,h.ly,h.hs,by have:=h.ht; omega,h.e1,h.e2,by rw[b3]; exact h.px,h.py,rfl,rfl,by rw[b6]; exact h.nux,h.nuy⟩⟩
theorem InR.go{x y:NdM}{L M:List CmM}{s t K:Nat}(h:InR x y L M s t (K+220000)):∃ x1 y1 y2,Psd x y x y1/\Psd y1 x y2 x1/\y1.nu=1/\NdT y1/\InR x1 y2 L M s (min (t+4) (s+M.length)) (K+200000):=by
 have hy:=h.tot;have ht:=h.ht;have q:=Sj (e:=2) (h.nx.mono (by omega)) h.ny h.lgx (by decide) (by omega) h.px h.py (by rw[h.acy]; omega);have k2:max (max y.kn 0) ((s:Int)+((t-s:Nat):Int))=t:=by rw[h.ky]; omega
 have a2:max y.ac (min (t:Int) (y.s.log.length:Int))=t:=by rw[h.acy]; omega
 rw[k2,a2]at q;have h1:InR x { y with ac:=(t:Int),kn:=(t:Int) } L M s t (K+220000):=⟨h.nx,h.ny.hasac,h.lx,h.ly,h.hs,ht,h.e1,h.e2,h.px,h.py,rfl,rfl,h.nux,h.nuy⟩
 obtain⟨x1,y2,q2,h2⟩:=h1.ship;exact⟨x1,_,y2,q,q2,h.nuy,⟨h.ny.q.sr.tb⟩,h2⟩
theorem ahH{x y:NdM}{L M:List CmM}{s K:Nat}(hx:DpN x (L.take s) M s 4 s (K+260000))(hy:PrN y L M s 100000)(hd:x.s.dk.d1.length<=500) :
  ∃ x1 x2 y1 y2,Psd x y x1 y1/\Psd y1 x1 y2 x2/\y1.nu=1/\NdT x1/\NdT y1/\InR x2 y2 L M s (min (s+4) (s+M.length)) (K+200000):=by
 obtain⟨nx,lx,e1,px,kx,he,hh,dx,nux⟩:=hx;have hl:=nx.len;have hs:=hy.hs;have hln:x.s.log.length=s:=by rw[lx,fH]; omega
 obtain⟨k,k1,q0⟩:=adu (s:=x.s) (l:=x.s.log) (k:=s) (m:=x.he) (nx.q.mono (by omega)) rfl (by rw[lx]; exact e1) hl nx.rs px (by omega) (by omega);have hq:NdQ { x with s:=x.s.paged k ⟨2,2,0,0,0,0⟩ } (K+220000):=NdQ.paged (nx.mono (by omega)) k1 (by decide) (by omega);have hyl:=hy.len;have hlg:Lg x.s.log s 0:=by
  have:=Lg.ones nx.fol (by rw[lx]; exact e1);rwa [hln]at this
 have q:=aaZ (a:=s) (b:=0) (nx.mono (by omega)) hy.ny px kx q0 (hq.q.mono (by omega)) rfl hlg hl hy.py (by rw[hy.acy]; omega);have k2:max (max y.kn 0) ((s:Int)+((0:Nat):Int))=s:=by rw[hy.ky]; omega
 have a2:max y.ac (min (s:Int) (y.s.log.length:Int))=s:=by rw[hy.acy]; omega
 rw[k2,a2]at q;have hlx:x.s.log=(L.take s++M).take s:=by
  rw[lx,IW (by rw[fH]; omega),zh,Nat.min_self]
 have h1:InR { x with s:=x.s.paged k ⟨2,2,0,0,0,0⟩ } { y with ac:=(s:Int),kn:=(s:Int) } L M s s (K+220000):=⟨hq,hy.ny.hasac,hlx,hy.ly,hs,by omega,hy.e1,hy.e2,rfl,hy.py,rfl,rfl,nux,hy.nuy⟩
 obtain⟨x1,y2,q2,h2⟩:=h1.ship;exact⟨_,x1,_,y2,q,q2,hy.nuy,hq.t,⟨hy.ny.q.sr.tb⟩,h2⟩
theorem NK{C1 C2:List Value->List Blk->Bool}{B1 B2:List Blk}
  (h1:∀ args bs,C1 args bs=true->CRX P 16 10 args bs (.bool true) B1)
  (h2:∀ args bs,C2 args bs=true->CRX P 16 10 args bs (.bool true) B2) :
  CallOkX P 16 10 (RpK C1 C2 B1 B2):=⟨fun args bs t hR v bs' hev=>by
 unfold RpK at hR;have leaf:∀ {C:List Value->List Blk->Bool} {args:List Value} {bs:List Blk} {w:Value} {B:List Blk},(C args bs=true->CRX P 16 10 args bs w B)->(DT.ite (C args bs) (DT.leaf (w,B)) DT.fail).eval=some (v,bs')->CRX P 16 10 args bs v bs':=by
  intro C args bs w B h hev;cases hc:C args bs with
  |false=>rw[hc]at hev; cases hev
  |true=>
   rw[hc]at hev;have hev:(DT.leaf (w,B)).eval=some (v,bs'):=hev;simp only[DT.eval,dD,dA]at hev;obtain⟨rfl,rfl⟩:=hev;exact h hc
 split at hR
 ·rename_i k0 nu c t1 t2 l;cases e1:eqI nu 0<;>rw[e1]at hR<;>simp only[dD]at hR<;>subst hR
  ·exact leaf (h2 _ _) hev
  ·exact leaf (h1 _ _) hev
 ·cases hR⟩
theorem IZ{a0:List Value}{b0:List Blk}{v:Value}{B:List Blk}(h:CRX P 16 10 a0 b0 v B):∀ args bs,ay a0 b0 args bs=true->CRX P 16 10 args bs v B:=fun args bs hc=>by
 obtain⟨rfl,rfl⟩:=tK hc;exact h
theorem Aq{v:Value}{B:List Blk}:∀ (args:List Value) (bs:List Blk),(fun _ _=>false:List Value->List Blk->Bool) args bs=true->CRX P 16 10 args bs v B:=fun args bs hc=>by cases hc
theorem oG{n:NdM}{k:Int}(h:n.nu=k):n.nm k=n:=by subst h; rfl
theorem E8(l:List (List OpM)):(ELo.all l).length=l.length:=by rw[ELo.all_length]; exact uQ _
theorem aaJ{l:List (List OpM)}{i:Nat}(h:i<l.length):aV (ELo.all l) (atN (i:Int) 1)=ax 3 l[i].length 0 (EOp.all l[i]):=by
 have e:atN (i:Int) 1=i*ELo.sz+0:=by simp[atN]; exact(uQ i).symm
 rw[e,ELo.nth h (by decide)]; rfl
theorem Ph{n i:Nat}(h:i<n):Nat.ble (Nat.add (atN (i:Int) 1) 1) n=true:=dG (by
 show(i:Int).toNat*1+1<=n;have:(i:Int).toNat=i:=by omega
 omega)
theorem Bd(n b:Nat)(c:List Value):gm (.slice 3) (.iface 18446744073709551619 (.agg ⟨.slice none n b::c⟩))=true:=by
 rw[<-dY];simp only[gm,Oe (s:=3) (by decide)]
theorem aeu{n i:Nat}(h:i<n):Nat.ble (Nat.add (atN (i:Int) 3) 1) (Nat.mul n 3)=true:=iL h (by decide)
theorem aer{n i:Nat}(h:i<n):Nat.ble (Nat.add (Nat.add (atN (i:Int) 3) 1) 1) (Nat.mul n 3)=true:=iL (k:=2) h (by decide)
theorem aif(n:Nat):Nat.add n 0=n:=rfl
theorem af9(i:Nat):uU (i:Int) 3=((i % 3:Nat):Int):=by
 unfold uU;rw[Int.tmod_eq_emod_of_nonneg (by omega)]
 rfl
theorem UH{l:List (List OpM)}{i:Nat}(hi:i<l.length)(hl:l.length<=40):inI (i:Int) l.length=true/\bM .i64 (i:Int) 1=((i+1:Nat):Int):=
 ⟨jl (by omega) (by omega),by unfold bM; rw[wrap64 (by omega) (by omega)]; omega⟩
theorem ahS{x y x1:NdM}{v:Value}{l:List (List OpM)}{sp i:Nat}{C1 C2:List Value->List Blk->Bool}(tx:NdT x)(ty:NdT y)(tx1:NdT x1)(hy:y.nu=1)(hi:i<sp)(hs:sp<=l.length)(hl:l.length<=40)(h3:i % 3≠0) :
  aU P E (PQ (ay [p0,bD (l[i]'(by omega))] (ndB x)) C1 C2 v (ndB x1) (aX x1 x1) (aX (x1.nm 1) (x1.nm 0))) 50 3 Bl0 Dl0 (l0V l sp i) (aX x y)=some (.tuple ⟨exV .normal::l0V l sp ((i+1:Nat):Int)⟩,ag (aX x1 y)):=by
 have hi2:i<l.length:=by omega
 obtain⟨g2,a1⟩:=UH hi2 hl;have q:=OL (ay [p0,bD (l[i]'(by omega))] (ndB x)) C1 C2 v l sp i x y x1 x1 x1 x1 x1;rw[oG hy]at q;refine q.trans ?_;clear q;have g1:ltI (i:Int) (sp:Int)=true:=lT_ (by omega);have g3:eqI (uU (i:Int) 3) 0=false:=by rw[af9]; unfold eqI; exact iW (by omega)
 have c0:=aaJ hi2;have hx:=tx.t.ren;have hy':=ty.t.ren;have hx1:=tx1.t.ren;simp (disch:=first|omega|(simp only[bU,bY,bZ,bT,bW,aH]<;>omega)|fail) only[nh_,mz_,g1,g2,g3,a1,c0,hx,hy',hx1,E8,Ph hi2,Bd,zF,l0V,fzLo,fJ,cZ,mgV,dC,pgC,aX,ndB,stN,uf_,bf rfl,nf_]
 rfl
theorem ahe{x y x1 x2 x3 y3:NdM}{v:Value}{l:List (List OpM)}{sp i:Nat}(tx:NdT x)(ty:NdT y)(tx1:NdT x1)(tx2:NdT x2)(tx3:NdT x3)(ty3:NdT y3)(ny:y.nu=1)(nx2:x2.nu=0)(hi:i<sp)(hs:sp<=l.length)(hl:l.length<=40)(h3:i % 3=0) :
  aU P E (PQ (ay [p0,bD (l[i]'(by omega))] (ndB x)) (ay [ptV 0,ptV 8] (aX x2 y)) (ay [ptV 0,ptV 8] (aX y x1)) v (ndB x1) (aX x3 y3) (aX y x2)) 50 3 Bl0 Dl0 (l0V l sp i) (aX x y)=some (.tuple ⟨exV .normal::l0V l sp ((i+1:Nat):Int)⟩,ag (aX x3 y3)):=by
 have hi2:i<l.length:=by omega
 obtain⟨g2,a1⟩:=UH hi2 hl;have q:=OL (ay [p0,bD (l[i]'(by omega))] (ndB x)) (ay [ptV 0,ptV 8] (aX x2 y)) (ay [ptV 0,ptV 8] (aX y x1)) v l sp i x y x1 y x2 y3 x3;rw[oG ny,oG nx2]at q;refine q.trans ?_;clear q;have g1:ltI (i:Int) (sp:Int)=true:=lT_ (by omega);have g3:eqI (uU (i:Int) 3) 0=true:=by rw[af9]; unfold eqI; exact eU (by omega)
 have c0:=aaJ hi2;have hx:=tx.t.ren;have hy:=ty.t.ren;have hx1:=tx1.t.ren;have hx2:=tx2.t.ren;have hx3:=tx3.t.ren;have hy3:=ty3.t.ren;simp (disch:=first|omega|(simp only[bU,bY,bZ,bT,bW,aH]<;>omega)|fail) only[nh_,mz_,g1,g2,g3,a1,c0,hx,hy,hx1,hx2,hx3,hy3,E8,Ph hi2,Bd,zF,l0V,fzLo,fJ,cZ,mgV,dC,pgC,aX,ndB,stN,uf_,bf rfl,nf_]
 rfl
theorem agj{x y:NdM}{l:List (List OpM)}{sp:Nat}{C0 C1 C2:List Value->List Blk->Bool}{v:Value}(tx:NdT x)(ty:NdT y)(ny:y.nu=1) :
  aU P E (PQ C0 C1 C2 v (ndB x) (aX x x) (aX (x.nm 1) (x.nm 0))) 50 3 Bl0 Dl0 (l0V l sp sp) (aX x y)=some (.tuple ⟨exV (.exit 0)::l0V l sp sp⟩,ag (aX x y)):=by
 have q:=OL C0 C1 C2 v l sp sp x y x x x x x;rw[oG ny]at q;refine q.trans ?_;clear q;have g1:ltI (sp:Int) (sp:Int)=false:=lF_ (by omega);have hx:=tx.t.ren;have hy:=ty.t.ren;simp (disch:=first|omega|(simp only[bU,bY,bZ,bT,bW,aH]<;>omega)|fail) only[nh_,mz_,g1,hx,hy,E8,Bd,zF,l0V,fzLo,fJ,cZ,mgV,dC,pgC,aX,ndB,stN,uf_,bf rfl,nf_]
 rfl
theorem ZY{x y y1:NdM}{v:Value}{l:List (List OpM)}{sh:Int}{i:Nat}(tx:NdT x)(ty:NdT y)(ty1:NdT y1)(hi2:i<l.length)(hl:l.length<=40) :
  aU P E (ak P jb 8 9 (aP (ay [p0,bD l[i]] (ndB y)) (.leaf (v,ndB y1))) ctF) 50 3 Bl2 Dl2 (l0V l sh i) (aX x y)=some (.tuple ⟨exV .normal::l0V l sh ((i+1:Nat):Int)⟩,ag (aX x y1)):=by
 obtain⟨g2,a1⟩:=UH hi2 hl;refine(WH (ay [p0,bD l[i]] (ndB y)) v l sh i x y y1).trans ?_;have g1:ltI (i:Int) (ah l.length)=true:=lT_ (by unfold ah; omega);have c0:=aaJ hi2;have hx:=tx.t.ren;have hy:=ty.t.ren;have hy1:=ty1.t.ren;simp (disch:=first|omega|(simp only[bU,bY,bZ,bT,bW,aH]<;>omega)|fail) only[nh_,mz_,g1,g2,a1,c0,hx,hy,hy1,E8,Ph hi2,Bd,zF,l0V,fzLo,fJ,cZ,mgV,dC,pgC,aX,ndB,stN,uf_,bf rfl,nf_]
 rfl
theorem afW{x y:NdM}{v:Value}{l:List (List OpM)}{sh:Int}{C0:List Value->List Blk->Bool}(tx:NdT x)(ty:NdT y) :
  aU P E (ak P jb 8 9 (aP C0 (.leaf (v,ndB y))) ctF) 50 3 Bl2 Dl2 (l0V l sh (ah l.length)) (aX x y)=some (.tuple ⟨exV (.exit 2)::l0V l sh (ah l.length)⟩,ag (aX x y)):=by
 refine(WH C0 v l sh (ah l.length) x y y).trans ?_;have g1:ltI (ah l.length) (ah l.length)=false:=lF_ (by omega);have hx:=tx.t.ren;have hy:=ty.t.ren;simp (disch:=first|omega|(simp only[bU,bY,bZ,bT,bW,aH]<;>omega)|fail) only[nh_,mz_,g1,hx,hy,E8,Bd,zF,l0V,fzLo,fJ,cZ,mgV,dC,pgC,aX,ndB,stN,uf_,bf rfl,nf_]
 rfl
theorem VG{x y x1 y1 x2 y2:NdM}{sh:Int}{i:Nat}(tx:NdT x)(ty:NdT y)(tx1:NdT x1)(ty1:NdT y1)(tx2:NdT x2)(ty2:NdT y2)(nx:x.nu=0)(ny:y1.nu=1)(hi:i<60) :
  oD P E (BA (ay [ptV 0,ptV 8] (aX x y)) (ay [ptV 0,ptV 8] (aX y1 x1)) (aX x1 y1) (aX y2 x2)) 50 3 Bl4 Dl4 (l4V sh i) (aX x y)=some (.tuple ⟨exV .normal::l4V sh ((i+1:Nat):Int)⟩,ag (aX x2 y2)):=by
 have q:=afi (ay [ptV 0,ptV 8] (aX x y)) (ay [ptV 0,ptV 8] (aX y1 x1)) sh i x y x1 y1 x2 y2;rw[oG nx,oG ny]at q;refine q.trans ?_;clear q;have g1:ltI (i:Int) 60=true:=lT_ (by omega);have a1:bM .i64 (i:Int) 1=((i+1:Nat):Int):=by unfold bM; rw[wrap64 (by omega) (by omega)]; omega
 have hx:=tx.t.ren;have hy:=ty.t.ren;have hx1:=tx1.t.ren;have hy1:=ty1.t.ren;have hx2:=tx2.t.ren;have hy2:=ty2.t.ren;simp (disch:=first|omega|(simp only[bU,bY,bZ,bT,bW,aH]<;>omega)|fail) only[nh_,mz_,g1,a1,hx,hy,hx1,hy1,hx2,hy2,l4V,fJ,cZ,mgV,dC,pgC,aX,jS,ndB,stN,uf_,bf rfl,nf_]
 rfl
theorem afI{x y x1 y1 x2 y2:NdM}{ot:TbM}{orest:List CmM}{sh:Int}{i:Nat}(tx:NdT x)(ty:NdT y)(tx1:NdT x1)(ty1:NdT y1)(tx2:NdT x2)(ty2:NdT y2)(to:fZ ot)(nx:x.nu=0)(ny:y1.nu=1)(hi:i<60) :
  oD P E (BA (ay [ptV 0,ptV 8] (aX x y)) (ay [ptV 0,ptV 8] (aX y1 x1)) (jS x1 y1 ot orest) (aX y2 x2)) 50 3 Bl4 Dl4 (l4V sh i) (aX x y)=some (.tuple ⟨exV .normal::l4V sh ((i+1:Nat):Int)⟩,ag (jS x2 y2 ot orest)):=by
 have q:=aed (ay [ptV 0,ptV 8] (aX x y)) (ay [ptV 0,ptV 8] (aX y1 x1)) sh i x y x1 y1 x2 y2 ot orest;rw[oG nx,oG ny]at q;refine q.trans ?_;clear q;have g1:ltI (i:Int) 60=true:=lT_ (by omega);have a1:bM .i64 (i:Int) 1=((i+1:Nat):Int):=by unfold bM; rw[wrap64 (by omega) (by omega)]; omega
 have hx:=tx.t.ren;have hy:=ty.t.ren;have hx1:=tx1.t.ren;have hy1:=ty1.t.ren;have hx2:=tx2.t.ren;have hy2:=ty2.t.ren;have hto:=to.ren;simp (disch:=first|omega|(simp only[bU,bY,bZ,bT,bW,aH]<;>omega)|fail) only[nh_,mz_,g1,a1,hx,hy,hx1,hy1,hx2,hy2,hto,l4V,fJ,cZ,mgV,dC,pgC,aX,jS,ndB,stN,uf_,bf rfl,nf_]
 rfl
theorem WP{x y x1 y1 x2 y2:NdM}{ot:TbM}{orest:List CmM}{sh:Int}{i:Nat}(tx:NdT x)(ty:NdT y)(tx1:NdT x1)(ty1:NdT y1)(tx2:NdT x2)(ty2:NdT y2)(to:fZ ot)(nx:x.nu=0)(ny:y1.nu=1)(hi:i<60) :
  oD P E (BA (ay [ptV 0,ptV 8] (aX x y)) (ay [ptV 0,ptV 8] (aX y1 x1)) (aX x1 y1) (aX y2 x2)) 50 3 Bl4 Dl4 (l4V sh i) (jS x y ot orest)=some (.tuple ⟨exV .normal::l4V sh ((i+1:Nat):Int)⟩,ag (jS x2 y2 ot orest)):=by
 have q:=RU (ay [ptV 0,ptV 8] (aX x y)) (ay [ptV 0,ptV 8] (aX y1 x1)) sh i x y x1 y1 x2 y2 ot orest;rw[oG nx,oG ny]at q;refine q.trans ?_;clear q;have g1:ltI (i:Int) 60=true:=lT_ (by omega);have a1:bM .i64 (i:Int) 1=((i+1:Nat):Int):=by unfold bM; rw[wrap64 (by omega) (by omega)]; omega
 have hx:=tx.t.ren;have hy:=ty.t.ren;have hx1:=tx1.t.ren;have hy1:=ty1.t.ren;have hx2:=tx2.t.ren;have hy2:=ty2.t.ren;have hto:=to.ren;simp (disch:=first|omega|(simp only[bU,bY,bZ,bT,bW,aH]<;>omega)|fail) only[nh_,mz_,g1,a1,hx,hy,hx1,hy1,hx2,hy2,hto,l4V,fJ,cZ,mgV,dC,pgC,aX,jS,ndB,stN,uf_,bf rfl,nf_]
 rfl
theorem agQ{x y:NdM}{ot:TbM}{orest:List CmM}{sh:Int}{C1 C2:List Value->List Blk->Bool}(tx:NdT x)(ty:NdT y)(to:fZ ot)(nx:x.nu=0) :
  oD P E (BA C1 C2 (aX x (x.nm 1)) (aX x x)) 50 3 Bl4 Dl4 (l4V sh 60) (jS x y ot orest)=some (.tuple ⟨exV (.exit 4)::l4V sh 60⟩,ag (jS x y ot orest)):=by
 have q:=RU C1 C2 sh 60 x y x x x x ot orest;rw[oG nx]at q;refine q.trans ?_;clear q;have g1:ltI 60 60=false:=rfl;have hto:=to.ren;have hx:=tx.t.ren;have hy:=ty.t.ren;simp (disch:=first|omega|(simp only[bU,bY,bZ,bT,bW,aH]<;>omega)|fail) only[nh_,mz_,g1,hx,hy,hto,l4V,fJ,cZ,mgV,dC,pgC,aX,jS,ndB,stN,uf_,bf rfl,nf_]
 rfl
theorem aao{sh:Int}{y:List CmM}{i:Nat}(hi:i<y.length)(hl:y.length<=1000)(h1:y[i].n=(i:Int)+1)(h2:(y[i].e=1↔(i:Int)<sh)) :
  aU P E ctF 50 3 Bl6 Dl6 (l6V sh y i) []=some (.tuple ⟨exV .normal::l6V sh y ((i+1:Nat):Int)⟩,ag []):=by
 obtain⟨g1,g2,a1⟩:=lH hi (by omega);have g3:neI y[i].n ((i+1:Nat):Int)=false:=by rw[h1]; exact bne_self_eq_false _
 have g4:eqB (eqI y[i].e 1) (ltI (i:Int) sh)=true:=by
  by_cases h:(i:Int)<sh
  ·have e1:eqI y[i].e 1=true:=eT_ (h2.2 h);have e2:ltI (i:Int) sh=true:=lT_ h;rw[e1,e2]; rfl
  ·have e1:eqI y[i].e 1=false:=eF_ (fun e=>h (h2.1 e));have e2:ltI (i:Int) sh=false:=lF_ h;rw[e1,e2]; rfl
 rw[XE];simp only[mz_,g1,g2,a1,g3,g4,iL hi (dm 3),jZ hi,pR hi,iy,lW,mZ,aeu hi,aer hi,aif,l6V,aQ,dY,show eQ true=false from rfl,show Nat.beq 3 3=true from rfl,fV,aW,bu,bg]
 rfl
theorem agk{sh:Int}{y:List CmM}:aU P E ctF 50 3 Bl6 Dl6 (l6V sh y y.length) []=some (.tuple ⟨exV (.exit 6)::l6V sh y y.length⟩,ag []):=by
 rw[XE];simp only[mz_,kU,l6V,aQ,dY,bg]
 rfl
theorem InA.mono{x y:NdM}{L:List CmM}{s j k:Nat}(h:InA x y L s j)(hk:k<=j):InA x y L s k:=
 ⟨h.nx.mono (by omega),h.ny.mono (by omega),h.lx,h.ly,h.hs,h.e1,h.px,h.py,h.ac,h.kn,h.hx,h.d3,h.dx,h.dy,h.nux,h.nuy⟩
theorem Jy{C0 C1 C2:List Value->List Blk->Bool}{v:Value}{B0 B1 B2:List Blk}(h0:CallOkX P 8 9 (aP C0 (.leaf (v,B0))))
  (h1:∀ args bs,C1 args bs=true->CRX P 16 10 args bs (.bool true) B1)
  (h2:∀ args bs,C2 args bs=true->CRX P 16 10 args bs (.bool true) B2):CtOk P (PQ C0 C1 C2 v B0 B1 B2):=af (af aA (NK h1 h2)) h0
theorem JR{l:List (List OpM)}{sp:Nat}(hs:sp<=l.length)(hl:l.length<=40):∀ (k i J:Nat) (x y:NdM) (L:List CmM) (s:Nat),i+k=sp->L.length<=i->InA x y L s (J+2*k)->
  ∃ x1 y1 L1 s1,LRX P 3 0 Bl0 Dl0.head (l0V l sp i) (aX x y) .normal (l0V l sp sp) (aX x1 y1)/\InA x1 y1 L1 s1 J/\L1.length<=sp
 |0,i,J,x,y,L,s,h,hL,hA=>by
  obtain rfl:i=sp:=by omega
  exact⟨x,y,L,s,ls_ (Jy fF Aq Aq) JI (e:= .exit 0) (agj (C0:=fun _ _=>false) (C1:=fun _ _=>false) (C2:=fun _ _=>false) (v:= .bool true) hA.nx.t hA.ny.t hA.nuy) (by intro h; cases h),hA,hL⟩
 |k+1,i,J,x,y,L,s,h,hL,hA=>by
  have hi:i<sp:=by omega
  have hA:InA x y L s ((J+2*k+1)+1):=hA.mono (by omega);obtain⟨v,x1,L1,q0,h1,hL1⟩:=hA.com (by omega) (l[i]'(by omega));by_cases h3:i % 3=0
  ·obtain⟨x2,q1,h2,hk2⟩:=h1.ba;obtain⟨x3,y3,s3,q2,h4⟩:=h2.ab hk2;obtain⟨xe,ye,Le,se,ih,hAe,hLe⟩:=JR hs hl k (i+1) J x3 y3 L1 s3 (by omega) (by omega) h4;exact⟨xe,ye,Le,se,la_ (Jy (az q0) (IZ q2) (IZ q1)) JI (ahe hA.nx.t hA.ny.t h1.nx.t h2.nx.t h4.nx.t h4.ny.t hA.nuy h2.nux hi hs hl h3) ih,hAe,hLe⟩
  ·obtain⟨xe,ye,Le,se,ih,hAe,hLe⟩:=JR hs hl k (i+1) J x1 y L1 s (by omega) (by omega) (h1.mono (by omega));exact⟨xe,ye,Le,se,la_ (Jy (az q0) Aq Aq) JI (ahS (C1:=fun _ _=>false) (C2:=fun _ _=>false) hA.nx.t hA.ny.t h1.nx.t hA.nuy hi hs hl h3) ih,hAe,hLe⟩
theorem SL{l:List (List OpM)}(hl:l.length<=40){sh:Int}:∀ (k i J:Nat) (x y:NdM) (L M:List CmM) (s:Nat),i+k=l.length->y.s.log.length<=i->InP x y L M s (J+k)->
  ∃ y1 M1,LRX P 3 2 Bl2 Dl2.head (l0V l sh i) (aX x y) .normal (l0V l sh (ah l.length)) (aX x y1)/\InP x y1 L M1 s J/\y1.s.log.length<=l.length
 |0,i,J,x,y,L,M,s,h,hL,hA=>by
  obtain rfl:i=l.length:=by omega
  exact⟨y,M,ls_ (af aA fF) TS (e:= .exit 2) (afW (C0:=fun _ _=>false) (v:= .bool true) hA.nx.t hA.ny.t) (by intro h; cases h),hA,hL⟩
 |k+1,i,J,x,y,L,M,s,h,hL,hA=>by
  have hi:i<l.length:=by omega
  obtain⟨v,y1,M1,q0,h1,hL1⟩:=InP.com (j:=J+k) hA (by omega) l[i];obtain⟨ye,Me,ih,hAe,hLe⟩:=SL hl k (i+1) J x y1 L M1 s (by omega) (by omega) h1;exact⟨ye,Me,la_ (af aA (az q0)) TS (ZY hA.nx.t hA.ny.t h1.ny.t hi hl) ih,hAe,hLe⟩
theorem InR.mono{x y:NdM}{L M:List CmM}{s t K k:Nat}(h:InR x y L M s t K)(hk:k<=K):InR x y L M s t k:=
 ⟨h.nx.mono hk,h.ny,h.lx,h.ly,h.hs,h.ht,h.e1,h.e2,h.px,h.py,h.ky,h.acy,h.nux,h.nuy⟩
theorem xJ{x y x1 y1:NdM}{B1 B2:List Blk}(h1:CRX P 16 10 [ptV 0,ptV 8] (aX x y) (.bool true) B1)(h2:CRX P 16 10 [ptV 0,ptV 8] (aX y1 x1) (.bool true) B2) :
  CtOk P (BA (ay [ptV 0,ptV 8] (aX x y)) (ay [ptV 0,ptV 8] (aX y1 x1)) B1 B2):=af aA (NK (IZ h1) (IZ h2))
theorem adg{B1 B2:List Blk}:CtOk P (BA (fun _ _=>false) (fun _ _=>false) B1 B2):=af aA (NK Aq Aq)
theorem RD{sh:Int}{ot:TbM}{orest:List CmM}(to:fZ ot){L M:List CmM}{s:Nat}:∀ (k i:Nat) (x y:NdM) (t:Nat),i+k=60->InR x y L M s t (200000+20000*k)->
  ∃ x1 y1,LRX P 3 4 Bl4 Dl4.head (l4V sh i) (jS x y ot orest) .normal (l4V sh 60) (jS x1 y1 ot orest)/\InR x1 y1 L M s (min (t+4*k) (s+M.length)) 200000
 |0,i,x,y,t,h,hR=>by
  obtain rfl:i=60:=by omega
  refine⟨x,y,LRX.stopG (n:=50) (dU _) bK adg uZ (e:= .exit 4) (agQ (C1:=fun _ _=>false) (C2:=fun _ _=>false) hR.nx.t hR.ny.t to hR.nux) (by intro h; cases h),?_⟩;rw[show min (t+4*0) (s+M.length)=t by have:=hR.ht; omega];exact hR
 |k+1,i,x,y,t,h,hR=>by
  obtain⟨x1,y1,y2,q1,q2,n1,t1,h1⟩:=InR.go (K:=20000*k) (hR.mono (by omega));obtain⟨xe,ye,ih,he⟩:=RD (sh:=sh) (orest:=orest) to k (i+1) x1 y2 _ (by omega) (h1.mono (by omega));refine⟨xe,ye,LRX.againG (n:=50) (dU _) bK (xJ q1 q2) uZ (WP hR.nx.t hR.ny.t hR.nx.t t1 h1.nx.t h1.ny.t to hR.nux n1 (by omega)) ih,?_⟩;rw[show min (t+4*(k+1)) (s+M.length)=min (min (t+4) (s+M.length)+4*k) (s+M.length) by omega];exact he
theorem ab2{x y:NdM}{L M:List CmM}{s:Nat}{sh:Int}(h:InP x y L M s 100)(hM:y.s.log.length<=40) :
  ∃ x1 y1 ot orest,LRX P 3 4 Bl4 Dl4.head (l4V sh 0) (aX x y) .normal (l4V sh 60) (jS x1 y1 ot orest)/\fZ ot/\InR x1 y1 L M s (s+M.length) 200000:=by
 have hy:PrN y L M s 100000:=⟨h.ny.mono (by omega),h.ly,h.hs,h.e1,h.e2,h.py,h.ky,h.acy,h.nuy⟩
 have hlen:=hy.len;have ty:=hy.ny.t;obtain⟨x1,a1,b1,d1,e1,f1,g1⟩:=ah3 (K:=1900000) (h.nx.mono (by omega)) hy h.lx h.px h.kx h.hx h.d3 h.dx h.nux;obtain⟨x2,a2,b2,d2,e2,f2,g2⟩:=ahB (K:=1880000) d1 hy e1 f1 g1 (by omega);obtain⟨x3,a3,b3,d3,g3⟩:=ahV (K:=1820000) (d2.mono (by omega)) hy e2 f2 g2;obtain⟨x4,ot,orest,a4,b4,d4,g4,to⟩:=ahI (K:=1760000) (d3.mono (by omega)) hy g3;obtain⟨x5,x6,y5,y6,a5,b5,n5,t5,u5,d5⟩:=ahH (K:=1700000) (d4.mono (by omega)) hy g4;obtain⟨xe,ye,qe,he⟩:=RD (sh:=sh) (orest:=orest) to 55 5 x6 y6 _ rfl (d5.mono (by omega));rw[show min (min (s+4) (s+M.length)+4*55) (s+M.length)=s+M.length by omega]at he;refine⟨xe,ye,ot,orest,?_,to,he⟩;refine LRX.againG (n:=50) (dU _) bK (xJ a1 b1) uZ (VG (i:=0) h.nx.t ty h.nx.t ty d1.nx.t ty h.nux h.nuy (by omega)) ?_;refine LRX.againG (n:=50) (dU _) bK (xJ a2 b2) uZ (VG (i:=1) d1.nx.t ty d2.nx.t ty d2.nx.t ty d1.nux h.nuy (by omega)) ?_;refine LRX.againG (n:=50) (dU _) bK (xJ a3 b3) uZ (VG (i:=2) d2.nx.t ty d3.nx.t ty d3.nx.t ty d2.nux h.nuy (by omega)) ?_;refine LRX.againG (n:=50) (dU _) bK (xJ a4 b4) uZ (afI (i:=3) d3.nx.t ty d4.nx.t ty d4.nx.t ty to d3.nux h.nuy (by omega)) ?_;exact LRX.againG (n:=50) (dU _) bK (xJ a5 b5) uZ (WP (i:=4) d4.nx.t ty t5 u5 d5.nx.t d5.ny.t to d4.nux n5 (by omega)) qe
theorem RN:∀ {l L:List CmM},Fol L l->∀ (i:Nat) (h:i<l.length),l[i].n=(L.length:Int)+i+1
 |[],_,_,i,h=>by cases h
 |d::l,L,hf,i,h=>by
  obtain⟨a1,a2,a3,a4⟩:=hf.cons;cases i with
  |zero=>show d.n=_; omega
  |succ i=>
   have hi:i<l.length:=by simpa using h
   have:=RN a4 i hi;rw[bP]at this;show l[i].n=_;rw[this];simp only[jH,lL];omega
theorem RH{sh:Int}{y:List CmM}(hl:y.length<=1000)(h1:∀ i (h:i<y.length),y[i].n=(i:Int)+1)(h2:∀ i (h:i<y.length),(y[i].e=1↔(i:Int)<sh)):∀ (k i:Nat),i+k=y.length->
  LRX P 3 6 Bl6 Dl6.head (l6V sh y i) [] .normal (l6V sh y y.length) []
 |0,i,h=>by
  obtain rfl:i=y.length:=by omega
  exact ls_ aA Q4 (e:= .exit 6) agk (by intro h; cases h)
 |k+1,i,h=>by
  have hi:i<y.length:=by omega
  exact la_ aA Q4 (aao hi hl (h1 i hi) (h2 i hi)) (RH hl h1 h2 k (i+1) (by omega))
def nd0(k mo:Int)(s:StaM):NdM:=⟨k,mo,s,0,-1,⟨0,0,0,0,[],0,0,[]⟩⟩
theorem acZ{mo:Int}(hm:1<=mo/\mo<=16):CRX P 1 7 [.int .i64 0, .int .i64 mo,p0] qY (.tuple ⟨[ptV 1, .int .i64 0]⟩) (ndD (nd0 0 mo kK)):=by
 have g1:ltI mo 1=false:=lF_ (by omega);have g2:gtI mo 16=false:=gF_ (by omega);refine co_ (af aA (az aeZ)) ((ac6 (ay [p0, .int .i64 0] qY) mo).trans ?_);simp only[mz_,g1,g2,bg];refine nH rfl rfl ?_;have n1:([]:List UInt8).length=0:=rfl;have n2:([]:List CmM).length=0:=rfl;have n3:([]:List Int).length=0:=rfl;have n4:([]:List RunM).length=0:=rfl;have n5:([]:List StM).length=0:=rfl;have n6:([]:List (Int×Int)).length=0:=rfl;have f1:bc ([]:List UInt8)=[]:=rfl;have f2:ESt.all ([]:List StM)=[]:=rfl;have f3:ECm.all ([]:List CmM)=[]:=rfl;have f4:EIn.all ([]:List Int)=[]:=rfl;have f5:gI.all ([]:List RunM)=[]:=rfl;have f6:ESa.all ([]:List (Int×Int))=[]:=rfl;simp only[mz_,n1,n2,n3,n4,n5,n6,f1,f2,f3,f4,f5,f6,ndD,nd0,kK,dkN,tb0,mgV,dC,cZ,pgC,uf_,zK]
theorem ae6{mo:Int}(hm:1<=mo/\mo<=16):CRX P 1 7 [.int .i64 1, .int .i64 mo,p0] qY (.tuple ⟨[ptV 1, .int .i64 0]⟩) (ndD (nd0 1 mo wK)):=by
 have g1:ltI mo 1=false:=lF_ (by omega);have g2:gtI mo 16=false:=gF_ (by omega);refine co_ (af aA (az aaF)) ((afg (ay [p0, .int .i64 1] qY) mo).trans ?_);simp only[mz_,g1,g2,bg];refine nH rfl rfl ?_;have n1:([]:List UInt8).length=0:=rfl;have n2:([]:List CmM).length=0:=rfl;have n3:([]:List Int).length=0:=rfl;have n4:([]:List RunM).length=0:=rfl;have n5:([]:List StM).length=0:=rfl;have n6:([]:List (Int×Int)).length=0:=rfl;have f1:bc ([]:List UInt8)=[]:=rfl;have f2:ESt.all ([]:List StM)=[]:=rfl;have f3:ECm.all ([]:List CmM)=[]:=rfl;have f4:EIn.all ([]:List Int)=[]:=rfl;have f5:gI.all ([]:List RunM)=[]:=rfl;have f6:ESa.all ([]:List (Int×Int))=[]:=rfl;simp only[mz_,n1,n2,n3,n4,n5,n6,f1,f2,f3,f4,f5,f6,ndD,nd0,wK,dkN,tb0,mgV,dC,cZ,pgC,uf_,zK]
theorem ahU{mo:Int}(hm:1<=mo/\mo<=16){K:Nat}(hK:K<=1000000000):NdQ (nd0 0 mo kK) K/\NdQ (nd0 1 mo wK) K:=by
 have h0:DkC dkN K:=⟨rfl,rfl,by decide,by show 0<=(0:Int)/\(0:Int)+K<4611686018427387904; omega⟩
 exact⟨⟨⟨rfl,h0,rfl,rfl,rfl,rfl,⟨wo,rfl,Or.inl rfl,show([]:List RunM).length<4194304 by decide,show 0<=fP [] by decide⟩,rfl⟩,hm,rfl,rfl,show([]:List CmM).length<=60 by decide,show([]:List UInt8).length<=3000000 by decide,show pgE ⟨1,1,0,0,0,0⟩=0 by decide⟩,⟨⟨rfl,h0,rfl,rfl,rfl,rfl,⟨wo,rfl,Or.inl rfl,show([]:List RunM).length<4194304 by decide,show 0<=fP [] by decide⟩,rfl⟩,hm,rfl,rfl,show([]:List CmM).length<=60 by decide,show([]:List UInt8).length<=3000000 by decide,show pgE ⟨1,2,0,0,0,0⟩=0 by decide⟩⟩
theorem adx:Dz P uP 6000 aB [] [] 0 [] 5 [] [] =
 (some (Value.bool (BEq.beq 0 0),ag [])):=by kernel_rfl
theorem abQ:CRX P 0 5 [] [] (.bool true) []:=
 CRX.ofE (pol:=aB) (fl:=[]) (ts:=[]) (n:=6000) (kb:=[]) bK (q_ P) (adx.trans rfl)
def Pn:HeadX:=⟨0,26,[0,1,4,5],[.val, .val, .val, .val],[33,33,0,0],aB⟩
def J3:Code:=(di P 45 0).getD .skip
theorem SE:di P 45 0=some J3:=by kernel_rfl
theorem ZG:Occ P 45 (.block 0 (.loop J3)):=dN SE
def k1V(l:List OpM)(i:Int):List Value:=[bD l,bD l, .bool false, .int .i64 i]
theorem WG(l:List OpM)(i:Int):aU P E ctF 50 45 J3 Pn (k1V l i) [] =
 (let z:=l.length;let y:=Bool.and (Nat.beq 3 3) (inI i z);let x:=atN i 3;let w:=Enc.all EOp l;let v:=Bool.and (Nat.ble (Nat.add x 3) w.length) (jg [.bool, .string, .string] w x);let u:=asB (aV w x);let t:=Nat.add x 1;let s:=asS (aV w t);let r:=asS (aV w (Nat.add t 1));let q:=fa_ z 0 w;
 let p:=Value.bool false;let o:=ag [];
 (aj (ltI i (ah z)) (ae y (ae v (ae y (ae v (aj (eQ (Bool.and (eqB u u) (Bool.and (eqS s s) (Bool.and (eqS r r) true)))) (some (.tuple ⟨[io_ (-1),q,q,p,io_ i]⟩,o)) (some (.tuple ⟨[io_ 0,q,q,p,io_ (bM .i64 i 1)]⟩,o))))))) (some (.tuple ⟨[io_ 1,q,q,p,io_ i]⟩,o)))):=by kernel_rfl
theorem adA(C:List Value->List Blk->Bool)(l:List OpM):aN P E (dX P 45 0 Pn (gX C (.leaf (.normal,k1V l (ah l.length),[]))) ctF) 50 aB [] [] 0 45 [bD l,bD l] [] =
 (let z:=ah l.length;let y:=Value.bool false;let x:=fa_ l.length 0 (Enc.all EOp l);
 (aj (neI z z) (some (y,ag [])) (ae (C [x,x,y,io_ 0] []) (some (.bool true,ag []))))):=by kernel_rfl
theorem afl(C:List Value->List Blk->Bool)(c:CmM):aN P E (ak P aB 0 45 (aP C (.leaf (.bool true,[]))) ctF) 50 aB [] [] 0 19 [cmV c,cmV c] [] =
 (let z:=fa_ c.ops.length 0 (Enc.all EOp c.ops);let y:=some (Value.bool false,ag []);
 (aj (eqI c.e c.e) (aj (eqI c.n c.n) (ae (C [z,z] []) (some (.bool true,ag []))) y) y)):=by kernel_rfl
def Nr:HeadX:=⟨0,27,[0,1,4,5],[.val, .val, .val, .val],[35,35,0,0],aB⟩
def JE:Code:=(di P 13 0).getD .skip
theorem Tz:di P 13 0=some JE:=by kernel_rfl
theorem Na:Occ P 13 (.block 0 (.loop JE)):=dN Tz
def k3V(l:List CmM)(i:Int):List Value:=[aQ l,aQ l, .bool false, .int .i64 i]
theorem XG(C:List Value->List Blk->Bool)(l:List CmM)(i:Int):aU P E (ak P aB 0 19 (aP C (.leaf (.bool true,[]))) ctF) 50 13 JE Nr (k3V l i) [] =
 (let z:=l.length;let y:=Bool.and (Nat.beq 3 3) (inI i z);let x:=atN i 3;let w:=Enc.all ECm l;let v:=Eta.int .i64;let u:=Bool.and (Nat.ble (Nat.add x 3) w.length) (jg [v,v, .slice 3] w x);let t:=Nat.add x 1;let s:=aV w (Nat.add t 1);let r:=Value.agg ⟨[io_ (asI (aV w x)),io_ (asI (aV w t)),fa_ (zN s) (zB s) (zC s)]⟩;
 let q:=fa_ z 0 w;let p:=Value.bool false;
 (aj (ltI i (ah z)) (ae y (ae u (ae y (ae u (ae (C [r,r] []) (some (.tuple ⟨[io_ 0,q,q,p,io_ (bM .i64 i 1)]⟩,ag []))))))) (some (.tuple ⟨[io_ 1,q,q,p,io_ i]⟩,ag [])))):=by kernel_rfl
theorem adQ(C:List Value->List Blk->Bool)(l:List CmM):aN P E (dX P 13 0 Nr (gX C (.leaf (.normal,k3V l (ah l.length),[]))) ctF) 50 aB [] [] 0 13 [aQ l,aQ l] [] =
 (let z:=ah l.length;let y:=Value.bool false;let x:=fa_ l.length 0 (Enc.all ECm l);
 (aj (neI z z) (some (y,ag [])) (ae (C [x,x,y,io_ 0] []) (some (.bool true,ag []))))):=by kernel_rfl
theorem T_(x n:Int):aN P E ctF 50 aB [] [] 0 6 [.int .i64 x, .int .i64 n] [] =
 (let z:=uU x n;
 (ae (Bool.and (Decidable.decide (Eq IntKind.i64 IntKind.i64)) (yZ n)) (aj (ltI z 0) (some (io_ (bM .i64 z n),ag [])) (some (io_ z,ag []))))):=by kernel_rfl
theorem Zi{l:List OpM}{i:Nat}(hi:i<l.length)(hl:l.length<4194304):aU P E ctF 50 45 J3 Pn (k1V l i) []=some (.tuple ⟨exV .normal::k1V l ((i+1:Nat):Int)⟩,ag []):=by
 obtain⟨g1,g2,a1⟩:=lH hi hl;have g4:=Be hi;have n3:(EOp.all l).length=Nat.mul l.length 3:=EOp.all_length l;have ab:∀ b,asB (.bool b)=b:=fun _=>rfl;have aS:∀ b,asS (.string b)=b:=fun _=>rfl;have e1:∀ b:Bool,eqB b b=true:=fun b=>by cases b<;>rfl
 have e2:∀ s:ByteArray,eqS s s=true:=fun s=>by unfold eqS; simp
 rw[WG];simp only[mz_,g1,g2,a1,g4,n3,iL hi (dm 3),JV hi,Ja hi,Ko hi,ab,aS,e1,e2,iy,k1V,bD,dY,nf_]
 rfl
theorem ahc{l:List OpM}:aU P E ctF 50 45 J3 Pn (k1V l l.length) []=some (.tuple ⟨exV (.exit 0)::k1V l l.length⟩,ag []):=by
 rw[WG];simp only[mz_,kU,k1V,bD,dY,nf_]
 rfl
theorem afF{l:List OpM}(hl:l.length<4194304):CRX P 0 45 [bD l,bD l] [] (.bool true) []:=by
 have q:LRX P 45 0 J3 Pn.head (k1V l (0:Nat)) [] .normal (k1V l l.length) []:=LRX.rounds (n:=50) (dU ctF) bK aA ZG (vs:=fun i=>k1V l i) (bs:=fun i=>[]) (e:= .exit 0) l.length (fun i hi=>Zi hi hl) ahc (by intro h; cases h);refine co_ (dB aA (d_ (bJ SE) q)) ((adA (ay (k1V l (0:Nat)) []) l).trans ?_);have z0:((0:Nat):Int)=0:=rfl;have e:neI (ah l.length) (ah l.length)=false:=by unfold neI; simp
 simp only[mz_,z0,e,k1V,bD,dY,bC,aW,bg]
theorem afK{c:CmM}(hl:c.ops.length<4194304):CRX P 0 19 [cmV c,cmV c] [] (.bool true) []:=by
 refine co_ (af aA (az (afF hl))) ((afl (ay [bD c.ops,bD c.ops] []) c).trans ?_);have e:∀ x:Int,eqI x x=true:=fun x=>by unfold eqI; simp
 simp only[mz_,e,bD,dY,bC,aW,bu]
theorem Y3{l:List CmM}{i:Nat}(hi:i<l.length)(hl:l.length<4194304):aU P E (ak P aB 0 19 (aP (ay [cmV l[i],cmV l[i]] []) (.leaf (.bool true,[]))) ctF) 50 13 JE Nr (k3V l i) []=some (.tuple ⟨exV .normal::k3V l ((i+1:Nat):Int)⟩,ag []):=by
 obtain⟨g1,g2,a1⟩:=lH hi hl;have g4:=kW hi;rw[XG];simp (disch:=first|omega|(simp only[bU,bY,bZ,bT,bW,aH]<;>omega)|fail) only[mz_,g1,g2,a1,g4,iL hi (dm 3),jZ hi,pR hi,qH hi,iy,zF,k3V,uf_,nf_]
 rfl
theorem agO{C:List Value->List Blk->Bool}{l:List CmM}:aU P E (ak P aB 0 19 (aP C (.leaf (.bool true,[]))) ctF) 50 13 JE Nr (k3V l l.length) []=some (.tuple ⟨exV (.exit 0)::k3V l l.length⟩,ag []):=by
 rw[XG];simp only[mz_,kU,k3V,aQ,dY,nf_]
 rfl
theorem SS{l:List CmM}(hl:l.length<4194304)(ho:∀ c∈l,c.ops.length<4194304):∀ (j i:Nat),i+j=l.length->LRX P 13 0 JE Nr.head (k3V l i) [] .normal (k3V l l.length) []
 |0,i,h=>by
  obtain rfl:i=l.length:=by omega
  exact ls_ (af aA (fF (r:= .leaf (.bool true,[])))) Na (e:= .exit 0) (agO (C:=fun _ _=>false)) (by intro h; cases h)
 |j+1,i,h=>by
  have hi:i<l.length:=by omega
  exact la_ (af aA (az (afK (ho _ (kQ hi))))) Na (Y3 hi hl) (SS hl ho j (i+1) (by omega))
theorem ahq{l:List CmM}(hl:l.length<4194304)(ho:∀ c∈l,c.ops.length<4194304):CRX P 0 13 [aQ l,aQ l] [] (.bool true) []:=by
 have q:=SS hl ho l.length 0 (by omega);refine co_ (dB aA (d_ (bJ Tz) q)) ((adQ (ay (k3V l (0:Nat)) []) l).trans ?_);have z0:((0:Nat):Int)=0:=rfl;have e:neI (ah l.length) (ah l.length)=false:=by unfold neI; simp
 simp only[mz_,z0,e,k3V,aQ,dY,bC,aW,bg]
theorem Ep{x:Int}{n:Nat}(hn:n<4194304):∃ k:Nat,k<=n/\CRX P 0 6 [.int .i64 x, .int .i64 ((n:Int)+1)] [] (.int .i64 (k:Int)) []:=by
 have h0:yZ ((n:Int)+1)=true:=by unfold yZ; simp; omega
 have h1:(Bool.and (Decidable.decide (Eq IntKind.i64 IntKind.i64)) (yZ ((n:Int)+1)))=true:=by rw[h0]; rfl
 have m1:Int.tmod x ((n:Int)+1)<(n:Int)+1:=Int.tmod_lt_of_pos x (by omega);have m2:-((n:Int)+1)<Int.tmod x ((n:Int)+1):=by
  have:=Int.neg_tmod x ((n:Int)+1);have h3:Int.tmod (-x) ((n:Int)+1)<(n:Int)+1:=Int.tmod_lt_of_pos (-x) (by omega);rw[Int.neg_tmod]at h3;omega
 have hr:uU x ((n:Int)+1)=Int.tmod x ((n:Int)+1):=by unfold uU; first | rfl | exact wrap64 (by omega) (by omega)
 by_cases hlt:Int.tmod x ((n:Int)+1)<0
 ·refine⟨(Int.tmod x ((n:Int)+1)+((n:Int)+1)).toNat,by omega,?_⟩;refine co_ aA ((T_ x ((n:Int)+1)).trans ?_);have e1:ltI (uU x ((n:Int)+1)) 0=true:=by rw[hr]; unfold ltI; exact eU hlt
  have e2:bM .i64 (uU x ((n:Int)+1)) ((n:Int)+1)=((Int.tmod x ((n:Int)+1)+((n:Int)+1)).toNat:Int):=by rw[hr]; unfold bM; rw[wrap64 (by omega) (by omega)]; omega
  simp only[mz_,h0,e1,e2,decide_true,fV,aW,bu]
 ·refine⟨(Int.tmod x ((n:Int)+1)).toNat,by omega,?_⟩;refine co_ aA ((T_ x ((n:Int)+1)).trans ?_);have e1:ltI (uU x ((n:Int)+1)) 0=false:=by rw[hr]; unfold ltI; exact iW hlt
  have e2:uU x ((n:Int)+1)=((Int.tmod x ((n:Int)+1)).toNat:Int):=by rw[hr]; omega
  simp only[mz_,h0,e1,decide_true,fV,aW,bg];rw[<-e2]
theorem af1:CallOkR P 5 aaL:=⟨fun args t hR v bs hev=>by
 unfold aaL at hR;split at hR
 ·simp only[dD]at hR;subst hR;have hev:(DT.leaf ((.bool true:Value),([]:List Blk))).eval=some (v,bs):=hev;simp only[DT.eval,dD,dA]at hev;obtain⟨rfl,rfl⟩:=hev;exact CR.ofK0 abQ
 ·cases hR⟩
theorem BV{N:Nat}{g:FuncId}{C:List Value->List Blk->Bool}{args:List Value}{bs:List Blk}{w v:Value}{B bs':List Blk}(h:C args bs=true->CRX P N g args bs w B)(hev:(DT.ite (C args bs) (DT.leaf (w,B)) DT.fail).eval=some (v,bs')):CRX P N g args bs v bs':=by
 cases hc:C args bs with
 |false=>rw[hc]at hev; cases hev
 |true=>
  rw[hc]at hev;have hev:(DT.leaf (w,B)).eval=some (v,bs'):=hev;simp only[DT.eval,dD,dA]at hev;obtain⟨rfl,rfl⟩:=hev;exact h hc
theorem WB{C0 C1:List Value->List Blk->Bool}{n0 n1:NdM}(h0:∀ args bs,C0 args bs=true->CRX P 1 7 args bs (.tuple ⟨[ptV 1, .int .i64 0]⟩) (ndD n0))(h1:∀ args bs,C1 args bs=true->CRX P 1 7 args bs (.tuple ⟨[ptV 1, .int .i64 0]⟩) (ndD n1)) :
  CallOkX P 1 7 (Vf C0 C1 n0 n1):=⟨fun args bs t hR v bs' hev=>by
 unfold Vf at hR;split at hR
 ·rename_i k nu r;cases e:eqI nu 0<;>rw[e]at hR<;>simp only[dD]at hR<;>subst hR
  ·exact BV (h1 _ _) hev
  ·exact BV (h0 _ _) hev
 ·cases hR⟩
theorem Xg{C1 C2 C3:List Value->List Blk->Bool}{v1 v2 v3:List CmM}(h1:∀ args bs,C1 args bs=true->CRX P 8 11 args bs (aQ v1) bs)(h2:∀ args bs,C2 args bs=true->CRX P 8 11 args bs (aQ v2) bs)(h3:∀ args bs,C3 args bs=true->CRX P 8 11 args bs (aQ v3) bs) :
  CallOkX P 8 11 (UU C1 C2 C3 v1 v2 v3):=⟨fun args bs t hR v bs' hev=>by
 unfold UU at hR;split at hR
 ·rename_i a b c d k1 ep k2 ro e g hh l;cases e1:eqI ep 1<;>cases e2:eqI ro 2<;>rw[e1,e2]at hR<;>simp only[dD]at hR<;>subst hR
  ·exact BV (h3 _ _) hev
  ·exact BV (h2 _ _) hev
  ·exact BV (h1 _ _) hev
  ·exact BV (h1 _ _) hev
 ·cases hR⟩
theorem WV{C:List Value->List Blk->Bool}{f:Int->Int->Int}(h:∀ x n k1 k2,C [.int k1 x, .int k2 n] []=true->CRX P 0 6 [.int k1 x, .int k2 n] [] (.int .i64 (f x n)) [])(h0:∀ args bs,C args bs=true->bs=[]):CallOkX P 0 6 (ND C f):=⟨fun args bs t hR v bs' hev=>by
 unfold ND at hR;split at hR
 ·rename_i k1 x k2 n;simp only[dD]at hR;subst hR;refine BV (fun hc=>?_) hev;have hb:=h0 _ _ hc;subst hb;exact h x n k1 k2 hc
 ·cases hR⟩
theorem NT{a0:List Value}{b0:List Blk}{v:Value}(h:CRX P 8 11 a0 b0 v b0):∀ args bs,ay a0 b0 args bs=true->CRX P 8 11 args bs v bs:=fun args bs hc=>by
 obtain⟨rfl,rfl⟩:=tK hc;exact h
theorem Yi{a0:List Value}{b0:List Blk}{v:Value}{B:List Blk}(h:CRX P 1 7 a0 b0 v B):∀ args bs,ay a0 b0 args bs=true->CRX P 1 7 args bs v B:=fun args bs hc=>by
 obtain⟨rfl,rfl⟩:=tK hc;exact h
theorem acJ:∃ f:Int->Int->Int,∀ (x:Int) (n:Nat),n<4194304->∃ k:Nat,k<=n/\f x ((n:Int)+1)=k/\CRX P 0 6 [.int .i64 x, .int .i64 ((n:Int)+1)] [] (.int .i64 (k:Int)) []:=by
 classical
 refine⟨fun x m=>if h:(m-1).toNat<4194304 then((Classical.choose (Ep (x:=x) h):Nat):Int)else 0,fun x n hn=>?_⟩;have key:∀ (m:Nat) (hm:m<4194304),m=n->Classical.choose (Ep (x:=x) hm)<=n/\CRX P 0 6 [.int .i64 x, .int .i64 ((n:Int)+1)] [] (.int .i64 ((Classical.choose (Ep (x:=x) hm):Nat):Int)) []:=by
  intro m hm e;subst e;exact Classical.choose_spec (Ep (x:=x) hm)
 have h':(((n:Int)+1)-1).toNat<4194304:=by omega
 obtain⟨k1,k2⟩:=key _ h' (by omega);exact⟨_,k1,dif_pos h',k2⟩
open Classical in
def D6:List Value->List Blk->Bool:=fun a b=>decide (∃ (x:Int) (n:Nat),n<4194304/\a=[.int .i64 x, .int .i64 ((n:Int)+1)]/\b=[])
open Classical in
theorem LG{x:Int}{n:Nat}{m:Int}(hn:n<4194304)(hm:m=(n:Int)+1):D6 [.int .i64 x, .int .i64 m] []=true:=by
 unfold D6;exact eU ⟨x,n,hn,by rw[hm],rfl⟩
open Classical in
theorem Q5{a:List Value}{b:List Blk}(h:D6 a b=true):∃ (x:Int) (n:Nat),n<4194304/\a=[.int .i64 x, .int .i64 ((n:Int)+1)]/\b=[]:=by
 unfold D6 at h;exact lY h
theorem adp{f:Int->Int->Int}(hf:∀ (x:Int) (n:Nat),n<4194304->∃ k:Nat,k<=n/\f x ((n:Int)+1)=k/\CRX P 0 6 [.int .i64 x, .int .i64 ((n:Int)+1)] [] (.int .i64 (k:Int)) []):CallOkX P 0 6 (ND D6 f):=
 WV (fun x n k1 k2 h=>by
  obtain⟨x',n',h1,h2,_⟩:=Q5 h;simp only[je,Value.int.injEq,jd]at h2;obtain⟨⟨rfl,rfl⟩,rfl,rfl⟩:=h2;obtain⟨k,_,e,q⟩:=hf x n' h1;rw[e]
  exact q) (fun a b h=>by obtain⟨_,_,_,_,h⟩:=Q5 h; exact h)
theorem Nq{C1 C2 C3 C4 C5 C6 C7 C8 C9 C10 L0 L2 L4 L6:List Value->List Blk->Bool}{f:Int->Int->Int}{l:List (List OpM)}{v1 v2 v3:List CmM}{n0 n1 x1 y1 y2 y3 x4 y4:NdM}{ot:TbM}{orest:List CmM}{sp sh ac kn:Int}
  (h1:CallOkX P 0 6 (ND C1 f)) (h2:CallOkX P 1 7 (Vf C2 C3 n0 n1)) (h4:CallOkX P 8 11 (UU C4 C5 C6 v1 v2 v3))
  (h7:CallOkX P 8 12 (aP C7 (.leaf (.tuple ⟨[.int .i64 2, .int .i64 0]⟩,ndB y2)))) (h8:CallOkX P 0 13 (aP C8 (.leaf (.bool true,[])))) (h9:CallOkX P 8 14 (aP C9 (.leaf (.int .i64 0,ndB (y4.at1 2 ac kn))))) (h10:CallOkX P 8 16 (aP C10 (.leaf (pgV ⟨2,2,0,0,0,0⟩,ndB (x4.at2 2)))))
  (k0:LoopOkX P 3 0 Bl0 Dl0.head (gX L0 (.leaf (.normal,l0V l sp sp,aX x1 (y1.at2 1))))) (k2:LoopOkX P 3 2 Bl2 Dl2.head (gX L2 (.leaf (.normal,l0V l sh (ah l.length),aX x1 y3)))) (k4:LoopOkX P 3 4 Bl4 Dl4.head (gX L4 (.leaf (.normal,l4V sh 60,jS (x4.at2 2) (y4.at1 2 ac kn) ot orest)))) (k6:LoopOkX P 3 6 Bl6 Dl6.head (gX L6 (.leaf (.normal,l6V sh v3 (ah v3.length),[])))) :
  CtOk P (aa8 C1 C2 C3 C4 C5 C6 C7 C8 C9 C10 L0 L2 L4 L6 f l v1 v2 v3 n0 n1 x1 y1 y2 y3 x4 y4 ot orest sp sh ac kn):=
 iw (af (af (af (af (af (af (af (dB (dB (dB (dB aA k6) k4) k2) k0) h10) h9) h8) h7) h4) h2) h1) af1
theorem YL{v:Value}{B:List Blk}:∀ (args:List Value) (bs:List Blk),(fun _ _=>false:List Value->List Blk->Bool) args bs=true->CRX P 1 7 args bs v B:=fun args bs hc=>by cases hc
theorem OA{v:Value}:∀ (args:List Value) (bs:List Blk),(fun _ _=>false:List Value->List Blk->Bool) args bs=true->CRX P 8 11 args bs v bs:=fun args bs hc=>by cases hc
theorem Ue{l:List (List OpM)}{le av:Int}(h:40<l.length):CRX P 0 3 [.int .i64 le,fzLo l, .int .i64 av] [] (.bool true) []:=by
 refine co_ (Nq (f:=fun _ _=>0) (sh:=0) (sp:=0) (ac:=0) (kn:=0) (ot:=tb0) (orest:=[]) (v1:=[]) (v2:=[]) (v3:=[]) (x1:=nd0 0 0 kK) (y1:=nd0 0 0 kK) (y2:=nd0 0 0 kK) (y3:=nd0 0 0 kK) (x4:=nd0 0 0 kK) (y4:=nd0 0 0 kK) (n0:=nd0 0 0 kK) (n1:=nd0 0 0 kK) (l:=l)
  (WV (C:=fun _ _=>false) (fun _ _ _ _ h=>by cases h) (fun _ _ h=>by cases h)) (WB YL YL) (Xg OA OA OA) fF fF fF fF (mD (bJ OZ)) (mD (bJ Nw)) (mD (bJ O4)) (mD (bJ N7))) ((QZ (fun _ _=>false) (fun _ _=>false) (fun _ _=>false) (fun _ _=>false) (fun _ _=>false) (fun _ _=>false) (fun _ _=>false) (fun _ _=>false) (fun _ _=>false) (fun _ _=>false) (fun _ _=>false) (fun _ _=>false) (fun _ _=>false) (fun _ _=>false) (fun _ _=>0) l [] [] [] (nd0 0 0 kK) (nd0 0 0 kK) (nd0 0 0 kK) (nd0 0 0 kK) (nd0 0 0 kK) (nd0 0 0 kK) (nd0 0 0 kK) (nd0 0 0 kK) tb0 [] 0 0 0 0 le av).trans ?_)
 have g1:gtI (ah l.length) 40=true:=gT_ (by unfold ah; omega);simp only[nh_,mz_,g1,bu]
theorem Qh{l:List (List OpM)}{le av:Int}(hl:l.length<=40):CRX P 0 3 [.int .i64 le,fzLo l, .int .i64 av] [] (.bool true) []:=by
 obtain⟨f,hf⟩:=acJ;obtain⟨k0,hk0,ek0,_⟩:=hf le 15 (by decide);obtain⟨sp,hsp,esp,_⟩:=hf av l.length (by omega);have ek0:f le 16=k0:=ek0;have hmo:1<=1+(k0:Int)/\1+(k0:Int)<=16:=by omega
 have w0:=acZ hmo;have w1:=ae6 hmo;obtain⟨n0q,n1q⟩:=ahU hmo (K:=20000*1000+200000) (by omega);have hA:InA (nd0 0 (1+(k0:Int)) kK) (nd0 1 (1+(k0:Int)) wK) [] 0 1000:=⟨n0q,n1q,rfl,rfl,by decide,(fun c hc=>by cases hc),rfl,rfl,rfl,Or.inr ⟨rfl,rfl⟩,rfl,rfl,rfl,rfl,rfl,rfl⟩
 generalize nd0 0 (1+(k0:Int)) kK=n0 at *;generalize nd0 1 (1+(k0:Int)) wK=n1 at *;obtain⟨x1,y1,L,s,q0,hA1,hL1⟩:=JR hsp hl sp 0 500 n0 n1 [] 0 (by omega) (by decide) (hA.mono (by omega));obtain⟨y2,qp,hP⟩:=InA.prom (j:=100+(l.length-sp)) (hA1.mono (by omega));have hs1:y1.s.log.length=s:=by rw[hA1.ly,fH]; have:=hA1.hs; omega
 have hy2:y2.s.log.length=s:=by rw[hP.ly,gG,fH]; have:=hP.hs; omega
 obtain⟨y3,M,q2,hP3,hy3⟩:=SL hl (sh:=ah y1.s.log.length) (l.length-sp) sp 100 x1 y2 L [] s (by omega) (by have:=hA1.hs; omega) hP;obtain⟨x4,y4,ot,orest,q4,to,hR⟩:=ab2 (sh:=ah y1.s.log.length) hP3 (by omega);have hxy:x4.s.log=y4.s.log:=by
  have h1:=hR.tot;rw[hR.lx,<-hR.ly,<-h1,rC]
 have htot:=hR.tot;have hlen:=hR.ny.len;have g1:=Jm hA1.ny;have g2:=Jm hR.nx;rw[hxy]at g2;have g3:=Jm hR.ny;have g8:=ahq (l:=y4.s.log) (by omega) (fun c hc=>by have:=xH hR.ny.fol c hc; omega);have g9:=abV hR.ny (by rw[hR.py]) (by rw[hR.acy]; omega);rw[show(y4.s.log.length:Int)-y4.ac=0 by rw[hR.acy]; omega]at g9;have g10:=aff hR.nx;rw[hR.px]at g10;have hlg:=hR.lgy;have q6:=RH (sh:=ah y1.s.log.length) (y:=y4.s.log) (by omega) (fun i h=>by rw[RN hlg.f i h]; show((0:Nat):Int)+i+1=_; omega) (fun i h=>by
  have e0:ah y1.s.log.length=(s:Int):=by rw[hs1]; rfl
  rw[e0];by_cases hi:i<s
  ·have:=hlg.e1 (y4.s.log[i]) (by
    have:y4.s.log[i]=(y4.s.log.take s)[i]'(by rw[fH]; omega):=by rw[List.getElem_take]
    rw[this]; exact kQ _)
   exact⟨fun _=>by omega,fun _=>this⟩
  ·have:=hlg.e2 (y4.s.log[i]) (by
    have:y4.s.log[i]=(y4.s.log.drop s)[i-s]'(by rw[gZ]; omega):=by
     rw[List.getElem_drop];congr 1;omega
    rw[this]; exact kQ _)
   exact⟨(fun h=>by rw[this]at h; cases h),fun h=>by omega⟩) y4.s.log.length 0 (by omega)
 have hat1:=EN hA1.py;have hat4:=EN hR.px;have hat5:=sZ hR.py;have q:=QZ D6 (ay [.int .i64 0, .int .i64 (1+(k0:Int)),p0] qY) (ay [.int .i64 1, .int .i64 (1+(k0:Int)),p0] qY) (ay [p0] (ndB y1)) (ay [p0] (ndB x4)) (ay [p0] (ndB y4)) (ay [p0] (ndB y1)) (ay [aQ y4.s.log,aQ y4.s.log] []) (ay [p0] (ndB y4)) (ay [p0] (ndB x4))
  (ay (l0V l sp (0:Nat)) (aX n0 n1)) (ay (l0V l (ah y1.s.log.length) sp) (aX x1 y2)) (ay (l4V (ah y1.s.log.length) 0) (aX x1 y3)) (ay (l6V (ah y1.s.log.length) y4.s.log (0:Nat)) []) f l y1.s.log y4.s.log y4.s.log n0 n1 x1 y1 y2 y3 x4 y4 ot orest sp (ah y1.s.log.length) s y4.kn le av
 rw[hat1,hat4,hat5]at q;refine co_ ?_ (q.trans ?_)
 ·have:=Nq (ac:=(s:Int)) (kn:=y4.kn) (x4:=x4) (y1:=y1) (y4:=y4) (adp hf) (WB (Yi w0) (Yi w1)) (Xg (v1:=y1.s.log) (NT g1) (NT g2) (NT g3)) (az qp) (az g8) (by rw[hat5]; exact az g9) (by rw[hat4]; exact az g10) (by rw[hat1]; exact d_ (bJ OZ) q0) (d_ (bJ Nw) q2) (by rw[hat4,hat5]; exact d_ (bJ O4) q4) (d_ (bJ N7) q6);exact this
 clear q q0 q2 q4 q6 g1 g2 g3 g8 g9 g10 qp w0 w1;have t0:=hA.nx.q.sr.tb.ren;have t1:=hA.ny.q.sr.tb.ren;have t2:=hA1.nx.q.sr.tb.ren;have t3:=hA1.ny.q.sr.tb.ren;have t4:=hP.ny.q.sr.tb.ren;have t5:=hP3.ny.q.sr.tb.ren;have t6:=hR.nx.q.sr.tb.ren;have t7:=hR.ny.q.sr.tb.ren;have t8:=to.ren;have p1:=hA1.py;have p4:=hR.px;have p5:=hR.py;have e1:gtI (ah l.length) 40=false:=gF_ (by unfold ah; omega);have e2:bM .i64 1 (k0:Int)=1+(k0:Int):=by unfold bM; exact wrap64 (by omega) (by omega)
 have e3:bM .i64 (ah l.length) 1=(l.length:Int)+1:=by unfold bM ah; exact wrap64 (by omega) (by omega)
 have c1:D6 [.int .i64 le, .int .i64 16] []=true:=LG (n:=15) (by decide) rfl;have c2:D6 [.int .i64 av, .int .i64 ((l.length:Int)+1)] []=true:=LG (n:=l.length) (by omega) rfl;have z0:((0:Nat):Int)=0:=rfl;simp (disch:=first|omega|(simp only[bU,bY,bZ,bT,bW,aH]<;>omega)|fail) only[nh_,mz_,e1,e2,e3,ek0,esp,c1,c2,z0,t0,t1,t2,t3,t4,t5,t6,t7,t8,p1,p4,p5,hxy,E8,l0V,l4V,l6V,fzLo,qY,fJ,cZ,mgV,dC,pgC,pgV,aX,jS,ndB,ndG,ndD,stN,uf_,bf rfl,nf_]
theorem law23_crx{l:List (List OpM)}{le av:Int}(h:l.length<=9223372036854775807):CRX P 0 3 [.int .i64 le,fzLo l, .int .i64 av] [] (.bool true) []:=by
 by_cases h1:l.length<=40
 ·exact Qh h1
 ·exact Ue (by omega)
end Go.VS.Tryz
end

noncomputable section
namespace Go.VS

section
variable{P:Program}
theorem add_zero(a:Addr):a.add 0=a:=by unfold Addr.add; simp
theorem XF{w:World}{a:Addr}{v:Value}(h:w.cell? (a.add 0)=some v):a.spot=none:=by
 rw[add_zero]at h;unfold World.cell? at h;split at h
 ·cases hs:a.spot with
  |none=>rfl
  |some s=>rw[hs]at h; cases h
 ·cases h
theorem NU{w:World}{a:Addr}{i:Nat}{v:Value}(hs:a.spot=none)(h:w.cell? (a.add i)=some v):∃ c e f,w.heap[a.block]? = some (.cells c e f)/\c[a.off+i]? = some v:=by
 have:a.add i=⟨a.block,a.off+i,none⟩:=by
  obtain⟨b,o,s⟩:=a;cases hs; simp[Addr.add]
 rw[this]at h;unfold World.cell? at h;split at h
 ·rename_i c e f hg;exact⟨c,e,f,hg,by simpa using h⟩
 ·cases h
variable{H:Type}{enc:TypeId×Value->H}
open Go.ChangeShapes in
end
section
variable{P:Program}
theorem Tm{w:World}{a:Addr}{ms cs:List Value}{n sz cap:Nat}(hsz:sz≠0)(hcap:n<=cap)(hlen:cs.length=n*sz)(hm:VRL (envOf w) ms cs)(hc:∀ i v,cs[i]? = some v->w.cell? (a.add i)=some v):VR (envOf w) (ax sz n 0 ms) (.slice (some a) n cap):=by
 have hml:=hm.length;refine zL hsz ?_;unfold jL;rw[if_neg hsz,hml];refine⟨hlen,?_⟩;by_cases hn:n=0
 ·exact Or.inr (Or.inl ⟨hn,a,cap,by rw[hn],fun h=>absurd rfl h⟩)
 ·have h0:0<cs.length:=by rw[hlen]; exact Nat.mul_pos (by omega) (by omega)
  obtain⟨v0,hv0⟩:∃ v,cs[0]? = some v:=⟨_,oP h0⟩
  have g2:=XF (hc 0 v0 hv0);obtain⟨c,e,f,g1,g3⟩:=NU g2 (hc 0 v0 hv0);have hget:∀ i v,cs[i]? = some v->c[a.off+i]? = some v:=by
   intro i v hi;obtain⟨c',e',f',k1,k3⟩:=NU g2 (hc i v hi);rw[g1]at k1;simp only[dD,Obj.cells.injEq]at k1;obtain⟨rfl,rfl,rfl⟩:=k1;exact k3
  have hseg:(c.toList.drop a.off).take cs.length=cs:=by
   apply List.ext_getElem?;intro i;rw[sG];split
   ·rename_i hi;rw[sD,oP hi];have:=hget i _ (oP hi);rw[pY]; exact this
   ·rename_i hi;rw[List.getElem?_eq_none (by omega)]
  have hle:a.off+cs.length<=c.size:=by
   have:=hget (cs.length-1) _ (oP (by omega));have:=(nM.1 this).1;omega
  have haddr:a=⟨a.block,a.off,none⟩:=by
   obtain⟨b,o,s⟩:=a;cases g2; rfl
  have henv:envOf w (Int.negSucc a.block)=some ⟨a.block,0,0,0,some (.cells c e f),false⟩:=by simp[envOf,g1]
  refine Or.inr (Or.inr ⟨by omega,a.block,a.off,cap,c,e,f,_,by rw[<-haddr],fun h=>absurd rfl h,henv,rfl,hle,?_,?_⟩)
  ·rw[BB,hseg];exact hm
  ·exact hcap
theorem Pz{β:Env}{α:Type}(f:α->List Value)(cs:Nat->List Value)(A:Nat->α):∀ n,(∀ i,i<n->VRL β (f (A i)) (cs i))->VRL β (((List.range n).map A).flatMap f) ((List.range n).flatMap cs)
 |0,_=>VRL.nil
 |n+1,h=>by
  rw[List.range_succ,List.map_append,DU,DU];refine(Pz f cs A n fun i hi=>h i (by omega)).append ?_;simpa using h n (by omega)
theorem flat_get{cs:Nat->List Value}{sz:Nat}(hs:sz≠0):∀ n,(∀ i,i<n->(cs i).length=sz)->((List.range n).flatMap cs).length=n*sz/\∀ j v,((List.range n).flatMap cs)[j]? = some v->∃ i k,i<n/\j=i*sz+k/\k<sz/\(cs i)[k]? = some v
 |0,_=>by simp
 |n+1,h=>by
  obtain⟨h1,h2⟩:=flat_get hs n fun i hi=>h i (by omega);rw[List.range_succ,DU];have hn:=h n (by omega);simp only[rD,xn,gG];refine⟨by rw[bP,h1,hn,qh]; omega,fun j v hj=>?_⟩;by_cases hlt:j<n*sz
  ·rw[y_ (by rw[h1]; exact hlt)]at hj;obtain⟨i,k,a,b,c,d⟩:=h2 j v hj;exact⟨i,k,by omega,b,c,d⟩
  ·rw[List.getElem?_append_right (by rw[h1]; omega),h1]at hj;have:=(oQ.1 hj).1;exact⟨n,j-n*sz,by omega,by omega,by omega,hj⟩
variable{H:Type}{enc:TypeId×Value->H}
open Go.ChangeShapes Go.Deep in
/-- A list that came in: of each element it is known what it is. -/
theorem DJ{α:Type}(f:α->List Value){sz:Nat}(hsz:sz≠0){good:α->Prop}{w:World}{t e:TypeId}{fuel:Nat}{cs:List Value}{x:DataW H×List MemPlace}(ht:P.underlying t=some (.slice e))(hc:P.cellsOf e=sz)
  (hel:∀ n cs' y,cs'.length=sz->DataW.trod enc P w 0 (fun _=>true) true n e cs'=some y->∃ a,VRL (envOf w) (f a) cs'/\good a)
  (h:DataW.trod enc P w 0 (fun _=>true) true fuel t cs=some x) :
  ∃ v,cs=[v]/\∃ l:List α,VR (envOf w) (ax sz l.length 0 (l.flatMap f)) v/\(∀ a∈l,good a)/\l.length<=maxLen:=by
 rcases open_slice ht h with⟨h1,h2⟩ | ⟨a,len,cap,m,n,D,Pl,h1,_,h3,h4,h5,_,h7⟩
 ·refine⟨_,h1,[],?_,by simp,ig _⟩;refine zL hsz ?_;unfold jL;rw[if_neg hsz];exact⟨by simp,Or.inl ⟨rfl,by omega,rfl⟩⟩
 ·refine⟨_,h1,?_⟩;rw[hc]at h7;have hlm:len<=m:=by rw[h5]; split<;>omega
  have q:∀ i,i<len->∃ p:α×List Value,w.cells? 0 (a.add (i*sz)) sz=some p.2/\p.2.length=sz/\VRL (envOf w) (f p.1) p.2/\good p.1:=fun i hi=>by
   obtain⟨cs',k1,k2⟩:=h7 i (by omega);have hl:=(World.cells?_some k1).1;have hl:cs'.length=sz:=by first | exact hl.2 | exact hl.1 | exact hl | exact(World.cells?_some k1).2.1
   obtain⟨a0,k3,k4⟩:=hel n cs' _ hl k2;exact⟨(a0,cs'),k1,hl,k3,k4⟩
  by_cases hl0:len=0
  ·subst hl0;refine⟨[],Tm hsz h3 (by simp:([]:List Value).length=0*sz) VRL.nil (fun i v hv=>by simp at hv),by simp,ig _⟩
  ·have inh:Inhabited (α×List Value):=⟨(q 0 (by omega)).choose⟩
   obtain⟨A,hA⟩:=choose_lt q;refine⟨(List.range len).map fun i=>(A i).1,?_,?_,?_⟩
   ·obtain⟨l1,l2⟩:=flat_get (cs:=fun i=>(A i).2) hsz len fun i hi=>(hA i hi).2.1;rw[show((List.range len).map fun i=>(A i).1).length=len by simp];refine Tm hsz h3 l1 (Pz f (fun i=>(A i).2) (fun i=>(A i).1) len fun i hi=>(hA i hi).2.2.1) fun j v hj=>?_;obtain⟨i,k,hi,hjk,hk,hv⟩:=l2 j v hj;have hcell:=(World.cells?_some (hA i hi).1)
    subst hjk;rw[<-add_add];first | exact hcell.2.2 k v hv | (have:=hcell.2.2 k hk; rw[this]; exact hv) | (have:=hcell.2 k hk; rw[this]; exact hv) | (have:=hcell.2.2 k; rw[hv]at this; exact this)
   ·intro b hb;obtain⟨i,hi,rfl⟩:=vX.1 hb;exact(hA i (List.mem_range.1 hi)).2.2.2
   ·simp; omega
end
end Go.VS
end

noncomputable section
namespace Go.VS.Tryz
open Go.VS Go.RowKit Go.ChangeShapes
set_option maxRecDepth 1000000
section
theorem Kv{α:Type}{xs:List α}{n i:Nat}(h:xs.length=n)(hi:i<n):∃ y,xs[i]? = some y:=⟨xs[i]'(by omega),oP (by omega)⟩
variable{H:Type}{enc:TypeId×Value->H}
theorem aeR{W:World}{n:Nat}{cs:List Value}{y:DataW H×List MemPlace}(hl:cs.length=3)(h:DataW.trod enc P W 0 (fun _=>true) true n 74 cs=some y):∃ o:OpM,VRL (envOf W) (EOp.f o) cs/\True:=by
 match cs,hl with
 |[c0,c1,c2],_=>
  obtain⟨xs,m,_,_,_,hx,hall⟩:=DataW.trod_struct Go.Proofs.Tryz.underlying74 h;have hx:xs.length=3:=hx;have cb:P.cellsOf 4=1:=by kernel_rfl
  have cs:P.cellsOf 9=1:=by kernel_rfl
  have h0:=hall 0 _ rfl;have h1:=hall 1 _ rfl;have h2:=hall 2 _ rfl;obtain⟨y0,e0⟩:=Kv hx (i:=0) (by decide);obtain⟨y1,e1⟩:=Kv hx (i:=1) (by decide);obtain⟨y2,e2⟩:=Kv hx (i:=2) (by decide);have h0:DataW.trod enc P W 0 (fun _=>true) true m 4 (([c0,c1,c2].drop 0).take (P.cellsOf 4))=some y0:=h0.trans e0;have h1:DataW.trod enc P W 0 (fun _=>true) true m 9 (([c0,c1,c2].drop 1).take (P.cellsOf 9))=some y1:=h1.trans e1;have h2:DataW.trod enc P W 0 (fun _=>true) true m 9 (([c0,c1,c2].drop 2).take (P.cellsOf 9))=some y2:=h2.trans e2;rw[cb]at h0;rw[cs]at h1 h2;obtain⟨p,q0,_⟩:=DataW.trod_bool Go.Proofs.Tryz.underlying4 h0;obtain⟨k,q1,_⟩:=DataW.trod_string Go.Proofs.Tryz.underlying9 h1;obtain⟨v,q2,_⟩:=DataW.trod_string Go.Proofs.Tryz.underlying9 h2;replace q0:[c0]=[.bool p]:=q0;replace q1:[c1]=[.string k]:=q1;replace q2:[c2]=[.string v]:=q2;simp only[je,jd]at q0 q1 q2;subst q0 q1 q2;exact⟨⟨p,k,v⟩,VRL.cons rfl (VRL.cons rfl (VRL.cons rfl VRL.nil)),trivial⟩
theorem Qn{W:World}{v:Value}{r:Reach}{b0:Nat}{t e:TypeId}(ht:P.underlying t=some (.slice e))(hval:Value.okWide P W r b0 t v):v.cells=#[v]:=by
 unfold Value.okWide at hval;rw[ht]at hval;have:=YP hval;cases v<;>first | rfl | simp[Value.oneCell']at this
end
section
variable{H:Type}{enc:TypeId×Value->H}
theorem aeA{W:World}{n:Nat}{cs:List Value}{y:DataW H×List MemPlace}(hl:cs.length=1)(h:DataW.trod enc P W 0 (fun _=>true) true n 33 cs=some y):∃ o:List OpM,VRL (envOf W) (ELo.f o) cs/\True:=by
 match cs,hl with
 |[c0],_=>
  obtain⟨v,q2,l,hv,_,_⟩:=DJ EOp.f (sz:=3) (by decide) (good:=fun _=>True) Go.Proofs.Tryz.underlying33 (by kernel_rfl) (fun n cs' y hl h=>aeR hl h) h;simp only[je,jd]at q2;subst q2;exact⟨l,VRL.cons hv VRL.nil,trivial⟩
theorem open_los{W:World}{v:Value}{d:DataW H}{ps:List MemPlace}{r:Reach}{b0:Nat}(hval:Value.okWide P W r b0 22 v)(h:DataW.Trod enc P W 0 (fun _=>true) true 22 v d ps) :
  ∃ l:List (List OpM),VR (envOf W) (fzLo l) v/\l.length<=9223372036854775807:=by
 have hv:=Qn Go.Proofs.Tryz.underlying22 hval;obtain⟨fuel,h⟩:=h;rw[hv]at h;obtain⟨v',e,l,h1,_,h3⟩:=DJ ELo.f (sz:=1) (by decide) (good:=fun _=>True) Go.Proofs.Tryz.underlying22 (by kernel_rfl) (fun n cs' y hl h=>aeA hl h) h;simp only[je,jd]at e;subst e;exact⟨l,h1,h3⟩
end
end Go.VS.Tryz
end

noncomputable section
namespace Go.Proofs.YtofceohboacaoaaGreat.nodePair
open Go.ChangeShapes Go.WideShapes Go.ChangeAt Go.RowKit
set_option maxRecDepth 1000000
theorem own:ownKnob Tryz.prog.godebug=none:=Facts.own
theorem laidOut:laidOutB Tryz.prog=true:=Facts.laid
theorem walk{l:List (List VS.Tryz.OpM)}{le av:Int}{v1:Value}(h1:l.length<=9223372036854775807)(w:World)(g1:VS.VR (VS.envOf w) (VS.Tryz.fzLo l) v1) :
  Calls Tryz.prog 3 #[.int .i64 le,v1, .int .i64 av] w fun e w'=>e = .returned (.bool true)/\Below w.heap.size w w':=
 VS.CR.true_calls (VS.CR.ofK0 (VS.Tryz.law23_crx (le:=le) (av:=av) h1)) (args':=#[.int .i64 le,v1, .int .i64 av]) (VS.VRL.cons rfl (VS.VRL.cons g1 (VS.VRL.cons rfl VS.VRL.nil)))
theorem lifted(os:Os)(started:os.Started)(H:Type)(enc:TypeId×Value->H) :
  ReturnsInHanded {} Tryz.checked os 3 .any (Rows.nodePairSpec.pre6 enc Tryz.prog Tryz.f3 Rows.nodePairRow.domain false) (Rows.nodePairSpec.post enc Tryz.prog Tryz.f3 false true false false):=by
 refine returnsInHanded_of_change (C:=Tryz.checked) own started (by kernel_rfl) Tryz.func3
  (ChangeSpec.witness6 (enc:=enc) (C:=Tryz.checked) false ⟨#[],#[.int .i64 0, .slice none 0 0, .int .i64 0],[]⟩ 8 (by kernel_rfl) (by kernel_rfl) (by kernel_rfl) (by kernel_rfl)) ?_
 intro W base args ds gs before hval0 hW hcnd _;have hval:∀ (j:Nat) t v,Tryz.f3.params[j]? = some t->args[j]? = some v->Value.okWide Tryz.prog W .any base t v:=hval0;have hW':=hW;obtain⟨p,q,hA0,hV,rfl,hfz,hnd⟩:=hW;have hA:DataW.TrodAll enc Tryz.prog W 0 (fun _=>true) true Tryz.f3.params.toList args.toList ds p:=hA0;rw[Tryz.params3]at hA hval;obtain⟨v0,vs0,d0,ds0,p0,q0,hargs,rfl,rfl,h0,r0⟩:=trodAll_cons hA;obtain⟨v1,vs1,d1,ds1,p1,q1,rfl,rfl,rfl,h1,r1⟩:=trodAll_cons r0;obtain⟨v2,vs2,d2,ds2,p2,q2,rfl,rfl,rfl,h2,r2⟩:=trodAll_cons r1;obtain⟨rfl,rfl,rfl⟩:=trodAll_nil r2;obtain rfl:args=#[v0,v1,v2]:=by cases args; simp_all
 obtain⟨rfl,rfl⟩:=trodVars_none hV;obtain⟨le,rfl⟩:∃ n,v0 = .int .i64 n:=okWide_int Tryz.underlying3 (hval 0 3 v0 rfl rfl);obtain⟨l,g1,hl⟩:=VS.Tryz.open_los (hval 1 22 v1 rfl rfl) h1;obtain⟨av,rfl⟩:∃ n,v2 = .int .i64 n:=okWide_int Tryz.underlying3 (hval 2 3 v2 rfl rfl);clear hA0 hval0;simp only[List.append_nil]at hW';have hlt0:∀ x∈p0,x.block<W.heap.size:=fun x hx=>by simpa using hW'.lt x (by simp[hx])
 have hlt1:∀ x∈p1,x.block<W.heap.size:=fun x hx=>by simpa using hW'.lt x (by simp[hx])
 have hlt2:∀ x∈p2,x.block<W.heap.size:=fun x hx=>by simpa using hW'.lt x (by simp[hx])
 refine(walk hl W g1).mono fun e W' ⟨he,hg⟩=>?_;subst he;refine⟨_,rfl,_,_,_,[],p0++(p1++p2),[],hW',?_,?_,rfl,hg.frame _,fun h=>by cases h⟩
 ·exact trodAll_cons_mk (shut_bool Tryz.underlying4 _) trodAll_mk0
 ·have T3:=(trodAll_mk0:DataW.TrodAll enc Tryz.prog W' 0 (fun b=>decide (b<W.heap.size)) true [] [] [] [])
  have T2:=trodAll_cons_mk (Below.trod laidOut (by kernel_rfl) (of_decide_eq_true (by kernel_rfl)) h2 hg hlt2) T3;have T1:=trodAll_cons_mk (Below.trod laidOut (by kernel_rfl) (of_decide_eq_true (by kernel_rfl)) h1 hg hlt1) T2;have T0:=trodAll_cons_mk (Below.trod laidOut (by kernel_rfl) (of_decide_eq_true (by kernel_rfl)) h0 hg hlt0) T1;simp only[List.append_nil]at T0;exact T0
theorem over:Rows.nodePairRow.holds Tryz.pinned (OpenSpec.ofChange Rows.nodePairSpec):=
 OpenClaim.holds_of_wide 3 Tryz.f3 rfl rfl rfl rfl rfl rfl rfl ⟨rfl,rfl,rfl,rfl,rfl⟩ rfl rfl rfl rfl rfl k_func Tryz.func3 closed
  (of_decide_eq_true (by kernel_rfl)) (by unfold Func.isWrapper; first | (rw[if_pos (by decide +kernel)]; kernel_rfl) | (rw[if_neg (by decide +kernel)]; exact⟨rfl,rfl⟩))
  (fun os started H enc _=>lifted os started H enc)
theorem proved:Rows.NodePairSaid:=
 over
#print axioms proved
end Go.Proofs.YtofceohboacaoaaGreat.nodePair
end
