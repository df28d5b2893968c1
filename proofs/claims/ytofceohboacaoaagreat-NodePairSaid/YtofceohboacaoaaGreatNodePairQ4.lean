/- Texts of the proof, merged. No conditions. -/
import Derived.Test.YtofceohboacaoaaGreatNodePairQ3
set_option linter.unusedSimpArgs false
set_option linter.unusedVariables false
noncomputable section
namespace Go.VS.Tryz
open Go.VS
set_option maxRecDepth 1000000
def shN:List UInt8->List UInt8->Nat
 |x::r,y::s=>match decide (x=y)with
  |true=>shN r s+1
  |false=>0
 |_,_=>0
theorem VU:∀ (r s:List UInt8),shN r s<=r.length
 |[],_=>by simp[shN]
 |x::r,[]=>by simp[shN]
 |x::r,y::s=>by
  unfold shN;have:=VU r s;split<;>simp<;>omega
def lst(s:ByteArray):List UInt8:=s.data.toList
def txt(l:List UInt8):ByteArray:=⟨⟨l⟩⟩
theorem RQ(l:List UInt8):lst (txt l)=l:=rfl
theorem Ar(s:ByteArray):txt (lst s)=s:=rfl
theorem aH(s:ByteArray):(lst s).length=s.size:=(size_eq s).symm
def okO(o:OpM):Bool:=yC o.p o.k o.v
theorem Au{o:OpM}(h:okO o=true):1<=o.k.size/\o.k.size<=16/\o.v.size<=32/\(o.p=true\/o.v=txt []):=by
 unfold okO yC at h;simp only[bV,gK,kM,beq_iff_eq]at h;refine⟨h.1.1.1,h.1.1.2,h.1.2,?_⟩;rcases h.2 with h | h
 ·exact Or.inl h
 ·exact Or.inr (by rw[<-Ar o.v]; unfold lst; rw[h])
def iJ(l:List OpM):Int:=match l with
 |[]=>2
 |_=>match decide (8<l.length),l.all okO with
  |true,_=>3
  |false,true=>0
  |false,false=>2
theorem dM{l:List OpM}:iJ l=0↔1<=l.length/\l.length<=8/\l.all okO=true:=by
 cases l with
 |nil=>simp[iJ]
 |cons o l=>
  unfold iJ;by_cases h:8<(o::l).length
  ·rw[eU h];simp only[show(3:Int)=0↔False by simp,false_iff];omega
  ·rw[iW h];cases ha:(o::l).all okO<;>simp<;>simp at h<;>omega
def nX(last:List UInt8)(o:OpM):List UInt8:=(bif o.p then 1 else 0)::(au (shN last (lst o.k))++(au (o.k.size-shN last (lst o.k))++(lst o.k).drop (shN last (lst o.k))))++(bif o.p then au o.v.size++lst o.v else [])
def lN:List UInt8->List OpM->List UInt8
 |_,[]=>[]
 |last,o::r=>nX last o++lN (lst o.k) r
def nC(l:List OpM):List UInt8:=au l.length++lN [] l
def lw(b:List UInt8)(a:Nat)(bad:Bool)(m:Nat):Nat×Nat×Bool:=match bad with
 |true=>(0,a,true)
 |false=>match jX (b.drop a) m with
  |true=>((eX (b.drop a)).1,a+(eX (b.drop a)).2.1,false)
  |false=>(0,a,true)
def nz(b:List UInt8)(a:Nat)(bad:Bool)(m:Nat):List UInt8×Nat×Bool:=match(lw b a bad m).2.2 || decide (b.length<(lw b a bad m).2.1+(lw b a bad m).1)with
 |true=>([],(lw b a bad m).2.1,true)
 |false=>((b.drop (lw b a bad m).2.1).take (lw b a bad m).1,(lw b a bad m).2.1+(lw b a bad m).1,false)
def opK(last:List UInt8)(k:Nat)(t:List UInt8):List UInt8:=last.take k++t
def opR(b:List UInt8)(a:Nat)(bad:Bool)(last:List UInt8):OpM×Nat×Bool:=
 let q1:=lw b a bad 1
 let q2:=lw b q1.2.1 q1.2.2 last.length
 let q3:=nz b q2.2.1 q2.2.2 16
 let key:=opK last q2.1 q3.1
 let bad3:=q3.2.2 || (shN last key != q2.1)
 match q1.1 == 1 with
 |true=>(⟨true,txt key,txt (nz b q3.2.1 bad3 32).1⟩,(nz b q3.2.1 bad3 32).2.1,(nz b q3.2.1 bad3 32).2.2)
 |false=>(⟨false,txt key,txt []⟩,q3.2.1,bad3)
def p_(b:List UInt8):Nat->Nat->Bool->List UInt8->List OpM×Nat×Bool
 |0,a,bad,_=>([],a,bad)
 |k+1,a,bad,last=>match bad with
  |true=>([],a,true)
  |false=>((opR b a false last).1::(p_ b k (opR b a false last).2.1 (opR b a false last).2.2 (lst (opR b a false last).1.k)).1,(p_ b k (opR b a false last).2.1 (opR b a false last).2.2 (lst (opR b a false last).1.k)).2)
def readB(b:List UInt8):Option (List OpM×Nat):=
 let q:=lw b 0 false 8
 let r:=p_ b q.1 q.2.1 q.2.2 []
 match r.2.2 || (iJ r.1 != 0)with
 |true=>none
 |false=>some (r.1,r.2.1)
theorem u_{b pre r:List UInt8}{n m a:Nat}(hb:b=pre++(au n++r))(ha:a=pre.length)(hn:n<=m)(hm:m<9223372036854775808):lw b a false m=(n,a+(au n).length,false):=by
 subst ha;have hd:b.drop pre.length=au n++r:=by rw[hb,x9 rfl]
 have h1:=JX (n:=n) (by omega) r;have hs:jX (au n++r) m=true:=by
  unfold jX;rw[h1];simp;omega
 unfold lw;simp only[hd,hs,h1]
theorem D7{b pre r t:List UInt8}{m a:Nat}(hb:b=pre++(au t.length++(t++r)))(ha:a=pre.length)(hn:t.length<=m)(hm:m<9223372036854775808):nz b a false m=(t,a+(au t.length).length+t.length,false):=by
 have h1:=u_ hb ha hn hm;unfold nz;rw[h1];have hl:b.length=pre.length+((au t.length).length+(t.length+r.length)):=by rw[hb]; simp
 have hdec:decide (b.length<a+(au t.length).length+t.length)=false:=iW (by omega);simp only[hdec,Bool.or_self];have hd:b.drop (a+(au t.length).length)=t++r:=by
  rw[hb,ha,<-vH,x9 rfl,x9 rfl]
 rw[hd,AO rfl]
theorem Qx:∀ (r s:List UInt8),shN r s<=r.length:=VU
theorem yj:∀ (r s:List UInt8),shN r s<=s.length
 |[],s=>by simp[shN]
 |x::r,[]=>by simp[shN]
 |x::r,y::s=>by
  unfold shN;have:=yj r s;split<;>simp<;>omega
theorem Nz:∀ (r s:List UInt8),r.take (shN r s)=s.take (shN r s)
 |[],s=>by simp[shN]
 |x::r,[]=>by simp[shN]
 |x::r,y::s=>by
  unfold shN;split
  ·rename_i h;obtain rfl:=lY h;rw[BH,BH,Nz r s]
  ·simp
theorem aca{b pre r last:List UInt8}{o:OpM}{a:Nat}(hb:b=pre++(nX last o++r))(ha:a=pre.length)(ho:okO o=true)(hl:last.length<=16):opR b a false last=(o,a+(nX last o).length,false):=by
 obtain⟨h1,h2,h3,h4⟩:=Au ho;have hpl:=Qx last (lst o.k);have hpr:=yj last (lst o.k);have hkl:=aH o.k;have hvl:=aH o.v;have hkey:opK last (shN last (lst o.k)) ((lst o.k).drop (shN last (lst o.k)))=lst o.k:=by
  unfold opK;rw[Nz,sN]
 have hdl:((lst o.k).drop (shN last (lst o.k))).length=o.k.size-shN last (lst o.k):=by rw[gZ,hkl]
 obtain⟨p,k,v⟩:=o;simp only at h1 h2 h3 h4 hpl hpr hkl hvl hkey hdl;cases p with
 |true=>
  have e1:b=pre++(au 1++(au (shN last (lst k))++(au ((lst k).drop (shN last (lst k))).length++((lst k).drop (shN last (lst k))++(au (lst v).length++(lst v++r)))))):=by
   rw[hb,hdl,hvl,xB (n:=1) (by decide)]; simp[nX]
  have q1:=u_ (m:=1) e1 ha (dm _) (by decide);have e2:b=(pre++au 1)++(au (shN last (lst k))++(au ((lst k).drop (shN last (lst k))).length++((lst k).drop (shN last (lst k))++(au (lst v).length++(lst v++r))))):=by rw[e1]; simp only[fG]
  have q2:=u_ (m:=last.length) (a:=a+(au 1).length) e2 (by simp only[ha,bP]) hpl (by omega);have e3:b=(pre++au 1++au (shN last (lst k)))++(au ((lst k).drop (shN last (lst k))).length++((lst k).drop (shN last (lst k))++(au (lst v).length++(lst v++r)))):=by rw[e1]; simp only[fG]
  have q3:=D7 (m:=16) (a:=a+(au 1).length+(au (shN last (lst k))).length) e3 (by simp only[ha,bP]) (by rw[hdl]; omega) (by decide);have e4:b=(pre++au 1++au (shN last (lst k))++au ((lst k).drop (shN last (lst k))).length++(lst k).drop (shN last (lst k)))++(au (lst v).length++(lst v++r)):=by rw[e1]; simp only[fG]
  have q4:=D7 (m:=32) (a:=a+(au 1).length+(au (shN last (lst k))).length+(au ((lst k).drop (shN last (lst k))).length).length+((lst k).drop (shN last (lst k))).length) e4 (by simp only[ha,bP]) (by omega) (by decide);unfold opR;simp only[q1,q2,q3,hkey,bne_self_eq_false,Bool.or_self,q4];simp only[beq_self_eq_true];have hlen:(nX last ⟨true,k,v⟩).length=(au 1).length+(au (shN last (lst k))).length+(au ((lst k).drop (shN last (lst k))).length).length+((lst k).drop (shN last (lst k))).length+(au (lst v).length).length+(lst v).length:=by
   rw[hdl,hvl,xB (n:=1) (by decide)]; simp[nX,hvl]; omega
  rw[hlen];simp only[dA,OpM.mk.injEq,lM,jd];exact⟨⟨Ar k,Ar v⟩,by omega⟩
 |false=>
  have hv:v=txt []:=by rcases h4 with h | h; cases h; exact h
  have e1:b=pre++(au 0++(au (shN last (lst k))++(au ((lst k).drop (shN last (lst k))).length++((lst k).drop (shN last (lst k))++r)))):=by
   rw[hb,hdl,xB (n:=0) (by decide)]; simp[nX]
  have q1:=u_ (m:=1) e1 ha (by decide) (by decide);have e2:b=(pre++au 0)++(au (shN last (lst k))++(au ((lst k).drop (shN last (lst k))).length++((lst k).drop (shN last (lst k))++r))):=by rw[e1]; simp only[fG]
  have q2:=u_ (m:=last.length) (a:=a+(au 0).length) e2 (by simp only[ha,bP]) hpl (by omega);have e3:b=(pre++au 0++au (shN last (lst k)))++(au ((lst k).drop (shN last (lst k))).length++((lst k).drop (shN last (lst k))++r)):=by rw[e1]; simp only[fG]
  have q3:=D7 (m:=16) (a:=a+(au 0).length+(au (shN last (lst k))).length) e3 (by simp only[ha,bP]) (by rw[hdl]; omega) (by decide);unfold opR;simp only[q1,q2,q3,hkey,bne_self_eq_false,Bool.or_self];have hlen:(nX last ⟨false,k,v⟩).length=(au 0).length+(au (shN last (lst k))).length+(au ((lst k).drop (shN last (lst k))).length).length+((lst k).drop (shN last (lst k))).length:=by
   rw[hdl,xB (n:=0) (by decide)]; simp[nX]; omega
  rw[hlen,hv];simp only[show((0:Nat) == 1)=false from rfl,dA,OpM.mk.injEq,lM,jd];exact⟨Ar k,by omega⟩
theorem LD{b:List UInt8}:∀ (l:List OpM) (pre r last:List UInt8) (a:Nat),b=pre++(lN last l++r)->a=pre.length->l.all okO=true->last.length<=16->p_ b l.length a false last=(l,a+(lN last l).length,false)
 |[],pre,r,last,a,hb,ha,ho,hl=>by simp[p_,lN]
 |o::l,pre,r,last,a,hb,ha,ho,hl=>by
  simp only[sK,bV]at ho;have q:=aca (b:=b) (r:=lN (lst o.k) l++r) (by rw[hb]; simp only[lN,fG]) ha ho.1 hl;obtain⟨h1,h2,_⟩:=Au ho.1;have ih:=LD (b:=b) l (pre++nX last o) r (lst o.k) (a+(nX last o).length) (by rw[hb]; simp only[lN,fG]) (by simp only[ha,bP]) ho.2 (by rw[aH]; exact h2);rw[jH,p_];simp only[q,ih];simp[lN]; omega
theorem U8{l:List OpM}(h:iJ l=0)(r:List UInt8):readB (nC l++r)=some (l,(nC l).length):=by
 obtain⟨h1,h2,h3⟩:=dM.1 h;have q:=u_ (b:=nC l++r) (pre:=[]) (r:=lN [] l++r) (n:=l.length) (m:=8) (a:=0) (by simp[nC]) rfl h2 (by decide);have ih:=LD (b:=nC l++r) l (au l.length) r [] (0+(au l.length).length) (by simp[nC]) (by simp) h3 (by simp);unfold readB;simp only[q,ih,h,bne_self_eq_false,Bool.or_self];simp[nC]
end Go.VS.Tryz
end

noncomputable section
namespace Go.VS.Tryz

theorem We{s:ByteArray}{i:Nat}(h:i<(lst s).length):bAt s (i:Int)=(((lst s)[i]).toNat:Int):=by
 unfold bAt;show(((lst s).getD (i:Int).toNat 0).toNat:Int)=_;rw[show(i:Int).toNat=i by omega,sQ,oP h,sS]
theorem TT(a b:ByteArray):∀ (k i:Nat),i+k=min (lst a).length (lst b).length->(qo a b k i).getD (i+k)=i+shN ((lst a).drop i) ((lst b).drop i)
 |0,i,h=>by
  have hz:shN ((lst a).drop i) ((lst b).drop i)=0:=by
   rcases Nat.le_total (lst a).length (lst b).length with hl | hl
   ·rw[Nat.min_eq_left hl]at h;rw[IC (by omega:(lst a).length<=i)];simp[shN]
   ·rw[Nat.min_eq_right hl]at h;rw[IC (by omega:(lst b).length<=i)];simp[shN]
  rw[hz]
  rfl
 |k+1,i,h=>by
  have h1:i<(lst a).length:=by omega
  have h2:i<(lst b).length:=by omega
  rw[lu h1,lu h2];simp only[qo,shN];rw[We h1,We h2];by_cases hx:(lst a)[i]=(lst b)[i]
  ·have e:neI (((lst a)[i]).toNat:Int) (((lst b)[i]).toNat:Int)=false:=by rw[hx]; unfold neI; simp
   rw[e,eU hx];have ih:=TT a b k (i+1) (by omega);simp only;rw[show i+(k+1)=i+1+k by omega,ih];omega
  ·have e:neI (((lst a)[i]).toNat:Int) (((lst b)[i]).toNat:Int)=true:=by
    unfold neI;simp only[bne_iff_ne,ne_eq];intro hh;exact hx (UInt8.toNat_inj.1 (by omega))
   rw[e,iW hx]
   rfl
theorem BQ(a b:ByteArray):tZ a b=shN (lst a) (lst b):=by
 have hm:h_ a b=min (lst a).length (lst b).length:=by
  rw[aH,aH];unfold h_;cases h:ltI (ah b.size) (ah a.size)with
  |true=>have:ah b.size<ah a.size:=lY h; unfold ah at this; simp only; omega
  |false=>have:¬ah b.size<ah a.size:=of_decide_eq_false h; unfold ah at this; simp only; omega
 have:=TT a b (h_ a b) 0 (by omega);rw[nN,nN,iQ,iQ]at this;exact this
end Go.VS.Tryz
end

noncomputable section
namespace Go.VS.Tryz
open Go.VS
set_option maxRecDepth 1000000
def within(x a b:Int):Bool:=decide (a<=x)&&decide (x<=b)
theorem within_iff{x a b:Int}:within x a b=true↔a<=x/\x<=b:=by unfold within; simp
theorem Ee:∀ (i:Nat) (l:List OpM),badM i l=none↔l.all okO=true
 |_,[]=>by simp[badM]
 |i,o::l=>by
  unfold badM;have e:G9 o=okO o:=rfl;rw[e,sK];cases okO o with
  |true=>simp only[yJ]; exact Ee (i+1) l
  |false=>simp
theorem y7(l:List OpM):yB l=iJ l:=by
 have hb:(badM 0 l).isNone=l.all okO:=by
  cases h:l.all okO with
  |true=>rw[(Ee 0 l).2 h]; rfl
  |false=>
   cases hq:badM 0 l with
   |none=>rw[(Ee 0 l).1 hq]at h; cases h
   |some i=>rfl
 unfold yB;rw[hb];cases l with
 |nil=>rfl
 |cons o l=>
  have h0:eqI (ah (o::l).length) 0=false:=eF_ (by unfold ah; simp; omega);rw[h0];unfold iJ;by_cases h:8<(o::l).length
  ·have h8:gtI (ah (o::l).length) 8=true:=gT_ (by unfold ah; omega);rw[h8,eU h]
  ·have h8:gtI (ah (o::l).length) 8=false:=gF_ (by unfold ah; omega);rw[h8,iW h];cases (o::l).all okO<;>rfl
def cmE(c:CmM):Int:=match within c.e 1 1048576&&within c.n 1 1048576 with
 |true=>yB c.ops
 |false=>2
theorem fU{c:CmM}:cmE c=0↔(1<=c.e/\c.e<=1048576)/\(1<=c.n/\c.n<=1048576)/\iJ c.ops=0:=by
 unfold cmE;rw[y7];cases h:within c.e 1 1048576&&within c.n 1 1048576 with
 |true=>
  simp only[bV,within_iff]at h;simp only[h,lM,and_self]
 |false=>
  have:¬((1<=c.e/\c.e<=1048576)/\(1<=c.n/\c.n<=1048576)):=by
   intro⟨a,b⟩;rw[within_iff.2 a,within_iff.2 b]at h;cases h
  simp only[show(2:Int)=0↔False by simp,false_iff];intro⟨a,b,_⟩;exact this ⟨a,b⟩
def fA:Int->Int->Nat->List CmM->Int×Nat
 |_,_,_,[]=>(0,0)
 |e,n,i,c::l=>match eqI (cmE c) 0 with
  |false=>(cmE c,i)
  |true=>match neI (c.n-1) n || ltI c.e e with
   |true=>(15,i)
   |false=>fA c.e c.n (i+1) l
def bF(c:CmM):List UInt8:=au c.e.toNat++(au c.n.toNat++nC c.ops)
def VH(b:List UInt8):Option CmM:=match jX b 1048576 with
 |false=>none
 |true=>match jX (b.drop (eX b).2.1) 1048576 with
  |false=>none
  |true=>match readB (b.drop ((eX b).2.1+(eX (b.drop (eX b).2.1)).2.1))with
   |none=>none
   |some (l,k)=>match decide ((eX b).2.1+(eX (b.drop (eX b).2.1)).2.1+k=b.length)&&eqI (cmE ⟨(eX b).1,(eX (b.drop (eX b).2.1)).1,l⟩) 0 with
    |true=>some ⟨(eX b).1,(eX (b.drop (eX b).2.1)).1,l⟩
    |false=>none
theorem KE{n m:Nat}(hn:n<=m)(hm:m<9223372036854775808)(r:List UInt8):jX (au n++r) m=true/\eX (au n++r)=(n,(au n).length,0):=by
 have h1:=JX (n:=n) (by omega) r;refine⟨?_,h1⟩;unfold jX;rw[h1];simp;omega
theorem Yc{c:CmM}(h:cmE c=0):VH (bF c)=some c:=by
 obtain⟨⟨e1,e2⟩,⟨n1,n2⟩,hb⟩:=fU.1 h;have q1:=KE (n:=c.e.toNat) (m:=1048576) (by omega) (by decide) (au c.n.toNat++nC c.ops);have q2:=KE (n:=c.n.toNat) (m:=1048576) (by omega) (by decide) (nC c.ops);have q3:=U8 hb [];rw[gG]at q3;have d1:(bF c).drop (au c.e.toNat).length=au c.n.toNat++nC c.ops:=x9 rfl;have d2:(bF c).drop ((au c.e.toNat).length+(au c.n.toNat).length)=nC c.ops:=by
  rw[<-vH,d1,x9 rfl]
 have s1:jX (bF c) 1048576=true:=q1.1;have n1':eX (bF c)=(c.e.toNat,(au c.e.toNat).length,0):=q1.2;have s2:jX (au c.n.toNat++nC c.ops) 1048576=true:=q2.1;have hc:(⟨(c.e.toNat:Int),(c.n.toNat:Int),c.ops⟩:CmM)=c:=by
  obtain⟨e,n,o⟩:=c;simp only[CmM.mk.injEq,jd];simp only at e1 n1;omega
 have hl:decide ((au c.e.toNat).length+(au c.n.toNat).length+(nC c.ops).length=(bF c).length)=true:=eU (by simp[bF]; omega);unfold VH;simp only[s1,n1',d1,s2,q2.2,d2,q3,hc,hl,h]
 rfl
def frM(r:List UInt8):List UInt8:=au r.length++r
structure SecM where
 e:Int
 f:Int
 cs:List CmM
def aY(l:List CmM):Int:=(l.getLast?.map CmM.e).getD 0
def zQ(s:SecM):Int:=match within s.e 1 1048576&&decide (0<=s.f)&&!s.cs.isEmpty with
 |false=>2
 |true=>match eqI (fA 1 s.f 0 s.cs).1 0 with
  |false=>(fA 1 s.f 0 s.cs).1
  |true=>match geI (aY s.cs) s.e with
   |true=>15
   |false=>0
def headB(s:SecM):List UInt8:=au s.e.toNat++(au s.f.toNat++au s.cs.length)
def encS(s:SecM):List UInt8:=frM (headB s)++s.cs.flatMap fun c=>frM (bF c)
theorem aK{n:Nat}:(au n).length<=11:=by
 unfold au;have:=xg 10 n;rw[bP];simp;omega
end Go.VS.Tryz
end

noncomputable section
namespace Go.VS

section
variable{P:Program}{ct:Ct}
open Classical in
def ay(a0:List Value)(b0:List Blk):List Value->List Blk->Bool:=fun vs bs=>decide (a0=vs/\b0=bs)
open Classical in
theorem KN{a0 vs:List Value}{b0 bs:List Blk}(h1:a0=vs)(h2:b0=bs):ay a0 b0 vs bs=true:=by
 unfold ay; exact eU ⟨h1,h2⟩
open Classical in
theorem tK{a0 vs:List Value}{b0 bs:List Blk}(h:ay a0 b0 vs bs=true):a0=vs/\b0=bs:=by
 unfold ay at h; exact lY h
theorem nH{a0 vs:List Value}{b0 bs:List Blk}{x r:Res}(h1:a0=vs)(h2:b0=bs)(h:x=r):ae (ay a0 b0 vs bs) x=r:=by
 rw[KN h1 h2]; exact h
theorem az{N:Nat}{g:FuncId}{a0:List Value}{b0:List Blk}{v:Value}{b1:List Blk}(h:CRX P N g a0 b0 v b1):CallOkX P N g (aP (ay a0 b0) (.leaf (v,b1))):=by
 refine⟨fun args bs t hR v' bs' hev=>?_⟩;unfold aP at hR;obtain rfl:=aC hR;cases hc:ay a0 b0 args bs with
 |false=>rw[hc]at hev; cases hev
 |true=>
  rw[hc]at hev;obtain⟨rfl,rfl⟩:=tK hc;have hev:(DT.leaf (v,b1)).eval=some (v',bs'):=hev;simp only[DT.eval,dD,dA]at hev;obtain⟨rfl,rfl⟩:=hev;exact h
theorem d_{fid id:Nat}{B:Code}{H:Head}{a0:List Value}{b0:List Blk}{e:Ex}{v:List Value}{b1:List Blk}(hocc:∀ c,Occ P fid (.block id c)->c = .loop B)(h:LRX P fid id B H a0 b0 e v b1):LoopOkX P fid id B H (gX (ay a0 b0) (.leaf (e,v,b1))) where
 occ:=hocc
 run:=by
  intro vs bs t hR e' vs' bs' hev;unfold gX at hR;obtain rfl:=aC hR;cases hc:ay a0 b0 vs bs with
  |false=>rw[hc]at hev; cases hev
  |true=>
   rw[hc]at hev;obtain⟨rfl,rfl⟩:=tK hc;have hev:(DT.leaf (e,v,b1)).eval=some (e',vs',bs'):=hev;simp only[DT.eval,dD,dA]at hev;obtain⟨rfl,rfl,rfl⟩:=hev;exact h
theorem CallOkX.at{σ:Type}{k:Con σ}{N:Nat}{g:FuncId}{res:σ->DT (Value×List Blk)}(h:CallOkX P N g (wX k.C k.D res)){s:σ}(ho:k.ok s){v:Value}{b:List Blk}(hv:(res s).eval=some (v,b)):CRX P N g (k.enc s).1 (k.enc s).2 v b:=
 h.run _ _ _ rfl v b (by rw[k.C_enc rfl ho,k.D_enc rfl]; exact hv)
theorem LRX.rounds{E:Eng}(hE:EngOk P ct E)(hN:noNum P=true)(hct:CtOk P ct){n fid id:Nat}{B:Code}{D:HeadX}(hocc:Occ P fid (.block id (.loop B))){vs:Nat->List Value}{bs:Nat->List Blk}{e:Ex}{vs':List Value}{bs':List Blk}(m:Nat)
  (h:∀ i,i<m->aU P E ct n fid B D (vs i) (bs i)=some (.tuple ⟨exV .normal::vs (i+1)⟩,ag (bs (i+1)))) (hs:aU P E ct n fid B D (vs m) (bs m)=some (.tuple ⟨exV e::vs'⟩,ag bs')) (he:e≠ .normal):LRX P fid id B D.head (vs 0) (bs 0) (kP id e) vs' bs':=
 LRX.iter hE hN hct hocc m h (LRX.stop hE hN hct hocc hs he)
end
end Go.VS
end

noncomputable section
namespace Go.VS.Tryz
open Go.VS
set_option maxRecDepth 1000000
theorem KJ(s:ByteArray)(a b:Nat):(yw s (a:Int) (b:Int)).data.toList=(s.data.toList.drop a).take (b-a):=by
 unfold yw;simp[ByteArray.extract,ByteArray.copySlice,List.extract_eq_take_drop]
def shK(a b:ByteArray):Bool:=decide (h_ a b<4611686018427387904)
def shS(a b:ByteArray):Int:=(tZ a b:Int)
theorem Xm:CallOkX P 0 134 (Vh shK shS):=⟨fun args bs t hR v bs' hev=>by
 unfold Vh at hR;split at hR
 ·rename_i a b;obtain rfl:=aC hR;cases hc:shK a b with
  |false=>rw[hc]at hev; cases hev
  |true=>
   rw[hc]at hev;unfold shK at hc;have ho:h_ a b<4611686018427387904:=lY hc;exact agP.run _ _ _ rfl v bs' (by rw[kSk.C_enc (s:=⟨a,b⟩) rfl ho,kSk.D_enc (s:=⟨a,b⟩) rfl]; exact hev)
 ·cases hR⟩
def Jq:Ct:=abg au gB shK shS
theorem aem:CtOk P Jq:=af (l_ (iw aA uN)) Xm
theorem ado{s:ByteArray}{a:Nat}(h:a<=s.size):Go.byteCells (yw s (a:Int) (ah s.size))=bc ((lst s).drop a)/\(yw s (a:Int) (ah s.size)).size=s.size-a:=by
 have e:(yw s (a:Int) (ah s.size)).data.toList=(lst s).drop a:=by
  unfold ah lst;rw[KJ,oC (by rw[gZ,<-size_eq]; exact dm _)]
 refine⟨?_,?_⟩
 ·unfold Go.byteCells bc;rw[e]
 ·rw[size_eq,e,gZ,aH]
theorem Yn(s:ByteArray):Go.byteCells s=bc (lst s):=rfl
theorem Eb{x:List UInt8}{n:Nat}(h:n=x.length):takeC n (aO 0 (bc x))=bc x:=dV h
theorem Md{x:List UInt8}{n:Nat}(h:n=x.length):oI P 0 n 18446744073709551616 (bc x) 5=true:=L9 h
theorem o7{x:List UInt8}{n:Nat}(h:n=x.length)(h2:x.length+64<=4194304):fzB 18446744073709551617 n (bc x)=true:=by
 rw[<-fz1]; exact yO h h2
theorem Hr{n m:Nat}(h:n<=m):Nat.ble n m=true:=dG h
theorem Ub{n m:Nat}(h:n=m):Nat.beq n m=true:=Ez.2 h
def apV(o:List UInt8)(last:ByteArray)(l:List OpM)(i:Nat):List Value:=[.slice (some ⟨0,0,none⟩) o.length 18446744073709551616, .string last,bD l, .int .i64 (ah l.length), .int .i64 i]
def apB(o:List UInt8):List Blk:=[.cells (bc o) 5 false]
theorem aal{o:List UInt8}{last:ByteArray}{l:List OpM}{i:Nat}(hi:i<l.length)(hl:l.length<=8)(hok:okO l[i]=true)(ho:o.length+256<=4194304)(hla:last.size<=16) :
  aU P E Jq 50 96 Bap Dap (apV o last l i) (apB o)=some (.tuple ⟨exV .normal::apV (o++nX (lst last) l[i]) l[i].k l (i+1)⟩,ag (apB (o++nX (lst last) l[i]))):=by
 obtain⟨k1,k2,v1,pv⟩:=Au hok;have hs1:tZ last l[i].k<=l[i].k.size:=by
  rw[BQ,<-aH]; exact yj _ _
 have hs2:tZ last l[i].k=shN (lst last) (lst l[i].k):=BQ _ _;have hl1:=aH last;have hl2:=aH l[i].k;have hl3:=aH l[i].v;generalize hsh:shN (lst last) (lst l[i].k)=s at hs2;have hsl:s<=l[i].k.size:=by rw[<-hs2]; exact hs1
 have b3:∀ n,Nat.beq n n=true:=nR;have n3:∀ l:List OpM,(EOp.all l).length=Nat.mul l.length 3:=fun l=>EOp.all_length l;have g1:ltI (i:Int) (ah l.length)=true:=lT_ (by unfold ah; omega);have g2:inI (i:Int) l.length=true:=by unfold inI; exact eU (by omega)
 have g3:Nat.ble (Nat.add (atN (i:Int) 3) 3) (Nat.mul l.length 3)=true:=dG (by
  show(i:Int).toNat*3+3<=l.length*3;have:(i:Int).toNat=i:=by omega
  omega)
 have g4:=Be hi;have a1:bM .i64 (i:Int) 1=((i+1:Nat):Int):=by unfold bM; rw[wrap64 (by omega) (by omega)]; omega
 have ab:∀ b,asB (.bool b)=b:=fun _=>rfl;have aS:∀ b,asS (.string b)=b:=fun _=>rfl;have hK:shK last l[i].k=true:=by unfold shK; exact eU (by have:=(Jh last l[i].k).1; omega)
 have hS:shS last l[i].k=(s:Int):=by unfold shS; rw[hs2]
 have c1:cvI .u64 (s:Int)=(s:Int):=iG (by omega);have c2:cvI .u64 (dJ .i64 (ah l[i].k.size) (s:Int))=((l[i].k.size-s:Nat):Int):=by
  have:dJ .i64 (ah l[i].k.size) (s:Int)=((l[i].k.size-s:Nat):Int):=by unfold dJ ah; rw[wrap64 (by omega) (by omega)]; omega
  rw[this]; exact iG (by omega)
 have c3:cvI .u64 (ah l[i].v.size)=(l[i].v.size:Int):=iG (by omega);have cK:=ado hsl;have g5:dS (s:Int) (ah l[i].k.size) l[i].k.size=true:=nJ (by omega) (by unfold ah; omega) (by unfold ah; omega);have cV:=Yn l[i].v;have d1:=aK (n:=s);have d2:=aK (n:=l[i].k.size-s);have d3:=aK (n:=l[i].v.size);have u1:gB (s:Int)=true:=jl (by omega) (by omega);have u2:gB ((l[i].k.size-s:Nat):Int)=true:=jl (by omega) (by omega);have u3:gB (l[i].v.size:Int)=true:=jl (by omega) (by omega);unfold apV apB bD Jq;rw[VT];simp only[fa_,fq_,fw_,io_,lb_,nb_,sl_,n3,g1,g2,g3,g4,JV hi,Ja hi,Ko hi,ab,aS,a1,hK,hS,c1,c2,c3,cK.1,cK.2,cV,g5,u1,u2,u3,b3,YW,vT,O8,I8,jO,mf,bn,fE,ul,uy,fQ,fB,fV,bu,aW];simp (disch:=first|omega|(simp only[bP,gZ,BD,Nat.add_eq,aH]<;>omega)|fail) only[fa_,fq_,fw_,io_,lb_,nb_,sl_,Eb,Md,o7,Hr,Ub,mf,bn,fE,fV,aW];unfold ax;rw[wQ];cases hp:l[i].p with
 |true=>
  have e:o++nX (lst last) l[i]=o++[1]++au s++au (l[i].k.size-s)++(lst l[i].k).drop s++au l[i].v.size++lst l[i].v:=by unfold nX; rw[hsh,hp]; simp
  rw[e,bP (bs:=lst l[i].v),hl3]
  rfl
 |false=>
  have e:o++nX (lst last) l[i]=o++[0]++au s++au (l[i].k.size-s)++(lst l[i].k).drop s:=by unfold nX; rw[hsh,hp]; simp
  rw[e,bP (bs:=(lst l[i].k).drop s),gZ,hl2]
  rfl
theorem afq{o:List UInt8}{last:ByteArray}{l:List OpM}:aU P E Jq 50 96 Bap Dap (apV o last l l.length) (apB o)=some (.tuple ⟨exV (.exit 0)::apV o last l l.length⟩,ag (apB o)):=by
 unfold apV apB bD Jq;rw[VT];have g1:ltI (l.length:Int) (ah l.length)=false:=lF_ (by unfold ah; omega);have b2:∀ n,Nat.ble n n=true:=fun n=>dG (dm n);simp only[fa_,fq_,fw_,io_,lb_,nb_,sl_,g1,b2,fQ,fB,bn,fE,Eb rfl,bg,aW];unfold ax;rw[wQ]
 rfl
def apO(b:List UInt8)(l:List OpM)(i:Nat):List UInt8:=b++lN [] (l.take i)
def apL(l:List OpM)(i:Nat):ByteArray:=((l.take i).getLast?.map OpM.k).getD ⟨#[]⟩
theorem H6(o:OpM):∀ (l:List OpM) (w:List UInt8),lN w (l++[o])=lN w l++nX ((l.getLast?.map fun x=>lst x.k).getD w) o
 |[],w=>by simp[lN]
 |x::l,w=>by
  rw[ql,lN,H6 o l,lN,fG];congr 3;cases l with
  |nil=>rfl
  |cons y l=>
   obtain⟨z,hz⟩:∃ z,(y::l).getLast? = some z:=⟨_,List.getLast?_eq_some_getLast (by simp)⟩
   rw[List.getLast?_cons_cons,hz]; rfl
theorem YN{b:List UInt8}{l:List OpM}{i:Nat}(hi:i<l.length):apO b l (i+1)=apO b l i++nX (lst (apL l i)) l[i]/\apL l (i+1)=l[i].k:=by
 have e:l.take (i+1)=l.take i++[l[i]]:=by rw[List.take_succ_eq_append_getElem hi]
 refine⟨?_,?_⟩
 ·unfold apO apL;rw[e,H6,fG];congr 3;cases (l.take i).getLast?<;>rfl
 ·unfold apL;rw[e,List.getLast?_concat]; rfl
theorem aaV{w:List UInt8}{o:OpM}(h:okO o=true):(nX w o).length<=96:=by
 obtain⟨h1,h2,h3,h4⟩:=Au h;have d1:=aK (n:=shN w (lst o.k));have d2:=aK (n:=o.k.size-shN w (lst o.k));have d3:=aK (n:=o.v.size);have hk:=aH o.k;have hv:=aH o.v;unfold nX;cases o.p<;>simp[hk,hv]<;>omega
theorem zi:∀ (l:List OpM) (w:List UInt8),l.all okO=true->(lN w l).length<=96*l.length
 |[],w,_=>by simp[lN]
 |o::l,w,h=>by
  simp only[sK,bV]at h;have:=aaV (w:=w) h.1;have:=zi l (lst o.k) h.2;simp[lN];omega
theorem agN{l:List OpM}(h:l.all okO=true)(i:Nat):(apL l i).size<=16:=by
 unfold apL;cases hq:(l.take i).getLast? with
 |none=>exact ig _
 |some o=>
  have:=oW (List.mem_of_getLast? hq);exact(Au (jA.1 h o this)).2.1
theorem acT{b:List UInt8}{l:List OpM}(h:iJ l=0)(hb:b.length+2048<=4194304):LRX P 96 0 Bap Dap.head (apV b ⟨#[]⟩ l 0) (apB b) .normal (apV (apO b l l.length) (apL l l.length) l l.length) (apB (apO b l l.length)):=by
 obtain⟨h1,h2,h3⟩:=dM.1 h;have q:=LRX.rounds (n:=50) (dU Jq) bK aem ac_ (vs:=fun i=>apV (apO b l i) (apL l i) l i) (bs:=fun i=>apB (apO b l i)) (e:= .exit 0) l.length (fun i hi=>by
  have hh:=YN (b:=b) hi;have hlen:=zi (l.take i) [] (jA.2 fun x hx=>jA.1 h3 x (oW hx));have q:=aal (o:=apO b l i) (last:=apL l i) hi h2 (jA.1 h3 _ (kQ hi)) (by
   unfold apO;rw[bP];rw[fH]at hlen
   omega) (agN h3 i)
  rw[<-hh.1,<-hh.2]at q
  exact q) afq (by intro h; cases h)
 have e:apO b l 0=b:=by unfold apO; simp[lN]
 simp only[e]at q;exact q
def ahR(V:Nat->List UInt8)(C:Int->Bool)(C1 C2:List Value->List Blk->Bool)(o:List UInt8)(k:ByteArray)(l:List OpM):Ct:=
 ak P g_ 0 33 (aP C1 (.leaf (.int .i64 0,[]))) (dX P 96 0 Dap (gX C2 (.leaf (.normal,apV o k l l.length,apB o))) (nV P 50 (jy P 50 (uq V C) ctF)))
theorem ae5(V:Nat->List UInt8)(C:Int->Bool)(C1 C2:List Value->List Blk->Bool)(o:List UInt8)(k:ByteArray)(l:List OpM)(n b:Nat)(c:List Value):aN P E (ahR V C C1 C2 o k l) 50 g_ [.val, .val] [57,0] 0 96 [ax 1 n b c,bD l] [] =
 (let z:=fa_ l.length 0 (Enc.all EOp l);let y:=ah l.length;let x:=cvI .u64 y;let w:=HAppend.hAppend (List.map byteOf c) (V (Int.toNat x));let v:=w.length;let u:=aG false (dQ 0) (bc w);let t:=o.length;let s:=aG true (aT [] 2) (bc o);
 (ae (C1 [z] []) (ae (Bool.and (fw_ n c) (C x)) (nb_ v 1 u (ae (C2 [sl_ 0 v, .string (ByteArray.mk #[]),z,io_ y,io_ 0] [lb_ (bQ 0 [1]) v 1 u 5]) (ae (fq_ t s 5) (some (.tuple ⟨[fb_ t 0 (takeC (Nat.mul t 1) (aO 0 s)),io_ 0]⟩,ag [])))))))):=by kernel_rfl
theorem agW{b:List UInt8}{l:List OpM}(h:iJ l=0)(hb:b.length+2064<=4194304)(bb:Nat):CRX P 0 96 [ax 1 b.length bb (bc b),bD l] [] (.tuple ⟨[ax 1 (b++nC l).length 0 (bc (b++nC l)), .int .i64 0]⟩) []:=by
 obtain⟨h1,h2,h3⟩:=dM.1 h;have d1:=aK (n:=l.length);have hc:CRX P 0 33 [bD l] [] (.int .i64 0) []:=by
  have q:=YM.at (s:=l) (by show l.length<4194304; omega) rfl;rw[y7,h]at q;exact q
 have hloop:=acT (b:=b++au l.length) h (by rw[bP]; omega);refine CRX.of (pol:=g_) (fl:=[.val, .val]) (ts:=[57,0]) (n:=50) (dU _) bK (af (pol:=g_) (dB (l_ (g:=50) (iw aA uN)) (d_ (bJ Wj) hloop)) (az hc)) ?_;refine(ae5 au gB (ay _ _) (ay _ _) _ _ l b.length bb (bc b)).trans ?_;have e:apO (b++au l.length) l l.length=b++nC l:=by unfold apO nC; rw[rC,fG]
 have hlen:=zi l [] h3;have he:(nC l).length<=11+96*8:=by unfold nC; rw[bP]; omega
 have c1:cvI .u64 (ah l.length)=(l.length:Int):=iG (by omega);have u1:gB (l.length:Int)=true:=jl (by omega) (by omega);rw[e];simp (disch:=first|omega|(simp only[bP,Nat.add_eq]<;>omega)|fail) only[fa_,fb_,fq_,fw_,io_,lb_,nb_,sl_,c1,u1,uy,mf,fE,bn,fQ,fB,Eb,Md,o7,Hr,fV,aW];refine nH (by unfold bD ax; rw[wQ]) rfl (nH (by unfold apV bD ax; rw[wQ]; rfl) rfl ?_);unfold ax;rw[fzU]
theorem nf_:type_of% (And.intro @vT (And.intro @O8 (And.intro @I8 (And.intro @jO (And.intro @mf (And.intro @bn (And.intro @fE (And.intro @ul (And.intro @uy (And.intro @fQ (And.intro @fB (And.intro @Eb (And.intro @Md (And.intro @o7 (And.intro @Hr (And.intro @Ub (And.intro @YW (And.intro @fV (And.intro @bu (And.intro @bg (And.intro @aW (And.intro @ag1 (And.intro @agZ (And.intro @ag5 (And.intro @af7 (And.intro @afm @agp)))))))))))))))))))))))))):=And.intro @vT (And.intro @O8 (And.intro @I8 (And.intro @jO (And.intro @mf (And.intro @bn (And.intro @fE (And.intro @ul (And.intro @uy (And.intro @fQ (And.intro @fB (And.intro @Eb (And.intro @Md (And.intro @o7 (And.intro @Hr (And.intro @Ub (And.intro @YW (And.intro @fV (And.intro @bu (And.intro @bg (And.intro @aW (And.intro @ag1 (And.intro @agZ (And.intro @ag5 (And.intro @af7 (And.intro @afm @agp)))))))))))))))))))))))))
theorem O_:∀ {c:List Value},(∀ x∈c,bz x x=true)->jk c c=true
 |[],_=>rfl
 |x::c,h=>by
  simp only[jk,bV];exact⟨h x (qQ ..),O_ fun y hy=>h y (ni _ hy)⟩
theorem V_{a b:List Value}(ha:jk a a=true)(hb:jk b b=true):jk (a++b) (a++b)=true:=by
 induction a with
 |nil=>exact hb
 |cons x a ih=>
  simp only[jk,bV]at ha;simp only[ql,jk,bV];exact⟨ha.1,ih ha.2⟩
theorem OU{t n b:Nat}{c:List Value}(h:jk c c=true):bz (.iface t (.agg ⟨.slice none n b::c⟩)) (.iface t (.agg ⟨.slice none n b::c⟩))=true:=by simp[bz,zg,jk,h]
theorem Enc.beq{α:Type}(E:Enc α)(h:∀ a,jk (E.f a) (E.f a)=true):∀ l,jk (E.all l) (E.all l)=true
 |[]=>rfl
 |a::l=>by rw[E.all_cons]; exact V_ (h a) (Enc.beq E h l)
theorem ag6(l:List UInt8):jk (bc l) (bc l)=true:=O_ fun x hx=>by
 unfold bc at hx;obtain⟨b,_,rfl⟩:=vX.1 hx;simp[bz]
theorem Jz(l:List OpM):jk (EOp.all l) (EOp.all l)=true:=Enc.beq EOp (fun a=>by simp[EOp,bz,jk]) l
theorem TC(l:List CmM):jk (ECm.all l) (ECm.all l)=true:=Enc.beq ECm (fun a=>by simp[ECm,ax,bz,zg,jk,Jz]) l
theorem yV(t n b:Nat)(l:List UInt8):bz (.iface t (.agg ⟨.slice none n b::bc l⟩)) (.iface t (.agg ⟨.slice none n b::bc l⟩))=true:=OU (ag6 l)
theorem xw(t n b:Nat)(l:List OpM):bz (.iface t (.agg ⟨.slice none n b::EOp.all l⟩)) (.iface t (.agg ⟨.slice none n b::EOp.all l⟩))=true:=OU (Jz l)
theorem yT(t n b:Nat)(l:List CmM):bz (.iface t (.agg ⟨.slice none n b::ECm.all l⟩)) (.iface t (.agg ⟨.slice none n b::ECm.all l⟩))=true:=OU (TC l)
def cmV(c:CmM):Value:= .agg ⟨[.int .i64 c.e, .int .i64 c.n,bD c.ops]⟩
theorem fzO(l:List OpM):bD l = .iface 18446744073709551619 (.agg ⟨.slice none l.length 0::EOp.all l⟩):=by unfold bD ax; rw[wQ]
theorem acH(C1:List Value->List Blk->Bool)(r:Int)(c:CmM):aN P E (ak P g_ 0 33 (aP C1 (.leaf (.int .i64 r,[]))) ctF) 50 g_ [] [] 0 95 [cmV c] [] =
 (let q_0:=(Value.int IntKind.i64 (2:Int))
(aj (geI (CmM.e c) (1:Int))
 (aj (eQ (leI (CmM.e c) (1048576:Int)))
 (some (q_0,(ag [])))
 (aj (geI (CmM.n c) (1:Int))
 (aj (eQ (leI (CmM.n c) (1048576:Int)))
 (some (q_0,(ag [])))
 (ae (C1 [(Value.iface 18446744073709551619 (Value.agg (Array.mk ((Value.slice none (List.length (CmM.ops c)) 0)::(Enc.all EOp (CmM.ops c))))))] [])
 (some ((Value.int IntKind.i64 r),(ag [])))))
 (some (q_0,(ag [])))))
 (some (q_0,(ag []))))):=by kernel_rfl
theorem Ji{l:List OpM}(h:l.length<4194304):CRX P 0 33 [bD l] [] (.int .i64 (yB l)) []:=YM.at (s:=l) h rfl
theorem Ls(x a b:Int):within x a b=(geI x a&&leI x b):=rfl
theorem Eu{c:CmM}(h:c.ops.length<4194304):CRX P 0 95 [cmV c] [] (.int .i64 (cmE c)) []:=by
 refine co_ (af aA (az (Ji h))) ((acH (ay _ _) _ c).trans ?_);unfold cmE;rw[Ls,Ls];cases geI c.e 1<;>cases leI c.e 1048576<;>cases geI c.n 1<;>cases leI c.n 1048576<;>first | rfl | exact nH (by rw[fzO]) rfl rfl
def cmK(t k b:Nat)(c:List Value):Bool:=EOp.fz 4194303 t k c&&Nat.beq b 0
def cmR(e n:Int)(c:List Value):Int:=cmE ⟨e,n,EOp.dec c⟩
def Zm(K:Nat->Nat->Nat->List Value->Bool)(R:Int->Int->List Value->Int):iC:=fun args bs=>match args,bs with
 |[.agg ⟨[.int .i64 e, .int .i64 n, .iface t (.agg ⟨.slice none k b::c⟩)]⟩],[]=>some (.ite (K t k b c) (.leaf (.int .i64 (R e n c),[])) .fail)
 |_,_=>none
theorem IE:CallOkX P 0 95 (Zm cmK cmR):=⟨fun args bs t hR v bs' hev=>by
 unfold Zm at hR;split at hR
 ·rename_i e n t0 k b c;obtain rfl:=aC hR;cases hc:cmK t0 k b c with
  |false=>rw[hc]at hev; cases hev
  |true=>
   rw[hc]at hev;unfold cmK at hc;simp only[bV,Ez]at hc;obtain⟨hc,rfl⟩:=hc;obtain⟨l,h1,rfl,rfl,h2,h3⟩:=EOp.fz_of hc;have h1:t0=FZ+3:=h1;subst h1;simp only[DT.eval,dD,dA,cmR,h3]at hev;obtain⟨rfl,rfl⟩:=hev;exact Eu (c:=⟨e,n,l⟩) (by show l.length<_; omega)
 ·cases hR⟩
def aiw(V:Nat->List UInt8)(C:Int->Bool)(C1 C2:List Value->List Blk->Bool)(r:Int)(x:List UInt8):Ct:=
 ak P g_ 0 95 (aP C1 (.leaf (.int .i64 r,[]))) (ak P g_ 0 96 (aP C2 (.leaf (.tuple ⟨[ax 1 x.length 0 (bc x), .int .i64 0]⟩,[]))) (nV P 50 (jy P 50 (uq V C) ctF)))
theorem ab7(V:Nat->List UInt8)(C:Int->Bool)(C1 C2:List Value->List Blk->Bool)(r:Int)(x:List UInt8)(c:CmM):aN P E (aiw V C C1 C2 r x) 50 g_ [.val, .val] [57,0] 0 51 [cmV c] [] =
 (let q_0:=(Value.int IntKind.i64 (CmM.n c))
 let q_1:=(Value.iface 18446744073709551619 (Value.agg (Array.mk ((Value.slice none (List.length (CmM.ops c)) 0)::(Enc.all EOp (CmM.ops c))))))
 let q_2:=(cvI IntKind.u64 (CmM.e c))
 let q_3:=(HAppend.hAppend [] (V (Int.toNat q_2)))
 let q_4:=(aG Bool.false (dQ 16) (bc q_3))
 let q_5:=(takeC (Nat.mul (List.length q_3) 1) (aO 0 q_4))
 let q_6:=(cvI IntKind.u64 (CmM.n c))
 let q_7:=(HAppend.hAppend (List.map byteOf q_5) (V (Int.toNat q_6)))
 let q_8:=(aG Bool.false (dQ 17) (bc q_7))
 let q_9:=(Value.int IntKind.u64 q_6)
(ae (C1 [(Value.agg (Array.mk [(Value.int IntKind.i64 (CmM.e c)),q_0,q_1]))] [])
 (aj (neI r (0:Int))
 (some ((Value.tuple (Array.mk [(Value.iface 18446744073709551617 (Value.agg (Array.mk [(Value.slice none 0 0)]))),(Value.int IntKind.i64 r)])),(ag [])))
 (ae (Bool.and (fzB 18446744073709551617 0 []) (C q_2))
 (ae (oI P 0 (List.length q_3) 18446744073709551616 q_4 5)
 (ae (Bool.and (fzB 18446744073709551617 (List.length q_3) q_5) (C q_6))
 (ae (oI P 0 (List.length q_7) 18446744073709551616 q_8 5)
 (ae (C2 [(Value.iface 18446744073709551617 (Value.agg (Array.mk ((Value.slice none (List.length q_7) 0)::(takeC (Nat.mul (List.length q_7) 1) (aO 0 q_8)))))),q_1] [])
 (ae (bz q_0 q_0)
 (ae (bz q_9 q_9)
 (ae (bz q_1 q_1)
 (ae (bz q_1 q_1)
 (some ((Value.tuple (Array.mk [(Value.iface 18446744073709551617 (Value.agg (Array.mk ((Value.slice none (List.length x) 0)::(bc x))))),(Value.int IntKind.i64 (0:Int))])),(ag []))))))))))))))):=by kernel_rfl
def Dfo:HeadX:=⟨1,49,[0,1,6,10,11,12],[.val, .val, .val, .val, .val, .val],[],g_⟩
def Bfo:Code:=(di P 74 0).getD .skip
theorem Pq:di P 74 0=some Bfo:=by kernel_rfl
theorem EW:Occ P 74 (.block 0 (.loop Bfo)):=dN Pq
def ZV(K:Nat->Nat->Nat->List Value->Bool)(R:Int->Int->List Value->Int):Ct:=ak P g_ 0 95 (Zm K R) ctF
theorem XH(K:Nat->Nat->Nat->List Value->Bool)(R:Int->Int->List Value->Int)(e n z i r1 r2:Int)(k b:Nat)(c:List Value):aU P E (ZV K R) 50 74 Bfo Dfo [.int .i64 e, .int .i64 n, .pointer (some ⟨0,0,none⟩),ax 3 k b c, .int .i64 z, .int .i64 i] [.cells [.int .i64 r1, .int .i64 r2] 131 true] =
 (let q_0:=(Eta.int IntKind.i64)
 let q_1:=(Nat.add (atN i 3) 1)
 let q_2:=(aV c (Nat.add q_1 1))
 let q_3:=(asI (aV c (atN i 3)))
 let q_4:=(asI (aV c q_1))
 let q_5:=(R q_3 q_4 (zC q_2))
 let q_6:=(Value.pointer (Option.some (Addr.mk 0 0 none)))
 let q_7:=(Value.iface 18446744073709551619 (Value.agg (Array.mk ((Value.slice none k b)::c))))
 let q_8:=(Value.int IntKind.i64 z)
 let q_9:=[(Value.int IntKind.i64 i)]
 let q_10:=[(Value.int IntKind.i64 e),(Value.int IntKind.i64 n),q_6,q_7,q_8,(Value.int IntKind.i64 i)]
 let q_11:=(Value.tuple (Array.mk [(Value.int IntKind.i64 (-1:Int)),(Value.int IntKind.i64 e),(Value.int IntKind.i64 n),q_6,q_7,q_8,(Value.int IntKind.i64 i)]))
 let q_12:=(ag [(Blk.cells [(Value.int IntKind.i64 (15:Int)),(Value.int IntKind.i64 i)] 131 Bool.true)])
 let q_13:=(eQ (Bool.and (eqI q_5 (0:Int)) (Bool.and (eqI i i) Bool.true)))
 let q_14:=(ag [(Blk.cells [(Value.int IntKind.i64 q_5),(Value.int IntKind.i64 i)] 131 Bool.true)])
 let q_15:=(Value.tuple (Array.mk [(Value.int IntKind.i64 (0:Int)),(Value.int IntKind.i64 q_3),(Value.int IntKind.i64 q_4),q_6,q_7,q_8,(Value.int IntKind.i64 (bM IntKind.i64 i (1:Int)))]))
 let q_16:=(ag [(Blk.cells [(Value.int IntKind.i64 r1),(Value.int IntKind.i64 r2)] 131 Bool.true)])
 let t_0:=(aj q_13
 (some (q_11,q_14))
 (some (q_15,q_16)))
(aj (ltI i z)
 (ae (Bool.and (Nat.beq 3 3) (inI i k))
 (ae (Bool.and (Nat.ble (Nat.add (atN i 3) 3) (List.length c)) (jg [q_0,q_0,(Eta.slice 3)] c (atN i 3)))
 (ae (K 18446744073709551619 (zN q_2) (zB q_2) (zC q_2))
 (aj (eqI q_5 (0:Int))
 (aj (neI (dJ IntKind.i64 q_4 (1:Int)) n)
 (some (q_11,q_12))
 (aj (ltI q_3 e)
 (some (q_11,q_12))
 t_0))
 t_0))))
 (some ((Value.tuple (Array.mk [(Value.int IntKind.i64 (1:Int)),(Value.int IntKind.i64 e),(Value.int IntKind.i64 n),q_6,q_7,q_8,(Value.int IntKind.i64 i)])),q_16)))):=by kernel_rfl
theorem JA{c:CmM}(h:cmE c=0):CRX P 0 51 [cmV c] [] (.tuple ⟨[ax 1 (bF c).length 0 (bc (bF c)), .int .i64 0]⟩) []:=by
 obtain⟨⟨e1,e2⟩,⟨n1,n2⟩,hb⟩:=fU.1 h;obtain⟨b1,b2,b3⟩:=dM.1 hb;have d1:=aK (n:=c.e.toNat);have d2:=aK (n:=c.n.toNat);have q:=Eu (c:=c) (by omega);rw[h]at q;have qa:=agW (b:=au c.e.toNat++au c.n.toNat) hb (by rw[bP]; omega) 0;have ee:au c.e.toNat++au c.n.toNat++nC c.ops=bF c:=by unfold bF; rw[fG]
 rw[ee]at qa;refine co_ (af (af (l_ (g:=50) (iw aA uN)) (az qa)) (az q)) ((ab7 au gB (ay _ _) (ay _ _) 0 (bF c) c).trans ?_);have c1:cvI .u64 c.e=(c.e.toNat:Int):=by rw[<-zy (by omega:0<=c.e)]; exact iG (by omega)
 have c2:cvI .u64 c.n=(c.n.toNat:Int):=by rw[<-zy (by omega:0<=c.n)]; exact iG (by omega)
 have u1:gB (c.e.toNat:Int)=true:=jl (by omega) (by omega);have u2:gB (c.n.toNat:Int)=true:=jl (by omega) (by omega);have z:fzB 18446744073709551617 0 []=true:=by rw[<-fz1]; exact yO (l:=[]) rfl (by simp)
 have i0:neI (0:Int) 0=false:=rfl;simp (disch:=first|omega|(simp only[bU,bY,bZ,bT,bW,aH]<;>omega)|fail) only[c1,c2,u1,u2,z,i0,Bq,xw,iY,nf_];refine nH (by unfold cmV; rw[fzO]) rfl (nH (by rw[fzO]; unfold ax; rw[fzU]) rfl ?_);unfold ax;rw[fzU]
def aQ(l:List CmM):Value:=ax 3 l.length 0 (ECm.all l)
theorem agJ(l:List CmM):aQ l = .iface 18446744073709551619 (.agg ⟨.slice none l.length 0::ECm.all l⟩):=by unfold aQ ax; rw[wQ]
def foV(e n:Int)(l:List CmM)(i:Int):List Value:=[.int .i64 e, .int .i64 n, .pointer (some ⟨0,0,none⟩),aQ l, .int .i64 (ah l.length), .int .i64 i]
def foB(r:Int×Int):List Blk:=[.cells [.int .i64 r.1, .int .i64 r.2] 131 true]
theorem kW{l:List CmM}{i:Nat}(h:i<l.length):jg [.int .i64, .int .i64, .slice 3] (ECm.all l) (atN (i:Int) 3)=true:=by
 show and (gm (.int .i64) (aV (ECm.all l) (atN (i:Int) 3))) (and (gm (.int .i64) (aV (ECm.all l) (Nat.add (atN (i:Int) 3) 1))) (and (gm (.slice 3) (aV (ECm.all l) (Nat.add (Nat.add (atN (i:Int) 3) 1) 1))) true))=true;rw[jZ h,pR h,qH h];simp only[gm,Oe (s:=3) (by decide)]
 rfl
theorem VV{l:List OpM}(h:l.length<4194304):cmK 18446744073709551619 l.length 0 (EOp.all l)=true:=by
 unfold cmK;rw[EOp.fz_all (by omega) (by unfold FZ; rfl) rfl]; rfl
theorem X9(e n:Int)(l:List OpM):cmR e n (EOp.all l)=cmE ⟨e,n,l⟩:=by unfold cmR; rw[EOp.dec_all]
theorem aau{e n:Int}{l:List CmM}{i:Nat}(hi:i<l.length)(hl:l.length<4194304)(ho:l[i].ops.length<4194304) :
  aU P E (ZV cmK cmR) 50 74 Bfo Dfo (foV e n l i) (foB (0,0))=match eqI (cmE l[i]) 0,neI (dJ .i64 l[i].n 1) n || ltI l[i].e e with
   |false,_=>some (.tuple ⟨exV .ret::foV e n l i⟩,ag (foB (cmE l[i],i)))
   |true,true=>some (.tuple ⟨exV .ret::foV e n l i⟩,ag (foB (15,i)))
   |true,false=>some (.tuple ⟨exV .normal::foV l[i].e l[i].n l ((i+1:Nat):Int)⟩,ag (foB (0,0))):=by
 unfold foV foB aQ;rw[XH];have n3:∀ l:List CmM,(ECm.all l).length=Nat.mul l.length 3:=fun l=>ECm.all_length l;have g1:ltI (i:Int) (ah l.length)=true:=lT_ (by unfold ah; omega);have g2:inI (i:Int) l.length=true:=by unfold inI; exact eU (by omega)
 have g3:Nat.ble (Nat.add (atN (i:Int) 3) 3) (Nat.mul l.length 3)=true:=dG (by
  show(i:Int).toNat*3+3<=l.length*3;have:(i:Int).toNat=i:=by omega
  omega)
 have g4:=kW hi;have a1:bM .i64 (i:Int) 1=((i+1:Nat):Int):=by unfold bM; rw[wrap64 (by omega) (by omega)]; omega
 have aI:∀ k b,asI (.int k b)=b:=fun _ _=>rfl;have ii:eqI (i:Int) i=true:=eT_ rfl;have z1:∀ (n b:Nat) (c:List Value),zN (ax 3 n b c)=n:=fun _ _ _=>Ha (by decide);have z2:∀ (n b:Nat) (c:List Value),zB (ax 3 n b c)=b:=fun _ _ _=>abM (by decide);have z3:∀ (n b:Nat) (c:List Value),zC (ax 3 n b c)=c:=fun _ _ _=>MC (by decide);simp only[n3,g1,g2,g3,g4,jZ hi,pR hi,qH hi,aI,a1,ii,z1,z2,z3,VV ho,X9,nf_];unfold ax;rw[wQ];cases eqI (cmE l[i]) 0<;>cases neI (dJ .i64 l[i].n 1) n<;>cases ltI l[i].e e<;>rfl
theorem agV{e n:Int}{l:List CmM}:aU P E (ZV cmK cmR) 50 74 Bfo Dfo (foV e n l l.length) (foB (0,0))=some (.tuple ⟨exV (.exit 0)::foV e n l l.length⟩,ag (foB (0,0))):=by
 unfold foV foB aQ;rw[XH];have g1:ltI (l.length:Int) (ah l.length)=false:=lF_ (by unfold ah; omega);simp only[g1,bg];unfold ax;rw[wQ]
 rfl
def OI:Int->Int->Nat->List CmM->Int×Int×Nat
 |e,n,i,[]=>(e,n,i)
 |e,n,i,c::l=>match eqI (cmE c) 0,neI (c.n-1) n || ltI c.e e with
  |true,false=>OI c.e c.n (i+1) l
  |_,_=>(e,n,i)
theorem af4{c:CmM}(h:eqI (cmE c) 0=true):dJ .i64 c.n 1=c.n-1:=by
 obtain⟨_,⟨n1,n2⟩,_⟩:=fU.1 (show cmE c=0 by simpa [eqI]using h);unfold dJ;rw[wrap64 (by omega) (by omega)]
def GH(r:Int×Int):Ex:=match eqI r.1 0 with | true=> .normal | false=> .ret
def nI(r:Int×Nat):Int×Int:=(r.1,r.2)
theorem RJ{l:List CmM}(hl:l.length<4194304)(ho:∀ c∈l,c.ops.length<4194304):∀ (k i:Nat) (e n:Int),i+k=l.length->
  LRX P 74 0 Bfo Dfo.head (foV e n l i) (foB (0,0)) (GH (nI (fA e n i (l.drop i)))) (foV (OI e n i (l.drop i)).1 (OI e n i (l.drop i)).2.1 l (OI e n i (l.drop i)).2.2) (foB (nI (fA e n i (l.drop i))))
 |0,i,e,n,h=>by
  obtain rfl:i=l.length:=by omega
  rw[qc];exact ls_ (af aA IE) EW (e:= .exit 0) agV (by intro h; cases h)
 |k+1,i,e,n,h=>by
  have hi:i<l.length:=by omega
  have q:=aau (e:=e) (n:=n) hi hl (ho _ (kQ hi));rw[lu hi];simp only[fA,OI];cases h1:eqI (cmE l[i]) 0 with
  |false=>
   rw[h1]at q;have hx:GH (nI (cmE l[i],i)) = .ret:=by unfold GH nI; simp only[h1]
   simp only[hx];exact ls_ (af aA IE) EW (e:= .ret) q (by intro h; cases h)
  |true=>
   rw[h1,af4 h1]at q;cases h2:neI (l[i].n-1) n || ltI l[i].e e with
   |true=>
    rw[h2]at q;exact ls_ (af aA IE) EW (e:= .ret) q (by intro h; cases h)
   |false=>
    rw[h2]at q;exact la_ (af aA IE) EW q (RJ hl ho k (i+1) _ _ (by omega))
def ahv(C:List Value->List Blk->Bool)(x:Ex)(e n i:Int)(l:List CmM)(r:Int×Int):Ct:=dX P 74 0 Dfo (gX C (.leaf (x,foV e n l i,foB r))) ctF
theorem acS(C:List Value->List Blk->Bool)(e n e1 n1 i1:Int)(l:List CmM)(r:Int×Int):aN P E (ahv C .normal e1 n1 i1 l r) 50 g_ [.val] [0] 0 74 [.int .i64 e, .int .i64 n,aQ l] [] =
 (let q_0:=(Value.int IntKind.i64 (0:Int))
(ae (C [(Value.int IntKind.i64 e),(Value.int IntKind.i64 n),(Value.pointer (Option.some (Addr.mk 0 0 none))),(Value.iface 18446744073709551619 (Value.agg (Array.mk ((Value.slice none (List.length l) 0)::(Enc.all ECm l))))),(Value.int IntKind.i64 (ah (List.length l))),q_0] [(Blk.cells [q_0,q_0] 131 Bool.true)])
 (some ((Value.agg (Array.mk [q_0,q_0])),(ag []))))):=by kernel_rfl
theorem ad_(C:List Value->List Blk->Bool)(e n e1 n1 i1:Int)(l:List CmM)(r:Int×Int):aN P E (ahv C .ret e1 n1 i1 l r) 50 g_ [.val] [0] 0 74 [.int .i64 e, .int .i64 n,aQ l] [] =
 (let q_0:=(Value.int IntKind.i64 (0:Int))
(ae (C [(Value.int IntKind.i64 e),(Value.int IntKind.i64 n),(Value.pointer (Option.some (Addr.mk 0 0 none))),(Value.iface 18446744073709551619 (Value.agg (Array.mk ((Value.slice none (List.length l) 0)::(Enc.all ECm l))))),(Value.int IntKind.i64 (ah (List.length l))),q_0] [(Blk.cells [q_0,q_0] 131 Bool.true)])
 (some ((Value.agg (Array.mk [(Value.int IntKind.i64 (Prod.fst r)),(Value.int IntKind.i64 (Prod.snd r))])),(ag []))))):=by kernel_rfl
def yM(r:Int×Nat):Value:= .agg ⟨[.int .i64 r.1, .int .i64 r.2]⟩
theorem F7:∀ (l:List CmM) (e n:Int) (i:Nat),(fA e n i l).1=0->fA e n i l=(0,0)
 |[],e,n,i,_=>rfl
 |c::l,e,n,i,h=>by
  unfold fA at h ⊢;cases h1:eqI (cmE c) 0 with
  |false=>rw[h1]at h; exact absurd (show cmE c=0 from h) (by simpa [eqI]using h1)
  |true=>
   rw[h1]at h;cases h2:neI (c.n-1) n || ltI c.e e with
   |true=>rw[h2]at h; cases h
   |false=>rw[h2]at h; exact F7 l _ _ _ h
theorem pq{e n:Int}{l:List CmM}(hl:l.length<4194304)(ho:∀ c∈l,c.ops.length<4194304):CRX P 0 74 [.int .i64 e, .int .i64 n,aQ l] [] (yM (fA e n 0 l)) []:=by
 have q:=RJ hl ho l.length 0 e n (by omega);rw[iQ]at q;cases hx:eqI (fA e n 0 l).1 0 with
 |true=>
  have h0:=F7 l e n 0 (by simpa [eqI]using hx);have hX:GH (nI (fA e n 0 l)) = .normal:=by unfold GH nI; simp only[hx]
  rw[hX]at q;refine co_ (dB aA (d_ (bJ Pq) q)) ((acS (ay _ _) e n _ _ _ l _).trans ?_);rw[h0];exact nH (by unfold foV; rw[agJ]; rfl) rfl rfl
 |false=>
  have hX:GH (nI (fA e n 0 l)) = .ret:=by unfold GH nI; simp only[hx]
  rw[hX]at q;refine co_ (dB aA (d_ (bJ Pq) q)) ((ad_ (ay _ _) e n _ _ _ l _).trans ?_);exact nH (by unfold foV; rw[agJ]; rfl) rfl rfl
theorem adX(n b:Nat)(c:List Value):aN P E ctF 50 g_ [.val] [33] 0 120 [ax 3 (Nat.succ n) b c] [] =
 (let q_0:=(Nat.add 0 (Nat.succ n))
(ae (List.all c oneCell)
 (ae (Nat.ble q_0 4194304)
 (ae (oI P 0 q_0 18446744073709551616 (List.append [] c) 74)
 (some ((Value.iface 18446744073709551619 (Value.agg (Array.mk ((Value.slice none q_0 0)::(takeC (Nat.mul q_0 3) (aO 0 (List.append [] c))))))),(ag []))))))):=by kernel_rfl
theorem acu(C:List Value->List Blk->Bool)(c:CmM)(x:Value):aN P E (ak P g_ 0 120 (aP C (.leaf (bD c.ops,[]))) ctF) 50 g_ [.val] [0] 0 81 [cmV c] [] =
 (let q_0:=[(Value.iface 18446744073709551619 (Value.agg (Array.mk ((Value.slice none (List.length (CmM.ops c)) 0)::(Enc.all EOp (CmM.ops c))))))]
(ae (C q_0 [])
 (some ((Value.agg (Array.mk [(Value.int IntKind.i64 (CmM.e c)),(Value.int IntKind.i64 (CmM.n c)),(Value.iface 18446744073709551619 (Value.agg (Array.mk ((Value.slice none (List.length (CmM.ops c)) 0)::(Enc.all EOp (CmM.ops c))))))])),(ag []))))):=by kernel_rfl
theorem aea(V:Nat->List UInt8)(C:Int->Bool)(n b:Nat)(c:List Value):aN P E (nV P 50 (jy P 50 (uq V C) ctF)) 50 g_ [.val, .val] [57,0] 0 88 [ax 1 0 0 [],ax 1 n b c] [] =
 (let q_0:=(cvI IntKind.u64 (ah n))
 let q_1:=(HAppend.hAppend [] (V (Int.toNat q_0)))
 let q_2:=(Nat.add (List.length q_1) n)
 let q_3:=(aG Bool.false (dQ 0) (bc q_1))
 let q_4:=(List.append (jC 0 q_3) c)
(aj (gtI (ah n) (131072:Int))
 (some ((Value.tuple (Array.mk [(Value.iface 18446744073709551617 (Value.agg (Array.mk [(Value.slice none 0 0)]))),(Value.int IntKind.i64 (3:Int))])),(ag [])))
 (ae (Bool.and (fzB 18446744073709551617 0 []) (C q_0))
 (ae (List.all c oneCell)
 (ae (Nat.ble q_2 4194304)
 (ae (Nat.beq (Nat.add 0 (Nat.mul (List.length q_1) 1)) (List.length q_3))
 (ae (oI P 0 q_2 18446744073709551616 q_4 5)
 (some ((Value.tuple (Array.mk [(Value.iface 18446744073709551617 (Value.agg (Array.mk ((Value.slice none q_2 0)::(takeC (Nat.mul q_2 1) (aO 0 q_4)))))),(Value.int IntKind.i64 (0:Int))])),(ag [])))))))))):=by kernel_rfl
theorem aeg(l:List OpM):(EOp.all l).all oneCell=true:=jA.2 fun x hx=>by
 unfold Enc.all at hx;obtain⟨o,_,h⟩:=List.mem_flatMap.1 hx;simp only[EOp,jY,A8,or_false]at h;rcases h with rfl | rfl | rfl<;>rfl
theorem abf{l:List OpM}{n:Nat}(h:n=l.length):oI P 0 n 18446744073709551616 (EOp.all l) 74=true:=by
 subst h;have he:esz P 74=3:=by kernel_rfl
 unfold oI;rw[he,EOp.all_nr,EOp.all_length];have h2:Nat.ble (Nat.add 0 (Nat.mul l.length 3)) (l.length*EOp.sz)=true:=dG (by show 0+l.length*3<=l.length*3; omega);rw[h2]; rfl
theorem Hm{l:List OpM}{n:Nat}(h:n=l.length):takeC (Nat.mul n 3) (aO 0 (EOp.all l))=EOp.all l:=by subst h; exact EOp.all_self l
theorem ad7{l:List OpM}(h1:1<=l.length)(h2:l.length<=4194304)(b:Nat):CRX P 0 120 [ax 3 l.length b (EOp.all l)] [] (bD l) []:=by
 refine CRX.of (pol:=g_) (fl:=[.val]) (ts:=[33]) (n:=50) (dU _) bK aA ?_;obtain⟨n,hn⟩:∃ n,l.length=Nat.succ n:=⟨l.length-1,by omega⟩
 rw[hn];refine(adX n b (EOp.all l)).trans ?_;have e:List.append [] (EOp.all l)=EOp.all l:=rfl;simp (disch:=omega) only[aeg,e,fB,<-hn,abf rfl,Hm rfl,Hr,aW];rw[fzO]
theorem tY{c:CmM}(h1:1<=c.ops.length)(h2:c.ops.length<=4194304):CRX P 0 81 [cmV c] [] (cmV c) []:=by
 refine co_ (af aA (az (ad7 h1 h2 0))) ((acu (ay _ _) c .nilFunc).trans ?_);refine nH (by show [bD c.ops]=_; rw[fzO]) rfl ?_;unfold cmV;rw[fzO]
theorem JF{r:List UInt8}(h:r.length<=131072):CRX P 0 88 [ax 1 0 0 [],ax 1 r.length 0 (bc r)] [] (.tuple ⟨[ax 1 (frM r).length 0 (bc (frM r)), .int .i64 0]⟩) []:=by
 refine co_ (l_ (g:=50) (iw aA uN)) ((aea au gB r.length 0 (bc r)).trans ?_);have g1:gtI (ah r.length) 131072=false:=gF_ (by unfold ah; omega);have d1:=aK (n:=r.length);have c1:cvI .u64 (ah r.length)=(r.length:Int):=iG (by omega);have u1:gB (r.length:Int)=true:=jl (by omega) (by omega);have z:fzB 18446744073709551617 0 []=true:=by rw[<-fz1]; exact yO (l:=[]) rfl (by simp)
 simp (disch:=first|omega|(simp only[bU,bY,bZ,bT,bW,aH]<;>omega)|fail) only[g1,c1,u1,z,lK,iY,nf_];unfold ax frM;rw[fzU,bP]
 rfl
def agY:Pol:=fun t=>match Nat.beq t 86 with
 |true=>some [.val, .val, .val, .val, .val, .own, .own, .own, .own, .keep]
 |false=>none
def Dst:HeadX:=⟨1,42,[0,1,11,12,13],[.val, .val, .keep, .val, .val],[],agY⟩
def Bst:Code:=(di P 129 0).getD .skip
theorem X3:di P 129 0=some Bst:=by kernel_rfl
theorem TG:Occ P 129 (.block 0 (.loop Bst)):=dN X3
theorem X6(off fused:Bool)(fuse steps:Int)(n0 n1 n2 n3 np:Nat)(c0 c1 c2 c3 cp:List Value)(n:Nat)(q m i:Int):aU P E ctF 50 129 Bst Dst [.pointer (some ⟨0,0,none⟩), .int .i64 q, .slice (some ⟨5,0,none⟩) n 18446744073709551616, .int .i64 m, .int .i64 i] [.cells (dkC off fused fuse steps n0 n1 n2 n3 np) 86 true, .cells c0 5 false, .cells c1 5 false, .cells c2 5 false, .cells c3 5 false, .cells cp 163 false] =
 (let z:=Nat.add 0 (atN i 4);let y:=Eta.int .i64;let x:=Nat.add z 1;let w:=asI (aV cp x);let v:=eqI w 0;let u:=asI (aV cp z);let t:=eqI u 0;let s:=Nat.add x 1;let r:=aV cp s;let p:=zC r;let o:=List.all p oneCell;let l:=zN r;let k:=Nat.add n0 l;let j:=bz (io_ w) (io_ w);let h:=List.append (jC 0 c0) p;
 let g:=Value.tuple ⟨[io_ 0,pt_ 0,io_ q,sl_ 5 n,io_ m,io_ (bM .i64 i 1)]⟩;let f:=Value.bool true;let e:=Value.bool off;let d:=Value.bool fused;let c:=io_ fuse;let b:=io_ steps;let a:=sl_ 2 n1;let Z:=sl_ 3 n2;let Y:=sl_ 4 n3;let X:=sl_ 5 np;let W:=bQ 0 [0,25,26,27,28,5];let V:=lb_ W n1 1 c1 5;
 let U:=lb_ W n2 1 c2 5;let T:=lb_ W n3 1 c3 5;let S:=Blk.cells (aG true W cp) 163 false;let R:=eqI w 1;let Q:=nb_ n3 1 c3 none;let O:=nb_ n2 1 c2 Q;let N:=eqI w 2;let M:=eqI w 3;let L:=eqI u 1;let K:=asI (aV cp (Nat.add s 1));let J:=Nat.div (Nat.sub c0.length 0) 1;let I:=fC 0 K;let H:=bQ 0 [0,24,25,26,27,5];
 let G:=lb_ H n1 1 c1 5;let F:=lb_ H n2 1 c2 5;let D:=lb_ H n3 1 c3 5;let C:=Blk.cells (aG true H cp) 163 false;let B:=ae j (nb_ n0 1 c0 O);let A:=nb_ n1 1 c1 Q;let z0:=ae j (nb_ n0 1 c0 A);let y0:=nb_ n2 1 c2 none;let x0:=nb_ n1 1 c1 y0;let w0:=ae M (ae j (nb_ n0 1 c0 x0));let v0:=aj N z0 w0;
 let u0:=aj R B v0;let t0:=Blk.cells [] 5 false;let s0:=sl_ 1 n0;let r0:=Blk.cells [f,e,d,c,b,s0,a,Z,Y,X] 86 true;let q0:=lb_ H n0 1 c0 5;let p0:=ae j (nb_ n0 1 c0 (nb_ n1 1 c1 (nb_ n2 1 c2 (nb_ n3 1 c3 (some (g,ag [r0,q0,G,F,D,C]))))));let o0:=Nat.add n1 l;let m0:=List.append (jC 0 c1) p;
 let l0:=lb_ W n0 1 c0 5;let k0:=Nat.div (Nat.sub c1.length 0) 1;let j0:=Nat.add n2 l;let i0:=List.append (jC 0 c2) p;let h0:=Nat.div (Nat.sub c2.length 0) 1;let g0:=Nat.add n3 l;let f0:=List.append (jC 0 c3) p;let e0:=Nat.div (Nat.sub c3.length 0) 1;let d0:=bQ 0 [0,6,7,8,9,5];
 (aj (ltI i m) (ae (inI i n) (ae (Bool.and (Nat.ble (Nat.add z 4) cp.length) (jg [y,y, .slice 1,y] cp z)) (aj v (aj t (ae o (ae (Nat.ble k 4194304) (ae (Nat.beq (Nat.add 0 (Nat.mul n0 1)) c0.length) (aj v (ae j (nb_ k 1 h (nb_ n1 1 c1 (nb_ n2 1 c2 (nb_ n3 1 c3 (some (g,ag [.cells [f,e,d,c,b,sl_ 1 k,a,Z,Y,X] 86 true,lb_ W k 1 h 5,V,U,T,S]))))))) (aj R (ae j (nb_ k 1 h O)) (aj N (ae j (nb_ n1 1 c1 (nb_ k 1 h Q))) (ae M (ae j (nb_ n1 1 c1 (nb_ n2 1 c2 (nb_ k 1 h none))))))))))) (aj L (ae (dS 0 K J) (aj (Nat.ble 1 J) (aj v (ae j (nb_ I 1 c0 (nb_ n1 1 c1 (nb_ n2 1 c2 (nb_ n3 1 c3 (some (g,ag [.cells [f,e,d,c,b,sl_ 1 I,a,Z,Y,X] 86 true,lb_ H I 1 c0 5,G,F,D,C]))))))) u0) (aj v (ae j (nb_ n1 1 c1 (nb_ n2 1 c2 (nb_ n3 1 c3 (some (g,ag [.cells [f,e,d,c,b,sl_ 1 0,a,Z,Y,X] 86 true,t0,G,F,D,C])))))) u0))) (aj v p0 u0))) (aj R (aj t (ae o (ae (Nat.ble o0 4194304) (ae (Nat.beq (Nat.add 0 (Nat.mul n1 1)) c1.length) (aj v (ae j (nb_ o0 1 m0 O)) (aj R (ae j (nb_ n0 1 c0 (nb_ o0 1 m0 (nb_ n2 1 c2 (nb_ n3 1 c3 (some (g,ag [.cells [f,e,d,c,b,s0,sl_ 2 o0,Z,Y,X] 86 true,l0,lb_ W o0 1 m0 5,U,T,S]))))))) (aj N (ae j (nb_ n0 1 c0 (nb_ o0 1 m0 Q))) (ae M (ae j (nb_ n0 1 c0 (nb_ n2 1 c2 (nb_ o0 1 m0 none))))))))))) (aj L (ae (dS 0 K k0) (aj (Nat.ble 1 k0) (aj v (ae j (nb_ I 1 c1 O)) (aj R (ae j (nb_ n0 1 c0 (nb_ I 1 c1 (nb_ n2 1 c2 (nb_ n3 1 c3 (some (g,ag [.cells [f,e,d,c,b,s0,sl_ 2 I,Z,Y,X] 86 true,q0,lb_ H I 1 c1 5,F,D,C]))))))) v0)) (aj v (ae j O) (aj R (ae j (nb_ n0 1 c0 (nb_ n2 1 c2 (nb_ n3 1 c3 (some (g,ag [.cells [f,e,d,c,b,s0,sl_ 2 0,Z,Y,X] 86 true,q0,t0,F,D,C])))))) v0)))) (aj v (ae j (nb_ n1 1 c1 O)) (aj R p0 v0)))) (aj N (aj t (ae o (ae (Nat.ble j0 4194304) (ae (Nat.beq (Nat.add 0 (Nat.mul n2 1)) c2.length) (aj v (ae j (nb_ j0 1 i0 A)) (aj R (ae j (nb_ n0 1 c0 (nb_ j0 1 i0 Q))) (aj N (ae j (nb_ n0 1 c0 (nb_ n1 1 c1 (nb_ j0 1 i0 (nb_ n3 1 c3 (some (g,ag [.cells [f,e,d,c,b,s0,a,sl_ 3 j0,Y,X] 86 true,l0,V,lb_ W j0 1 i0 5,T,S]))))))) (ae M (ae j (nb_ n0 1 c0 (nb_ n1 1 c1 (nb_ j0 1 i0 none))))))))))) (aj L (ae (dS 0 K h0) (aj (Nat.ble 1 h0) (aj v (ae j (nb_ I 1 c2 A)) (aj R (ae j (nb_ n0 1 c0 (nb_ I 1 c2 Q))) (aj N (ae j (nb_ n0 1 c0 (nb_ n1 1 c1 (nb_ I 1 c2 (nb_ n3 1 c3 (some (g,ag [.cells [f,e,d,c,b,s0,a,sl_ 3 I,Y,X] 86 true,q0,G,lb_ H I 1 c2 5,D,C]))))))) w0))) (aj v (ae j A) (aj R (ae j (nb_ n0 1 c0 Q)) (aj N (ae j (nb_ n0 1 c0 (nb_ n1 1 c1 (nb_ n3 1 c3 (some (g,ag [.cells [f,e,d,c,b,s0,a,sl_ 3 0,Y,X] 86 true,q0,G,t0,D,C])))))) w0))))) (aj v (ae j (nb_ n2 1 c2 A)) (aj R B (aj N p0 w0))))) (ae M (aj t (ae o (ae (Nat.ble g0 4194304) (ae (Nat.beq (Nat.add 0 (Nat.mul n3 1)) c3.length) (aj v (ae j (nb_ g0 1 f0 x0)) (aj R (ae j (nb_ n0 1 c0 (nb_ g0 1 f0 y0))) (aj N (ae j (nb_ n0 1 c0 (nb_ n1 1 c1 (nb_ g0 1 f0 none)))) (ae M (ae j (nb_ n0 1 c0 (nb_ n1 1 c1 (nb_ n2 1 c2 (nb_ g0 1 f0 (some (g,ag [.cells [f,e,d,c,b,s0,a,Z,sl_ 4 g0,X] 86 true,l0,V,U,lb_ W g0 1 f0 5,S])))))))))))))) (aj L (ae (dS 0 K e0) (aj (Nat.ble 1 e0) (aj v (ae j (nb_ I 1 c3 x0)) (aj R (ae j (nb_ n0 1 c0 (nb_ I 1 c3 y0))) (aj N (ae j (nb_ n0 1 c0 (nb_ n1 1 c1 (nb_ I 1 c3 none)))) (ae M (ae j (nb_ n0 1 c0 (nb_ n1 1 c1 (nb_ n2 1 c2 (nb_ I 1 c3 (some (g,ag [.cells [f,e,d,c,b,s0,a,Z,sl_ 4 I,X] 86 true,q0,G,F,lb_ H I 1 c3 5,C]))))))))))) (aj v (ae j x0) (aj R (ae j (nb_ n0 1 c0 y0)) (aj N (ae j (nb_ n0 1 c0 (nb_ n1 1 c1 none))) (ae M (ae j (nb_ n0 1 c0 (nb_ n1 1 c1 (nb_ n2 1 c2 (some (g,ag [.cells [f,e,d,c,b,s0,a,Z,sl_ 4 0,X] 86 true,q0,G,F,t0,C])))))))))))) (aj v (ae j (nb_ n3 1 c3 x0)) (aj R (ae j (nb_ n0 1 c0 (nb_ n3 1 c3 y0))) (aj N z0 (ae M p0)))))))))))) (nb_ n0 1 c0 (nb_ n1 1 c1 (nb_ n2 1 c2 (nb_ n3 1 c3 (some (.tuple ⟨[io_ 1,pt_ 0,io_ q,sl_ 5 n,io_ m,io_ i]⟩,ag [r0,lb_ d0 n0 1 c0 5,lb_ d0 n1 1 c1 5,lb_ d0 n2 1 c2 5,lb_ d0 n3 1 c3 5, .cells (aG true d0 cp) 163 false])))))))):=by kernel_rfl
def jF(d:List UInt8)(s:StM):List UInt8:=match eqI s.kind 0,eqI s.kind 1 with
 |true,_=>d++s.bytes
 |false,true=>d.take s.len.toNat
 |false,false=>d
def fD(m:DkM)(f:Int):List UInt8:=match eqI f 0,eqI f 1,eqI f 2 with
 |true,_,_=>m.d0
 |false,true,_=>m.d1
 |false,false,true=>m.d2
 |false,false,false=>m.d3
def setF(m:DkM)(f:Int)(d:List UInt8):DkM:=match eqI f 0,eqI f 1,eqI f 2 with
 |true,_,_=>{ m with d0:=d }
 |false,true,_=>{ m with d1:=d }
 |false,false,true=>{ m with d2:=d }
 |false,false,false=>{ m with d3:=d }
def eY(m:DkM)(s:StM):DkM:=setF m s.file (jF (fD m s.file) s)
structure yG(m:DkM)(s:StM):Prop where
 file:0<=s.file/\s.file<4
 len:0<=s.len/\(eqI s.kind 0=false->eqI s.kind 1=true->s.len.toNat<=(fD m s.file).length)
 size:(fD m s.file).length+s.bytes.length<=4194304
def stV(n:Nat)(i:Int):List Value:=[p0, .int .i64 (ah n), .slice (some ⟨5,0,none⟩) n 18446744073709551616, .int .i64 (ah n), .int .i64 i]
theorem XQ(n:Nat):Nat.div (Nat.sub n 0) 1=n:=by show(n-0) / 1=n; omega
theorem agI(z:Int):fC 0 z=z.toNat:=by unfold fC; omega
theorem R_{l:List StM}{i:Nat}(h:i<l.length):jg [.int .i64, .int .i64, .slice 1, .int .i64] (ESt.all l) (atN (i:Int) 4)=true:=by
 show and (gm (.int .i64) (aV (ESt.all l) (atN (i:Int) 4))) (and (gm (.int .i64) (aV (ESt.all l) (Nat.add (atN (i:Int) 4) 1))) (and (gm (.slice 1) (aV (ESt.all l) (Nat.add (Nat.add (atN (i:Int) 4) 1) 1))) (and (gm (.int .i64) (aV (ESt.all l) (Nat.add (Nat.add (Nat.add (atN (i:Int) 4) 1) 1) 1))) true)))=true;rw[ZX h,ZN h,aaW h,Zo h];have:gm (.slice 1) (ax 1 l[i].bytes.length 0 (bc l[i].bytes))=true:=Oe (by decide);rw[this]; rfl
theorem aa0{m:DkM}{n i:Nat}(hi:i<n)(hn:n<=m.pend.length)(hm:m.pend.length<4194304)(ho:yG m (m.pend[i]'(by omega))) :
  aU P E ctF 50 129 Bst Dst (stV n i) (a_ m)=some (.tuple ⟨exV .normal::stV n ((i+1:Nat):Int)⟩,ag (a_ (eY m (m.pend[i]'(by omega))))):=by
 obtain⟨off,fused,fuse,steps,d0,d1,d2,d3,pend⟩:=m;simp only at hn hm;have hp:i<pend.length:=by omega
 obtain⟨⟨f0,f1⟩,⟨l0,l1⟩,sz⟩:=ho;simp only at f0 f1 l0 l1 sz;obtain⟨R,hR⟩:∃ R:Res,R=some (.tuple ⟨exV .normal::stV n ((i+1:Nat):Int)⟩,ag (a_ (eY ⟨off,fused,fuse,steps,d0,d1,d2,d3,pend⟩ pend[i]))):=⟨_,rfl⟩
 refine Eq.trans ?_ hR;unfold stV p0 a_;simp only;rw[X6];have b2:∀ n,Nat.ble n n=true:=fun n=>dG (dm n);have b3:∀ n,Nat.beq n n=true:=nR;have n4:∀ l:List StM,(ESt.all l).length=Nat.mul l.length 4:=fun l=>ESt.all_length l;have g1:ltI (i:Int) (ah n)=true:=lT_ (by unfold ah; omega);have g2:inI (i:Int) n=true:=by unfold inI; exact eU (by omega)
 have g3:Nat.ble (Nat.add (atN (i:Int) 4) 4) (Nat.mul pend.length 4)=true:=dG (by
  show(i:Int).toNat*4+4<=pend.length*4;have:(i:Int).toNat=i:=by omega
  omega)
 have g4:=R_ hp;have a1:bM .i64 (i:Int) 1=((i+1:Nat):Int):=by unfold bM; rw[wrap64 (by omega) (by omega)]; omega
 have hv:∀ x:Int,bz (.int .i64 x) (.int .i64 x)=true:=fun x=>by simp[bz]
 have ai:∀ (k:IntKind) (n:Int),asI (.int k n)=n:=fun _ _=>rfl;have zn:∀ l:List UInt8,zN (ax 1 l.length 0 (bc l))=l.length:=fun l=>Ha (by decide);have zc:∀ l:List UInt8,zC (ax 1 l.length 0 (bc l))=bc l:=fun l=>MC (by decide);simp only[io_,lb_,nb_,pt_,sl_,fB,n4,g1,g2,g3,g4,ZX hp,ZN hp,aaW hp,Zo hp,ai,zn,zc,a1,hv,ul,fQ,bn,b2,b3,vT,jO,dV rfl,fE,Enc.all_ren,XQ,agI,fV,bu,aW];generalize pend[i]=s at *;obtain⟨kind,file,bytes,len⟩:=s;simp only at f0 f1 l0 l1 sz;have apl:∀ a b:List UInt8,(a++b).length=Nat.add a.length b.length:=fun _ _=>bP;rcases(show file=0\/file=1\/file=2\/file=3 by omega)with rfl | rfl | rfl | rfl
 ·have q0:eqI (0:Int) 0=true:=rfl;have q1:eqI (0:Int) 1=false:=rfl;have q2:eqI (0:Int) 2=false:=rfl;have q3:eqI (0:Int) 3=false:=rfl;have sz:d0.length+bytes.length<=4194304:=sz;have l1:eqI kind 0=false->eqI kind 1=true->len.toNat<=d0.length:=l1;have t1:Nat.ble (Nat.add d0.length bytes.length) 4194304=true:=dG sz;have ct:takeC (Nat.add d0.length bytes.length) (aO 0 (bc (d0++bytes)))=bc (d0++bytes):=dV (apl _ _).symm;have ck:takeC len.toNat (aO 0 (bc d0))=bc (d0.take len.toNat):=by rw[wS,iQ]
  cases k0:eqI kind 0 with
  |true=>
   simp only[io_,lb_,nb_,pt_,sl_,q0,q1,q2,q3,k0,t1,ct,b2,b3,apl,bn,fE,Enc.all_ren,fB,fQ,jO,dV rfl,bu,bg,aW];rw[hR,show eY ⟨off,fused,fuse,steps,d0,d1,d2,d3,pend⟩ ⟨kind,0,bytes,len⟩=⟨off,fused,fuse,steps,d0++bytes,d1,d2,d3,pend⟩ from by unfold eY jF; simp only[io_,lb_,nb_,pt_,sl_,k0]; rfl];unfold a_ stV p0;simp only[io_,lb_,nb_,pt_,sl_,apl]
   rfl
  |false=>
   cases k1:eqI kind 1 with
   |true=>
    have hl:=l1 k0 k1;have t2:dS 0 len d0.length=true:=nJ (by omega) l0 (by omega);have t3:Nat.ble len.toNat d0.length=true:=dG hl;have tl:(d0.take len.toNat).length=len.toNat:=by rw[fH]; omega
    cases hz:Nat.ble 1 d0.length with
    |true=>
     simp only[io_,lb_,nb_,pt_,sl_,q0,q1,q2,q3,k0,k1,t2,t3,ck,hz,b2,b3,apl,bn,fE,Enc.all_ren,fB,fQ,jO,dV rfl,bu,bg,aW];rw[hR,show eY ⟨off,fused,fuse,steps,d0,d1,d2,d3,pend⟩ ⟨kind,0,bytes,len⟩=⟨off,fused,fuse,steps,d0.take len.toNat,d1,d2,d3,pend⟩ from by unfold eY jF; simp only[io_,lb_,nb_,pt_,sl_,k0,k1]; rfl];unfold a_ stV p0;simp only[io_,lb_,nb_,pt_,sl_,tl]
     rfl
    |false=>
     have hz0:d0.length=0:=by
      have:¬1<=d0.length:=fun h=>by rw[dG h]at hz; cases hz
      omega
     have hl0:len.toNat=0:=by omega
     obtain rfl:=o6.1 hz0;simp only[io_,lb_,nb_,pt_,sl_,q0,q1,q2,q3,k0,k1,t2,hl0,hz,b2,b3,apl,bn,fE,Enc.all_ren,fB,fQ,jO,dV rfl,bu,bg,aW];rw[hR,show eY ⟨off,fused,fuse,steps,[],d1,d2,d3,pend⟩ ⟨kind,0,bytes,len⟩=⟨off,fused,fuse,steps,[],d1,d2,d3,pend⟩ from by unfold eY jF; simp only[io_,lb_,nb_,pt_,sl_,k0,k1]; show setF _ _ (List.take _ [])=_; rw[wB]; rfl];unfold a_ stV p0;simp only[io_,lb_,nb_,pt_,sl_,lL]
     rfl
   |false=>
    simp only[io_,lb_,nb_,pt_,sl_,q0,q1,q2,q3,k0,k1,b2,b3,apl,bn,fE,Enc.all_ren,fB,fQ,jO,dV rfl,bu,bg,aW];rw[hR,show eY ⟨off,fused,fuse,steps,d0,d1,d2,d3,pend⟩ ⟨kind,0,bytes,len⟩=⟨off,fused,fuse,steps,d0,d1,d2,d3,pend⟩ from by unfold eY jF; simp only[io_,lb_,nb_,pt_,sl_,k0,k1]; rfl];unfold a_ stV p0
    rfl
 ·have q0:eqI (1:Int) 0=false:=rfl;have q1:eqI (1:Int) 1=true:=rfl;have q2:eqI (1:Int) 2=false:=rfl;have q3:eqI (1:Int) 3=false:=rfl;have sz:d1.length+bytes.length<=4194304:=sz;have l1:eqI kind 0=false->eqI kind 1=true->len.toNat<=d1.length:=l1;have t1:Nat.ble (Nat.add d1.length bytes.length) 4194304=true:=dG sz;have ct:takeC (Nat.add d1.length bytes.length) (aO 0 (bc (d1++bytes)))=bc (d1++bytes):=dV (apl _ _).symm;have ck:takeC len.toNat (aO 0 (bc d1))=bc (d1.take len.toNat):=by rw[wS,iQ]
  cases k0:eqI kind 0 with
  |true=>
   simp only[io_,lb_,nb_,pt_,sl_,q0,q1,q2,q3,k0,t1,ct,b2,b3,apl,bn,fE,Enc.all_ren,fB,fQ,jO,dV rfl,bu,bg,aW];rw[hR,show eY ⟨off,fused,fuse,steps,d0,d1,d2,d3,pend⟩ ⟨kind,1,bytes,len⟩=⟨off,fused,fuse,steps,d0,d1++bytes,d2,d3,pend⟩ from by unfold eY jF; simp only[io_,lb_,nb_,pt_,sl_,k0]; rfl];unfold a_ stV p0;simp only[io_,lb_,nb_,pt_,sl_,apl]
   rfl
  |false=>
   cases k1:eqI kind 1 with
   |true=>
    have hl:=l1 k0 k1;have t2:dS 0 len d1.length=true:=nJ (by omega) l0 (by omega);have t3:Nat.ble len.toNat d1.length=true:=dG hl;have tl:(d1.take len.toNat).length=len.toNat:=by rw[fH]; omega
    cases hz:Nat.ble 1 d1.length with
    |true=>
     simp only[io_,lb_,nb_,pt_,sl_,q0,q1,q2,q3,k0,k1,t2,t3,ck,hz,b2,b3,apl,bn,fE,Enc.all_ren,fB,fQ,jO,dV rfl,bu,bg,aW];rw[hR,show eY ⟨off,fused,fuse,steps,d0,d1,d2,d3,pend⟩ ⟨kind,1,bytes,len⟩=⟨off,fused,fuse,steps,d0,d1.take len.toNat,d2,d3,pend⟩ from by unfold eY jF; simp only[io_,lb_,nb_,pt_,sl_,k0,k1]; rfl];unfold a_ stV p0;simp only[io_,lb_,nb_,pt_,sl_,tl]
     rfl
    |false=>
     have hz0:d1.length=0:=by
      have:¬1<=d1.length:=fun h=>by rw[dG h]at hz; cases hz
      omega
     have hl0:len.toNat=0:=by omega
     obtain rfl:=o6.1 hz0;simp only[io_,lb_,nb_,pt_,sl_,q0,q1,q2,q3,k0,k1,t2,hl0,hz,b2,b3,apl,bn,fE,Enc.all_ren,fB,fQ,jO,dV rfl,bu,bg,aW];rw[hR,show eY ⟨off,fused,fuse,steps,d0,[],d2,d3,pend⟩ ⟨kind,1,bytes,len⟩=⟨off,fused,fuse,steps,d0,[],d2,d3,pend⟩ from by unfold eY jF; simp only[io_,lb_,nb_,pt_,sl_,k0,k1]; show setF _ _ (List.take _ [])=_; rw[wB]; rfl];unfold a_ stV p0;simp only[io_,lb_,nb_,pt_,sl_,lL]
     rfl
   |false=>
    simp only[io_,lb_,nb_,pt_,sl_,q0,q1,q2,q3,k0,k1,b2,b3,apl,bn,fE,Enc.all_ren,fB,fQ,jO,dV rfl,bu,bg,aW];rw[hR,show eY ⟨off,fused,fuse,steps,d0,d1,d2,d3,pend⟩ ⟨kind,1,bytes,len⟩=⟨off,fused,fuse,steps,d0,d1,d2,d3,pend⟩ from by unfold eY jF; simp only[io_,lb_,nb_,pt_,sl_,k0,k1]; rfl];unfold a_ stV p0
    rfl
 ·have q0:eqI (2:Int) 0=false:=rfl;have q1:eqI (2:Int) 1=false:=rfl;have q2:eqI (2:Int) 2=true:=rfl;have q3:eqI (2:Int) 3=false:=rfl;have sz:d2.length+bytes.length<=4194304:=sz;have l1:eqI kind 0=false->eqI kind 1=true->len.toNat<=d2.length:=l1;have t1:Nat.ble (Nat.add d2.length bytes.length) 4194304=true:=dG sz;have ct:takeC (Nat.add d2.length bytes.length) (aO 0 (bc (d2++bytes)))=bc (d2++bytes):=dV (apl _ _).symm;have ck:takeC len.toNat (aO 0 (bc d2))=bc (d2.take len.toNat):=by rw[wS,iQ]
  cases k0:eqI kind 0 with
  |true=>
   simp only[io_,lb_,nb_,pt_,sl_,q0,q1,q2,q3,k0,t1,ct,b2,b3,apl,bn,fE,Enc.all_ren,fB,fQ,jO,dV rfl,bu,bg,aW];rw[hR,show eY ⟨off,fused,fuse,steps,d0,d1,d2,d3,pend⟩ ⟨kind,2,bytes,len⟩=⟨off,fused,fuse,steps,d0,d1,d2++bytes,d3,pend⟩ from by unfold eY jF; simp only[io_,lb_,nb_,pt_,sl_,k0]; rfl];unfold a_ stV p0;simp only[io_,lb_,nb_,pt_,sl_,apl]
   rfl
  |false=>
   cases k1:eqI kind 1 with
   |true=>
    have hl:=l1 k0 k1;have t2:dS 0 len d2.length=true:=nJ (by omega) l0 (by omega);have t3:Nat.ble len.toNat d2.length=true:=dG hl;have tl:(d2.take len.toNat).length=len.toNat:=by rw[fH]; omega
    cases hz:Nat.ble 1 d2.length with
    |true=>
     simp only[io_,lb_,nb_,pt_,sl_,q0,q1,q2,q3,k0,k1,t2,t3,ck,hz,b2,b3,apl,bn,fE,Enc.all_ren,fB,fQ,jO,dV rfl,bu,bg,aW];rw[hR,show eY ⟨off,fused,fuse,steps,d0,d1,d2,d3,pend⟩ ⟨kind,2,bytes,len⟩=⟨off,fused,fuse,steps,d0,d1,d2.take len.toNat,d3,pend⟩ from by unfold eY jF; simp only[io_,lb_,nb_,pt_,sl_,k0,k1]; rfl];unfold a_ stV p0;simp only[io_,lb_,nb_,pt_,sl_,tl]
     rfl
    |false=>
     have hz0:d2.length=0:=by
      have:¬1<=d2.length:=fun h=>by rw[dG h]at hz; cases hz
      omega
     have hl0:len.toNat=0:=by omega
     obtain rfl:=o6.1 hz0;simp only[io_,lb_,nb_,pt_,sl_,q0,q1,q2,q3,k0,k1,t2,hl0,hz,b2,b3,apl,bn,fE,Enc.all_ren,fB,fQ,jO,dV rfl,bu,bg,aW];rw[hR,show eY ⟨off,fused,fuse,steps,d0,d1,[],d3,pend⟩ ⟨kind,2,bytes,len⟩=⟨off,fused,fuse,steps,d0,d1,[],d3,pend⟩ from by unfold eY jF; simp only[io_,lb_,nb_,pt_,sl_,k0,k1]; show setF _ _ (List.take _ [])=_; rw[wB]; rfl];unfold a_ stV p0;simp only[io_,lb_,nb_,pt_,sl_,lL]
     rfl
   |false=>
    simp only[io_,lb_,nb_,pt_,sl_,q0,q1,q2,q3,k0,k1,b2,b3,apl,bn,fE,Enc.all_ren,fB,fQ,jO,dV rfl,bu,bg,aW];rw[hR,show eY ⟨off,fused,fuse,steps,d0,d1,d2,d3,pend⟩ ⟨kind,2,bytes,len⟩=⟨off,fused,fuse,steps,d0,d1,d2,d3,pend⟩ from by unfold eY jF; simp only[io_,lb_,nb_,pt_,sl_,k0,k1]; rfl];unfold a_ stV p0
    rfl
 ·have q0:eqI (3:Int) 0=false:=rfl;have q1:eqI (3:Int) 1=false:=rfl;have q2:eqI (3:Int) 2=false:=rfl;have q3:eqI (3:Int) 3=true:=rfl;have sz:d3.length+bytes.length<=4194304:=sz;have l1:eqI kind 0=false->eqI kind 1=true->len.toNat<=d3.length:=l1;have t1:Nat.ble (Nat.add d3.length bytes.length) 4194304=true:=dG sz;have ct:takeC (Nat.add d3.length bytes.length) (aO 0 (bc (d3++bytes)))=bc (d3++bytes):=dV (apl _ _).symm;have ck:takeC len.toNat (aO 0 (bc d3))=bc (d3.take len.toNat):=by rw[wS,iQ]
  cases k0:eqI kind 0 with
  |true=>
   simp only[io_,lb_,nb_,pt_,sl_,q0,q1,q2,q3,k0,t1,ct,b2,b3,apl,bn,fE,Enc.all_ren,fB,fQ,jO,dV rfl,bu,bg,aW];rw[hR,show eY ⟨off,fused,fuse,steps,d0,d1,d2,d3,pend⟩ ⟨kind,3,bytes,len⟩=⟨off,fused,fuse,steps,d0,d1,d2,d3++bytes,pend⟩ from by unfold eY jF; simp only[io_,lb_,nb_,pt_,sl_,k0]; rfl];unfold a_ stV p0;simp only[io_,lb_,nb_,pt_,sl_,apl]
   rfl
  |false=>
   cases k1:eqI kind 1 with
   |true=>
    have hl:=l1 k0 k1;have t2:dS 0 len d3.length=true:=nJ (by omega) l0 (by omega);have t3:Nat.ble len.toNat d3.length=true:=dG hl;have tl:(d3.take len.toNat).length=len.toNat:=by rw[fH]; omega
    cases hz:Nat.ble 1 d3.length with
    |true=>
     simp only[io_,lb_,nb_,pt_,sl_,q0,q1,q2,q3,k0,k1,t2,t3,ck,hz,b2,b3,apl,bn,fE,Enc.all_ren,fB,fQ,jO,dV rfl,bu,bg,aW];rw[hR,show eY ⟨off,fused,fuse,steps,d0,d1,d2,d3,pend⟩ ⟨kind,3,bytes,len⟩=⟨off,fused,fuse,steps,d0,d1,d2,d3.take len.toNat,pend⟩ from by unfold eY jF; simp only[io_,lb_,nb_,pt_,sl_,k0,k1]; rfl];unfold a_ stV p0;simp only[io_,lb_,nb_,pt_,sl_,tl]
     rfl
    |false=>
     have hz0:d3.length=0:=by
      have:¬1<=d3.length:=fun h=>by rw[dG h]at hz; cases hz
      omega
     have hl0:len.toNat=0:=by omega
     obtain rfl:=o6.1 hz0;simp only[io_,lb_,nb_,pt_,sl_,q0,q1,q2,q3,k0,k1,t2,hl0,hz,b2,b3,apl,bn,fE,Enc.all_ren,fB,fQ,jO,dV rfl,bu,bg,aW];rw[hR,show eY ⟨off,fused,fuse,steps,d0,d1,d2,[],pend⟩ ⟨kind,3,bytes,len⟩=⟨off,fused,fuse,steps,d0,d1,d2,[],pend⟩ from by unfold eY jF; simp only[io_,lb_,nb_,pt_,sl_,k0,k1]; show setF _ _ (List.take _ [])=_; rw[wB]; rfl];unfold a_ stV p0;simp only[io_,lb_,nb_,pt_,sl_,lL]
     rfl
   |false=>
    simp only[io_,lb_,nb_,pt_,sl_,q0,q1,q2,q3,k0,k1,b2,b3,apl,bn,fE,Enc.all_ren,fB,fQ,jO,dV rfl,bu,bg,aW];rw[hR,show eY ⟨off,fused,fuse,steps,d0,d1,d2,d3,pend⟩ ⟨kind,3,bytes,len⟩=⟨off,fused,fuse,steps,d0,d1,d2,d3,pend⟩ from by unfold eY jF; simp only[io_,lb_,nb_,pt_,sl_,k0,k1]; rfl];unfold a_ stV p0
    rfl
theorem agF{m:DkM}{n:Nat}(hn:n<=m.pend.length):aU P E ctF 50 129 Bst Dst (stV n n) (a_ m)=some (.tuple ⟨exV (.exit 0)::stV n n⟩,ag (a_ m)):=by
 obtain⟨off,fused,fuse,steps,d0,d1,d2,d3,pend⟩:=m;unfold stV p0 a_;simp only;rw[X6];have b2:∀ n,Nat.ble n n=true:=fun n=>dG (dm n);have n4:∀ l:List StM,(ESt.all l).length=Nat.mul l.length 4:=fun l=>ESt.all_length l;have g1:ltI (n:Int) (ah n)=false:=lF_ (by unfold ah; omega);simp only[io_,lb_,nb_,pt_,sl_,fB,n4,g1,fQ,bn,b2,dV rfl,fE,Enc.all_ren,fV,bu,bg,aW]
 rfl
def mP(m:DkM)(l:List StM):DkM:=l.foldl eY m
def rf:DkM->List StM->Prop
 |_,[]=>True
 |m,s::l=>yG m s/\rf (eY m s) l
theorem Wi(m:DkM)(f:Int)(d:List UInt8):(setF m f d).pend=m.pend:=by
 unfold setF;split<;>rfl
theorem FV(m:DkM)(s:StM):(eY m s).pend=m.pend:=Wi _ _ _
theorem Rq(n:Nat):∀ (k i:Nat) (m:DkM),i+k=n->n<=m.pend.length->m.pend.length<4194304->rf m ((m.pend.drop i).take k)->
  LRX P 129 0 Bst Dst.head (stV n i) (a_ m) .normal (stV n n) (a_ (mP m ((m.pend.drop i).take k)))
 |0,i,m,h1,h2,h3,h4=>by
  obtain rfl:i=n:=by omega
  exact LRX.stop (n:=50) (dU ctF) bK aA TG (e:= .exit 0) (agF h2) (by intro h; cases h)
 |k+1,i,m,h1,h2,h3,h4=>by
  have hp:i<m.pend.length:=by omega
  have hd:(m.pend.drop i).take (k+1)=m.pend[i]::(m.pend.drop (i+1)).take k:=by rw[lu hp,BH]
  rw[hd]at h4 ⊢;have q:=aa0 (by omega) h2 h3 h4.1;have e:=FV m m.pend[i];have ih:=Rq n k (i+1) (eY m m.pend[i]) (by omega) (by rw[e]; exact h2) (by rw[e]; exact h3) (by rw[e]; exact h4.2);rw[e]at ih;exact LRX.again (n:=50) (dU ctF) bK aA TG q ih
structure StS where
 m:DkM
 n:Nat
def kSt:Con StS where
 enc s:=(stV s.n 0,a_ s.m)
 ok s:=s.n<=s.m.pend.length/\s.m.pend.length<4194304/\rf s.m (s.m.pend.take s.n)
 inj a b h:=by
  obtain⟨a1,a2⟩:=a;obtain⟨b1,b2⟩:=b;simp only[dA]at h;obtain⟨h1,h2⟩:=h;obtain rfl:=oM h2;unfold stV at h1;simp only[je,Value.slice.injEq,lM,jd]at h1;obtain⟨_,rfl,_⟩:=h1
  rfl
 dflt:=⟨dk0,0⟩
def VE(s:StS):DT (Ex×List Value×List Blk):= .leaf (.normal,stV s.n s.n,a_ (mP s.m (s.m.pend.take s.n)))
theorem Yw:LoopOkX P 129 0 Bst Dst.head (DR kSt.C kSt.D VE):=
 x_ kSt (bJ X3) fun s ho e vs' bs' hev=>by
  simp only[VE,DT.eval,dD,dA]at hev;obtain⟨rfl,rfl,rfl⟩:=hev;exact Rq s.n s.n 0 s.m (by omega) ho.1 ho.2.1 (by rw[iQ]; exact ho.2.2)
def aia(C:List Value->List Blk->Bool)(v:List Value)(b:List Blk):Ct:=dX P 129 0 Dst (gX C (.leaf (.normal,v,b))) ctF
theorem VD(C:List Value->List Blk->Bool)(off1 fused1:Bool)(fuse1 steps1:Int)(m0 m1 m2 m3 mp:Nat)(d0 d1 d2 d3 dp:List Value)(y1:Nat)(y0 y2 y3:Int)(off fused:Bool)(fuse steps:Int)(n0 n1 n2 n3 np:Nat)(c0 c1 c2 c3 cp:List Value)(n:Int):aN P E (aia C [.pointer (some ⟨0,0,none⟩), .int .i64 y0, .slice (some ⟨5,0,none⟩) y1 18446744073709551616, .int .i64 y2, .int .i64 y3] [.cells (dkC off1 fused1 fuse1 steps1 m0 m1 m2 m3 mp) 86 true, .cells d0 5 false, .cells d1 5 false, .cells d2 5 false, .cells d3 5 false, .cells dp 163 false]) 50 g_ [] [] 1 129 [.pointer (some ⟨0,0,none⟩), .int .i64 n] [.cells (dkC off fused fuse steps n0 n1 n2 n3 np) 86 true, .cells c0 5 false, .cells c1 5 false, .cells c2 5 false, .cells c3 5 false, .cells cp 163 false] =
 (let z:=Nat.div (Nat.sub cp.length 0) 4;let y:=io_ 0;let x:=Value.bool true;let w:=bQ 0 [0,6,7,8,9,5];let v:=[Blk.cells [x, .bool off, .bool fused,io_ fuse,io_ steps,sl_ 1 n0,sl_ 2 n1,sl_ 3 n2,sl_ 4 n3,sl_ 5 np] 86 true,lb_ w n0 1 c0 5,lb_ w n1 1 c1 5,lb_ w n2 1 c2 5,lb_ w n3 1 c3 5,Blk.cells (aG true w cp) 163 false];
 let u:=aT [0] 10;let t:=aG true u dp;let s:=t.length;let r:=Nat.div (Nat.sub s 0) 4;let q:=Int.toNat y0;let p:=aG true u d0;let o:=aG true u d1;let m:=aG true u d2;let l:=aG true u d3;let k:=Addr.mk 5 0 none;let j:=Go.Addr.off (Ei ⟨14,0,Addr.spot k⟩ (atN y0 4));let i:=fC y0 (ah mp);
 let h:=Nat.mul i 4;let g:=Value.tuple ⟨[]⟩;let f:=Value.bool off1;let e:=Value.bool fused1;let d:=io_ fuse1;let c:=io_ steps1;let b:=sl_ 1 m0;let a:=sl_ 2 m1;let Z:=sl_ 3 m2;let Y:=sl_ 4 m3;let X:=ro_ [0,1,15,5];let W:=lb_ X m0 1 p 5;let V:=lb_ X m1 1 o 5;let U:=lb_ X m2 1 m 5;let T:=lb_ X m3 1 l 5;
 let S:=some (g,ag [.cells [x,f,e,d,c,b,a,Z,Y,sl_ 5 0] 86 true,W,V,U,T, .cells [] 163 false]);let R:=Nat.add 18446744073709551616 q;let Q:=bQ 0 [0,15,16,17,18,14];let O:=ae (dS y0 (ah mp) r) (aj (Nat.ble (Nat.add q 1) r) (nb_ m0 1 p (nb_ m1 1 o (nb_ m2 1 m (nb_ m3 1 l (ae (Nat.ble (Nat.add j h) s) (some (g,ag [.cells [x,f,e,d,c,b,a,Z,Y,sl_ 5 i] 86 true,W,V,U,T, .cells (aG true X (takeC h (aO j t))) 163 false]))))))) (aj (Nat.beq q 0) (nb_ m0 1 p (nb_ m1 1 o (nb_ m2 1 m (nb_ m3 1 l S)))) (nb_ m0 1 p (nb_ m1 1 o (nb_ m2 1 m (nb_ m3 1 l (aj (Nat.beq R 18446744073709551616) S (aj (Nat.ble 18446744073709551616 R) S (aj (Bool.and (Nat.ble 0 R) (Nat.ble (Nat.add 0 (Nat.mul R 4)) s)) S (some (g,ag [.cells [x,f,e,d,c,b,a,Z,Y, .slice (some k) 0 R] 86 true,lb_ Q m0 1 p 5,lb_ Q m1 1 o 5,lb_ Q m2 1 m 5,lb_ Q m3 1 l 5, .cells (aG true Q t) 163 false])))))))))));
 (ae (dS 0 n z) (aj (Nat.ble 1 z) (nb_ n0 1 c0 (nb_ n1 1 c1 (nb_ n2 1 c2 (nb_ n3 1 c3 (ae (C [pt_ 0,io_ n,sl_ 5 (fC 0 n),io_ (ah (fC 0 n)),y] v) O))))) (nb_ n0 1 c0 (nb_ n1 1 c1 (nb_ n2 1 c2 (nb_ n3 1 c3 (ae (C [pt_ 0,io_ n,sl_ 5 0,y,y] v) O)))))))):=by kernel_rfl
theorem KT:∀ (l:List StM) (m:DkM),(mP m l).pend=m.pend
 |[],m=>rfl
 |s::l,m=>by
  show(mP (eY m s) l).pend=_;rw[KT l,FV]
def pJ(s:StS):DkM:={ mP s.m (s.m.pend.take s.n)with pend:=s.m.pend.drop s.n }
def kSe:Con StS where
 enc s:=([p0, .int .i64 (ah s.n)],a_ s.m)
 ok s:=s.n<=s.m.pend.length/\s.m.pend.length<4194304/\rf s.m (s.m.pend.take s.n)
 inj a b h:=by
  obtain⟨a1,a2⟩:=a;obtain⟨b1,b2⟩:=b;simp only[dA]at h;obtain⟨h1,h2⟩:=h;obtain rfl:=oM h2;simp only[je,Value.int.injEq,lM,jd]at h1;have:a2=b2:=by unfold ah at h1; omega
  subst this
  rfl
 dflt:=⟨dk0,0⟩
def ags(s:StS):Ct:=dX P 129 0 Dst (gX (kSt.at s) (VE s)) ctF
theorem aiD(n:Nat):Nat.div (Nat.sub (Nat.mul n 4) 0) 4=n:=by show(n*4-0) / 4=n; omega
theorem ah4(a b:Nat):fC (ah a) (ah b)=b-a:=by simp[fC,ah]
theorem tnL(n:Nat):Int.toNat (ah n)=n:=by simp[ah]
theorem ais(b k:Nat):(Ei (Addr.mk b 0 none) k).off=k:=by show Nat.add 0 k=k; exact nN k
theorem Ud(s:StS)(hn:s.n<=s.m.pend.length):aN P E (ags s) 50 g_ [] [] 1 129 (kSe.enc s).1 (kSe.enc s).2=some (.tuple ⟨[]⟩,ag (a_ (pJ s))):=by
 obtain⟨m,n⟩:=s;simp only at hn;have hp:(mP m (m.pend.take n)).pend=m.pend:=KT _ _;have q:=VD (kSt.at ⟨m,n⟩) (mP m (m.pend.take n)).off (mP m (m.pend.take n)).fused (mP m (m.pend.take n)).fuse (mP m (m.pend.take n)).steps
  (mP m (m.pend.take n)).d0.length (mP m (m.pend.take n)).d1.length (mP m (m.pend.take n)).d2.length (mP m (m.pend.take n)).d3.length (mP m (m.pend.take n)).pend.length
  (bc (mP m (m.pend.take n)).d0) (bc (mP m (m.pend.take n)).d1) (bc (mP m (m.pend.take n)).d2) (bc (mP m (m.pend.take n)).d3) (ESt.all (mP m (m.pend.take n)).pend)
  n (ah n) (ah n) n m.off m.fused m.fuse m.steps m.d0.length m.d1.length m.d2.length m.d3.length m.pend.length (bc m.d0) (bc m.d1) (bc m.d2) (bc m.d3) (ESt.all m.pend) (ah n)
 refine Eq.trans ?_ (q.trans ?_)
 ·rfl
 clear q;obtain⟨R,hR⟩:∃ R:Res,R=some (.tuple ⟨[]⟩,ag (a_ (pJ ⟨m,n⟩))):=⟨_,rfl⟩
 refine Eq.trans ?_ hR;rw[hp];have b2:∀ n,Nat.ble n n=true:=fun n=>dG (dm n);have n4:∀ l:List StM,(ESt.all l).length=Nat.mul l.length 4:=fun l=>ESt.all_length l;have c1:dS 0 (ah n) m.pend.length=true:=nJ (by omega) (by unfold ah; omega) (by unfold ah; omega);have c2:dS (ah n) (ah m.pend.length) m.pend.length=true:=nJ (by unfold ah; omega) (by unfold ah; omega) (by unfold ah; omega);simp only[io_,lb_,nb_,pt_,sl_,fB,n4,aiD,c1,c2,Y2,ah4,tnL,ais,fQ,bn,b2,dV rfl,fE,Enc.all_ren,fV,bu,aW];by_cases h0:m.pend.length=0
 ·have hpe:m.pend=[]:=o6.1 h0;obtain rfl:n=0:=by omega
  have z1:Nat.ble 1 m.pend.length=false:=by rw[h0]; rfl
  have z2:Nat.ble (Nat.add 0 1) m.pend.length=false:=by rw[h0]; rfl
  have z3:Nat.beq 0 0=true:=rfl;simp only[io_,lb_,nb_,pt_,sl_,z1,z2,z3,bg,bu];refine mg (k:=kSt) (s:=⟨m,0⟩) rfl rfl ?_;rw[hR];unfold pJ a_;simp only[io_,lb_,nb_,pt_,sl_,hpe]
  rfl
 ·have hz:Nat.ble 1 m.pend.length=true:=dG (by omega);simp only[io_,lb_,nb_,pt_,sl_,hz,bu];refine mg (k:=kSt) (s:=⟨m,n⟩) rfl rfl ?_;by_cases hlt:n<m.pend.length
  ·have t1:Nat.ble (Nat.add n 1) m.pend.length=true:=dG hlt;have ea:atN (ah n) 4=n*4:=by unfold atN; rw[tnL]
   have t2:Nat.ble (Nat.add (n*4) (Nat.mul (m.pend.length-n) 4)) (Nat.mul m.pend.length 4)=true:=dG (by show n*4+(m.pend.length-n)*4<=m.pend.length*4; omega);have el:(m.pend.drop n).length=m.pend.length-n:=gZ;have ed:takeC (Nat.mul (m.pend.length-n) 4) (aO (n*4) (ESt.all m.pend))=ESt.all (m.pend.drop n):=by
    have e1:aO (n*4) (ESt.all m.pend)=ESt.all (m.pend.drop n):=ESt.all_drop n m.pend;rw[e1,<-el];exact ESt.all_self _
   simp only[io_,lb_,nb_,pt_,sl_,t1,ea,t2,ed,Enc.all_ren,bu,aW];rw[hR];unfold pJ a_;simp only[io_,lb_,nb_,pt_,sl_,el]
   rfl
  ·have hn2:n=m.pend.length:=by omega
   have t1:Nat.ble (Nat.add n 1) m.pend.length=false:=by
    cases hb:Nat.ble (Nat.add n 1) m.pend.length with
    |false=>rfl
    |true=>have:n+1<=m.pend.length:=dR hb; omega
   have t3:Nat.beq n 0=false:=by
    cases hb:Nat.beq n 0 with
    |false=>rfl
    |true=>have:=dF hb; omega
   have t4:Nat.beq (Nat.add 18446744073709551616 n) 18446744073709551616=false:=by
    cases hb:Nat.beq (Nat.add 18446744073709551616 n) 18446744073709551616 with
    |false=>rfl
    |true=>have:18446744073709551616+n=18446744073709551616:=dF hb; omega
   have t5:Nat.ble 18446744073709551616 (Nat.add 18446744073709551616 n)=true:=dG (by show 18446744073709551616<=18446744073709551616+n; omega);have ed:m.pend.drop n=[]:=IC (by omega);simp only[io_,lb_,nb_,pt_,sl_,t1,t3,t4,t5,bu,bg,aW];rw[hR];unfold pJ a_;simp only[io_,lb_,nb_,pt_,sl_,ed]
   rfl
def y8(s:StS):DT (Value×List Blk):= .leaf (.tuple ⟨[]⟩,a_ (pJ s))
theorem Wl:CallOkX P 1 129 (wX kSe.C kSe.D y8):=tV kSe fun s ho v bs' hev=>by
 simp only[y8,DT.eval,dD,dA]at hev;obtain⟨rfl,rfl⟩:=hev;exact CRX.of (dU (ags s)) bK (dB aA (Ae kSt Yw (s:=s) ho)) (Ud s ho.1)
def Dhe:HeadX:=⟨1,33,[0,1,5,18,19,20],[.val, .val, .own, .keep, .val, .val],[0,0,57,0,0,0],agY⟩
def Bhe:Code:=(di P 65 0).getD .skip
theorem Yq:di P 65 0=some Bhe:=by kernel_rfl
theorem QR:Occ P 65 (.block 0 (.loop Bhe)):=dN Yq
theorem WC(off fused:Bool)(fuse steps:Int)(n0 n1 n2 n3 np nd:Nat)(c0 c1 c2 c3 cp cd:List Value)(n:Nat)(f m i:Int):aU P E ctF 50 65 Bhe Dhe [.pointer (some ⟨0,0,none⟩), .int .i64 f, .slice (some ⟨6,0,none⟩) nd 18446744073709551616, .slice (some ⟨5,0,none⟩) n 18446744073709551616, .int .i64 m, .int .i64 i] [.cells (dkC off fused fuse steps n0 n1 n2 n3 np) 86 true, .cells c0 5 false, .cells c1 5 false, .cells c2 5 false, .cells c3 5 false, .cells cp 163 false, .cells cd 5 false] =
 (let z:=Nat.add 0 (atN i 4);let y:=Eta.int .i64;let x:=Nat.add z 1;let w:=asI (aV cp z);let v:=Nat.add x 1;let u:=aV cp v;let t:=Nat.add nd (zN u);let s:=List.append (jC 0 cd) (zC u);let r:=io_ 0;let q:=pt_ 0;let p:=io_ f;let o:=sl_ 5 n;let l:=io_ m;let k:=io_ (bM .i64 i 1);let j:=Blk.cells [.bool true, .bool off, .bool fused,io_ fuse,io_ steps,sl_ 1 n0,sl_ 2 n1,sl_ 3 n2,sl_ 4 n3,sl_ 5 np] 86 true;
 let h:=bQ 0 [0,11,12,13,14,5,10];let g:=asI (aV cp (Nat.add v 1));let e:=Nat.div (Nat.sub cd.length 0) 1;let d:=fC 0 g;let c:=bQ 0 [0,10,11,12,13,5,9];let b:=lb_ c n0 1 c0 5;let a:=lb_ c n1 1 c1 5;let Z:=lb_ c n2 1 c2 5;let Y:=lb_ c n3 1 c3 5;let X:=Blk.cells (aG true c cp) 163 false;
 let W:=Value.tuple ⟨[r,q,p,sl_ 6 nd,o,l,k]⟩;let V:=bQ 0 [0,9,10,11,12,5,8];let U:=bQ 0 [0,8,9,10,11,5,7];
 (aj (ltI i m) (ae (inI i n) (ae (Bool.and (Nat.ble (Nat.add z 4) cp.length) (jg [y,y, .slice 1,y] cp z)) (aj (eqI (asI (aV cp x)) f) (aj (eqI w 0) (ae (List.all (zC u) oneCell) (ae (Nat.ble t 4194304) (ae (Nat.beq (Nat.add 0 (Nat.mul nd 1)) cd.length) (nb_ t 1 s (nb_ n0 1 c0 (nb_ n1 1 c1 (nb_ n2 1 c2 (nb_ n3 1 c3 (some (.tuple ⟨[r,q,p,sl_ 6 t,o,l,k]⟩,ag [j,lb_ h n0 1 c0 5,lb_ h n1 1 c1 5,lb_ h n2 1 c2 5,lb_ h n3 1 c3 5, .cells (aG true h cp) 163 false,lb_ h t 1 s 5])))))))))) (aj (eqI w 1) (ae (dS 0 g e) (aj (Nat.ble 1 e) (nb_ d 1 cd (nb_ n0 1 c0 (nb_ n1 1 c1 (nb_ n2 1 c2 (nb_ n3 1 c3 (some (.tuple ⟨[r,q,p,sl_ 6 d,o,l,k]⟩,ag [j,b,a,Z,Y,X,lb_ c d 1 cd 5]))))))) (nb_ n0 1 c0 (nb_ n1 1 c1 (nb_ n2 1 c2 (nb_ n3 1 c3 (some (.tuple ⟨[r,q,p,sl_ 6 0,o,l,k]⟩,ag [j,b,a,Z,Y,X, .cells [] 5 false])))))))) (nb_ nd 1 cd (nb_ n0 1 c0 (nb_ n1 1 c1 (nb_ n2 1 c2 (nb_ n3 1 c3 (some (W,ag [j,b,a,Z,Y,X,lb_ c nd 1 cd 5]))))))))) (nb_ nd 1 cd (nb_ n0 1 c0 (nb_ n1 1 c1 (nb_ n2 1 c2 (nb_ n3 1 c3 (some (W,ag [j,lb_ V n0 1 c0 5,lb_ V n1 1 c1 5,lb_ V n2 1 c2 5,lb_ V n3 1 c3 5, .cells (aG true V cp) 163 false,lb_ V nd 1 cd 5])))))))))) (nb_ nd 1 cd (nb_ n0 1 c0 (nb_ n1 1 c1 (nb_ n2 1 c2 (nb_ n3 1 c3 (some (.tuple ⟨[io_ 1,q,p,sl_ 6 nd,o,l,io_ i]⟩,ag [j,lb_ U n0 1 c0 5,lb_ U n1 1 c1 5,lb_ U n2 1 c2 5,lb_ U n3 1 c3 5, .cells (aG true U cp) 163 false,lb_ U nd 1 cd 5]))))))))):=by kernel_rfl
theorem aae(C:List Value->List Blk->Bool)(off1 fused1:Bool)(fuse1 steps1:Int)(m0 m1 m2 m3 mp:Nat)(d0 d1 d2 d3 dp:List Value)(off fused:Bool)(fuse steps:Int)(n0 n1 n2 n3 np:Nat)(c0 c1 c2 c3 cp:List Value):aN P E (ak P g_ 1 129 (aP C (.leaf (.tuple ⟨[]⟩,[.cells (dkC off1 fused1 fuse1 steps1 m0 m1 m2 m3 mp) 86 true, .cells d0 5 false, .cells d1 5 false, .cells d2 5 false, .cells d3 5 false, .cells dp 163 false]))) ctF) 50 g_ [] [] 1 90 [.pointer (some ⟨0,0,none⟩)] [.cells (dkC off fused fuse steps n0 n1 n2 n3 np) 86 true, .cells c0 5 false, .cells c1 5 false, .cells c2 5 false, .cells c3 5 false, .cells cp 163 false] =
 (let z:=Value.bool true;let y:=Value.bool off;let x:=Value.bool fused;let w:=io_ fuse;let v:=io_ steps;let u:=sl_ 1 n0;let t:=sl_ 2 n1;let s:=sl_ 3 n2;let r:=sl_ 4 n3;let q:=sl_ 5 np;let p:=ro_ [0,1,6,5];let o:=lb_ p n0 1 c0 5;let n:=lb_ p n1 1 c1 5;let m:=lb_ p n2 1 c2 5;let l:=lb_ p n3 1 c3 5;
 let k:=lb_ p np 4 cp 163;let j:=[pt_ 0,io_ (ah np)];let i:=io_ (bM .i64 steps 1);let h:=aT [0] 11;let g:=aG true h d0;let f:=aG true h d1;let e:=aG true h d2;let d:=aG true h d3;let c:=aG true h dp;let b:=ro_ [0,1,16,5];let a:=nb_ m0 1 g (nb_ m1 1 f (nb_ m2 1 e (nb_ m3 1 d (nb_ mp 4 c (some (io_ 0,ag [.cells [z, .bool off1, .bool fused1,io_ fuse1,io_ steps1,sl_ 1 m0,sl_ 2 m1,sl_ 3 m2,sl_ 4 m3,sl_ 5 mp] 86 true,lb_ b m0 1 g 5,lb_ b m1 1 f 5,lb_ b m2 1 e 5,lb_ b m3 1 d 5,lb_ b mp 4 c 163]))))));
 (aj off (nb_ n0 1 c0 (nb_ n1 1 c1 (nb_ n2 1 c2 (nb_ n3 1 c3 (nb_ np 4 cp (some (io_ 6,ag [.cells [z,y,x,w,v,u,t,s,r,q] 86 true,o,n,m,l,k]))))))) (aj fused (aj (eqI fuse 0) (nb_ n0 1 c0 (nb_ n1 1 c1 (nb_ n2 1 c2 (nb_ n3 1 c3 (nb_ np 4 cp (some (io_ 6,ag [.cells [z,z,x,w,v,u,t,s,r,q] 86 true,o,n,m,l,k]))))))) (nb_ n0 1 c0 (nb_ n1 1 c1 (nb_ n2 1 c2 (nb_ n3 1 c3 (nb_ np 4 cp (ae (C j [.cells [z,y,x,io_ (dJ .i64 fuse 1),i,u,t,s,r,q] 86 true,o,n,m,l,k]) a))))))) (nb_ n0 1 c0 (nb_ n1 1 c1 (nb_ n2 1 c2 (nb_ n3 1 c3 (nb_ np 4 cp (ae (C j [.cells [z,y,x,w,i,u,t,s,r,q] 86 true,o,n,m,l,k]) a))))))))):=by kernel_rfl
def heV(f:Int)(k n:Nat)(i:Int):List Value:=[p0, .int .i64 f, .slice (some ⟨6,0,none⟩) k 18446744073709551616, .slice (some ⟨5,0,none⟩) n 18446744073709551616, .int .i64 (ah n), .int .i64 i]
def heB(m:DkM)(d:List UInt8):List Blk:=[.cells (dkC m.off m.fused m.fuse m.steps m.d0.length m.d1.length m.d2.length m.d3.length m.pend.length) 86 true, .cells (bc m.d0) 5 false, .cells (bc m.d1) 5 false, .cells (bc m.d2) 5 false, .cells (bc m.d3) 5 false, .cells (ESt.all m.pend) 163 false, .cells (bc d) 5 false]
def rU(f:Int)(d:List UInt8)(s:StM):List UInt8:=match eqI s.file f with
 |true=>jF d s
 |false=>d
def Y6(f:Int)(d:List UInt8)(s:StM):Prop:=eqI s.file f=true->0<=s.len/\(eqI s.kind 0=false->eqI s.kind 1=true->s.len.toNat<=d.length)/\d.length+s.bytes.length<=4194304
theorem aah{m:DkM}{f:Int}{d:List UInt8}{n i:Nat}(hi:i<n)(hn:n<=m.pend.length)(hm:m.pend.length<4194304)(ho:Y6 f d (m.pend[i]'(by omega))) :
  aU P E ctF 50 65 Bhe Dhe (heV f d.length n i) (heB m d)=some (.tuple ⟨exV .normal::heV f (rU f d (m.pend[i]'(by omega))).length n ((i+1:Nat):Int)⟩,ag (heB m (rU f d (m.pend[i]'(by omega))))):=by
 obtain⟨off,fused,fuse,steps,d0,d1,d2,d3,pend⟩:=m;simp only at hn hm;have hp:i<pend.length:=by omega
 unfold Y6 at ho;simp only at ho;obtain⟨R,hR⟩:∃ R:Res,R=some (.tuple ⟨exV .normal::heV f (rU f d pend[i]).length n ((i+1:Nat):Int)⟩,ag (heB ⟨off,fused,fuse,steps,d0,d1,d2,d3,pend⟩ (rU f d pend[i]))):=⟨_,rfl⟩
 refine Eq.trans ?_ hR;unfold heV p0 heB;simp only;rw[WC];have b2:∀ n,Nat.ble n n=true:=fun n=>dG (dm n);have b3:∀ n,Nat.beq n n=true:=nR;have n4:∀ l:List StM,(ESt.all l).length=Nat.mul l.length 4:=fun l=>ESt.all_length l;have g1:ltI (i:Int) (ah n)=true:=lT_ (by unfold ah; omega);have g2:inI (i:Int) n=true:=by unfold inI; exact eU (by omega)
 have g3:Nat.ble (Nat.add (atN (i:Int) 4) 4) (Nat.mul pend.length 4)=true:=dG (by
  show(i:Int).toNat*4+4<=pend.length*4;have:(i:Int).toNat=i:=by omega
  omega)
 have g4:=R_ hp;have a1:bM .i64 (i:Int) 1=((i+1:Nat):Int):=by unfold bM; rw[wrap64 (by omega) (by omega)]; omega
 have ai:∀ (k:IntKind) (n:Int),asI (.int k n)=n:=fun _ _=>rfl;have zn:∀ l:List UInt8,zN (ax 1 l.length 0 (bc l))=l.length:=fun l=>Ha (by decide);have zc:∀ l:List UInt8,zC (ax 1 l.length 0 (bc l))=bc l:=fun l=>MC (by decide);have apl:∀ a b:List UInt8,(a++b).length=Nat.add a.length b.length:=fun _ _=>bP;simp only[io_,lb_,nb_,pt_,sl_,fB,n4,g1,g2,g3,g4,ZX hp,ZN hp,aaW hp,Zo hp,ai,zn,zc,a1,ul,fQ,bn,b2,b3,vT,jO,dV rfl,fE,Enc.all_ren,XQ,agI,fV,bu,aW];generalize pend[i]=s at *;obtain⟨kind,file,bytes,len⟩:=s;simp only at ho;cases hf:eqI file f with
 |false=>
  simp only[io_,lb_,nb_,pt_,sl_,bg];rw[hR,show rU f d ⟨kind,file,bytes,len⟩=d from by unfold rU; simp only[io_,lb_,nb_,pt_,sl_,hf]]
  rfl
 |true=>
  obtain⟨l0,l1,sz⟩:=ho hf;have t1:Nat.ble (Nat.add d.length bytes.length) 4194304=true:=dG sz;have ct:takeC (Nat.add d.length bytes.length) (aO 0 (bc (d++bytes)))=bc (d++bytes):=dV (apl _ _).symm;have ck:takeC len.toNat (aO 0 (bc d))=bc (d.take len.toNat):=by rw[wS,iQ]
  have es:rU f d ⟨kind,file,bytes,len⟩=jF d ⟨kind,file,bytes,len⟩:=by unfold rU; simp only[io_,lb_,nb_,pt_,sl_,hf]
  cases k0:eqI kind 0 with
  |true=>
   simp only[io_,lb_,nb_,pt_,sl_,t1,ct,b2,apl,bn,fE,bu,bg,aW];rw[hR,es,show jF d ⟨kind,file,bytes,len⟩=d++bytes from by unfold jF; simp only[io_,lb_,nb_,pt_,sl_,k0]];unfold heV;simp only[io_,lb_,nb_,pt_,sl_,apl]
   rfl
  |false=>
   cases k1:eqI kind 1 with
   |true=>
    have hl:=l1 k0 k1;have t2:dS 0 len d.length=true:=nJ (by omega) l0 (by omega);have t3:Nat.ble len.toNat d.length=true:=dG hl;have tl:(d.take len.toNat).length=len.toNat:=by rw[fH]; omega
    have ed:jF d ⟨kind,file,bytes,len⟩=d.take len.toNat:=by unfold jF; simp only[io_,lb_,nb_,pt_,sl_,k0,k1]
    cases hz:Nat.ble 1 d.length with
    |true=>
     simp only[io_,lb_,nb_,pt_,sl_,t2,t3,ck,hz,b2,fE,bu,bg,aW];rw[hR,es,ed];unfold heV;simp only[io_,lb_,nb_,pt_,sl_,tl]
     rfl
    |false=>
     have hz0:d.length=0:=by
      have:¬1<=d.length:=fun h=>by rw[dG h]at hz; cases hz
      omega
     have hl0:len.toNat=0:=by omega
     obtain rfl:=o6.1 hz0;simp only[io_,lb_,nb_,pt_,sl_,t2,hl0,hz,b2,fE,bu,bg,aW];rw[hR,es,ed,wB]
     rfl
   |false=>
    simp only[io_,lb_,nb_,pt_,sl_,b2,bu,bg,aW];rw[hR,es,show jF d ⟨kind,file,bytes,len⟩=d from by unfold jF; simp only[io_,lb_,nb_,pt_,sl_,k0,k1]]
    rfl
theorem afn{m:DkM}{f:Int}{d:List UInt8}{n:Nat}(hn:n<=m.pend.length):aU P E ctF 50 65 Bhe Dhe (heV f d.length n n) (heB m d)=some (.tuple ⟨exV (.exit 0)::heV f d.length n n⟩,ag (heB m d)):=by
 obtain⟨off,fused,fuse,steps,d0,d1,d2,d3,pend⟩:=m;unfold heV p0 heB;simp only;rw[WC];have b2:∀ n,Nat.ble n n=true:=fun n=>dG (dm n);have n4:∀ l:List StM,(ESt.all l).length=Nat.mul l.length 4:=fun l=>ESt.all_length l;have g1:ltI (n:Int) (ah n)=false:=lF_ (by unfold ah; omega);simp only[io_,lb_,nb_,pt_,sl_,fB,n4,g1,fQ,bn,b2,dV rfl,fE,Enc.all_ren,fV,bu,bg,aW]
 rfl
def uS(f:Int)(d:List UInt8)(l:List StM):List UInt8:=l.foldl (rU f) d
def EJ(f:Int):List UInt8->List StM->Prop
 |_,[]=>True
 |d,s::l=>Y6 f d s/\EJ f (rU f d s) l
theorem SV(f:Int)(m:DkM)(n:Nat)(h2:n<=m.pend.length)(h3:m.pend.length<4194304):∀ (k i:Nat) (d:List UInt8),i+k=n->EJ f d ((m.pend.drop i).take k)->
  LRX P 65 0 Bhe Dhe.head (heV f d.length n i) (heB m d) .normal (heV f (uS f d ((m.pend.drop i).take k)).length n n) (heB m (uS f d ((m.pend.drop i).take k)))
 |0,i,d,h1,h4=>by
  obtain rfl:i=n:=by omega
  exact LRX.stop (n:=50) (dU ctF) bK aA QR (e:= .exit 0) (afn h2) (by intro h; cases h)
 |k+1,i,d,h1,h4=>by
  have hp:i<m.pend.length:=by omega
  have hd:(m.pend.drop i).take (k+1)=m.pend[i]::(m.pend.drop (i+1)).take k:=by rw[lu hp,BH]
  rw[hd]at h4 ⊢;exact LRX.again (n:=50) (dU ctF) bK aA QR (aah (by omega) h2 h3 h4.1) (SV f m n h2 h3 k (i+1) _ (by omega) h4.2)
structure HeS where
 m:DkM
 f:Int
 d:List UInt8
def kHe:Con HeS where
 enc s:=(heV s.f s.d.length s.m.pend.length 0,heB s.m s.d)
 ok s:=s.m.pend.length<4194304/\EJ s.f s.d s.m.pend
 inj a b h:=by
  obtain⟨a1,a2,a3⟩:=a;obtain⟨b1,b2,b3⟩:=b;simp only[dA]at h;obtain⟨h1,h2⟩:=h;have e1:a_ a1=a_ b1:=congrArg (List.take 6) h2;have e2:[Blk.cells (bc a3) 5 false]=[Blk.cells (bc b3) 5 false]:=congrArg (List.drop 6) h2;obtain rfl:=oM e1;simp only[je,Blk.cells.injEq,jd]at e2;obtain rfl:=wC e2;unfold heV at h1;simp only[je,Value.int.injEq,lM,jd]at h1;obtain⟨rfl,_⟩:=h1
  rfl
 dflt:=⟨dk0,0,[]⟩
def U3(s:HeS):DT (Ex×List Value×List Blk):= .leaf (.normal,heV s.f (uS s.f s.d s.m.pend).length s.m.pend.length s.m.pend.length,heB s.m (uS s.f s.d s.m.pend))
theorem Ye:LoopOkX P 65 0 Bhe Dhe.head (DR kHe.C kHe.D U3):=
 x_ kHe (bJ Yq) fun s ho e vs' bs' hev=>by
  simp only[U3,DT.eval,dD,dA]at hev;obtain⟨rfl,rfl,rfl⟩:=hev;have q:=SV s.f s.m s.m.pend.length (dm _) ho.1 s.m.pend.length 0 s.d (by omega);rw[iQ,rC]at q;exact q ho.2
theorem aaR(C:List Value->List Blk->Bool)(off1 fused1:Bool)(fuse1 steps1:Int)(m0 m1 m2 m3 mp md:Nat)(d0 d1 d2 d3 dp dd:List Value)(y1:Nat)(y0 y2 y3:Int)(off fused:Bool)(fuse steps:Int)(n0 n1 n2 n3 np:Nat)(c0 c1 c2 c3 cp:List Value)(f:Int):aN P E (dX P 65 0 Dhe (gX C (.leaf (.normal,[.pointer (some ⟨0,0,none⟩), .int .i64 y0, .slice (some ⟨6,0,none⟩) md 18446744073709551616, .slice (some ⟨5,0,none⟩) y1 18446744073709551616, .int .i64 y2, .int .i64 y3],[.cells (dkC off1 fused1 fuse1 steps1 m0 m1 m2 m3 mp) 86 true, .cells d0 5 false, .cells d1 5 false, .cells d2 5 false, .cells d3 5 false, .cells dp 163 false, .cells dd 5 false]))) ctF) 50 g_ [.val] [57] 1 65 [.pointer (some ⟨0,0,none⟩), .int .i64 f] [.cells (dkC off fused fuse steps n0 n1 n2 n3 np) 86 true, .cells c0 5 false, .cells c1 5 false, .cells c2 5 false, .cells c3 5 false, .cells cp 163 false] =
 (let z:=takeC (Nat.mul n0 1) (aO 0 c0);let y:=Nat.beq 0 0;let x:=pt_ 0;let w:=io_ f;let v:=sl_ 5 np;let u:=io_ (ah np);let t:=io_ 0;let s:=Value.bool true;let r:=Blk.cells [s, .bool off, .bool fused,io_ fuse,io_ steps,sl_ 1 n0,sl_ 2 n1,sl_ 3 n2,sl_ 4 n3,v] 86 true;let q:=bQ 0 [0,8,9,10,11,5,7];
 let p:=lb_ q n0 1 c0 5;let o:=lb_ q n1 1 c1 5;let n:=lb_ q n2 1 c2 5;let m:=lb_ q n3 1 c3 5;let l:=Blk.cells (aG true q cp) 163 false;let k:=aT [0] 12;let j:=aG true k dd;let i:=aG true k d0;let h:=aG true k d1;let g:=aG true k d2;let e:=aG true k d3;let d:=aG true k dp;let c:=ro_ [0,1,18,5];
 let b:=ae (fq_ md j 5) (nb_ m0 1 i (nb_ m1 1 h (nb_ m2 1 g (nb_ m3 1 e (nb_ mp 4 d (some (fb_ md 0 (takeC (Nat.mul md 1) (aO 0 j)),ag [.cells [s, .bool off1, .bool fused1,io_ fuse1,io_ steps1,sl_ 1 m0,sl_ 2 m1,sl_ 3 m2,sl_ 4 m3,sl_ 5 mp] 86 true,lb_ c m0 1 i 5,lb_ c m1 1 h 5,lb_ c m2 1 g 5,lb_ c m3 1 e 5,lb_ c mp 4 d 163])))))));
 let a:=takeC (Nat.mul n1 1) (aO 0 c1);let Z:=takeC (Nat.mul n2 1) (aO 0 c2);let Y:=takeC (Nat.mul n3 1) (aO 0 c3);
 (aj (eqI f 0) (nb_ n0 1 c0 (ae (List.all z oneCell) (ae (Bool.and y (Bool.and y (Nat.ble n0 4194304))) (nb_ n0 1 z (nb_ n0 1 c0 (nb_ n1 1 c1 (nb_ n2 1 c2 (nb_ n3 1 c3 (ae (C [x,w,sl_ 6 n0,v,u,t] [r,p,o,n,m,l,lb_ q n0 1 z 5]) b))))))))) (aj (eqI f 1) (nb_ n1 1 c1 (ae (List.all a oneCell) (ae (Bool.and y (Bool.and y (Nat.ble n1 4194304))) (nb_ n1 1 a (nb_ n0 1 c0 (nb_ n1 1 c1 (nb_ n2 1 c2 (nb_ n3 1 c3 (ae (C [x,w,sl_ 6 n1,v,u,t] [r,p,o,n,m,l,lb_ q n1 1 a 5]) b))))))))) (aj (eqI f 2) (nb_ n2 1 c2 (ae (List.all Z oneCell) (ae (Bool.and y (Bool.and y (Nat.ble n2 4194304))) (nb_ n2 1 Z (nb_ n0 1 c0 (nb_ n1 1 c1 (nb_ n2 1 c2 (nb_ n3 1 c3 (ae (C [x,w,sl_ 6 n2,v,u,t] [r,p,o,n,m,l,lb_ q n2 1 Z 5]) b))))))))) (ae (eqI f 3) (nb_ n3 1 c3 (ae (List.all Y oneCell) (ae (Bool.and y (Bool.and y (Nat.ble n3 4194304))) (nb_ n3 1 Y (nb_ n0 1 c0 (nb_ n1 1 c1 (nb_ n2 1 c2 (nb_ n3 1 c3 (ae (C [x,w,sl_ 6 n3,v,u,t] [r,p,o,n,m,l,lb_ q n3 1 Y 5]) b)))))))))))))):=by kernel_rfl
structure HcS where
 m:DkM
 f:Int
def HcS.h(s:HcS):HeS:=⟨s.m,s.f,fD s.m s.f⟩
def qX(m:DkM)(f:Int):List UInt8:=uS f (fD m f) m.pend
def kHc:Con HcS where
 enc s:=([p0, .int .i64 s.f],a_ s.m)
 ok s:=(0<=s.f/\s.f<4)/\(fD s.m s.f).length<=4194304/\s.m.pend.length<4194304/\EJ s.f (fD s.m s.f) s.m.pend
 inj a b h:=by
  obtain⟨a1,a2⟩:=a;obtain⟨b1,b2⟩:=b;simp only[dA]at h;obtain⟨h1,h2⟩:=h;obtain rfl:=oM h2;simp only[je,Value.int.injEq,lM,jd]at h1;subst h1
  rfl
 dflt:=⟨dk0,0⟩
def Zt(s:HcS):Ct:=dX P 65 0 Dhe (gX (kHe.at s.h) (U3 s.h)) ctF
theorem aak(s:HcS)(h0:0<=s.f/\s.f<4)(hl:(fD s.m s.f).length<=4194304):aN P E (Zt s) 50 g_ [.val] [57] 1 65 (kHc.enc s).1 (kHc.enc s).2=some (ax 1 (qX s.m s.f).length 0 (bc (qX s.m s.f)),ag (a_ s.m)):=by
 obtain⟨⟨off,fused,fuse,steps,d0,d1,d2,d3,pend⟩,f⟩:=s;simp only at h0 hl;have q:=fun(d:List UInt8)=>aaR (kHe.at ⟨⟨off,fused,fuse,steps,d0,d1,d2,d3,pend⟩,f,d⟩) off fused fuse steps d0.length d1.length d2.length d3.length pend.length (uS f d pend).length (bc d0) (bc d1) (bc d2) (bc d3) (ESt.all pend) (bc (uS f d pend))
  pend.length f (ah pend.length) pend.length off fused fuse steps d0.length d1.length d2.length d3.length pend.length (bc d0) (bc d1) (bc d2) (bc d3) (ESt.all pend) f
 obtain⟨d,hd⟩:∃ d,d=fD ⟨off,fused,fuse,steps,d0,d1,d2,d3,pend⟩ f:=⟨_,rfl⟩
 have eh:HcS.h ⟨⟨off,fused,fuse,steps,d0,d1,d2,d3,pend⟩,f⟩=⟨⟨off,fused,fuse,steps,d0,d1,d2,d3,pend⟩,f,d⟩:=by unfold HcS.h; rw[hd]
 have ef:qX ⟨off,fused,fuse,steps,d0,d1,d2,d3,pend⟩ f=uS f d pend:=by unfold qX; rw[hd]
 unfold Zt;simp only;rw[eh,ef];rw[<-hd]at hl;refine Eq.trans ?_ ((q d).trans ?_)
 ·rfl
 clear q eh ef;have b2:∀ n,Nat.ble n n=true:=fun n=>dG (dm n);have b3:∀ n,Nat.beq n n=true:=nR;have n4:∀ l:List StM,(ESt.all l).length=Nat.mul l.length 4:=fun l=>ESt.all_length l;have fz:=fun l:List UInt8=>L9 (l:=l) rfl;have tl:Nat.ble d.length 4194304=true:=dG hl;obtain⟨R,hR⟩:∃ R:Res,R=some (ax 1 (uS f d pend).length 0 (bc (uS f d pend)),ag (a_ ⟨off,fused,fuse,steps,d0,d1,d2,d3,pend⟩)):=⟨_,rfl⟩
 refine Eq.trans ?_ hR;simp only[fb_,fq_,io_,lb_,nb_,pt_,sl_,fB,n4,fQ,bn,b2,b3,fz,ul,dV rfl,qC rfl,fE,Enc.all_ren,fV,yJ,bu,aW];rcases(show f=0\/f=1\/f=2\/f=3 by omega)with rfl | rfl | rfl | rfl
 ·have q0:eqI (0:Int) 0=true:=rfl;have e:d=d0:=hd;subst e;simp only[fb_,fq_,io_,lb_,nb_,pt_,sl_,q0,tl,bu,aW];refine mg (k:=kHe) (s:=⟨⟨off,fused,fuse,steps,d,d1,d2,d3,pend⟩,0,d⟩) rfl rfl ?_;rw[hR];unfold ax;rw[fzU]
  rfl
 ·have q0:eqI (1:Int) 0=false:=rfl;have q1:eqI (1:Int) 1=true:=rfl;have e:d=d1:=hd;subst e;simp only[fb_,fq_,io_,lb_,nb_,pt_,sl_,q0,q1,tl,bu,bg,aW];refine mg (k:=kHe) (s:=⟨⟨off,fused,fuse,steps,d0,d,d2,d3,pend⟩,1,d⟩) rfl rfl ?_;rw[hR];unfold ax;rw[fzU]
  rfl
 ·have q0:eqI (2:Int) 0=false:=rfl;have q1:eqI (2:Int) 1=false:=rfl;have q2:eqI (2:Int) 2=true:=rfl;have e:d=d2:=hd;subst e;simp only[fb_,fq_,io_,lb_,nb_,pt_,sl_,q0,q1,q2,tl,bu,bg,aW];refine mg (k:=kHe) (s:=⟨⟨off,fused,fuse,steps,d0,d1,d,d3,pend⟩,2,d⟩) rfl rfl ?_;rw[hR];unfold ax;rw[fzU]
  rfl
 ·have q0:eqI (3:Int) 0=false:=rfl;have q1:eqI (3:Int) 1=false:=rfl;have q2:eqI (3:Int) 2=false:=rfl;have q3:eqI (3:Int) 3=true:=rfl;have e:d=d3:=hd;subst e;simp only[fb_,fq_,io_,lb_,nb_,pt_,sl_,q0,q1,q2,q3,tl,bu,bg,aW];refine mg (k:=kHe) (s:=⟨⟨off,fused,fuse,steps,d0,d1,d2,d,pend⟩,3,d⟩) rfl rfl ?_;rw[hR];unfold ax;rw[fzU]
  rfl
def Ba(s:HcS):DT (Value×List Blk):= .leaf (ax 1 (qX s.m s.f).length 0 (bc (qX s.m s.f)),a_ s.m)
theorem Sm:CallOkX P 1 65 (wX kHc.C kHc.D Ba):=tV kHc fun s ho v bs' hev=>by
 simp only[Ba,DT.eval,dD,dA]at hev;obtain⟨rfl,rfl⟩:=hev;exact CRX.of (dU (Zt s)) bK (dB aA (Ae kHe Ye (s:=s.h) ⟨ho.2.2.1,ho.2.2.2⟩)) (aak s ho.1 ho.2.1)
def lV(m:DkM):Int×DkM:=match m.off,jB m with
 |true,_=>(6,m)
 |false,none=>(6,{ m with off:=true })
 |false,some m'=>(0,pJ ⟨m',m'.pend.length⟩)
def kSy:Con DkM where
 enc m:=([p0],a_ m)
 ok m:=DkOk m/\∀ m',jB m=some m'->rf m' m'.pend
 inj a b h:=by
  simp only[dA,lM]at h;exact oM h
 dflt:=dk0
def syS(m:DkM):StS:=match jB m with
 |none=>⟨m,0⟩
 |some m'=>⟨m',m'.pend.length⟩
def aaS(m:DkM):Ct:=ak P g_ 1 129 (aP (kSe.at (syS m)) (y8 (syS m))) ctF
theorem Zr(m:DkM)(ho:DkOk m):aN P E (aaS m) 50 g_ [] [] 1 90 (kSy.enc m).1 (kSy.enc m).2=some (.int .i64 (lV m).1,ag (a_ (lV m).2)):=by
 obtain⟨off,fused,fuse,steps,d0,d1,d2,d3,pend⟩:=m;obtain⟨s0,s1,f0,f1,p1⟩:=ho;simp only at s0 s1 f0 f1 p1;obtain⟨S,hS⟩:∃ S,S=syS ⟨off,fused,fuse,steps,d0,d1,d2,d3,pend⟩:=⟨_,rfl⟩
 obtain⟨M,hM⟩:∃ M,M=pJ S:=⟨_,rfl⟩
 have q:=aae (kSe.at S) M.off M.fused M.fuse M.steps M.d0.length M.d1.length M.d2.length M.d3.length M.pend.length (bc M.d0) (bc M.d1) (bc M.d2) (bc M.d3) (ESt.all M.pend) off fused fuse steps d0.length d1.length d2.length d3.length pend.length (bc d0) (bc d1) (bc d2) (bc d3) (ESt.all pend);unfold aaS y8;rw[<-hS,<-hM];refine Eq.trans ?_ (q.trans ?_)
 ·rfl
 clear q;have b2:∀ n,Nat.ble n n=true:=fun n=>dG (dm n);have n4:∀ l:List StM,(ESt.all l).length=Nat.mul l.length 4:=fun l=>ESt.all_length l;have hs:bM .i64 steps 1=steps+1:=by unfold bM; rw[wrap64 (by omega) (by omega)]
 have hf:dJ .i64 fuse 1=fuse-1:=by unfold dJ; rw[wrap64 (by omega) (by omega)]
 simp only[io_,lb_,nb_,pt_,sl_,fB,n4,fQ,bn,b2,hs,hf,dV rfl,qC rfl,fE,Enc.all_ren,fV,bu,aW];cases off with
 |true=>rfl
 |false=>
  simp only[io_,lb_,nb_,pt_,sl_,bg];cases fused with
  |false=>
   simp only[io_,lb_,nb_,pt_,sl_,bg];have e:S=⟨⟨false,false,fuse,steps+1,d0,d1,d2,d3,pend⟩,pend.length⟩:=hS;refine mg (k:=kSe) (s:=S) (by rw[e]; rfl) (by rw[e]; rfl) ?_;rw[show lV ⟨false,false,fuse,steps,d0,d1,d2,d3,pend⟩=(0,M) from by rw[hM,e]; rfl]
   rfl
  |true=>
   simp only[io_,lb_,nb_,pt_,sl_,bu];cases hq:eqI fuse 0 with
   |true=>
    rw[show lV ⟨false,true,fuse,steps,d0,d1,d2,d3,pend⟩=(6,⟨true,true,fuse,steps,d0,d1,d2,d3,pend⟩) from by unfold lV jB; simp only[io_,lb_,nb_,pt_,sl_,hq]]
    rfl
   |false=>
    simp only[io_,lb_,nb_,pt_,sl_,bg];have e:S=⟨⟨false,true,fuse-1,steps+1,d0,d1,d2,d3,pend⟩,pend.length⟩:=by rw[hS]; unfold syS jB; simp only[io_,lb_,nb_,pt_,sl_,hq]
    refine mg (k:=kSe) (s:=S) (by rw[e]; rfl) (by rw[e]; rfl) ?_;rw[show lV ⟨false,true,fuse,steps,d0,d1,d2,d3,pend⟩=(0,M) from by rw[hM,e]; unfold lV jB; simp only[io_,lb_,nb_,pt_,sl_,hq]]
    rfl
theorem Zl(C:List Value->List Blk->Bool)(nd:Nat)(cd:List Value)(off1 fused1:Bool)(fuse1 steps1:Int)(m0 m1 m2 m3 mp:Nat)(d0 d1 d2 d3 dp:List Value)(off fused:Bool)(fuse steps:Int)(n0 n1 n2 n3 np:Nat)(c0 c1 c2 c3 cp:List Value)(f:Int):aN P E (ak P g_ 1 65 (aP C (.leaf (ax 1 nd 0 cd,[.cells (dkC off1 fused1 fuse1 steps1 m0 m1 m2 m3 mp) 86 true, .cells d0 5 false, .cells d1 5 false, .cells d2 5 false, .cells d3 5 false, .cells dp 163 false]))) ctF) 50 g_ [.val, .val] [57,0] 1 28 [.pointer (some ⟨0,0,none⟩), .int .i64 f] [.cells (dkC off fused fuse steps n0 n1 n2 n3 np) 86 true, .cells c0 5 false, .cells c1 5 false, .cells c2 5 false, .cells c3 5 false, .cells cp 163 false] =
 (let z:=fb_ 0 0 [];let y:=Value.bool true;let x:=ro_ [0,1,6,5];let w:=[Blk.cells [y, .bool off, .bool fused,io_ fuse,io_ steps,sl_ 1 n0,sl_ 2 n1,sl_ 3 n2,sl_ 4 n3,sl_ 5 np] 86 true,lb_ x n0 1 c0 5,lb_ x n1 1 c1 5,lb_ x n2 1 c2 5,lb_ x n3 1 c3 5,lb_ x np 4 cp 163];let v:=nb_ n0 1 c0 (nb_ n1 1 c1 (nb_ n2 1 c2 (nb_ n3 1 c3 (nb_ np 4 cp (some (.tuple ⟨[z,io_ 2]⟩,ag w))))));
 let u:=aT [0] 11;let t:=aG true u d0;let s:=aG true u d1;let r:=aG true u d2;let q:=aG true u d3;let p:=aG true u dp;let o:=ro_ [0,1,16,5];
 (aj off (nb_ n0 1 c0 (nb_ n1 1 c1 (nb_ n2 1 c2 (nb_ n3 1 c3 (nb_ np 4 cp (some (.tuple ⟨[z,io_ 6]⟩,ag w))))))) (aj (geI f 0) (aj (eQ (ltI f 4)) v (nb_ n0 1 c0 (nb_ n1 1 c1 (nb_ n2 1 c2 (nb_ n3 1 c3 (nb_ np 4 cp (ae (C [pt_ 0,io_ f] w) (nb_ m0 1 t (nb_ m1 1 s (nb_ m2 1 r (nb_ m3 1 q (nb_ mp 4 p (some (.tuple ⟨[fb_ nd 0 cd,io_ 0]⟩,ag [.cells [y, .bool off1, .bool fused1,io_ fuse1,io_ steps1,sl_ 1 m0,sl_ 2 m1,sl_ 3 m2,sl_ 4 m3,sl_ 5 mp] 86 true,lb_ o m0 1 t 5,lb_ o m1 1 s 5,lb_ o m2 1 r 5,lb_ o m3 1 q 5,lb_ o mp 4 p 163])))))))))))))) v))):=by kernel_rfl
theorem aeD(C:List Value->List Blk->Bool)(nd:Nat)(cd:List Value)(off1 fused1:Bool)(fuse1 steps1:Int)(m0 m1 m2 m3 mp:Nat)(d0 d1 d2 d3 dp:List Value)(off fused:Bool)(fuse steps:Int)(n0 n1 n2 n3 np:Nat)(c0 c1 c2 c3 cp:List Value)(f l:Int):aN P E (ak P g_ 1 65 (aP C (.leaf (ax 1 nd 0 cd,[.cells (dkC off1 fused1 fuse1 steps1 m0 m1 m2 m3 mp) 86 true, .cells d0 5 false, .cells d1 5 false, .cells d2 5 false, .cells d3 5 false, .cells dp 163 false]))) ctF) 50 g_ [] [] 1 175 [.pointer (some ⟨0,0,none⟩), .int .i64 f, .int .i64 l] [.cells (dkC off fused fuse steps n0 n1 n2 n3 np) 86 true, .cells c0 5 false, .cells c1 5 false, .cells c2 5 false, .cells c3 5 false, .cells cp 163 false] =
 (let z:=Value.bool true;let y:=ro_ [0,1,6,5];let x:=[Blk.cells [z, .bool off, .bool fused,io_ fuse,io_ steps,sl_ 1 n0,sl_ 2 n1,sl_ 3 n2,sl_ 4 n3,sl_ 5 np] 86 true,lb_ y n0 1 c0 5,lb_ y n1 1 c1 5,lb_ y n2 1 c2 5,lb_ y n3 1 c3 5,lb_ y np 4 cp 163];let w:=nb_ n0 1 c0 (nb_ n1 1 c1 (nb_ n2 1 c2 (nb_ n3 1 c3 (nb_ np 4 cp (some (io_ 2,ag x))))));
 let v:=aT [0] 11;let u:=aG true v d0;let t:=aG true v d1;let s:=aG true v d2;let r:=aG true v d3;let q:=aG true v dp;let p:=Value.bool off1;let o:=Value.bool fused1;let n:=io_ fuse1;let m:=io_ steps1;let k:=sl_ 1 m0;let j:=sl_ 2 m1;let i:=sl_ 3 m2;let h:=sl_ 4 m3;let g:=ro_ [0,1,16,5];
 let e:=lb_ g m0 1 u 5;let d:=lb_ g m1 1 t 5;let c:=lb_ g m2 1 s 5;let b:=lb_ g m3 1 r 5;let a:=lb_ g mp 4 q 163;let Z:=Nat.add mp 1;let Y:=Nat.ble Z 4194304;let X:=Nat.beq (Nat.add 0 (Nat.mul mp 4)) q.length;let W:=List.append (jC 0 q) [io_ 1,io_ f,fb_ 0 0 [],io_ l];let V:=io_ (bM .i64 steps1 1);
 let U:=ro_ [0,1,18,5];let T:=lb_ U m0 1 u 5;let S:=lb_ U m1 1 t 5;let R:=lb_ U m2 1 s 5;let Q:=lb_ U m3 1 r 5;let O:=lb_ U Z 4 W 163;
 (aj off (nb_ n0 1 c0 (nb_ n1 1 c1 (nb_ n2 1 c2 (nb_ n3 1 c3 (nb_ np 4 cp (some (io_ 6,ag x))))))) (aj (geI f 0) (aj (eQ (ltI f 4)) w (aj (ltI l 0) w (nb_ n0 1 c0 (nb_ n1 1 c1 (nb_ n2 1 c2 (nb_ n3 1 c3 (nb_ np 4 cp (ae (C [pt_ 0,io_ f] x) (aj (gtI l (ah nd)) (nb_ m0 1 u (nb_ m1 1 t (nb_ m2 1 s (nb_ m3 1 r (nb_ mp 4 q (some (io_ 2,ag [.cells [z,p,o,n,m,k,j,i,h,sl_ 5 mp] 86 true,e,d,c,b,a]))))))) (aj fused1 (aj (eqI fuse1 0) (nb_ m0 1 u (nb_ m1 1 t (nb_ m2 1 s (nb_ m3 1 r (nb_ mp 4 q (some (io_ 6,ag [.cells [z,z,o,n,m,k,j,i,h,sl_ 5 mp] 86 true,e,d,c,b,a]))))))) (ae Y (ae X (nb_ m0 1 u (nb_ m1 1 t (nb_ m2 1 s (nb_ m3 1 r (nb_ Z 4 W (some (io_ 0,ag [.cells [z,p,o,io_ (dJ .i64 fuse1 1),V,k,j,i,h,sl_ 5 Z] 86 true,T,S,R,Q,O])))))))))) (ae Y (ae X (nb_ m0 1 u (nb_ m1 1 t (nb_ m2 1 s (nb_ m3 1 r (nb_ Z 4 W (some (io_ 0,ag [.cells [z,p,o,n,V,k,j,i,h,sl_ 5 Z] 86 true,T,S,R,Q,O]))))))))))))))))))) w))):=by kernel_rfl
theorem RY:CallOkX P 1 90 (wX kSy.C kSy.D fun m=> .leaf (.int .i64 (lV m).1,a_ (lV m).2)):=tV kSy fun m ho v bs' hev=>by
 simp only[DT.eval,dD,dA]at hev;obtain⟨rfl,rfl⟩:=hev;refine CRX.of (dU (aaS m)) bK (af aA (Jv kSe Wl (s:=syS m) ?_)) (Zr m ho.1);unfold syS;cases hb:jB m with
 |none=>
  exact⟨ig _,ho.1.p1,trivial⟩
 |some m'=>
  have:=ho.2 m' hb;refine⟨dm _,?_,?_⟩
  ·have hp:m'.pend=m.pend:=by
    unfold jB at hb;split at hb
    ·obtain rfl:=aC hb; rfl
    ·cases hb
    ·obtain rfl:=aC hb; rfl
   show m'.pend.length<4194304;rw[hp]; exact ho.1.p1
  ·show rf m' (m'.pend.take m'.pend.length);rw[rC]; exact this
def pF(m:DkM)(f:Int):List UInt8×Int:=match m.off with
 |true=>([],6)
 |false=>(qX m f,0)
def Jl(s:HcS):Ct:=ak P g_ 1 65 (aP (kHc.at s) (Ba s)) ctF
theorem Wy(s:HcS)(h0:0<=s.f/\s.f<4):aN P E (Jl s) 50 g_ [.val, .val] [57,0] 1 28 (kHc.enc s).1 (kHc.enc s).2=some (.tuple ⟨[ax 1 (pF s.m s.f).1.length 0 (bc (pF s.m s.f).1), .int .i64 (pF s.m s.f).2]⟩,ag (a_ s.m)):=by
 obtain⟨⟨off,fused,fuse,steps,d0,d1,d2,d3,pend⟩,f⟩:=s;simp only at h0;obtain⟨x,hx⟩:∃ x,x=qX ⟨off,fused,fuse,steps,d0,d1,d2,d3,pend⟩ f:=⟨_,rfl⟩
 have q:=Zl (kHc.at ⟨⟨off,fused,fuse,steps,d0,d1,d2,d3,pend⟩,f⟩) x.length (bc x) off fused fuse steps d0.length d1.length d2.length d3.length pend.length (bc d0) (bc d1) (bc d2) (bc d3) (ESt.all pend) off fused fuse steps d0.length d1.length d2.length d3.length pend.length (bc d0) (bc d1) (bc d2) (bc d3) (ESt.all pend) f;unfold Jl Ba pF;simp only;rw[<-hx];refine Eq.trans ?_ (q.trans ?_)
 ·rfl
 clear q;have b2:∀ n,Nat.ble n n=true:=fun n=>dG (dm n);have n4:∀ l:List StM,(ESt.all l).length=Nat.mul l.length 4:=fun l=>ESt.all_length l;have g1:geI f 0=true:=hT_ h0.1;have g2:ltI f 4=true:=lT_ h0.2;simp only[fb_,io_,lb_,nb_,pt_,sl_,g1,g2,fB,n4,fQ,bn,b2,dV rfl,qC rfl,fE,Enc.all_ren,fV,bu,aW];cases off with
 |true=>
  unfold ax;rw[fzU]
  rfl
 |false=>
  simp only[fb_,io_,lb_,nb_,pt_,sl_,eQ,Bool.not_true,bg];refine mg (k:=kHc) (s:=⟨⟨false,fused,fuse,steps,d0,d1,d2,d3,pend⟩,f⟩) rfl rfl ?_;unfold ax;rw[fzU]
  rfl
theorem abW:CallOkX P 1 28 (wX kHc.C kHc.D fun s=> .leaf (.tuple ⟨[ax 1 (pF s.m s.f).1.length 0 (bc (pF s.m s.f).1), .int .i64 (pF s.m s.f).2]⟩,a_ s.m)):=tV kHc fun s ho v bs' hev=>by
 simp only[DT.eval,dD,dA]at hev;obtain⟨rfl,rfl⟩:=hev;exact CRX.of (dU (Jl s)) bK (af aA (Jv kHc Sm (s:=s) ho)) (Wy s ho.1)
def BR(m:DkM)(f l:Int):Int×DkM:=match m.off,ltI l 0,gtI l (ah (qX m f).length),jB m with
 |true,_,_,_=>(6,m)
 |false,true,_,_=>(2,m)
 |false,false,true,_=>(2,m)
 |false,false,false,none=>(6,{ m with off:=true })
 |false,false,false,some m'=>(0,{ m' with pend:=m.pend++[⟨1,f,[],l⟩] })
theorem ahd(l:List StM)(f n:Int):List.append (jC 0 (ESt.all l)) [.int .i64 1, .int .i64 f, .iface 18446744073709551617 (.agg ⟨[.slice none 0 0]⟩), .int .i64 n]=ESt.all (l++[⟨1,f,[],n⟩]):=by
 rw[ESt.all_append,ESt.all_one,<-fzU]
 rfl
theorem ac4(s:HcS)(l:Int)(h0:0<=s.f/\s.f<4)(ho:DkOk s.m):aN P E (Jl s) 50 g_ [] [] 1 175 [p0, .int .i64 s.f, .int .i64 l] (a_ s.m)=some (.int .i64 (BR s.m s.f l).1,ag (a_ (BR s.m s.f l).2)):=by
 obtain⟨⟨off,fused,fuse,steps,d0,d1,d2,d3,pend⟩,f⟩:=s;obtain⟨s0,s1,f0,f1,p1⟩:=ho;simp only at h0 s0 s1 f0 f1 p1;obtain⟨x,hx⟩:∃ x,x=qX ⟨off,fused,fuse,steps,d0,d1,d2,d3,pend⟩ f:=⟨_,rfl⟩
 have q:=aeD (kHc.at ⟨⟨off,fused,fuse,steps,d0,d1,d2,d3,pend⟩,f⟩) x.length (bc x) off fused fuse steps d0.length d1.length d2.length d3.length pend.length (bc d0) (bc d1) (bc d2) (bc d3) (ESt.all pend) off fused fuse steps d0.length d1.length d2.length d3.length pend.length (bc d0) (bc d1) (bc d2) (bc d3) (ESt.all pend) f l;unfold Jl Ba BR;simp only;rw[<-hx];refine Eq.trans ?_ (q.trans ?_)
 ·rfl
 clear q;have b2:∀ n,Nat.ble n n=true:=fun n=>dG (dm n);have b3:∀ n,Nat.beq n n=true:=nR;have n4:∀ l:List StM,(ESt.all l).length=Nat.mul l.length 4:=fun l=>ESt.all_length l;have g1:geI f 0=true:=hT_ h0.1;have g2:ltI f 4=true:=lT_ h0.2;have hs:bM .i64 steps 1=steps+1:=by unfold bM; rw[wrap64 (by omega) (by omega)]
 have hf:dJ .i64 fuse 1=fuse-1:=by unfold dJ; rw[wrap64 (by omega) (by omega)]
 have hp:(pend++[(⟨1,f,[],l⟩:StM)]).length=Nat.add pend.length 1:=by simp
 have t1:Nat.ble (Nat.add pend.length 1) 4194304=true:=dG (by show pend.length+1<=_; omega);have sa:=ahd pend f l;simp only[fb_,io_,lb_,nb_,pt_,sl_,g1,g2,fB,n4,fQ,bn,b2,b3,hs,hf,t1,sa,hp,qC hp.symm,dV rfl,qC rfl,fE,Enc.all_ren,fV,bu,aW];cases off with
 |true=>rfl
 |false=>
  simp only[fb_,io_,lb_,nb_,pt_,sl_,eQ,Bool.not_true,bg];cases ltI l 0 with
  |true=>rfl
  |false=>
   simp only[fb_,io_,lb_,nb_,pt_,sl_,bg];refine mg (k:=kHc) (s:=⟨⟨false,fused,fuse,steps,d0,d1,d2,d3,pend⟩,f⟩) rfl rfl ?_;cases gtI l (ah x.length)with
   |true=>rfl
   |false=>
    simp only[fb_,io_,lb_,nb_,pt_,sl_,bg];unfold jB;simp only;cases fused with
    |false=>
     simp only[fb_,io_,lb_,nb_,pt_,sl_,bg];unfold a_;simp only[fb_,io_,lb_,nb_,pt_,sl_,hp]
     rfl
    |true=>
     simp only[fb_,io_,lb_,nb_,pt_,sl_,bu];cases hq:eqI fuse 0 with
     |true=>rfl
     |false=>
      simp only[fb_,io_,lb_,nb_,pt_,sl_,bg];unfold a_;simp only[fb_,io_,lb_,nb_,pt_,sl_,hp]
      rfl
structure CuS where
 m:DkM
 f:Int
 l:Int
def CuS.c(s:CuS):HcS:=⟨s.m,s.f⟩
def kCu:Con CuS where
 enc s:=([p0, .int .i64 s.f, .int .i64 s.l],a_ s.m)
 ok s:=kHc.ok s.c/\DkOk s.m
 inj a b h:=by
  obtain⟨a1,a2,a3⟩:=a;obtain⟨b1,b2,b3⟩:=b;simp only[dA]at h;obtain⟨h1,h2⟩:=h;obtain rfl:=oM h2;simp only[je,Value.int.injEq,lM,jd]at h1;obtain⟨rfl,rfl⟩:=h1
  rfl
 dflt:=⟨dk0,0,0⟩
theorem afE:CallOkX P 1 175 (wX kCu.C kCu.D fun s=> .leaf (.int .i64 (BR s.m s.f s.l).1,a_ (BR s.m s.f s.l).2)):=tV kCu fun s ho v bs' hev=>by
 simp only[DT.eval,dD,dA]at hev;obtain⟨rfl,rfl⟩:=hev;exact CRX.of (dU (Jl s.c)) bK (af aA (Jv kHc Sm (s:=s.c) ho.1)) (ac4 s.c s.l ho.1.1 ho.2)
def EIn:Enc Int where
 sz:=1
 f n:=[.int .i64 n]
 len _:=rfl
 pos:=by decide
 inj a b h:=by simpa using h
 nr _:=rfl
def aB:Pol:=fun t=>match Nat.beq t 86,Nat.beq t 170,Nat.beq t 168,Nat.beq t 174,Nat.beq t 128 with
 |true,_,_,_,_=>some [.val, .val, .val, .val, .val, .own, .own, .own, .own, .own]
 |_,true,_,_,_=>some [.val, .val, .own, .own]
 |_,_,true,_,_=>some [.val, .val, .own]
 |_,_,_,true,_=>some [.val, .val, .own]
 |_,_,_,_,true=>some [.val, .val, .val, .val, .val, .val, .val, .val, .own, .val, .val, .val, .val]
 |_,_,_,_,_=>none
def lsV(k n:Nat):Value:= .slice (some ⟨k,0,none⟩) n 18446744073709551616
def ptV(k:Nat):Value:= .pointer (some ⟨k,0,none⟩)
def lX(a b c d e:Nat)(m:DkM):List Value:=[.bool true, .bool m.off, .bool m.fused, .int .i64 m.fuse, .int .i64 m.steps,lsV a m.d0.length,lsV b m.d1.length,lsV c m.d2.length,lsV d m.d3.length,lsV e m.pend.length]
def dkL(m:DkM):List Blk:=[.cells (bc m.d0) 5 false, .cells (bc m.d1) 5 false, .cells (bc m.d2) 5 false, .cells (bc m.d3) 5 false, .cells (ESt.all m.pend) 163 false]
structure WalM where
 dk:DkM
 br:Bool
 cs:List CmM
 es:List Int
def iO(w:WalM):List Blk:=[.cells [ptV 1, .bool w.br,lsV 7 w.cs.length,lsV 8 w.es.length] 170 true, .cells (lX 2 3 4 5 6 w.dk) 86 true,
 .cells (bc w.dk.d0) 5 false, .cells (bc w.dk.d1) 5 false, .cells (bc w.dk.d2) 5 false, .cells (bc w.dk.d3) 5 false, .cells (ESt.all w.dk.pend) 163 false, .cells (ECm.all w.cs) 47 false, .cells (EIn.all w.es) 3 false]
def okD(d:DkM):DkM:={ d with off:=false }
theorem ael(w:WalM):aN P E ctF 50 aB [] [] 2 116 [p0] (iO w) =
 (let z:=w.cs.length;let y:=Enc.all ECm w.cs;let x:=w.es.length;let v:=Enc.all EIn w.es;let u:=Blk.cells [pt_ 1, .bool w.br,sl_ 7 z,sl_ 8 x] 170 true;let t:=dk_ w.dk 2 3 4 5 6;let s:=ro_ [0,2,11,5,9,2];let r:=dJ .i64 (ah z) 1;let q:=Nat.add 0 (atN r 3);let p:=ro_ [0,2,25,5,23,2];
 (aj (eqI (ah z) 0) (nb_ z 3 y (nb_ x 1 v (dn_ w0_ w.dk (some (io_ 0,ag (u::t::dl_ (cz_ s w0_) w.dk [lb_ s z 3 y 47,lb_ s x 1 v 3])))))) (ae (inI r z) (ae (Bool.and (Nat.ble (Nat.add q 1) y.length) (gm (.int .i64) (aV y q))) (nb_ z 3 y (nb_ x 1 v (dn_ w0_ w.dk (some (io_ (asI (aV y q)),ag (u::t::dl_ (cz_ p w0_) w.dk [lb_ p z 3 y 47,lb_ p x 1 v 3])))))))))):=by kernel_rfl
theorem aZ{l:List CmM}{n:Nat}(h:n=l.length):takeC (Nat.mul n 3) (aO 0 (ECm.all l))=ECm.all l:=by subst h; exact ECm.all_self l
theorem dE{l:List Int}{n:Nat}(h:n=l.length):takeC n (aO 0 (EIn.all l))=EIn.all l:=by
 subst h;have:=EIn.all_self l;rw[show l.length*EIn.sz=l.length from uQ _]at this;exact this
theorem dH{l:List StM}{n:Nat}(h:n=l.length):takeC (Nat.mul n 4) (aO 0 (ESt.all l))=ESt.all l:=by subst h; exact ESt.all_self l
theorem mZ(l:List CmM):(ECm.all l).length=Nat.mul l.length 3:=ECm.all_length l
theorem vI(l:List StM):(ESt.all l).length=Nat.mul l.length 4:=ESt.all_length l
theorem um(l:List Int):(EIn.all l).length=l.length:=by rw[EIn.all_length]; exact uQ _
theorem Ac(n:Nat):Nat.ble n n=true:=dG (dm n)
theorem uT(n:Nat):Nat.beq n n=true:=nR n
def oz(l:List Int):Int:=l.getLast?.getD 0
theorem aiE{l:List Int}{i:Nat}(h:i<l.length):aV (EIn.all l) i = .int .i64 l[i]:=by
 have e:=EIn.nth (i:=i) (j:=0) h (by decide);rw[show i*EIn.sz+0=i from uQ i]at e;rw[e]; rfl
def wz(t n b:Nat)(c:List Value):Bool:=EIn.fz 4194304 t n c
def Dc(c:List Value):Int:=oz (EIn.dec c)
def MF(K:Nat->Nat->Nat->List Value->Bool)(L:List Value->Int):lT:=fun args=>match args with
 |[.iface t (.agg ⟨.slice none n b::c⟩)]=>some (.ite (K t n b c) (.leaf (.int .i64 (L c),[])) .fail)
 |_=>none
theorem adK(n b:Nat)(c:List Value):mQ P E uP 50 119 [ax 1 n b c] =
 (let z:=dJ .i64 (ah n) 1;let y:=aV c (atN z 1);
 (aj (eqI (ah n) 0) (some (io_ 0,ag [])) (ae (Bool.and (Nat.beq 1 1) (inI z n)) (ae (Bool.and (Nat.ble (Nat.add (atN z 1) 1) c.length) (gm (.int .i64) y)) (some (io_ (asI y),ag [])))))):=by kernel_rfl
theorem last_at{α:Type}(l:List α)(h:l≠[]):l.getLast? = some (l[l.length-1]'(by have:=kY.2 h; omega)):=by
 rw[List.getLast?_eq_some_getLast h,List.getLast_eq_getElem]
theorem YE:CallOkR P 119 (MF wz Dc):=H5 (q_ P) (n:=50) fun args t hR v bs hev=>by
 unfold MF at hR;split at hR
 ·rename_i t0 n b c;obtain rfl:=aC hR;cases hc:wz t0 n b c with
  |false=>rw[hc]at hev; cases hev
  |true=>
   rw[hc]at hev;obtain⟨l,h1,rfl,rfl,h2,h3⟩:=EIn.fz_of hc;have h1:t0=FZ+1:=h1;subst h1;simp only[io_,DT.eval,dD,dA,Dc,h3]at hev;obtain⟨rfl,rfl⟩:=hev;refine(adK l.length b (EIn.all l)).trans ?_;have hf:ax 1 l.length b (EIn.all l)=ax 1 l.length b (EIn.all l):=rfl;by_cases h0:l=[]
   ·subst h0; rfl
   ·have hp:=kY.2 h0;have g0:eqI (ah l.length) 0=false:=eF_ (by unfold ah; omega);have g1:dJ .i64 (ah l.length) 1=((l.length-1:Nat):Int):=by unfold dJ ah; rw[wrap64 (by omega) (by omega)]; omega
    have g2:inI ((l.length-1:Nat):Int) l.length=true:=jl (by omega) (by omega);have g3:atN ((l.length-1:Nat):Int) 1=l.length-1:=by simp[atN]
    have g4:aV (EIn.all l) (l.length-1) = .int .i64 (l[l.length-1]'(by omega)):=aiE (by omega);have g5:Nat.ble (Nat.add (l.length-1) 1) l.length=true:=dG (by show l.length-1+1<=_; omega);have g6:oz l=l[l.length-1]'(by omega):=by unfold oz; rw[last_at l h0]; rfl
    have g7:∀ x:Int,gm (.int .i64) (.int .i64 x)=true:=fun _=>rfl;simp only[io_,g0,g1,g2,g3,g4,um,g5,g7,uT,fV,bg,aW];rw[g6]; rfl
 ·cases hR
def aiy(K:Nat->Nat->Nat->List Value->Bool)(L:List Value->Int)(C0 C1 C2 C3 C4 C5:List Value->List Blk->Bool)(e:Int)(x f:List UInt8)(r:Int)(d2:DkM)(w:WalM)(c:CmM):Ct:=
 ak P aB 2 116 (aP C0 (.leaf (.int .i64 e,iO w))) (ak P aB 0 51 (aP C1 (.leaf (.tuple ⟨[ax 1 x.length 0 (bc x), .int .i64 0]⟩,[]))) (ak P aB 0 74 (aP C2 (.leaf (yM (0,0),[])))
 (ak P aB 0 88 (aP C3 (.leaf (.tuple ⟨[ax 1 f.length 0 (bc f), .int .i64 0]⟩,[]))) (ak P aB 1 89 (aP C4 (.leaf (.int .i64 r,a_ d2))) (ak P aB 0 81 (aP C5 (.leaf (cmV c,[]))) (jy P 119 (MF K L) ctF))))))
theorem adJ(K:Nat->Nat->Nat->List Value->Bool)(L:List Value->Int)(C0 C1 C2 C3 C4 C5:List Value->List Blk->Bool)(e:Int)(x f:List UInt8)(r:Int)(d d2:DkM)(cs:List CmM)(es:List Int)(c:CmM):aN P E (aiy K L C0 C1 C2 C3 C4 C5 e x f r d2 ⟨okD d,false,cs,es⟩ c) 50 aB [] [] 2 79 [p0,cmV c] (iO ⟨okD d,false,cs,es⟩) =
 (let z:=fa_ c.ops.length 0 (Enc.all EOp c.ops);let y:=[io_ c.e,io_ c.n,z];let w:=Value.agg ⟨y⟩;let v:=WalM.mk (okD d) false cs es;let u:=v.cs.length;let t:=Enc.all ECm v.cs;let s:=v.es.length;let q:=Enc.all EIn v.es;let p:=v.dk;let o:=pt_ 1;let n:=Value.bool v.br;let m:=Blk.cells [o,n,sl_ 7 u,sl_ 8 s] 170 true;
 let l:=ro_ [0,2,21,5,19,2];let k:=aT [0,1] 26;let j:=bk_ k w0_;let i:=io_ 0;let h:=neI r 0;let g:=aG true k t;let b:=aG true k q;let a:=bk_ (aT [1] 38) w0_;let Z:=Value.bool true;let Y:=dk_ d2 2 3 4 5 6;let X:=ro_ [0,2,45,5,43,2];let W:=Y::dl_ (cz_ X a) d2 [lb_ X u 3 g 47,lb_ X s 1 b 3];
 let V:=C5 [w] [];let U:=Nat.add u 1;let T:=Nat.ble U 4194304;let S:=Nat.beq (Nat.add 0 (Nat.mul u 3)) g.length;let R:=bz (sl_ 31 u) (sl_ 31 u);let Q:=Nat.mul s 1;let O:=Nat.add 0 Q;let N:=Bool.and (Nat.ble O b.length) (Nat.ble 1 1);let M:=takeC Q (aO 0 b);let J:=K 18446744073709551617 s 0 M;
 let I:=Nat.add s 1;let H:=Nat.ble I 4194304;let G:=Nat.beq O b.length;let F:=bz (sl_ 32 s) (sl_ 32 s);let D:=ah f.length;let C:=bz (io_ D) (io_ D);let B:=List.append (jC 0 g) y;let A:=List.append (jC 0 b) [io_ (bM .i64 (L M) D)];let z0:=ro_ [0,2,77,5,75,2];let y0:=Y::dl_ (cz_ z0 a) d2 [lb_ z0 U 3 B 47,lb_ z0 I 1 A 3];
 (ae (C1 [w] []) (nb_ u 3 t (nb_ s 1 q (dn_ w0_ p (ae (C0 [pt_ 0] (m::dk_ p 2 3 4 5 6::dl_ (cz_ l w0_) p [lb_ l u 3 t 47,lb_ l s 1 q 3])) (ae (C2 [io_ e,io_ (ah u), .iface 18446744073709551619 (.agg ⟨[.slice none 1 0,io_ c.e,io_ c.n,z]⟩)] []) (ae (bz w w) (ae (bz w w) (ae (C3 [fb_ 0 0 [],fb_ x.length 0 (bc x)] []) (dn_ j p (ae (C4 [pt_ 0,i,fb_ f.length 0 (bc f)] (dk_ p 1 2 3 4 5::dl_ (cz_ (ro_ [1,1,33,5]) j) p [])) (aj h (aj h (nb_ u 3 g (nb_ s 1 b (dn_ a d2 (some (io_ r,ag (.cells [o,Z,sl_ 7 u,sl_ 8 s] 170 true::W)))))) (ae V (ae T (ae S (ae R (ae N (ae (gY M) (ae J (ae H (ae G (ae F (ae C (nb_ U 3 B (nb_ I 1 A (dn_ a d2 (some (i,ag (.cells [o,Z,sl_ 7 U,sl_ 8 I] 170 true::y0)))))))))))))))))) (aj h (nb_ u 3 g (nb_ s 1 b (dn_ a d2 (some (io_ r,ag (m::W)))))) (ae V (ae T (ae S (ae R (ae N (ae (gY M) (ae J (ae H (ae G (ae F (ae C (nb_ U 3 B (nb_ I 1 A (dn_ a d2 (some (i,ag (.cells [o,n,sl_ 7 U,sl_ 8 I] 170 true::y0))))))))))))))))))))))))))))))):=by kernel_rfl
theorem adP{w:WalM}(hl:w.cs.length<4194304):CRX P 2 116 [p0] (iO w) (.int .i64 (aY w.cs)) (iO w):=by
 refine co_ aA ((ael w).trans ?_);have nt:=fun(l:List CmM) (i:Nat) (h:i<l.length)=>jZ h;by_cases h0:w.cs=[]
 ·have e0:w.cs.length=0:=by rw[h0]; rfl
  have g0:eqI (ah w.cs.length) 0=true:=eT_ (by unfold ah; omega);have g6:aY w.cs=0:=by rw[h0]; rfl
  simp only[cz_,dk_,dl_,dn_,io_,lb_,nb_,pt_,sl_,w0_,g0,mZ,vI,um,Ac,aZ rfl,dE rfl,dH rfl,Enc.all_ren,nf_];rw[g6]; rfl
 ·have hp:=kY.2 h0;have g0:eqI (ah w.cs.length) 0=false:=eF_ (by unfold ah; omega);have g1:dJ .i64 (ah w.cs.length) 1=((w.cs.length-1:Nat):Int):=by unfold dJ ah; rw[wrap64 (by omega) (by omega)]; omega
  have g2:inI ((w.cs.length-1:Nat):Int) w.cs.length=true:=jl (by omega) (by omega);have g4:=jZ (l:=w.cs) (i:=w.cs.length-1) (by omega);have g5:Nat.ble (Nat.add (atN ((w.cs.length-1:Nat):Int) 3) 1) (Nat.mul w.cs.length 3)=true:=dG (by
   show((w.cs.length-1:Nat):Int).toNat*3+1<=w.cs.length*3
   omega)
  have g6:aY w.cs=(w.cs[w.cs.length-1]'(by omega)).e:=by unfold aY; rw[last_at w.cs h0]; rfl
  have g7:∀ x:Int,gm (.int .i64) (.int .i64 x)=true:=fun _=>rfl;have aI:∀ k b,asI (.int k b)=b:=fun _ _=>rfl;simp only[cz_,dk_,dl_,dn_,io_,lb_,nb_,pt_,sl_,w0_,g0,g1,g2,g4,g5,g7,aI,mZ,vI,um,Ac,aZ rfl,dE rfl,dH rfl,Enc.all_ren,nf_];rw[g6]; rfl
def O3(w:WalM)(c:CmM):Int×WalM:=match eqI (writeM ⟨w.dk,0,frM (bF c)⟩).1 0 with
 |true=>(0,⟨(writeM ⟨w.dk,0,frM (bF c)⟩).2,w.br,w.cs++[c],w.es++[oz w.es+((frM (bF c)).length:Int)]⟩)
 |false=>((writeM ⟨w.dk,0,frM (bF c)⟩).1,⟨(writeM ⟨w.dk,0,frM (bF c)⟩).2,true,w.cs,w.es⟩)
theorem kX{c:CmM}(h:cmE c=0):(bF c).length<=1024:=by
 obtain⟨_,_,hb⟩:=fU.1 h;obtain⟨b1,b2,b3⟩:=dM.1 hb;have d1:=aK (n:=c.e.toNat);have d2:=aK (n:=c.n.toNat);have d3:=aK (n:=c.ops.length);have d4:=zi c.ops [] b3;unfold bF nC;simp only[bP];omega
theorem fJ(n b:Nat)(c:List Value):ax 1 n b c = .iface 18446744073709551617 (.agg ⟨.slice none n b::c⟩):=by unfold ax; rw[fzU]
theorem dY(n b:Nat)(c:List Value):ax 3 n b c = .iface 18446744073709551619 (.agg ⟨.slice none n b::c⟩):=by unfold ax; rw[wQ]
theorem bC(a:List Value)(b:List Blk):ay a b a b=true:=KN rfl rfl
theorem zq(a b:Int)(t n k:Nat)(l:List OpM):bz (.agg ⟨[.int .i64 a, .int .i64 b, .iface t (.agg ⟨.slice none n k::EOp.all l⟩)]⟩) (.agg ⟨[.int .i64 a, .int .i64 b, .iface t (.agg ⟨.slice none n k::EOp.all l⟩)]⟩)=true:=by simp[bz,zg,jk,Jz]
theorem Fe(c:CmM):ECm.all [c]=[.int .i64 c.e, .int .i64 c.n,ax 3 c.ops.length 0 (EOp.all c.ops)]:=by rw[ECm.all_one]; rfl
theorem aen(n:Int):EIn.all [n]=[.int .i64 n]:=by rw[EIn.all_one]; rfl
theorem H9{d:DkM}(h:d.off=false):okD d=d:=by cases d; simp only at h; subst h; rfl
theorem v_{l:List CmM}{n:Nat}(h:n=l.length):oI P 0 n 18446744073709551616 (ECm.all l) 47=true:=by
 subst h;have he:esz P 47=3:=by kernel_rfl
 unfold oI;rw[he,ECm.all_nr,ECm.all_length];have h2:Nat.ble (Nat.add 0 (Nat.mul l.length 3)) (l.length*ECm.sz)=true:=dG (by show 0+l.length*3<=l.length*3; omega);rw[h2]; rfl
theorem Ot(l:List Int):gY (EIn.all l)=true:=by
 induction l with
 |nil=>rfl
 |cons n l ih=>rw[EIn.all_cons]; exact ih
theorem S_{l:List Int}(h:l.length<=4194304):wz 18446744073709551617 l.length 0 (EIn.all l)=true:=by
 unfold wz;rw[<-fz1];exact EIn.fz_all h rfl rfl
theorem Td(l:List Int):Dc (EIn.all l)=oz l:=by unfold Dc; rw[EIn.dec_all]
theorem vN(l:List CmM)(c:CmM):List.append (ECm.all l) [.int .i64 c.e, .int .i64 c.n, .iface 18446744073709551619 (.agg ⟨.slice none c.ops.length 0::EOp.all c.ops⟩)]=ECm.all (l++[c]):=by
 rw[ECm.all_append,Fe,dY]; rfl
theorem ah1(l:List Int)(n:Int):List.append (EIn.all l) [.int .i64 n]=EIn.all (l++[n]):=by rw[EIn.all_append,aen]; rfl
theorem ad8{w:WalM}{c:CmM}(hoff:w.dk.off=false)(hbr:w.br=false)(hc:cmE c=0)(hf:fA (aY w.cs) (w.cs.length:Int) 0 [c]=(0,0))(hd:qA w.dk 20)(hn:w.cs.length<4194300)(hm:w.es.length<4194300)(he:0<=oz w.es/\oz w.es<4611686018427387904) :
  CRX P 2 79 [p0,cmV c] (iO w) (.int .i64 (O3 w c).1) (iO (O3 w c).2):=by
 obtain⟨dk,br,cs,es⟩:=w;simp only at hoff hbr hf hd hn hm he;subst hbr;obtain⟨_,_,hb⟩:=fU.1 hc;obtain⟨b1,b2,b3⟩:=dM.1 hb;have hl:=kX hc;have hfl:(frM (bF c)).length<=1035:=by unfold frM; rw[bP]; have:=aK (n:=(bF c).length); omega
 have q0:=adP (w:=⟨dk,false,cs,es⟩) (by show cs.length<_; omega);have q1:=JA hc;have q2:=pq (e:=aY cs) (n:=(cs.length:Int)) (l:=[c]) (by show 1<4194304; decide) (by intro x hx; obtain rfl:=EU.1 hx; omega);have q3:=JF (r:=bF c) (by omega);have q4:=PE.at (s:=⟨dk,0,frM (bF c)⟩) ⟨by show(frM (bF c)).length<=_; omega,by
  show qA dk (o_ (frM (bF c)).length);have:o_ (frM (bF c)).length<=20:=by unfold o_; omega
  exact⟨hd.1,by have:=hd.2.1; omega,hd.2.2.1,hd.2.2.2.1,by have:=hd.2.2.2.2; omega⟩⟩ rfl
 have q5:=tY (c:=c) b1 (by omega);rw[hf]at q2;have q:=adJ wz Dc (ay [p0] (iO ⟨dk,false,cs,es⟩)) (ay [cmV c] []) (ay [.int .i64 (aY cs), .int .i64 (cs.length:Int),aQ [c]] []) (ay [ax 1 0 0 [],ax 1 (bF c).length 0 (bc (bF c))] []) (ay [p0, .int .i64 0,ax 1 (frM (bF c)).length 0 (bc (frM (bF c)))] (a_ dk)) (ay [cmV c] [])
  (aY cs) (bF c) (frM (bF c)) (writeM ⟨dk,0,frM (bF c)⟩).1 dk (writeM ⟨dk,0,frM (bF c)⟩).2 cs es c
 rw[H9 hoff]at q;refine co_ (af (af (af (af (af (af (iw aA YE) (az q5)) (az q4)) (az q3)) (az q2)) (az q1)) (az q0)) (q.trans ?_);clear q q0 q1 q2 q3 q4 q5;unfold O3;simp only;generalize writeM ⟨dk,0,frM (bF c)⟩=W;obtain⟨r,d2⟩:=W;have hcn:(ah cs.length:Int)=(cs.length:Int):=rfl;have ha:bM .i64 (oz es) (ah (frM (bF c)).length)=oz es+((frM (bF c)).length:Int):=by unfold bM ah; rw[wrap64 (by omega) (by omega)]
 have h1:(cs++[c]).length=Nat.add cs.length 1:=by simp
 have h2:∀ x:Int,(es++[x]).length=Nat.add es.length 1:=fun x=>by simp
 have hk:=S_ (l:=es) (by omega);simp (disch:=first|omega|(simp only[bU,bY,bZ,bT,bW,aH]<;>omega)|fail) only[bk_,cz_,dk_,dl_,dn_,fa_,fb_,io_,lb_,nb_,pt_,sl_,w0_,hcn,Fe,hoff,vN,ah1,Ot,hk,Td,ha,iO,lX,lsV,ptV,p0,a_,dkC,bD,aQ,cmV,fJ,dY,bC,zq,qi,Bq,xw,yT,yV,mZ,vI,um,Ac,uT,aZ,dE,dH,Enc.all_ren,nf_,BD,aZ h1.symm,dE (h2 _).symm,h1,h2];cases hr:eqI r 0 with
 |true=>
  have hn:neI r 0=false:=by unfold neI; unfold eqI at hr; simpa using hr
  simp only[bk_,cz_,dk_,dl_,dn_,fa_,fb_,io_,lb_,nb_,pt_,sl_,w0_,hn,bg,iO,lX,lsV,ptV,p0,a_,dkC,bD,aQ,cmV,fJ,dY,bC,zq,qi,Bq,xw,yT,yV,mZ,vI,um,Ac,uT,aZ,dE,dH,Enc.all_ren,h1,h2]
 |false=>
  have hn:neI r 0=true:=by unfold neI; unfold eqI at hr; simpa using hr
  simp only[bk_,cz_,dk_,dl_,dn_,fa_,fb_,io_,lb_,nb_,pt_,sl_,w0_,hn,bu,iO,lX,lsV,ptV,p0,a_,dkC,bD,aQ,cmV,fJ,dY,bC,zq,qi,Bq,xw,yT,yV,mZ,vI,um,Ac,uT,aZ,dE,dH,Enc.all_ren]
def Ze(e:MapEntry):Bool:=match e.key with | .string _=>true | _=>false
def Ut(es:List MapEntry):Bool:=es.all Ze
theorem O9{k:ByteArray}:∀ {es:List MapEntry} (i:Nat),Ut es=true->∃ r,Instr.findNow .string (.string k) es i=some r
 |[],i,_=>⟨none,rfl⟩
 |e::es,i,h=>by
  simp only[Ut,sK,bV]at h;obtain⟨h1,h2⟩:=h;unfold Ze at h1;split at h1
  ·rename_i s hs;obtain⟨r,hr⟩:=O9 (k:=k) (es:=es) (i+1) h2;have hq:∃ b,Instr.sameNow .string (.string k) e.key=some b:=by rw[hs]; exact⟨_,rfl⟩
   obtain⟨b,hb⟩:=hq;cases b with
   |true=>exact⟨some (i,e.val),by simp only[Instr.findNow,hb]⟩
   |false=>exact⟨r,by simp only[Instr.findNow,hb]; exact hr⟩
  ·cases h1
theorem Yt{es:List MapEntry}(h:Ut es=true)(k:ByteArray):Iz es k=true:=by
 obtain⟨r,hr⟩:=O9 (k:=k) 0 h;unfold Iz;rw[hr]; rfl
structure TbM where
 es:List MapEntry
 ck:Nat
def tbV(o:OpM):Value:= .agg ⟨[.string o.v, .bool o.p]⟩
def tb1(t:TbM)(o:OpM):TbM:=⟨(GU t.es t.ck o.k (tbV o)).1,(GU t.es t.ck o.k (tbV o)).2⟩
def tbM(t:TbM)(l:List OpM):TbM:=l.foldl tb1 t
def tbB(t:TbM):List Blk:=[.cells [.map (some 1)] 98 true, .map t.es t.ck]
def Dt1:HeadX:=⟨2,39,[0,1,4,11,12,13],[.val, .val, .val, .val, .val, .val],[],aB⟩
def Bt1:Code:=(di P 20 0).getD .skip
theorem WI:di P 20 0=some Bt1:=by kernel_rfl
theorem adn:Occ P 20 (.block 0 (.loop Bt1)):=dN WI
def Dt2:HeadX:=⟨2,39,[0,4,21,22,23],[.val, .val, .val, .val, .val],[],aB⟩
def Bt2:Code:=(di P 20 2).getD .skip
theorem W9:di P 20 2=some Bt2:=by kernel_rfl
theorem aeG:Occ P 20 (.block 2 (.loop Bt2)):=dN W9
theorem XL(O:Bool->ByteArray->ByteArray->Bool)(t:TbM)(r z i:Int)(n b n' b':Nat)(c c':List Value):aU P E (aaX O) 50 20 Bt1 Dt1 [p0,ax 3 n' b' c', .int .i64 r,ax 3 n b c, .int .i64 z, .int .i64 i] (tbB t) =
 (let y:=atN i 3;let x:=Nat.add y 1;let w:=pt_ 0;let v:=fa_ n' b' c';let u:=fa_ n b c;let s:=io_ z;let q:=ag [tb_ 1, .map (aF true (bQ 0 [0,1]) t.es) t.ck];
 (aj (ltI i z) (ae (Bool.and (Nat.beq 3 3) (inI i n)) (ae (Bool.and (Nat.ble (Nat.add y 3) c.length) (jg [.bool, .string, .string] c y)) (aj (O (asB (aV c y)) (asS (aV c x)) (asS (aV c (Nat.add x 1)))) (some (.tuple ⟨[io_ 0,w,v,io_ r,u,s,io_ (bM .i64 i 1)]⟩,q)) (some (.tuple ⟨[io_ (-1),w,v,io_ 2,u,s,io_ i]⟩,q))))) (some (.tuple ⟨[io_ 1,w,v,io_ r,u,s,io_ i]⟩,q)))):=by kernel_rfl
theorem XX(t:TbM)(r z i:Int)(n b:Nat)(c:List Value):aU P E ctF 50 20 Bt2 Dt2 [p0, .int .i64 r,ax 3 n b c, .int .i64 z, .int .i64 i] (tbB t) =
 (let y:=atN i 3;let x:=Nat.add y 1;let w:=asS (aV c x);let v:=fa_ n b c;let u:=bQ 0 [0,1];let s:=GU t.es t.ck w (.agg ⟨[.string (asS (aV c (Nat.add x 1))), .bool (asB (aV c y))]⟩);
 (aj (ltI i z) (ae (Bool.and (Nat.beq 3 3) (inI i n)) (ae (Bool.and (Nat.ble (Nat.add y 3) c.length) (jg [.bool, .string, .string] c y)) (ae (Iz t.es w) (some (.tuple ⟨[io_ 0,pt_ 0,io_ r,v,io_ z,io_ (bM .i64 i 1)]⟩,ag [tb_ 1, .map (aF true u (Prod.fst s)) (Prod.snd s)]))))) (some (.tuple ⟨[io_ 3,pt_ 0,io_ r,v,io_ z,io_ i]⟩,ag [tb_ 1, .map (aF true u t.es) t.ck])))):=by kernel_rfl
def aij(C1 C2:List Value->List Blk->Bool)(t:TbM)(l:List OpM):Ct:=dX P 20 0 Dt1 (gX C1 (.leaf (.normal,[p0,bD l, .int .i64 0,bD l, .int .i64 (ah l.length), .int .i64 (l.length:Int)],tbB t)))
 (dX P 20 2 Dt2 (gX C2 (.leaf (.normal,[p0, .int .i64 0,bD l, .int .i64 (ah l.length), .int .i64 (l.length:Int)],tbB (tbM t l)))) ctF)
theorem afx(C1 C2:List Value->List Blk->Bool)(t:TbM)(l:List OpM):aN P E (aij C1 C2 t l) 50 aB [] [] 2 20 [p0,bD l] (tbB t) =
 (let z:=fa_ l.length 0 (Enc.all EOp l);let y:=io_ 0;let x:=io_ (ah l.length);let w:=tb_ 1;let v:=bQ 0 [0,1];let u:=aT [0,1] 2;
 (ae (C1 [pt_ 0,z,y,z,x,y] [w, .map (aF true v t.es) t.ck]) (ae (C2 [pt_ 0,y,z,x,y] [w, .map (aF true v (aF true u t.es)) t.ck]) (some (y,ag [w, .map (aF true v (aF true u (TbM.es (tbM t l)))) (TbM.ck (tbM t l))]))))):=by kernel_rfl
def tbE(e:MapEntry):Prop:=∃ k v b,e.key = .string k/\e.val = .agg ⟨[.string v, .bool b]⟩
def fZ(t:TbM):Prop:=∀ e∈t.es,tbE e
theorem fZ.str{t:TbM}(h:fZ t):Ut t.es=true:=jA.2 fun e he=>by
 obtain⟨k,v,b,h1,_⟩:=h e he;unfold Ze; rw[h1]
theorem fZ.ren{t:TbM}(h:fZ t)(ρ:Nat->Option Nat):aF true ρ t.es=t.es:=by
 obtain⟨es,ck⟩:=t;unfold fZ at h;simp only at h ⊢
 induction es with
 |nil=>rfl
 |cons e es ih=>
  obtain⟨k,v,b,h1,h2⟩:=h e (qQ ..);obtain⟨ek,ev,eb⟩:=e;simp only at h1 h2;subst h1 h2;have:=ih fun e he=>h e (ni _ he);simp[aF,eP,Bz,aG,this]
theorem fZ.put{t:TbM}(h:fZ t)(o:OpM):fZ (tb1 t o):=by
 unfold tb1 fZ GU;simp only;split
 ·unfold rJ;simp only[if_true];intro e he;obtain⟨j,hj,rfl⟩:=List.mem_iff_getElem.1 he;rw[List.getElem_modify];split
  ·exact⟨_,_,_,rfl,rfl⟩
  ·exact h _ (kQ _)
 ·unfold rJ;simp only[iD,if_false];intro e he;rcases sH.1 he with he | he
  ·exact h e he
  ·obtain rfl:=EU.1 he;exact⟨_,_,_,rfl,rfl⟩
theorem fZ.all{t:TbM}(h:fZ t)(l:List OpM):fZ (tbM t l):=by
 induction l generalizing t with
 |nil=>exact h
 |cons o l ih=>exact ih (h.put o)
theorem aaP{t:TbM}(ht:fZ t){l:List OpM}{i:Nat}(hi:i<l.length)(hl:l.length<=8)(ho:okO l[i]=true)(l':List OpM):aU P E ctB 50 20 Bt1 Dt1 [p0,bD l', .int .i64 0,bD l, .int .i64 (ah l.length), .int .i64 (i:Int)] (tbB t)=some (.tuple ⟨exV .normal::[p0,bD l', .int .i64 0,bD l, .int .i64 (ah l.length), .int .i64 ((i+1:Nat):Int)]⟩,ag (tbB t)):=by
 unfold ctB bD;rw[XL];have n3:∀ l:List OpM,(EOp.all l).length=Nat.mul l.length 3:=fun l=>EOp.all_length l;have g1:ltI (i:Int) (ah l.length)=true:=lT_ (by unfold ah; omega);have g2:inI (i:Int) l.length=true:=by unfold inI; exact eU (by omega)
 have g3:Nat.ble (Nat.add (atN (i:Int) 3) 3) (Nat.mul l.length 3)=true:=dG (by
  show(i:Int).toNat*3+3<=l.length*3;have:(i:Int).toNat=i:=by omega
  omega)
 have g4:=Be hi;have a1:bM .i64 (i:Int) 1=((i+1:Nat):Int):=by unfold bM; rw[wrap64 (by omega) (by omega)]; omega
 have ab:∀ b,asB (.bool b)=b:=fun _=>rfl;have aS:∀ b,asS (.string b)=b:=fun _=>rfl;have ho':yC l[i].p l[i].k l[i].v=true:=ho;simp only[fa_,io_,pt_,tb_,n3,g1,g2,g3,g4,JV hi,Ja hi,Ko hi,ab,aS,a1,ho',ht.ren,uT,dY,nf_]
 rfl
theorem agS{t:TbM}(ht:fZ t){l l':List OpM}:aU P E ctB 50 20 Bt1 Dt1 [p0,bD l', .int .i64 0,bD l, .int .i64 (ah l.length), .int .i64 (l.length:Int)] (tbB t)=some (.tuple ⟨exV (.exit 0)::[p0,bD l', .int .i64 0,bD l, .int .i64 (ah l.length), .int .i64 (l.length:Int)]⟩,ag (tbB t)):=by
 unfold ctB bD;rw[XL];have g1:ltI (l.length:Int) (ah l.length)=false:=lF_ (by unfold ah; omega);simp only[fa_,io_,pt_,tb_,g1,ht.ren,dY,nf_]
 rfl
theorem aai{t:TbM}(ht:fZ t){l:List OpM}{i:Nat}(hi:i<l.length)(hl:l.length<=8):aU P E ctF 50 20 Bt2 Dt2 [p0, .int .i64 0,bD l, .int .i64 (ah l.length), .int .i64 (i:Int)] (tbB t)=some (.tuple ⟨exV .normal::[p0, .int .i64 0,bD l, .int .i64 (ah l.length), .int .i64 ((i+1:Nat):Int)]⟩,ag (tbB (tb1 t l[i]))):=by
 unfold bD;rw[XX];have n3:∀ l:List OpM,(EOp.all l).length=Nat.mul l.length 3:=fun l=>EOp.all_length l;have g1:ltI (i:Int) (ah l.length)=true:=lT_ (by unfold ah; omega);have g2:inI (i:Int) l.length=true:=by unfold inI; exact eU (by omega)
 have g3:Nat.ble (Nat.add (atN (i:Int) 3) 3) (Nat.mul l.length 3)=true:=dG (by
  show(i:Int).toNat*3+3<=l.length*3;have:(i:Int).toNat=i:=by omega
  omega)
 have g4:=Be hi;have a1:bM .i64 (i:Int) 1=((i+1:Nat):Int):=by unfold bM; rw[wrap64 (by omega) (by omega)]; omega
 have ab:∀ b,asB (.bool b)=b:=fun _=>rfl;have aS:∀ b,asS (.string b)=b:=fun _=>rfl;have hr:=(ht.put l[i]).ren;unfold tb1 tbV at hr;simp only at hr;simp only[fa_,io_,pt_,tb_,n3,g1,g2,g3,g4,JV hi,Ja hi,Ko hi,ab,aS,a1,Yt ht.str,hr,uT,dY,nf_]
 rfl
theorem agX{t:TbM}(ht:fZ t){l:List OpM}:aU P E ctF 50 20 Bt2 Dt2 [p0, .int .i64 0,bD l, .int .i64 (ah l.length), .int .i64 (l.length:Int)] (tbB t)=some (.tuple ⟨exV (.exit 2)::[p0, .int .i64 0,bD l, .int .i64 (ah l.length), .int .i64 (l.length:Int)]⟩,ag (tbB t)):=by
 unfold bD;rw[XX];have g1:ltI (l.length:Int) (ah l.length)=false:=lF_ (by unfold ah; omega);simp only[fa_,io_,pt_,tb_,g1,ht.ren,dY,nf_]
 rfl
theorem ZR(t:TbM)(l:List OpM)(o:OpM):tbM t (l++[o])=tb1 (tbM t l) o:=by unfold tbM; rw[List.foldl_append]; rfl
theorem X8{t:TbM}(ht:fZ t){l:List OpM}(h:iJ l=0):CRX P 2 20 [p0,bD l] (tbB t) (.int .i64 0) (tbB (tbM t l)):=by
 obtain⟨b1,b2,b3⟩:=dM.1 h;have q1:=LRX.rounds (n:=50) (dU _) bK Ht adn (vs:=fun i=>[p0,bD l, .int .i64 0,bD l, .int .i64 (ah l.length), .int .i64 (i:Int)]) (bs:=fun _=>tbB t) (e:= .exit 0) l.length (fun i hi=>aaP ht hi b2 (jA.1 b3 _ (kQ hi)) l) (agS ht) (by intro h; cases h);have q2:=LRX.rounds (n:=50) (dU _) bK aA aeG (vs:=fun i=>[p0, .int .i64 0,bD l, .int .i64 (ah l.length), .int .i64 (i:Int)]) (bs:=fun i=>tbB (tbM t (l.take i))) (e:= .exit 2) l.length (fun i hi=>by
  have e:l.take (i+1)=l.take i++[l[i]]:=by rw[List.take_succ_eq_append_getElem hi]
  rw[e,ZR]
  exact aai (ht.all _) hi b2) (agX (ht.all _)) (by intro h; cases h)
 simp only[fa_,io_,pt_,tb_,rC]at q2;refine co_ (dB (dB aA (d_ (bJ W9) q2)) (d_ (bJ WI) q1)) ((afx (ay _ _) (ay _ _) t l).trans ?_);have hr:=(ht.all l).ren;simp only[fa_,io_,pt_,tb_,ht.ren,hr,bD,dY,p0,tbB,List.take_zero,bC,nf_];exact nH rfl rfl (nH rfl rfl rfl)
def fP(l:List RunM):Int:=(l.getLast?.map RunM.b).getD 0
structure RnM where
 dk:DkM
 br:Bool
 rs:List RunM
def rnB(r:RnM):List Blk:=[.cells [ptV 1, .bool r.br,lsV 7 r.rs.length] 168 true, .cells (lX 2 3 4 5 6 r.dk) 86 true]++dkL r.dk++[.cells (gI.all r.rs) 161 false]
theorem bf{l:List RunM}{n:Nat}(h:n=l.length):takeC (Nat.mul n 3) (aO 0 (gI.all l))=gI.all l:=by subst h; exact gI.all_self l
theorem abo(l:List RunM):(gI.all l).length=Nat.mul l.length 3:=gI.all_length l
theorem acz(r:RnM):aN P E ctF 50 aB [] [] 2 77 [p0] (rnB r) =
 (let z:=r.rs.length;let y:=Enc.all gI r.rs;let x:=Blk.cells [pt_ 1, .bool r.br,sl_ 7 z] 168 true;let w:=dk_ r.dk 2 3 4 5 6;let v:=ro_ [0,2,9,5,8,1];let u:=dJ .i64 (ah z) 1;let t:=Nat.add (Nat.add 0 (atN u 3)) 1;let s:=ro_ [0,2,23,5,22,1];
 (aj (eqI (ah z) 0) (nb_ z 3 y (dn_ w0_ r.dk (some (io_ 0,ag (x::w::dl_ (cz_ v w0_) r.dk [lb_ v z 3 y 161]))))) (ae (inI u z) (ae (Bool.and (Nat.ble (Nat.add t 1) y.length) (gm (.int .i64) (aV y t))) (nb_ z 3 y (dn_ w0_ r.dk (some (io_ (asI (aV y t)),ag (x::w::dl_ (cz_ s w0_) r.dk [lb_ s z 3 y 161]))))))))):=by kernel_rfl
structure SrM where
 tb:TbM
 rn:RnM
 rest:List CmM
def srB(s:SrM):List Blk:=[.cells [ptV 1,ptV 3,lsV 11 s.rest.length] 174 true, .cells [.map (some 2)] 98 true, .map s.tb.es s.tb.ck, .cells [ptV 4, .bool s.rn.br,lsV 10 s.rn.rs.length] 168 true, .cells (lX 5 6 7 8 9 s.rn.dk) 86 true]++dkL s.rn.dk++[.cells (gI.all s.rn.rs) 161 false, .cells (ECm.all s.rest) 47 false]
def aiI(C1 C2 C3 C4:List Value->List Blk->Bool)(e:Int)(rn:RnM)(tb:TbM)(c:CmM):Ct:=ak P aB 0 95 (aP C1 (.leaf (.int .i64 0,[]))) (ak P aB 2 77 (aP C2 (.leaf (.int .i64 e,rnB rn))) (ak P aB 0 81 (aP C3 (.leaf (cmV c,[]))) (ak P aB 2 20 (aP C4 (.leaf (.int .i64 0,tbB tb))) ctF)))
theorem agu(C1 C2 C3 C4:List Value->List Blk->Bool)(e:Int)(tb:TbM)(s:SrM)(c:CmM):aN P E (aiI C1 C2 C3 C4 e s.rn tb c) 50 aB [] [] 5 82 [p0,cmV c] (srB s) =
 (let z:=io_ c.n;let y:=fa_ c.ops.length 0 (Enc.all EOp c.ops);let x:=[io_ c.e,z,y];let w:=s.rn.rs.length;let v:=Enc.all gI s.rn.rs;let u:=s.rn.dk;let t:=Value.bool s.rn.br;let r:=ro_ [3,2,50,5,49,1];let q:=s.rest.length;let p:=bz (sl_ 11 q) (sl_ 11 q);let o:=ah q;let n:=bz z z;
 let m:=Enc.all ECm s.rest;let l:=aT [3,4] 55;let k:=aG true l v;let j:=bk_ l w0_;let i:=ro_ [0,5,63,5,62,1,61,1];let h:=Blk.cells [pt_ 4,t,sl_ 10 w] 168 true;let g:=dk_ u 5 6 7 8 9;let f:=nb_ q 3 m (nb_ w 3 k (dn_ j u (some (io_ 15,ag (so_ 1 3 11 q::tb_ 2:: .map (aF true i s.tb.es) s.tb.ck::h::g::dl_ (cz_ i j) u [lb_ i w 3 k 161,lb_ i q 3 m 47])))));
 let d:=dJ .i64 o 1;let b:=Nat.add 0 (atN d 3);let a:=Nat.add q 1;let Z:=List.append (jC 0 m) x;let Y:=ro_ [0,5,84,5,83,1,82,1];let X:=ae (C3 [.agg ⟨x⟩] []) (ae (Nat.ble a 4194304) (ae (Nat.beq (Nat.add 0 (Nat.mul q 3)) m.length) (ae p (ae (C4 [pt_ 0,y] [tb_ 1, .map (aF true (bQ 0 [1,2]) s.tb.es) s.tb.ck]) (nb_ a 3 Z (nb_ w 3 k (dn_ j u (some (io_ 0,ag (so_ 1 3 11 a::tb_ 2:: .map (aF true Y (aF true (aT [1,2] 82) tb.es)) tb.ck::h::g::dl_ (cz_ Y j) u [lb_ Y w 3 k 161,lb_ Y a 3 Z 47]))))))))));
 (ae (C1 [.agg ⟨x⟩] []) (nb_ w 3 v (dn_ w0_ u (ae (C2 [pt_ 0] (.cells [pt_ 1,t,sl_ 7 w] 168 true::dk_ u 2 3 4 5 6::dl_ (cz_ r w0_) u [lb_ r w 3 v 161])) (ae p (ae (bz (io_ o) (io_ o)) (aj (neI (dJ .i64 c.n 1) (bM .i64 e o)) (ae n f) (aj (gtI o 0) (ae (inI d q) (ae (Bool.and (Nat.ble (Nat.add b 1) m.length) (gm (.int .i64) (aV m b))) (ae n (aj (ltI c.e (asI (aV m b))) f X)))) (ae n X)))))))))):=by kernel_rfl
theorem uf_:type_of% (And.intro @iO.eq_1 (And.intro @rnB.eq_1 (And.intro @srB.eq_1 (And.intro @tbB.eq_1 (And.intro @dkL.eq_1 (And.intro @agG (And.intro @afv (And.intro @agK (And.intro @abo (And.intro @bf (And.intro @lX.eq_1 (And.intro @lsV.eq_1 (And.intro @ptV.eq_1 (And.intro @p0.eq_1 (And.intro @a_.eq_1 (And.intro @dkC.eq_1 (And.intro @bD.eq_1 (And.intro @aQ.eq_1 (And.intro @cmV.eq_1 (And.intro @fJ (And.intro @dY (And.intro @bC (And.intro @zq (And.intro @qi (And.intro @Bq (And.intro @xw (And.intro @yT (And.intro @yV (And.intro @mZ (And.intro @vI (And.intro @um (And.intro @Ac (And.intro @uT (And.intro @aZ (And.intro @dE (And.intro @dH @Enc.all_ren)))))))))))))))))))))))))))))))))))):=And.intro @iO.eq_1 (And.intro @rnB.eq_1 (And.intro @srB.eq_1 (And.intro @tbB.eq_1 (And.intro @dkL.eq_1 (And.intro @agG (And.intro @afv (And.intro @agK (And.intro @abo (And.intro @bf (And.intro @lX.eq_1 (And.intro @lsV.eq_1 (And.intro @ptV.eq_1 (And.intro @p0.eq_1 (And.intro @a_.eq_1 (And.intro @dkC.eq_1 (And.intro @bD.eq_1 (And.intro @aQ.eq_1 (And.intro @cmV.eq_1 (And.intro @fJ (And.intro @dY (And.intro @bC (And.intro @zq (And.intro @qi (And.intro @Bq (And.intro @xw (And.intro @yT (And.intro @yV (And.intro @mZ (And.intro @vI (And.intro @um (And.intro @Ac (And.intro @uT (And.intro @aZ (And.intro @dE (And.intro @dH @Enc.all_ren)))))))))))))))))))))))))))))))))))
theorem aiq{l:List RunM}{i:Nat}(h:i<l.length):aV (gI.all l) (Nat.add (atN (i:Int) 3) 1) = .int .i64 l[i].b:=by
 have e:Nat.add (atN (i:Int) 3) 1=i*gI.sz+1:=by simp[atN]; rfl
 rw[e,gI.nth h (by decide)]; rfl
theorem mJ{α:Type}{l:List α}(h0:l≠[])(hl:l.length<4194304):eqI (ah l.length) 0=false/\gtI (ah l.length) 0=true/\dJ .i64 (ah l.length) 1=((l.length-1:Nat):Int)/\inI ((l.length-1:Nat):Int) l.length=true:=by
 have hp:=kY.2 h0;refine⟨eF_ (by unfold ah; omega),gT_ (by unfold ah; omega),by unfold dJ ah; rw[wrap64 (by omega) (by omega)]; omega,jl (by omega) (by omega)⟩
theorem qw{n k:Nat}(h:0<n)(hk:k<=3):Nat.ble (Nat.add (atN ((n-1:Nat):Int) 3) k) (Nat.mul n 3)=true:=dG (by
 show((n-1:Nat):Int).toNat*3+k<=n*3
 omega)
theorem lW(x:Int):gm (.int .i64) (.int .i64 x)=true:=rfl
theorem iy(k:IntKind)(b:Int):asI (.int k b)=b:=rfl
theorem AL{r:RnM}(hl:r.rs.length<4194304):CRX P 2 77 [p0] (rnB r) (.int .i64 (fP r.rs)) (rnB r):=by
 refine co_ aA ((acz r).trans ?_);by_cases h0:r.rs=[]
 ·have e0:r.rs.length=0:=by rw[h0]; rfl
  have g0:eqI (ah r.rs.length) 0=true:=eT_ (by unfold ah; omega);have g6:fP r.rs=0:=by rw[h0]; rfl
  simp only[cz_,dk_,dl_,dn_,io_,lb_,nb_,pt_,sl_,w0_,g0,g6,uf_,aZ rfl,dE rfl,dH rfl,bf rfl,nf_]
 ·obtain⟨g0,_,g1,g2⟩:=mJ h0 hl;have hp:=kY.2 h0;have g4:=aiq (l:=r.rs) (i:=r.rs.length-1) (by omega);have g5:Nat.ble (Nat.add (Nat.add (atN ((r.rs.length-1:Nat):Int) 3) 1) 1) (Nat.mul r.rs.length 3)=true:=qw (k:=2) hp (by decide);have g6:fP r.rs=(r.rs[r.rs.length-1]'(by omega)).b:=by unfold fP; rw[last_at r.rs h0]; rfl
  simp only[cz_,dk_,dl_,dn_,io_,lb_,nb_,pt_,sl_,w0_,g0,g1,g2,g4,g5,lW,iy,g6,uf_,aZ rfl,dE rfl,dH rfl,bf rfl,nf_]
theorem aho{s:SrM}{c:CmM}(ht:fZ s.tb)(hc:cmE c=0)(hn:c.n-1=fP s.rn.rs+s.rest.length)(he:s.rest=[]\/aY s.rest<=c.e)(hr:s.rn.rs.length<4194304)(hl:s.rest.length<4194300)(h0:0<=fP s.rn.rs) :
  CRX P 5 82 [p0,cmV c] (srB s) (.int .i64 0) (srB ⟨tbM s.tb c.ops,s.rn,s.rest++[c]⟩):=by
 obtain⟨⟨_,_⟩,⟨n1,n2⟩,hb⟩:=fU.1 hc;obtain⟨b1,b2,b3⟩:=dM.1 hb;have q1:=Eu (c:=c) (by omega);rw[hc]at q1;have q2:=AL hr;have q3:=tY (c:=c) b1 (by omega);have q4:=X8 ht hb;have q:=agu (ay [cmV c] []) (ay [p0] (rnB s.rn)) (ay [cmV c] []) (ay [p0,bD c.ops] (tbB s.tb)) (fP s.rn.rs) (tbM s.tb c.ops) s c;refine co_ (af (af (af (af aA (az q4)) (az q3)) (az q2)) (az q1)) (q.trans ?_);clear q q1 q2 q3 q4;have hr2:=(ht.all c.ops).ren;have a1:dJ .i64 c.n 1=c.n-1:=by unfold dJ; rw[wrap64 (by omega) (by omega)]
 have a2:bM .i64 (fP s.rn.rs) (ah s.rest.length)=c.n-1:=by unfold bM ah; rw[wrap64 (by omega) (by omega)]; omega
 have a3:neI (c.n-1) (c.n-1)=false:=by unfold neI; simp
 have h1:(s.rest++[c]).length=Nat.add s.rest.length 1:=by simp
 by_cases h0:s.rest=[]
 ·have g0:gtI (ah s.rest.length) 0=false:=by rw[h0]; rfl
  simp (disch:=first|omega|(simp only[bU,bY,bZ,bT,bW,aH]<;>omega)|fail) only[bk_,cz_,dk_,dl_,dn_,fa_,io_,lb_,nb_,pt_,sl_,so_,tb_,w0_,a1,a2,a3,g0,ht.ren,hr2,Fe,vN,uf_,aZ rfl,aZ h1.symm,dE rfl,dH rfl,bf rfl,h1,nf_]
 ·obtain⟨_,g0,g1,g2⟩:=mJ h0 (by omega);have hp:=kY.2 h0;have g4:=jZ (l:=s.rest) (i:=s.rest.length-1) (by omega);have g5:=qw (n:=s.rest.length) (k:=1) hp (by decide);have g6:aY s.rest=(s.rest[s.rest.length-1]'(by omega)).e:=by unfold aY; rw[last_at s.rest h0]; rfl
  have g7:ltI c.e (aY s.rest)=false:=by
   unfold ltI;rcases he with he | he
   ·exact absurd he h0
   ·exact iW (by omega)
  rw[g6]at g7;simp (disch:=first|omega|(simp only[bU,bY,bZ,bT,bW,aH]<;>omega)|fail) only[bk_,cz_,dk_,dl_,dn_,fa_,io_,lb_,nb_,pt_,sl_,so_,tb_,w0_,a1,a2,a3,g0,g1,g2,g4,g5,g7,lW,iy,ht.ren,hr2,Fe,vN,uf_,aZ rfl,aZ h1.symm,dE rfl,dH rfl,bf rfl,h1,nf_]
structure PgM where
 ep:Int
 ro:Int
 ac:Int
 ph:Int
 fo:Int
 ba:Int
def pgC(p:PgM):List Value:=[.int .i64 p.ep, .int .u8 p.ro, .int .i64 p.ac, .int .u8 p.ph, .int .i64 p.fo, .int .i64 p.ba]
def pgV(p:PgM):Value:= .agg ⟨pgC p⟩
def pg_(p:PgM):Value:=(Value.agg (Array.mk [(Value.int IntKind.i64 (PgM.ep p)),(Value.int IntKind.u8 (PgM.ro p)),(Value.int IntKind.i64 (PgM.ac p)),(Value.int IntKind.u8 (PgM.ph p)),(Value.int IntKind.i64 (PgM.fo p)),(Value.int IntKind.i64 (PgM.ba p))]))
theorem ab3(p:PgM):aN P E ctF 50 aB [] [] 0 71 [pgV p] [] =
 (let z:=eqI p.ro 1;let y:=leI p.ep 1048576;let x:=some (io_ 2,ag []);let w:=some (io_ 0,ag []);let v:=aj (eqI p.fo 0) (aj (eQ (eqI p.ba 0)) x w) x;let u:=aj (eqI p.ph 0) v x;let t:=eqI p.ro 2;let s:=eqI p.ac 0;let r:=eqI p.ro 3;let q:=eqI p.ph 2;let o:=aj (geI p.fo 0) (aj (leI p.fo 1048576) (aj (geI p.ba 0) (aj (eQ (leI p.ba 1073741824)) x w) x) x) x;
 let n:=eqI p.ph 3;
 (aj (geI p.ep 1) (aj z (aj y (aj (geI p.ac 0) (aj (leI p.ac 1048576) u x) x) x) (aj t (aj y (aj s u x) x) (aj r (aj y (aj s (aj (eqI p.ph 1) v (aj q (aj q o x) (aj n (aj n o x) (aj (eqI p.ph 4) o x)))) x) x) x))) (aj z x (aj t x (aj r x x))))):=by kernel_rfl
def aik(V:Nat->List UInt8)(C:Int->Bool)(C1:List Value->List Blk->Bool):Ct:=ak P aB 0 71 (aP C1 (.leaf (.int .i64 0,[]))) (nV P 50 (jy P 50 (uq V C) ctF))
theorem adf(V:Nat->List UInt8)(C:Int->Bool)(C1:List Value->List Blk->Bool)(p:PgM):aN P E (aik V C C1) 80 aB [.val, .val] [57,0] 0 87 [pgV p] [] =
 (let z:=cvI .u64 p.ep;let y:=HAppend.hAppend [] (V (Int.toNat z));let x:=y.length;let w:=aG false (dQ 3) (bc y);let v:=takeC (Nat.mul x 1) (aO 0 w);let u:=cvI .u64 (cvI .i64 p.ro);let t:=HAppend.hAppend (List.map byteOf v) (V (Int.toNat u));let s:=t.length;let r:=aG false (dQ 4) (bc t);
 let q:=takeC (Nat.mul s 1) (aO 0 r);let o:=cvI .u64 p.ac;let n:=HAppend.hAppend (List.map byteOf q) (V (Int.toNat o));let m:=n.length;let l:=aG false (dQ 5) (bc n);let k:=takeC (Nat.mul m 1) (aO 0 l);let j:=cvI .u64 (cvI .i64 p.ph);let i:=HAppend.hAppend (List.map byteOf k) (V (Int.toNat j));
 let h:=i.length;let g:=aG false (dQ 6) (bc i);let f:=takeC (Nat.mul h 1) (aO 0 g);let e:=cvI .u64 p.fo;let d:=HAppend.hAppend (List.map byteOf f) (V (Int.toNat e));let c:=d.length;let b:=aG false (dQ 7) (bc d);let a:=takeC (Nat.mul c 1) (aO 0 b);let Z:=cvI .u64 p.ba;let Y:=HAppend.hAppend (List.map byteOf a) (V (Int.toNat Z));
 let X:=Y.length;let W:=aG false (dQ 8) (bc Y);
 (ae (C1 [pg_ p] []) (ae (Bool.and (fw_ 0 []) (C z)) (ae (fq_ x w 5) (ae (Bool.and (fw_ x v) (C u)) (ae (fq_ s r 5) (ae (Bool.and (fw_ s q) (C o)) (ae (fq_ m l 5) (ae (Bool.and (fw_ m k) (C j)) (ae (fq_ h g 5) (ae (Bool.and (fw_ h f) (C e)) (ae (fq_ c b 5) (ae (Bool.and (fw_ c a) (C Z)) (ae (fq_ X W 5) (some (.tuple ⟨[fb_ X 0 (takeC (Nat.mul X 1) (aO 0 W)),io_ 0]⟩,ag [])))))))))))))))):=by kernel_rfl
def DI(p:PgM):Bool:=geI p.ep 1&&leI p.ep 1048576&&(match eqI p.ro 1,eqI p.ro 2,eqI p.ro 3 with
 |true,_,_=>geI p.ac 0&&leI p.ac 1048576&&eqI p.ph 0&&eqI p.fo 0&&eqI p.ba 0
 |false,true,_=>eqI p.ac 0&&eqI p.ph 0&&eqI p.fo 0&&eqI p.ba 0
 |false,false,true=>eqI p.ac 0&&(match eqI p.ph 1,eqI p.ph 2 || eqI p.ph 3 || eqI p.ph 4 with
  |true,_=>eqI p.fo 0&&eqI p.ba 0
  |false,true=>geI p.fo 0&&leI p.fo 1048576&&geI p.ba 0&&leI p.ba 1073741824
  |false,false=>false)
 |false,false,false=>false)
def pgE(p:PgM):Int:=match DI p with | true=>0 | false=>2
theorem nG(p:PgM):CRX P 0 71 [pgV p] [] (.int .i64 (pgE p)) []:=by
 refine co_ aA ((ab3 p).trans ?_);unfold pgE DI;simp only;cases geI p.ep 1
 ·cases eqI p.ro 1<;>cases eqI p.ro 2<;>cases eqI p.ro 3<;>rfl
 ·cases leI p.ep 1048576
  ·cases eqI p.ro 1<;>cases eqI p.ro 2<;>cases eqI p.ro 3<;>rfl
  ·cases eqI p.ro 1
   ·cases eqI p.ro 2
    ·cases eqI p.ro 3
     ·rfl
     ·cases eqI p.ac 0
      ·rfl
      ·cases eqI p.ph 1
       ·cases geI p.fo 0<;>cases leI p.fo 1048576<;>cases geI p.ba 0<;>cases leI p.ba 1073741824<;>cases eqI p.ph 2<;>cases eqI p.ph 3<;>cases eqI p.ph 4<;>rfl
       ·cases eqI p.fo 0<;>cases eqI p.ba 0<;>rfl
    ·cases eqI p.ac 0<;>cases eqI p.ph 0<;>cases eqI p.fo 0<;>cases eqI p.ba 0<;>rfl
   ·cases geI p.ac 0<;>cases leI p.ac 1048576<;>cases eqI p.ph 0<;>cases eqI p.fo 0<;>cases eqI p.ba 0<;>rfl
def kw(p:PgM):List UInt8:=au p.ep.toNat++au p.ro.toNat++au p.ac.toNat++au p.ph.toNat++au p.fo.toNat++au p.ba.toNat
structure PgR(p:PgM):Prop where
 e:0<=p.ep/\p.ep<=1073741824
 r:0<=p.ro/\p.ro<=255
 a:0<=p.ac/\p.ac<=1073741824
 h:0<=p.ph/\p.ph<=255
 f:0<=p.fo/\p.fo<=1073741824
 b:0<=p.ba/\p.ba<=1073741824
theorem afH{p:PgM}(h:pgE p=0):PgR p:=by
 have h:DI p=true:=by
  unfold pgE at h;cases hq:DI p with
  |true=>rfl
  |false=>rw[hq]at h; cases h
 unfold DI at h;simp only[bV,geI,leI,gK]at h;obtain⟨⟨h1,h2⟩,h3⟩:=h;split at h3<;>simp only[bV,geI,leI,eqI,beq_iff_eq,gK,iD]at *
 ·exact⟨by omega,by omega,by omega,by omega,by omega,by omega⟩
 ·exact⟨by omega,by omega,by omega,by omega,by omega,by omega⟩
 ·obtain⟨h4,h5⟩:=h3;split at h5<;>simp only[bV,kM,geI,leI,eqI,beq_iff_eq,gK,iD]at *
  ·exact⟨by omega,by omega,by omega,by omega,by omega,by omega⟩
  ·exact⟨by omega,by omega,by omega,by omega,by omega,by omega⟩
theorem cvN{x:Int}(h:0<=x/\x<=1073741824):cvI .u64 x=(x.toNat:Int):=by rw[<-zy h.1]; exact iG (by omega)
theorem cvS{x:Int}(h:0<=x/\x<=255):cvI .i64 x=x:=by unfold cvI; exact wrap64 (by omega) (by omega)
theorem KQ(p:PgM):(kw p).length<=66:=by
 have d1:=aK (n:=p.ep.toNat);have d2:=aK (n:=p.ro.toNat);have d3:=aK (n:=p.ac.toNat);have d4:=aK (n:=p.ph.toNat);have d5:=aK (n:=p.fo.toNat);have d6:=aK (n:=p.ba.toNat);unfold kw;simp only[bP];omega
theorem aes{p:PgM}(h:pgE p=0):CRX P 0 87 [pgV p] [] (.tuple ⟨[ax 1 (kw p).length 0 (bc (kw p)), .int .i64 0]⟩) []:=by
 have q:=nG p;rw[h]at q;obtain⟨r1,r2,r3,r4,r5,r6⟩:=afH h;have d1:=aK (n:=p.ep.toNat);have d2:=aK (n:=p.ro.toNat);have d3:=aK (n:=p.ac.toNat);have d4:=aK (n:=p.ph.toNat);have d5:=aK (n:=p.fo.toNat);have d6:=aK (n:=p.ba.toNat);refine CRX.of (pol:=aB) (fl:=[.val, .val]) (ts:=[57,0]) (n:=80) (dU _) bK (af (l_ (g:=50) (iw aA uN)) (az q)) ((adf au gB (ay _ _) p).trans ?_);have c2:=cvS r2;have c4:=cvS r4;have uu:∀ n:Nat,n<=1073741824->gB (n:Int)=true:=fun n hn=>jl (by omega) (by omega);have u1:=uu p.ep.toNat (by omega);have u2:=uu p.ro.toNat (by omega);have u3:=uu p.ac.toNat (by omega);have u4:=uu p.ph.toNat (by omega);have u5:=uu p.fo.toNat (by omega);have u6:=uu p.ba.toNat (by omega);have z:fzB 18446744073709551617 0 []=true:=by rw[<-fz1]; exact yO (l:=[]) rfl (by simp)
 simp (disch:=first|omega|(simp only[bU,bY,bZ,bT,bW,aH]<;>omega)|fail) only[fb_,fq_,fw_,io_,pg_,c2,c4,cvN r1,cvN (x:=p.ro) ⟨r2.1,by omega⟩,cvN r3,cvN (x:=p.ph) ⟨r4.1,by omega⟩,cvN r5,cvN r6,u1,u2,u3,u4,u5,u6,z,iY,pgV,pgC,bC,fJ,nf_]
 rfl
theorem adi(C:List Value->List Blk->Bool)(r:Int)(d d2:DkM)(cs:List CmM)(es:List Int):aN P E (ak P aB 1 90 (aP C (.leaf (.int .i64 r,a_ d2))) ctF) 50 aB [] [] 2 80 [p0] (iO ⟨okD d,false,cs,es⟩) =
 (let z:=WalM.mk (okD d) false cs es;let y:=z.cs.length;let x:=Enc.all ECm z.cs;let w:=z.es.length;let v:=Enc.all EIn z.es;let u:=bk_ (aT [1] 14) w0_;let t:=ro_ [0,2,21,5,19,2];let s:=dk_ d2 2 3 4 5 6::dl_ (cz_ t u) d2 [lb_ t y 3 x 47,lb_ t w 1 v 3];
 (dn_ w0_ z.dk (ae (C [pt_ 0] (dk_ z.dk 1 2 3 4 5::dl_ (cz_ (ro_ [1,1,9,5]) w0_) z.dk [])) (aj (neI r 0) (nb_ y 3 x (nb_ w 1 v (dn_ u d2 (some (io_ r,ag (.cells [pt_ 1, .bool true,sl_ 7 y,sl_ 8 w] 170 true::s)))))) (nb_ y 3 x (nb_ w 1 v (dn_ u d2 (some (io_ r,ag (.cells [pt_ 1, .bool z.br,sl_ 7 y,sl_ 8 w] 170 true::s)))))))))):=by kernel_rfl
def aiA(K:Nat->Nat->Nat->List Value->Bool)(L:List Value->Int)(C:List Value->List Blk->Bool)(r:Int)(d2:DkM):Ct:=ak P aB 1 175 (aP C (.leaf (.int .i64 r,a_ d2))) (jy P 119 (MF K L) ctF)
theorem ae9(K:Nat->Nat->Nat->List Value->Bool)(L:List Value->Int)(C:List Value->List Blk->Bool)(r:Int)(d d2:DkM)(cs:List CmM)(es:List Int)(n:Nat):aN P E (aiA K L C r d2) 50 aB [] [] 2 209 [p0, .int .i64 (n:Int)] (iO ⟨okD d,false,cs,es⟩) =
 (let z:=Nat.cast n;let y:=WalM.mk (okD d) false cs es;let x:=y.cs.length;let w:=Enc.all ECm y.cs;let v:=y.es.length;let u:=Enc.all EIn y.es;let t:=y.dk;let s:=pt_ 1;let q:=Value.bool y.br;let p:=Blk.cells [s,q,sl_ 7 x,sl_ 8 v] 170 true;let o:=ro_ [0,2,11,5,9,2];let m:=u.length;let l:=Nat.div (Nat.sub m 0) 1;
 let k:=dS 0 z l;let j:=Nat.mul (fC 0 z) 1;let i:=takeC j (aO 0 u);let h:=io_ 0;let g:=dk_ t 1 2 3 4 5::dl_ (cz_ (ro_ [1,1,24,5]) w0_) t [];let f:=neI r 0;let e:=bk_ (aT [1] 29) w0_;let c:=Value.bool true;let b:=dk_ d2 2 3 4 5 6;let a:=ro_ [0,2,36,5,34,2];let Z:=b::dl_ (cz_ a e) d2 [lb_ a x 3 w 47,lb_ a v 1 u 3];
 let Y:=Int.toNat z;let X:=dS 0 z Y;let W:=Nat.ble (Nat.succ Y) 18446744073709551616;let V:=Bool.and X (Bool.and (dS 0 z (Nat.div (Nat.sub w.length 0) 3)) W);let U:=Bool.and X (Bool.and k W);let T:=Value.slice (some ⟨8,0,none⟩) Y Y;let S:=Nat.beq Y 18446744073709551616;let R:=sl_ 7 Y;let Q:=sl_ 8 Y;
 let O:=ro_ [0,2,58,5,56,2];let N:=cz_ O e;let M:=lb_ O Y 3 w 47;let J:=lb_ O Y 1 u 3;let I:=b::dl_ N d2 [M,J];let H:=dn_ e d2 (some (h,ag (.cells [s,c,R,Q] 170 true::I)));let G:=Nat.ble 18446744073709551616 Y;let F:=sl_ 8 0;let D:=Blk.cells [] 3 false;let B:=b::dl_ N d2 [M,D];
 let A:=Nat.ble Y Y;let z0:=Bool.and A (Nat.ble (Nat.add 0 (Nat.mul Y 1)) m);let y0:=ro_ [0,2,57,5,56,1,8,1];let x0:=Blk.cells (aG true y0 u) 3 false;let w0:=b::dl_ (cz_ y0 e) d2 [lb_ y0 Y 3 w 47,x0];let v0:=aj S (nb_ Y 1 u H) (aj G (dn_ e d2 (some (h,ag (.cells [s,c,R,F] 170 true::B)))) (aj z0 H (dn_ e d2 (some (h,ag (.cells [s,c,R,T] 170 true::w0))))));
 let u0:=sl_ 7 0;let t0:=Blk.cells [] 47 false;let s0:=b::dl_ N d2 [t0,J];let r0:=dn_ e d2 (some (h,ag (.cells [s,c,u0,Q] 170 true::s0)));let q0:=b::dl_ N d2 [t0,D];let o0:=b::dl_ (cz_ y0 e) d2 [t0,x0];let n0:=Bool.and A (Nat.ble (Nat.add 0 (Nat.mul Y 3)) w.length);let m0:=Value.slice (some ⟨7,0,none⟩) Y Y;
 let l0:=ro_ [0,2,57,5,7,1,56,1];let k0:=Blk.cells (aG true l0 w) 47 false;let j0:=b::dl_ (cz_ l0 e) d2 [k0,lb_ l0 Y 1 u 3];let i0:=dn_ e d2 (some (h,ag (.cells [s,c,m0,Q] 170 true::j0)));let h0:=b::dl_ (cz_ l0 e) d2 [k0,D];let g0:=ro_ [0,2,56,5,7,2];let f0:=b::dl_ (cz_ g0 e) d2 [.cells (aG true g0 w) 47 false, .cells (aG true g0 u) 3 false];
 let e0:=dn_ e d2 (some (h,ag (.cells [s,q,R,Q] 170 true::I)));let d0:=aj S (nb_ Y 1 u e0) (aj G (dn_ e d2 (some (h,ag (.cells [s,q,R,F] 170 true::B)))) (aj z0 e0 (dn_ e d2 (some (h,ag (.cells [s,q,R,T] 170 true::w0))))));let c0:=dn_ e d2 (some (h,ag (.cells [s,q,u0,Q] 170 true::s0)));
 let b0:=dn_ e d2 (some (h,ag (.cells [s,q,m0,Q] 170 true::j0)));let a0:=aj f (aj f (nb_ x 3 w (nb_ v 1 u (dn_ e d2 (some (io_ r,ag (.cells [s,c,sl_ 7 x,sl_ 8 v] 170 true::Z)))))) (ae V (ae U (ae U (ae (bz T T) (aj S (nb_ Y 3 w v0) (aj G (aj S (nb_ Y 1 u r0) (aj G (dn_ e d2 (some (h,ag (.cells [s,c,u0,F] 170 true::q0)))) (aj z0 r0 (dn_ e d2 (some (h,ag (.cells [s,c,u0,T] 170 true::o0))))))) (aj n0 v0 (aj S (nb_ Y 1 u i0) (aj G (dn_ e d2 (some (h,ag (.cells [s,c,m0,F] 170 true::h0)))) (aj z0 i0 (dn_ e d2 (some (h,ag (.cells [s,c,m0,T] 170 true::f0))))))))))))))) (aj f (nb_ x 3 w (nb_ v 1 u (dn_ e d2 (some (io_ r,ag (p::Z)))))) (ae V (ae U (ae U (ae (bz T T) (aj S (nb_ Y 3 w d0) (aj G (aj S (nb_ Y 1 u c0) (aj G (dn_ e d2 (some (h,ag (.cells [s,q,u0,F] 170 true::q0)))) (aj z0 c0 (dn_ e d2 (some (h,ag (.cells [s,q,u0,T] 170 true::o0))))))) (aj n0 d0 (aj S (nb_ Y 1 u b0) (aj G (dn_ e d2 (some (h,ag (.cells [s,q,m0,F] 170 true::h0)))) (aj z0 b0 (dn_ e d2 (some (h,ag (.cells [s,q,m0,T] 170 true::f0)))))))))))))));
 (aj (gtI z (ah x)) (nb_ x 3 w (nb_ v 1 u (dn_ w0_ t (some (io_ 2,ag (p::dk_ t 2 3 4 5 6::dl_ (cz_ o w0_) t [lb_ o x 3 w 47,lb_ o v 1 u 3])))))) (ae k (aj (Nat.ble 1 l) (ae (Bool.and (Nat.ble (Nat.add 0 j) m) (Nat.ble 1 1)) (ae (gY i) (ae (K 18446744073709551617 (fC 0 z) 0 i) (dn_ w0_ t (ae (C [pt_ 0,h,io_ (L i)] g) a0))))) (ae (K 18446744073709551617 0 0 []) (dn_ w0_ t (ae (C [pt_ 0,h,io_ (L [])] g) a0))))))):=by kernel_rfl
def Gv(w:WalM):Int×WalM:=((lV w.dk).1,⟨(lV w.dk).2,neI (lV w.dk).1 0,w.cs,w.es⟩)
theorem Rf{w:WalM}(hoff:w.dk.off=false)(hbr:w.br=false)(hd:kSy.ok w.dk):CRX P 2 80 [p0] (iO w) (.int .i64 (Gv w).1) (iO (Gv w).2):=by
 obtain⟨dk,br,cs,es⟩:=w;simp only at hoff hbr hd;subst hbr;have q1:=RY.at (s:=dk) hd rfl;have q:=adi (ay [p0] (a_ dk)) (lV dk).1 dk (lV dk).2 cs es;rw[H9 hoff]at q;refine co_ (af aA (az q1)) (q.trans ?_);clear q q1;unfold Gv;simp only;generalize lV dk=W;obtain⟨r,d2⟩:=W;simp only[bk_,cz_,dk_,dl_,dn_,io_,lb_,nb_,pt_,sl_,w0_,hoff,iO,lX,lsV,ptV,p0,a_,dkC,bD,aQ,cmV,fJ,dY,bC,zq,qi,Bq,xw,yT,yV,mZ,vI,um,Ac,uT,aZ,dE,dH,Enc.all_ren,nf_,aZ rfl,dE rfl,dH rfl];cases neI r 0<;>rfl
structure StaM where
 off:Bool
 pg:PgM
 log:List CmM
 held:Int
 dk:DkM
 wbr:Bool
 wcs:List CmM
 wes:List Int
 rbr:Bool
 rs:List RunM
 tb:TbM
 rest:List CmM
def StaM.wal(s:StaM):WalM:=⟨s.dk,s.wbr,s.wcs,s.wes⟩
def StaM.rn(s:StaM):RnM:=⟨s.dk,s.rbr,s.rs⟩
def StaM.sr(s:StaM):SrM:=⟨s.tb,s.rn,s.rest⟩
def stB(s:StaM):List Blk:=[.cells ([ptV 1, .bool s.off]++pgC s.pg++[lsV 12 s.log.length,ptV 2,ptV 3,ptV 4, .int .i64 s.held]) 128 true, .cells (lX 7 8 9 10 11 s.dk) 86 true,
 .cells [ptV 1, .bool s.wbr,lsV 13 s.wcs.length,lsV 14 s.wes.length] 170 true, .cells [ptV 1, .bool s.rbr,lsV 15 s.rs.length] 168 true, .cells [ptV 5,ptV 3,lsV 16 s.rest.length] 174 true, .cells [.map (some 6)] 98 true, .map s.tb.es s.tb.ck]++dkL s.dk++
 [.cells (ECm.all s.log) 47 false, .cells (ECm.all s.wcs) 47 false, .cells (EIn.all s.wes) 3 false, .cells (gI.all s.rs) 161 false, .cells (ECm.all s.rest) 47 false]
def nl_(W:Nat->Nat->List Value->List Value)(s:StaM)(r:List Blk):List Blk:=dl_ W s.dk (Blk.cells (W s.log.length 3 (ECm.all s.log)) 47 false::Blk.cells (W s.wcs.length 3 (ECm.all s.wcs)) 47 false::Blk.cells (W s.wes.length 1 (EIn.all s.wes)) 3 false::Blk.cells (W s.rs.length 3 (gI.all s.rs)) 161 false::Blk.cells (W s.rest.length 3 (ECm.all s.rest)) 47 false::r)
def nn_(W:Nat->Nat->List Value->List Value)(s:StaM)(x:Res):Res:=dn_ W s.dk (ae (Nat.ble (Nat.add 0 (Nat.mul s.log.length 3)) (W s.log.length 3 (ECm.all s.log)).length) (ae (Nat.ble (Nat.add 0 (Nat.mul s.wcs.length 3)) (W s.wcs.length 3 (ECm.all s.wcs)).length) (ae (Nat.ble (Nat.add 0 (Nat.mul s.wes.length 1)) (W s.wes.length 1 (EIn.all s.wes)).length) (ae (Nat.ble (Nat.add 0 (Nat.mul s.rs.length 3)) (W s.rs.length 3 (gI.all s.rs)).length) (ae (Nat.ble (Nat.add 0 (Nat.mul s.rest.length 3)) (W s.rest.length 3 (ECm.all s.rest)).length) x)))))
def sc_(s:StaM)(a b c e f g:Int)(d l w r t:Nat):Blk:=(.cells [pt_ d, .bool s.off,io_ a, .int .u8 b,io_ c, .int .u8 e,io_ f,io_ g,sl_ l s.log.length,pt_ w,pt_ r,pt_ t,io_ s.held] 128 true)
def sb_(s:StaM)(p:PgM)(d l w r t:Nat):Blk:=(sc_ s p.ep p.ro p.ac p.ph p.fo p.ba d l w r t)
def wb_(s:StaM)(d a b:Nat):Blk:=(.cells [pt_ d, .bool s.wbr,sl_ a s.wcs.length,sl_ b s.wes.length] 170 true)
def rb_(s:StaM)(d a:Nat):Blk:=(.cells [pt_ d, .bool s.rbr,sl_ a s.rs.length] 168 true)
def ns_(s:StaM)(x:Res):Res:=(nb_ s.log.length 3 (Enc.all ECm s.log) (dn_ w0_ s.dk (nb_ s.wcs.length 3 (Enc.all ECm s.wcs) (nb_ s.wes.length 1 (Enc.all EIn s.wes) (nb_ s.rs.length 3 (Enc.all gI s.rs) (nb_ s.rest.length 3 (Enc.all ECm s.rest) x))))))
def nw_(s:StaM)(b:Nat->Option Nat)(x:Res):Res:=(nb_ s.log.length 3 (aG true b (Enc.all ECm s.log)) (dn_ (bk_ b w0_) s.dk (nb_ s.wcs.length 3 (aG true b (Enc.all ECm s.wcs)) (nb_ s.wes.length 1 (aG true b (Enc.all EIn s.wes)) (nb_ s.rs.length 3 (aG true b (Enc.all gI s.rs)) (nb_ s.rest.length 3 (aG true b (Enc.all ECm s.rest)) x))))))
def sm_(s:StaM)(f:Nat->Option Nat):List Blk:=(sb_ s s.pg 1 12 2 3 4::dk_ s.dk 7 8 9 10 11::wb_ s 1 13 14::rb_ s 1 15::so_ 5 3 16 s.rest.length::tb_ 6:: .map (aF true f s.tb.es) s.tb.ck::nl_ (cz_ f w0_) s [])
def sw_(s:StaM)(f b:Nat->Option Nat):List Blk:=(sb_ s s.pg 1 12 2 3 4::dk_ s.dk 7 8 9 10 11::wb_ s 1 13 14::rb_ s 1 15::so_ 5 3 16 s.rest.length::tb_ 6:: .map (aF true f (aF true b s.tb.es)) s.tb.ck::nl_ (cz_ f (bk_ b w0_)) s [])
def gw_(s:StaM)(t:TbM)(r:List CmM)(f b:Nat->Option Nat):List Blk:=(sb_ s s.pg 1 15 2 3 7::dk_ s.dk 10 11 12 13 14::wb_ s 1 16 17::rb_ s 1 18::so_ 5 3 20 r.length::tb_ 6:: .map (aF true f (aF true b t.es)) t.ck::so_ 8 3 19 s.rest.length::tb_ 9:: .map (aF true f (aF true b s.tb.es)) s.tb.ck::nl_ (cz_ f (bk_ b w0_)) s [lb_ f r.length 3 (aG true b (Enc.all ECm r)) 47])
def Da1:HeadX:=⟨7,114,[0,1,4,62,63,64],[.val, .val, .val, .val, .val, .val],[],aB⟩
def Ba1:Code:=(di P 38 0).getD .skip
theorem NS:di P 38 0=some Ba1:=by kernel_rfl
theorem SK:Occ P 38 (.block 0 (.loop Ba1)):=dN NS
def Da2:HeadX:=⟨7,114,[0,4,90,91,92],[.val, .val, .val, .val, .val],[],aB⟩
def Ba2:Code:=(di P 38 2).getD .skip
theorem MZ:di P 38 2=some Ba2:=by kernel_rfl
theorem RP:Occ P 38 (.block 2 (.loop Ba2)):=dN MZ
def aaG(C:List Value->List Blk->Bool)(r:Int)(w:WalM):Ct:=ak P aB 2 79 (aP C (.leaf (.int .i64 r,iO w))) ctF
theorem W_(C:List Value->List Blk->Bool)(r:Int)(w:WalM)(s:StaM)(l' l:List CmM)(z i:Int):aU P E (aaG C r w) 50 38 Ba1 Da1 [p0,aQ l', .int .i64 0,aQ l, .int .i64 z, .int .i64 i] (stB s) =
 (let y:=atN i 3;let x:=Enc.all ECm l;let v:=Eta.int .i64;let u:=s.wcs.length;let t:=Enc.all ECm s.wcs;let q:=s.wes.length;let p:=Enc.all EIn s.wes;let o:=pt_ 0;let n:=Nat.add y 1;let m:=aV x (Nat.add n 1);let k:=ro_ [2,1,1,1,29,5,27,2];let j:=s.log.length;let h:=Enc.all ECm s.log;
 let g:=aT [2,1] 34;let f:=bk_ g w0_;let e:=w.dk;let d:=w.cs.length;let c:=aG true g (Enc.all ECm w.cs);let b:=w.es.length;let a:=aG true g (Enc.all EIn w.es);let Z:=s.rs.length;let Y:=Enc.all gI s.rs;let X:=s.rest.length;let W:=Enc.all ECm s.rest;let V:=fa_ (List.length l') 0 (Enc.all ECm l');
 let U:=fa_ l.length 0 x;let T:=io_ z;let S:=Value.tuple ⟨[io_ (-1),o,V,io_ r,U,T,io_ i]⟩;let R:=pt_ 1;let Q:=s.pg;let O:=Value.int .u8 Q.ro;let N:=Value.int .u8 Q.ph;let M:=io_ s.held;let L:=ro_ [0,7,42,5,41,1,47,4];let K:=dk_ e 7 8 9 10 11::Blk.cells [R, .bool w.br,sl_ 13 d,sl_ 14 b] 170 true::rb_ s 1 15::so_ 5 3 16 X::tb_ 6::Blk.map (aF true L s.tb.es) s.tb.ck::dl_ (cz_ L f) e [lb_ L j 3 h 47,lb_ L d 3 c 47,lb_ L b 1 a 3,lb_ L Z 3 Y 161,lb_ L X 3 W 47];
 let J:=ag (.cells [R, .bool true,io_ Q.ep,O,io_ Q.ac,N,io_ Q.fo,io_ Q.ba,sl_ 12 j,pt_ 2,pt_ 3,pt_ 4,M] 128 true::K);let I:=io_ 0;let H:=Value.tuple ⟨[I,o,V,I,U,T,io_ (bM .i64 i 1)]⟩;let G:=ag (.cells [R, .bool (eqI r 6),io_ Q.ep,O,io_ Q.ac,N,io_ Q.fo,io_ Q.ba,sl_ 12 j,pt_ 2,pt_ 3,pt_ 4,M] 128 true::K);
 (aj (ltI i z) (ae (Bool.and (Nat.beq 3 3) (inI i l.length)) (ae (Bool.and (Nat.ble (Nat.add y 3) x.length) (jg [v,v, .slice 3] x y)) (nb_ u 3 t (nb_ q 1 p (dn_ w0_ s.dk (ae (C [o, .agg ⟨[io_ (asI (aV x y)),io_ (asI (aV x n)),fa_ (zN m) (zB m) (zC m)]⟩] (wb_ s 1 7 8::dk_ s.dk 2 3 4 5 6::dl_ (cz_ k w0_) s.dk [lb_ k u 3 t 47,lb_ k q 1 p 3])) (aj s.off (aj (neI r 0) (nb_ j 3 h (dn_ f e (nb_ d 3 c (nb_ b 1 a (nb_ Z 3 Y (nb_ X 3 W (some (S,J)))))))) (nb_ j 3 h (dn_ f e (nb_ d 3 c (nb_ b 1 a (nb_ Z 3 Y (nb_ X 3 W (some (H,J))))))))) (aj (neI r 0) (nb_ j 3 h (dn_ f e (nb_ d 3 c (nb_ b 1 a (nb_ Z 3 Y (nb_ X 3 W (some (S,G)))))))) (nb_ j 3 h (dn_ f e (nb_ d 3 c (nb_ b 1 a (nb_ Z 3 Y (nb_ X 3 W (some (H,G)))))))))))))))) (ns_ s (some (.tuple ⟨[io_ 1,o,V,I,U,T,io_ i]⟩,ag (sm_ s (ro_ [0,7,18,5,17,1,23,4]))))))):=by kernel_rfl
def aa5(C1 C2:List Value->List Blk->Bool)(c:CmM)(s:SrM):Ct:=ak P aB 0 81 (aP C1 (.leaf (cmV c,[]))) (ak P aB 5 82 (aP C2 (.leaf (.int .i64 0,srB s))) ctF)
theorem Yf(C1 C2:List Value->List Blk->Bool)(c:CmM)(sr:SrM)(s:StaM)(l:List CmM)(z i:Int):aU P E (aa5 C1 C2 c sr) 50 38 Ba2 Da2 [p0, .int .i64 0,aQ l, .int .i64 z, .int .i64 i] (stB s) =
 (let y:=atN i 3;let x:=Enc.all ECm l;let w:=Eta.int .i64;let v:=Nat.add y 1;let u:=aV x (Nat.add v 1);let t:=Value.agg ⟨[io_ (asI (aV x y)),io_ (asI (aV x v)),fa_ (zN u) (zB u) (zC u)]⟩;let r:=s.log.length;let q:=Nat.add r 1;let p:=Enc.all ECm s.log;let o:=s.rest.length;let n:=Enc.all ECm s.rest;
 let m:=s.rs.length;let k:=Enc.all gI s.rs;let j:=pt_ 0;let h:=bQ 0 [4,5,6,3,1,39,40,41,42,43,38,37];let g:=List.append (jC 0 p) [io_ c.e,io_ c.n,fa_ c.ops.length 0 (Enc.all EOp c.ops)];let f:=aT [4,5,6,3,1] 44;let e:=bk_ f w0_;let d:=sr.rn.dk;let b:=s.wcs.length;let a:=Enc.all ECm s.wcs;
 let Z:=s.wes.length;let Y:=Enc.all EIn s.wes;let X:=sr.rn.rs.length;let W:=aG true f (Enc.all gI sr.rn.rs);let V:=sr.rest.length;let U:=aG true f (Enc.all ECm sr.rest);let T:=io_ 0;let S:=fa_ l.length 0 x;let R:=s.pg;let Q:=ro_ [0,7,52,5,51,1,57,4];
 (aj (ltI i z) (ae (Bool.and (Nat.beq 3 3) (inI i l.length)) (ae (Bool.and (Nat.ble (Nat.add y 3) x.length) (jg [w,w, .slice 3] x y)) (ae (C1 [t] []) (ae (Nat.ble q 4194304) (ae (Nat.beq (Nat.add 0 (Nat.mul r 3)) p.length) (ae (bz (sl_ 12 r) (sl_ 12 r)) (nb_ o 3 n (nb_ m 3 k (dn_ w0_ s.dk (ae (C2 [j,t] (so_ 1 3 11 o::tb_ 2:: .map (aF true h s.tb.es) s.tb.ck::rb_ s 4 10::dk_ s.dk 5 6 7 8 9::dl_ (cz_ h w0_) s.dk [lb_ h m 3 k 161,lb_ h o 3 n 47])) (nb_ q 3 g (dn_ e d (nb_ b 3 a (nb_ Z 1 Y (nb_ X 3 W (nb_ V 3 U (some (.tuple ⟨[T,j,T,S,io_ z,io_ (bM .i64 i 1)]⟩,ag (.cells [pt_ 1, .bool s.off,io_ R.ep, .int .u8 R.ro,io_ R.ac, .int .u8 R.ph,io_ R.fo,io_ R.ba,sl_ 12 q,pt_ 2,pt_ 3,pt_ 4,io_ s.held] 128 true::dk_ d 7 8 9 10 11::wb_ s 1 13 14:: .cells [pt_ 1, .bool sr.rn.br,sl_ 15 X] 168 true::so_ 5 3 16 V::tb_ 6:: .map (aF true Q (aF true f sr.tb.es)) sr.tb.ck::dl_ (cz_ Q e) d [lb_ Q q 3 g 47,lb_ Q b 3 a 47,lb_ Q Z 1 Y 3,lb_ Q X 3 W 161,lb_ Q V 3 U 47]))))))))))))))))))) (ns_ s (some (.tuple ⟨[io_ 3,j,T,S,io_ z,io_ i]⟩,ag (sm_ s (ro_ [0,7,18,5,17,1,23,4]))))))):=by kernel_rfl
theorem mz_:type_of% (And.intro @io_.eq_1 (And.intro @sl_.eq_1 (And.intro @pt_.eq_1 (And.intro @lb_.eq_1 (And.intro @nb_.eq_1 (And.intro @fa_.eq_1 (And.intro @fb_.eq_1 (And.intro @fc_.eq_1 (And.intro @fq_.eq_1 (And.intro @fw_.eq_1 (And.intro @dk_.eq_1 (And.intro @w0_.eq_1 (And.intro @bk_.eq_1 (And.intro @cz_.eq_1 (And.intro @nl_.eq_1 (And.intro @nn_.eq_1 (And.intro @dl_.eq_1 (And.intro @dn_.eq_1 (And.intro @sb_.eq_1 (And.intro @sc_.eq_1 (And.intro @wb_.eq_1 (And.intro @rb_.eq_1 (And.intro @so_.eq_1 (And.intro @tb_.eq_1 (And.intro @ns_.eq_1 (And.intro @nw_.eq_1 (And.intro @sm_.eq_1 (And.intro @sw_.eq_1 @gw_.eq_1)))))))))))))))))))))))))))):=And.intro @io_.eq_1 (And.intro @sl_.eq_1 (And.intro @pt_.eq_1 (And.intro @lb_.eq_1 (And.intro @nb_.eq_1 (And.intro @fa_.eq_1 (And.intro @fb_.eq_1 (And.intro @fc_.eq_1 (And.intro @fq_.eq_1 (And.intro @fw_.eq_1 (And.intro @dk_.eq_1 (And.intro @w0_.eq_1 (And.intro @bk_.eq_1 (And.intro @cz_.eq_1 (And.intro @nl_.eq_1 (And.intro @nn_.eq_1 (And.intro @dl_.eq_1 (And.intro @dn_.eq_1 (And.intro @sb_.eq_1 (And.intro @sc_.eq_1 (And.intro @wb_.eq_1 (And.intro @rb_.eq_1 (And.intro @so_.eq_1 (And.intro @tb_.eq_1 (And.intro @ns_.eq_1 (And.intro @nw_.eq_1 (And.intro @sm_.eq_1 (And.intro @sw_.eq_1 @gw_.eq_1)))))))))))))))))))))))))))
def StaM.setW(s:StaM)(w:WalM):StaM:={ s with dk:=w.dk,wbr:=w.br,wcs:=w.cs,wes:=w.es }
theorem zF(n b:Nat)(c:List Value):zN (.iface 18446744073709551619 (.agg ⟨.slice none n b::c⟩))=n/\zB (.iface 18446744073709551619 (.agg ⟨.slice none n b::c⟩))=b/\zC (.iface 18446744073709551619 (.agg ⟨.slice none n b::c⟩))=c:=by
 rw[<-dY];exact⟨Ha (by decide),abM (by decide),MC (by decide)⟩
theorem iL{n i k:Nat}(h:i<n)(hk:k<=3):Nat.ble (Nat.add (atN (i:Int) 3) k) (Nat.mul n 3)=true:=dG (by
 show(i:Int).toNat*3+k<=n*3;have:(i:Int).toNat=i:=by omega
 omega)
theorem lH{n i:Nat}(h:i<n)(hn:n<4194304):ltI (i:Int) (ah n)=true/\inI (i:Int) n=true/\bM .i64 (i:Int) 1=((i+1:Nat):Int):=
 ⟨lT_ (by unfold ah; omega),jl (by omega) (by omega),by unfold bM; rw[wrap64 (by omega) (by omega)]; omega⟩
theorem kU(n:Nat):ltI (n:Int) (ah n)=false:=lF_ (by unfold ah; omega)
def a1V(l' l:List CmM)(r i:Int):List Value:=[p0,aQ l', .int .i64 r,aQ l, .int .i64 (ah l.length), .int .i64 i]
theorem aas{s:StaM}(hs:s.off=false)(ht:fZ s.tb){l' l:List CmM}{i:Nat}(hi:i<l.length)(hl:l.length<4194304){r:Int}{w:WalM}(h:CRX P 2 79 [p0,cmV l[i]] (iO s.wal) (.int .i64 r) (iO w)) :
  aU P E (aaG (ay [p0,cmV l[i]] (iO s.wal)) r w) 50 38 Ba1 Da1 (a1V l' l 0 i) (stB s)=match eqI r 0 with
   |true=>some (.tuple ⟨exV .normal::a1V l' l 0 ((i+1:Nat):Int)⟩,ag (stB (s.setW w)))
   |false=>some (.tuple ⟨exV .ret::a1V l' l r i⟩,ag (stB { s.setW w with off:=eqI r 6 })):=by
 obtain⟨g1,g2,a1⟩:=lH hi hl;have g4:=kW hi;unfold a1V;rw[W_];simp only[mz_,hs,ht.ren,g1,g2,a1,g4,iL hi (dm 3),jZ hi,pR hi,qH hi,iy,zF,StaM.wal,stB,pgC,uf_,aZ rfl,dE rfl,dH rfl,bf rfl,nf_];cases hr:eqI r 0 with
 |true=>
  have hn:neI r 0=false:=by unfold neI; unfold eqI at hr; simpa using hr
  have h6:eqI r 6=false:=by
   unfold eqI at hr ⊢;have:r=0:=by simpa using hr
   subst this; rfl
  simp only[mz_,hn,h6,bg,StaM.setW,hs,uf_]
  rfl
 |false=>
  have hn:neI r 0=true:=by unfold neI; unfold eqI at hr; simpa using hr
  simp only[mz_,hn,bu,StaM.setW,uf_]
  rfl
theorem agM{C:List Value->List Blk->Bool}{r:Int}{w:WalM}{s:StaM}(ht:fZ s.tb){l' l:List CmM}:aU P E (aaG C r w) 50 38 Ba1 Da1 (a1V l' l 0 l.length) (stB s)=some (.tuple ⟨exV (.exit 0)::a1V l' l 0 l.length⟩,ag (stB s)):=by
 unfold a1V;rw[W_];simp only[mz_,kU,ht.ren,stB,pgC,uf_,aZ rfl,dE rfl,dH rfl,bf rfl,nf_]
 rfl
def a2V(l:List CmM)(i:Int):List Value:=[p0, .int .i64 0,aQ l, .int .i64 (ah l.length), .int .i64 i]
def StaM.add1(s:StaM)(sr:SrM)(c:CmM):StaM:={ s with log:=s.log++[c],dk:=sr.rn.dk,rbr:=sr.rn.br,rs:=sr.rn.rs,tb:=sr.tb,rest:=sr.rest }
theorem aab{s:StaM}(ht:fZ s.tb){l:List CmM}{i:Nat}(hi:i<l.length)(hl:l.length<4194304)(hg:s.log.length<4194300){sr:SrM}(hts:fZ sr.tb) :
  aU P E (aa5 (ay [cmV l[i]] []) (ay [p0,cmV l[i]] (srB s.sr)) l[i] sr) 50 38 Ba2 Da2 (a2V l i) (stB s)=some (.tuple ⟨exV .normal::a2V l ((i+1:Nat):Int)⟩,ag (stB (s.add1 sr l[i]))):=by
 obtain⟨g1,g2,a1⟩:=lH hi hl;have g4:=kW hi;have h1:(s.log++[l[i]]).length=Nat.add s.log.length 1:=by simp
 unfold a2V;rw[Yf];simp (disch:=first|omega|(simp only[bU,bY,bZ,bT,bW,aH]<;>omega)|fail) only[mz_,ht.ren,hts.ren,g1,g2,a1,g4,iL hi (dm 3),jZ hi,pR hi,qH hi,iy,zF,StaM.sr,StaM.rn,StaM.add1,stB,pgC,h1,vN,uf_,aZ rfl,aZ h1.symm,dE rfl,dH rfl,bf rfl,nf_]
 rfl
theorem af2{C1 C2:List Value->List Blk->Bool}{c:CmM}{sr:SrM}{s:StaM}(ht:fZ s.tb){l:List CmM}:aU P E (aa5 C1 C2 c sr) 50 38 Ba2 Da2 (a2V l l.length) (stB s)=some (.tuple ⟨exV (.exit 2)::a2V l l.length⟩,ag (stB s)):=by
 unfold a2V;rw[Yf];simp only[mz_,kU,ht.ren,stB,pgC,uf_,aZ rfl,dE rfl,dH rfl,bf rfl,nf_]
 rfl
theorem aeS(s:StaM)(p:PgM)(en ep ru:Int):aN P E ctF 50 aB [] [] 7 76 [p0,pgV p, .int .i64 en, .int .i64 ep, .int .i64 ru] (stB s) =
 (let z:=eqI p.ro 3;let y:=leI p.ac en;let x:=eqI p.ph 4;let w:=ltI ep p.ep;let v:=ag (sm_ s (ro_ [0,7,42,5,41,1,47,4]));let u:=Value.bool false;let t:=ns_ s (some (u,v));let r:=aj (leI ru p.fo) (aj (leI p.fo en) (ns_ s (some (.bool (leI p.ba s.held),v))) t) t;let q:=aj (eqI p.fo en) r t;
 let o:=eqI p.ph 2;let n:=aj w r t;let m:=ag (sm_ s (ro_ [0,7,19,5,18,1,24,4]));let l:=ns_ s (some (.bool w,m));let k:=eqI p.ph 3;let j:=ns_ s (some (u,m));let i:=aj x t (aj o (aj o t j) (aj k t j));let h:=aj y r t;let g:=ns_ s (some (.bool y,m));let f:=aj z i i;
 (aj (leI ru en) (aj (leI ep p.ep) (aj z (aj y (aj x (aj w q t) (aj o (aj o n l) (aj k n l))) i) (aj x (aj y q t) (aj o (aj o h g) (aj k h g)))) f) f)):=by kernel_rfl
def okS(s:StaM):StaM:={ s with off:=false,dk:=okD s.dk }
def aiH(C0 C1 C2 C3 C4 C5 C6:List Value->List Blk->Bool)(e ru r i1 i2:Int)(s s1 s2:StaM)(w:WalM)(l:List CmM):Ct:=
 (ak P aB 0 74 (aP C1 (.leaf (yM (0,0),[]))) (ak P aB 2 77 (aP C2 (.leaf (.int .i64 ru,rnB s.rn)))
 (ak P aB 7 76 (aP C3 (.leaf (.bool true,stB s))) (dX P 38 0 Da1 (gX C4 (.leaf (.normal,a1V l l 0 i1,stB s1))) (ak P aB 2 80 (aP C5 (.leaf (.int .i64 r,iO w))) (dX P 38 2 Da2 (gX C6 (.leaf (.normal,a2V l i2,stB s2))) ctF))))))
theorem QT(C0 C1 C2 C3 C4 C5 C6:List Value->List Blk->Bool)(e ru r i1 i2:Int)(s s1 s2:StaM)(w:WalM)(l:List CmM):aN P E (aiH C0 C1 C2 C3 C4 C5 C6 e ru r i1 i2 (okS s) s1 s2 w l) 50 aB [] [] 7 38 [p0,aQ l] (stB (okS s)) =
 (let z:=okS s;let y:=z.log.length;let x:=ah y;let v:=io_ 0;let u:=io_ x;let t:=l.length;let q:=Enc.all ECm l;let p:=fa_ t 0 q;let o:=bz (sl_ 12 y) (sl_ 12 y);let n:=bz u u;let m:=ah t;let k:=dJ .i64 m 1;let j:=Bool.and (Nat.beq 3 3) (inI k t);let i:=Nat.add (atN k 3) 0;let h:=Eta.int .i64;
 let g:=Bool.and (Nat.ble (Nat.add i 1) q.length) (gm h (aV q i));let f:=z.rs.length;let d:=Enc.all gI z.rs;let c:=pt_ 0;let b:=rb_ z 1 7;let a:=dk_ z.dk 2 3 4 5 6;let Z:=bQ 0 [3,1,56,57,58,59,60,55];let Y:=Enc.all ECm z.log;let X:=aT [3,1] 61;let W:=bk_ X w0_;let V:=z.rn.dk;
 let U:=z.wcs.length;let T:=Enc.all ECm z.wcs;let S:=z.wes.length;let R:=Enc.all EIn z.wes;let Q:=z.rn.rs.length;let O:=Enc.all gI z.rn.rs;let N:=aG true X O;let M:=z.rest.length;let L:=Enc.all ECm z.rest;let K:=pg_ z.pg;let J:=io_ (asI (aV q i));let I:=[c,K,io_ (bM .i64 x m),J,io_ ru];
 let H:=sb_ z z.pg 1 12 2 3 4;let G:=dk_ V 7 8 9 10 11;let F:=wb_ z 1 13 14;let D:=pt_ 1;let C:=Blk.cells [D, .bool z.rn.br,sl_ 15 Q] 168 true;let B:=so_ 5 3 16 M;let A:=tb_ 6;let z0:=ro_ [0,7,68,5,67,1,73,4];let y0:=io_ m;let x0:=bz y0 y0;let w0:=rg_ [0,7];let v0:=aT w0 77;let u0:=[c,p,v,p,y0,v];
 let t0:=s1.wcs.length;let s0:=aT w0 97;let r0:=Enc.all ECm s1.wcs;let q0:=aG true s0 r0;let o0:=s1.wes.length;let n0:=Enc.all EIn s1.wes;let m0:=aG true s0 n0;let l0:=bk_ s0 w0_;let k0:=s1.dk;let j0:=wb_ s1 1 7 8;let i0:=dk_ k0 2 3 4 5 6;let h0:=ro_ [2,1,1,1,109,5,107,2];let g0:=neI r 0;
 let f0:=s1.log.length;let e0:=Enc.all ECm s1.log;let d0:=aG true s0 e0;let c0:=aT [2,1] 114;let b0:=bk_ c0 w0_;let a0:=w.dk;let Z0:=w.cs.length;let Y0:=Enc.all ECm w.cs;let X0:=aG true c0 Y0;let W0:=w.es.length;let V0:=Enc.all EIn w.es;let U0:=aG true c0 V0;let T0:=s1.rs.length;
 let S0:=Enc.all gI s1.rs;let R0:=aG true s0 S0;let Q0:=s1.rest.length;let P0:=Enc.all ECm s1.rest;let O0:=aG true s0 P0;let N0:=io_ r;let M0:=s1.pg;let L0:=io_ M0.ep;let K0:=Value.int .u8 M0.ro;let J0:=io_ M0.ac;let I0:=Value.int .u8 M0.ph;let H0:=io_ M0.fo;let G0:=io_ M0.ba;let F0:=sl_ 12 f0;
 let E0:=io_ s1.held;let D0:=Blk.cells [D, .bool true,L0,K0,J0,I0,H0,G0,F0,pt_ 2,pt_ 3,pt_ 4,E0] 128 true;let B0:=dk_ a0 7 8 9 10 11;let A0:=Blk.cells [D, .bool w.br,sl_ 13 Z0,sl_ 14 W0] 170 true;let z1:=rb_ s1 1 15;let y1:=so_ 5 3 16 Q0;let x1:=ro_ [0,7,122,5,121,1,127,4];let w1:=B0::A0::z1::y1::A::Blk.map (aF true x1 (aF true s0 s1.tb.es)) s1.tb.ck::dl_ (cz_ x1 b0) a0 [lb_ x1 f0 3 d0 47,lb_ x1 Z0 3 X0 47,lb_ x1 W0 1 U0 3,lb_ x1 T0 3 R0 161,lb_ x1 Q0 3 O0 47];
 let v1:=[c,v,p,y0,v];let u1:=aT w0 131;let t1:=nw_ s2 u1 (some (v,ag (sw_ s2 (ro_ [0,7,142,5,141,1,147,4]) u1)));let r1:=Blk.cells [D, .bool (eqI r 6),L0,K0,J0,I0,H0,G0,F0,pt_ 2,pt_ 3,pt_ 4,E0] 128 true;let q1:=dJ .i64 x 1;let p1:=Nat.add 0 (atN q1 3);let o1:=aV Y p1;
 let n1:=bQ 0 [3,1,70,71,72,73,74,69];let m1:=aT [3,1] 75;let l1:=bk_ m1 w0_;let k1:=aG true m1 O;let j1:=ro_ [0,7,82,5,81,1,87,4];let h1:=aT w0 91;let g1:=aT w0 111;let f1:=aG true g1 r0;let e1:=aG true g1 n0;let d1:=bk_ g1 w0_;let c1:=ro_ [2,1,1,1,123,5,121,2];
 let b1:=aG true g1 e0;let a1:=aT [2,1] 128;let Z1:=bk_ a1 w0_;let Y1:=aG true a1 Y0;let X1:=aG true a1 V0;let W1:=aG true g1 S0;let V1:=aG true g1 P0;let U1:=ro_ [0,7,136,5,135,1,141,4];let T1:=B0::A0::z1::y1::A::Blk.map (aF true U1 (aF true g1 s1.tb.es)) s1.tb.ck::dl_ (cz_ U1 Z1) a0 [lb_ U1 f0 3 b1 47,lb_ U1 Z0 3 Y1 47,lb_ U1 W0 1 X1 3,lb_ U1 T0 3 W1 161,lb_ U1 Q0 3 V1 47];
 let S1:=aT w0 145;let R1:=nw_ s2 S1 (some (v,ag (sw_ s2 (ro_ [0,7,156,5,155,1,161,4]) S1)));
 (aj (eqI x 0) (ae (C1 [v,u,p] []) (ae o (ae n (aj (eqI m 0) (ns_ z (some (v,ag (sm_ z (ro_ [0,7,29,5,28,1,34,4]))))) (ae j (ae g (nb_ f 3 d (dn_ w0_ z.dk (ae (C2 [c] (b::a::dl_ (cz_ Z w0_) z.dk [lb_ Z f 3 d 161])) (nb_ y 3 Y (dn_ W V (nb_ U 3 T (nb_ S 1 R (nb_ Q 3 N (nb_ M 3 L (ae (C3 I (H::G::F::C::B::A:: .map (aF true z0 z.tb.es) z.tb.ck::dl_ (cz_ z0 W) V [lb_ z0 y 3 Y 47,lb_ z0 U 3 T 47,lb_ z0 S 1 R 3,lb_ z0 Q 3 N 161,lb_ z0 M 3 L 47])) (ae (bz K K) (ae o (ae n (ae x0 (ae x0 (ae g (ae (bz J J) (nw_ z v0 (ae (C4 u0 (sw_ z (ro_ [0,7,88,5,87,1,93,4]) v0)) (nb_ t0 3 q0 (nb_ o0 1 m0 (dn_ l0 k0 (ae (C5 [c] (j0::i0::dl_ (cz_ h0 l0) k0 [lb_ h0 t0 3 q0 47,lb_ h0 o0 1 m0 3])) (aj s1.off (aj g0 (nb_ f0 3 d0 (dn_ b0 a0 (nb_ Z0 3 X0 (nb_ W0 1 U0 (nb_ T0 3 R0 (nb_ Q0 3 O0 (some (N0,ag (D0::w1))))))))) (nb_ f0 3 d0 (dn_ b0 a0 (nb_ Z0 3 X0 (nb_ W0 1 U0 (nb_ T0 3 R0 (nb_ Q0 3 O0 (ae (C6 v1 (D0::w1)) t1)))))))) (aj g0 (nb_ f0 3 d0 (dn_ b0 a0 (nb_ Z0 3 X0 (nb_ W0 1 U0 (nb_ T0 3 R0 (nb_ Q0 3 O0 (some (N0,ag (r1::w1))))))))) (nb_ f0 3 d0 (dn_ b0 a0 (nb_ Z0 3 X0 (nb_ W0 1 U0 (nb_ T0 3 R0 (nb_ Q0 3 O0 (ae (C6 v1 (r1::w1)) t1)))))))))))))))))))))))))))))))))))))) (ae (inI q1 y) (ae (Bool.and (Nat.ble (Nat.add p1 1) Y.length) (gm h o1)) (ae (C1 [io_ (asI o1),u,p] []) (ae o (ae n (aj (eqI m 0) (ns_ z (some (v,ag (sm_ z (ro_ [0,7,43,5,42,1,48,4]))))) (ae j (ae g (nb_ f 3 d (dn_ w0_ z.dk (ae (C2 [c] (b::a::dl_ (cz_ n1 w0_) z.dk [lb_ n1 f 3 d 161])) (nb_ y 3 Y (dn_ l1 V (nb_ U 3 T (nb_ S 1 R (nb_ Q 3 k1 (nb_ M 3 L (ae (C3 I (H::G::F::C::B::A:: .map (aF true j1 z.tb.es) z.tb.ck::dl_ (cz_ j1 l1) V [lb_ j1 y 3 Y 47,lb_ j1 U 3 T 47,lb_ j1 S 1 R 3,lb_ j1 Q 3 k1 161,lb_ j1 M 3 L 47])) (ae (bz K K) (ae o (ae n (ae x0 (ae x0 (ae g (ae (bz J J) (nw_ z h1 (ae (C4 u0 (sw_ z (ro_ [0,7,102,5,101,1,107,4]) h1)) (nb_ t0 3 f1 (nb_ o0 1 e1 (dn_ d1 k0 (ae (C5 [c] (j0::i0::dl_ (cz_ c1 d1) k0 [lb_ c1 t0 3 f1 47,lb_ c1 o0 1 e1 3])) (aj s1.off (aj g0 (nb_ f0 3 b1 (dn_ Z1 a0 (nb_ Z0 3 Y1 (nb_ W0 1 X1 (nb_ T0 3 W1 (nb_ Q0 3 V1 (some (N0,ag (D0::T1))))))))) (nb_ f0 3 b1 (dn_ Z1 a0 (nb_ Z0 3 Y1 (nb_ W0 1 X1 (nb_ T0 3 W1 (nb_ Q0 3 V1 (ae (C6 v1 (D0::T1)) R1)))))))) (aj g0 (nb_ f0 3 b1 (dn_ Z1 a0 (nb_ Z0 3 Y1 (nb_ W0 1 X1 (nb_ T0 3 W1 (nb_ Q0 3 V1 (some (N0,ag (r1::T1))))))))) (nb_ f0 3 b1 (dn_ Z1 a0 (nb_ Z0 3 Y1 (nb_ W0 1 X1 (nb_ T0 3 W1 (nb_ Q0 3 V1 (ae (C6 v1 (r1::T1)) R1)))))))))))))))))))))))))))))))))))))))))):=by kernel_rfl
def pnd(f:Int)(cs:List (List UInt8)):List StM:=cs.map fun b=>⟨0,f,b,0⟩
theorem abR(f:Int)(a b:List (List UInt8)):pnd f (a++b)=pnd f a++pnd f b:=List.map_append
theorem J8(f:Int)(a:List (List UInt8)):(pnd f a).length=a.length:=n_ ..
theorem La{m:DkM}(hf:m.fused=false):jB m=some { m with steps:=m.steps+1 }:=by unfold jB; rw[hf]
theorem Ol(f:Int):∀ (k:Nat) (m:DkM) (b:List UInt8),b.length<=64*k->m.fused=false->∃ cs:List (List UInt8),cs.flatten=b/\cs.length<=k/\wrM k m f b=({ m with steps:=m.steps+(cs.length:Int),pend:=m.pend++pnd f cs },[],true)
 |0,m,b,hl,hf=>by
  obtain rfl:b=[]:=o6.1 (by omega);exact⟨[],rfl,dm _,by simp[wrM,pnd]⟩
 |k+1,m,b,hl,hf=>by
  cases b with
  |nil=>exact⟨[],rfl,ig _,by simp[wrM,pnd]⟩
  |cons x t=>
   have hb:jB m=some { m with steps:=m.steps+1 }:=by unfold jB; rw[hf]
   obtain⟨cs,h1,h2,h3⟩:=Ol f k { m with steps:=m.steps+1,pend:=m.pend++[stW f (x::t)] } ((x::t).drop 64) (by rw[gZ]; omega) hf;refine⟨(x::t).take 64::cs,by rw[List.flatten_cons,h1,sN],by simpa using h2,?_⟩;unfold wrM;rw[hb];simp only;rw[h3];have e:m.steps+1+(cs.length:Int)=m.steps+((cs.length+1:Nat):Int):=by omega
   simp only[jH,e,fG]
   rfl
theorem Hg{m:DkM}{f:Int}(b:List UInt8)(h0:m.off=false)(hf:m.fused=false)(h:0<=f/\f<4):∃ cs:List (List UInt8),cs.flatten=b/\cs.length<=o_ b.length/\writeM ⟨m,f,b⟩=(0,{ m with steps:=m.steps+(cs.length:Int),pend:=m.pend++pnd f cs }):=by
 obtain⟨cs,h1,h2,h3⟩:=Ol f (o_ b.length) m b (by unfold o_; omega) hf;refine⟨cs,h1,h2,?_⟩;have e:wrW (WcS.w ⟨m,f,b⟩)=({ m with steps:=m.steps+(cs.length:Int),pend:=m.pend++pnd f cs },[],true):=h3;have g1:geI f 0=true:=hT_ h.1;have g2:ltI f 4=true:=lT_ h.2;unfold writeM;simp only[h0,g1,g2,e]
theorem f4{f:Int}(h:0<=f/\f<4):f=0\/f=1\/f=2\/f=3:=by omega
theorem KO{m:DkM}{f:Int}{d:List UInt8}:fD (setF m f d) f=d:=by
 unfold fD setF;cases eqI f 0<;>cases eqI f 1<;>cases eqI f 2<;>rfl
theorem V6{m:DkM}{f:Int}{d e:List UInt8}:setF (setF m f d) f e=setF m f e:=by
 unfold setF;cases eqI f 0<;>cases eqI f 1<;>cases eqI f 2<;>rfl
theorem Xd{m:DkM}{f:Int}:setF m f (fD m f)=m:=by
 unfold fD setF;cases eqI f 0<;>cases eqI f 1<;>cases eqI f 2<;>rfl
theorem Xu{f:Int}(h:0<=f/\f<4):∀ (cs:List (List UInt8)) (m:DkM),(fD m f).length+cs.flatten.length<=4194304->rf m (pnd f cs)
 |[],_,_=>trivial
 |c::cs,m,hl=>by
  rw[List.flatten_cons,bP]at hl;refine⟨⟨h,⟨Int.le_refl 0,?_⟩,?_⟩,Xu h cs _ ?_⟩
  ·intro h1; cases h1
  ·show(fD m f).length+c.length<=_; omega
  ·have e:fD (eY m ⟨0,f,c,0⟩) f=fD m f++c:=KO;rw[e,bP]; omega
theorem Sl{f:Int}:∀ (cs:List (List UInt8)) (m:DkM),mP m (pnd f cs)=setF m f (fD m f++cs.flatten)
 |[],m=>by rw[List.flatten_nil,gG,Xd]; rfl
 |c::cs,m=>by
  have e:fD (eY m ⟨0,f,c,0⟩) f=fD m f++c:=KO;have ih:=Sl (f:=f) cs (eY m ⟨0,f,c,0⟩);rw[e]at ih;show mP (eY m ⟨0,f,c,0⟩) (pnd f cs)=_;rw[ih,List.flatten_cons,fG];exact V6
theorem xI{m:DkM}{f s:Int}{p:List StM}:fD { m with steps:=s,pend:=p } f=fD m f:=by
 unfold fD;cases eqI f 0<;>cases eqI f 1<;>cases eqI f 2<;>rfl
theorem Kt{m:DkM}{f s:Int}{p q:List StM}{d:List UInt8}:{ setF { m with steps:=s,pend:=p } f d with pend:=q }={ setF m f d with steps:=s,pend:=q }:=by
 unfold setF;cases eqI f 0<;>cases eqI f 1<;>cases eqI f 2<;>rfl
theorem KI{m:DkM}{f:Int}{cs:List (List UInt8)}(h0:m.off=false)(hf:m.fused=false)(h:0<=f/\f<4)(hp:m.pend=pnd f cs) :
  lV m=(0,{ setF m f (fD m f++cs.flatten)with steps:=m.steps+1,pend:=[] }):=by
 have hb:jB m=some { m with steps:=m.steps+1 }:=by unfold jB; rw[hf]
 unfold lV;rw[h0,hb];simp only;unfold pJ;simp only;rw[rC,qc,hp,Sl];have e:fD { m with steps:=m.steps+1,pend:=pnd f cs } f=fD m f:=xI;rw[e];have:=Kt (m:=m) (f:=f) (s:=m.steps+1) (p:=pnd f cs) (q:=[]) (d:=fD m f++cs.flatten);exact congrArg (Prod.mk 0) this
theorem QK{m:DkM}{f:Int}{cs:List (List UInt8)}(hf:m.fused=false)(h:0<=f/\f<4)(hp:m.pend=pnd f cs)(ho:DkOk m)(hl:(fD m f).length+cs.flatten.length<=4194304):kSy.ok m:=by
 refine⟨ho,fun m' hm=>?_⟩;rw[La hf]at hm;obtain rfl:=aC hm;show rf { m with steps:=m.steps+1 } m.pend;rw[hp];refine Xu h cs _ ?_;have e:fD { m with steps:=m.steps+1,pend:=pnd f cs } f=fD m f:=xI;rw[e]; exact hl
theorem Lt{m:DkM}{f:Int}(hp:m.pend=[]):qX m f=fD m f:=by unfold qX uS; rw[hp]; rfl
theorem Z7{m:DkM}{f l:Int}(h0:m.off=false)(hf:m.fused=false)(hp:m.pend=[])(hl:0<=l/\l<=(fD m f).length) :
  BR m f l=(0,{ m with steps:=m.steps+1,pend:=[⟨1,f,[],l⟩] }):=by
 have hb:jB m=some { m with steps:=m.steps+1 }:=by unfold jB; rw[hf]
 have g1:ltI l 0=false:=lF_ (by omega);have g2:gtI l (ah (qX m f).length)=false:=by rw[Lt hp]; unfold gtI ah; exact iW (by omega)
 unfold BR;simp only[h0,g1,g2,hb,hp,iY]
theorem U_{m:DkM}{f l:Int}(h0:m.off=false)(hf:m.fused=false)(hp:m.pend=[⟨1,f,[],l⟩]) :
  lV m=(0,{ setF m f ((fD m f).take l.toNat)with steps:=m.steps+1,pend:=[] }):=by
 have hb:jB m=some { m with steps:=m.steps+1 }:=by unfold jB; rw[hf]
 unfold lV;rw[h0,hb];simp only;unfold pJ;simp only;rw[rC,qc,hp];have e:fD { m with steps:=m.steps+1,pend:=[⟨1,f,[],l⟩] } f=fD m f:=xI;have e2:mP { m with steps:=m.steps+1,pend:=[⟨1,f,[],l⟩] } [⟨1,f,[],l⟩]=setF { m with steps:=m.steps+1,pend:=[⟨1,f,[],l⟩] } f ((fD m f).take l.toNat):=by
  show setF _ f (jF (fD _ f) _)=_;rw[e]
  rfl
 rw[e2];have:=Kt (m:=m) (f:=f) (s:=m.steps+1) (p:=[⟨1,f,[],l⟩]) (q:=[]) (d:=(fD m f).take l.toNat);exact congrArg (Prod.mk 0) this
theorem adG{m:DkM}{f l:Int}(hf:m.fused=false)(h:0<=f/\f<4)(hp:m.pend=[⟨1,f,[],l⟩])(ho:DkOk m)(hl:0<=l/\l<=(fD m f).length)(hs:(fD m f).length<=4194304):kSy.ok m:=by
 refine⟨ho,fun m' hm=>?_⟩;rw[La hf]at hm;obtain rfl:=aC hm;show rf { m with steps:=m.steps+1 } m.pend;have e:fD { m with steps:=m.steps+1,pend:=[⟨1,f,[],l⟩] } f=fD m f:=xI;rw[hp];refine⟨⟨h,⟨hl.1,fun _ _=>?_⟩,?_⟩,trivial⟩
 ·show l.toNat<=(fD _ f).length;rw[e]; omega
 ·show(fD _ f).length+0<=_;rw[e]; omega
def frC(c:CmM):List UInt8:=frM (bF c)
def b_(l:List CmM):List UInt8:=l.flatMap frC
theorem vw(a b:List CmM):b_ (a++b)=b_ a++b_ b:=DU
theorem Ov(c:CmM):b_ [c]=frC c:=by simp[b_]
theorem EM{c:CmM}(h:cmE c=0):(frC c).length<=1035:=by
 have hl:=kX h;unfold frC frM;rw[bP];have:=aK (n:=(bF c).length);omega
theorem sW:∀ (l:List CmM),(∀ c∈l,cmE c=0)->(b_ l).length<=1035*l.length
 |[],_=>dm _
 |c::l,h=>by
  have h1:=EM (h c (qQ ..));have h2:=sW l fun x hx=>h x (ni _ hx);have e:b_ (c::l)=frC c++b_ l:=rfl;rw[e,bP,jH];omega
def f_(l:List CmM):List Int:=(List.range l.length).map fun i=>((b_ (l.take (i+1))).length:Int)
theorem vY(l:List CmM):(f_ l).length=l.length:=by unfold f_; simp
theorem KZ(l:List CmM)(c:CmM):f_ (l++[c])=f_ l++[((b_ (l++[c])).length:Int)]:=by
 unfold f_;rw[bP,BD,List.range_succ,List.map_append,List.map_singleton];congr 1
 ·refine BX fun i hi=>?_;have:i<l.length:=List.mem_range.1 hi;rw[IW (by omega)]
 ·rw[oC (by simp)]
theorem VQ(l:List Int)(x:Int):oz (l++[x])=x:=by unfold oz; simp
theorem BJ(l:List CmM):oz (f_ l)=((b_ l).length:Int):=by
 rcases List.eq_nil_or_concat l with rfl | ⟨t,c,rfl⟩
 ·rfl
 ·rw[List.concat_eq_append,KZ,VQ]
theorem U9(l:List CmM)(k:Nat):(f_ l).take k=f_ (l.take k):=by
 unfold f_;rw[<-List.map_take,List.take_range,fH];refine BX fun i hi=>?_;have:i<min k l.length:=List.mem_range.1 hi;rw[zh,Nat.min_eq_left (by omega)]
theorem uf(l:List CmM)(c:CmM):aY (l++[c])=c.e:=by unfold aY; simp
theorem mM{e n:Int}{i:Nat}{c:CmM}{l:List CmM}(h:fA e n i (c::l)=(0,0)):cmE c=0/\c.n-1=n/\e<=c.e/\fA c.e c.n (i+1) l=(0,0):=by
 unfold fA at h;cases h1:eqI (cmE c) 0 with
 |false=>
  rw[h1]at h;have:cmE c=0:=congrArg Prod.fst h;rw[this]at h1;cases h1
 |true=>
  rw[h1]at h;cases h2:neI (c.n-1) n || ltI c.e e with
  |true=>rw[h2]at h; cases congrArg Prod.fst h
  |false=>
   rw[h2]at h;rw[Eo]at h2;refine⟨by simpa [eqI]using h1,by simpa [neI]using h2.1,by simpa [ltI]using h2.2,h⟩
theorem yQ{e n:Int}{i:Nat}{c:CmM}{l:List CmM}(h:cmE c=0/\c.n-1=n/\e<=c.e/\fA c.e c.n (i+1) l=(0,0)):fA e n i (c::l)=(0,0):=by
 obtain⟨h1,h2,h3,h4⟩:=h;have e1:eqI (cmE c) 0=true:=by rw[h1]; rfl
 have e2:(neI (c.n-1) n || ltI c.e e)=false:=by
  rw[Eo];exact⟨by unfold neI; simp[h2],lF_ (by omega)⟩
 unfold fA;rw[e1,e2];exact h4
theorem Ik:∀ {l:List CmM} {e n:Int} {i:Nat} (j:Nat),fA e n i l=(0,0)->fA e n j l=(0,0)
 |[],_,_,_,_,_=>rfl
 |c::l,e,n,i,j,h=>by
  obtain⟨h1,h2,h3,h4⟩:=mM h;exact yQ ⟨h1,h2,h3,Ik (j+1) h4⟩
/-- Behind a list that stands,what follows it. -/
structure Fol(L l:List CmM):Prop where
 f:fA (aY L) (L.length:Int) 0 l=(0,0)
theorem Fol.cons{L l:List CmM}{c:CmM}(h:Fol L (c::l)):cmE c=0/\c.n-1=(L.length:Int)/\aY L<=c.e/\Fol (L++[c]) l:=by
 obtain⟨h1,h2,h3,h4⟩:=mM h.f;refine⟨h1,h2,h3,⟨?_⟩⟩;have e:((L++[c]).length:Int)=c.n:=by simp; omega
 rw[uf,e];exact Ik 0 h4
theorem Fol.one{L l:List CmM}{c:CmM}(h:Fol L (c::l)):fA (aY L) (L.length:Int) 0 [c]=(0,0):=by
 obtain⟨h1,h2,h3,_⟩:=mM h.f;exact yQ ⟨h1,h2,h3,rfl⟩
theorem Fol.all{L l:List CmM}(h:Fol L l):∀ c∈l,cmE c=0:=by
 induction l generalizing L with
 |nil=>intro c hc; cases hc
 |cons c l ih=>
  obtain⟨h1,_,_,h4⟩:=h.cons;intro x hx;rcases jY.1 hx with rfl | hx
  ·exact h1
  ·exact ih h4 x hx
def kV(d:DkM)(cs:List (List UInt8))(l:List CmM):WalM:=⟨{ d with steps:=d.steps+(cs.length:Int),pend:=pnd 0 cs },false,l,f_ l⟩
theorem ahC{d:DkM}{cs:List (List UInt8)}{L l:List CmM}{c:CmM}(h0:d.off=false)(hf:d.fused=false)(h:Fol L (c::l))(hu:0<=d.fuse/\d.fuse<9223372036854775808)
  (hs:0<=d.steps/\d.steps+cs.length+20<4611686018427387904) (hc:cs.length+20<4194304) (hL:L.length<4194300) (hb:(b_ L).length<4611686018427387904) :
  ∃ cs',cs'.flatten=cs.flatten++frC c/\cs'.length<=cs.length+17/\CRX P 2 79 [p0,cmV c] (iO (kV d cs L)) (.int .i64 0) (iO (kV d cs' (L++[c]))):=by
 obtain⟨h1,h2,h3,_⟩:=h.cons;obtain⟨c1,k1,k2,k3⟩:=Hg (m:=(kV d cs L).dk) (f:=0) (frC c) h0 hf (by omega);have hfl:=EM h1;refine⟨cs++c1,by rw[List.flatten_append,k1],by rw[bP]; unfold o_ at k2; omega,?_⟩;have hd:qA (kV d cs L).dk 20:=by
  refine⟨by show 0<=d.steps+(cs.length:Int); omega,by show d.steps+(cs.length:Int)+((20:Nat):Int)<_; omega,hu.1,hu.2,by show(pnd 0 cs).length+20<_; rw[J8]; exact hc⟩
 have hq:=ad8 (w:=kV d cs L) (c:=c) h0 rfl h1 h.one hd hL (by show(f_ L).length<_; rw[vY]; exact hL) (by show 0<=oz (f_ L)/\oz (f_ L)<_; rw[BJ]; omega);have e:O3 (kV d cs L) c=(0,kV d (cs++c1) (L++[c])):=by
  have k3':writeM ⟨(kV d cs L).dk,0,frM (bF c)⟩=_:=k3;unfold O3;rw[k3'];have e1:oz (f_ L)+((frC c).length:Int)=((b_ (L++[c])).length:Int):=by rw[BJ,vw,Ov,bP]; omega
  have e2:(d.steps+(cs.length:Int))+(c1.length:Int)=d.steps+((cs++c1).length:Int):=by rw[bP]; omega
  have e3:(kV d cs L).es++[oz (kV d cs L).es+((frM (bF c)).length:Int)]=f_ (L++[c]):=by
   rw[KZ,<-e1]; rfl
  simp only[show eqI 0 0=true from rfl,e3];show((0:Int),(⟨{ d with steps:=(d.steps+(cs.length:Int))+(c1.length:Int),pend:=pnd 0 cs++pnd 0 c1 },false,L++[c],f_ (L++[c])⟩:WalM))=_;rw[e2,<-abR]
  rfl
 rw[e]at hq;exact hq
def BI(d:DkM)(k:Nat)(b:List UInt8)(l:List CmM):WalM:=⟨{ d with steps:=d.steps+(k:Int)+1,d0:=d.d0++b,pend:=[] },false,l,f_ l⟩
theorem ahK{d:DkM}{cs:List (List UInt8)}{L:List CmM}(h0:d.off=false)(hf:d.fused=false)(hu:0<=d.fuse/\d.fuse<9223372036854775808)
  (hs:0<=d.steps/\d.steps+cs.length+20<4611686018427387904) (hc:cs.length<4194304) (hb:d.d0.length+cs.flatten.length<=4194304) :
  CRX P 2 80 [p0] (iO (kV d cs L)) (.int .i64 0) (iO (BI d cs.length cs.flatten L)):=by
 have hk:kSy.ok (kV d cs L).dk:=QK (f:=0) (cs:=cs) hf (by omega) rfl ⟨by show 0<=d.steps+_; omega,by show d.steps+_<_; omega,hu.1,hu.2,by show(pnd 0 cs).length<_; rw[J8]; exact hc⟩ hb;have q:=Rf (w:=kV d cs L) h0 rfl hk;have e:Gv (kV d cs L)=(0,BI d cs.length cs.flatten L):=by
  unfold Gv;rw[KI (m:=(kV d cs L).dk) (f:=0) (cs:=cs) h0 hf (by omega) rfl]
  rfl
 rw[e]at q;exact q
/-- What the log's disk may be. -/
structure DkC(d:DkM)(k:Nat):Prop where
 off:d.off=false
 fused:d.fused=false
 fuse:0<=d.fuse/\d.fuse<9223372036854775808
 steps:0<=d.steps/\d.steps+k<4611686018427387904
theorem Ey(l:List CmM)(n:Nat):takeC (Nat.mul n 3) (aO 0 (ECm.all l))=ECm.all (l.take n):=ECm.all_take n l
theorem JP(l:List Int)(n:Nat):takeC (Nat.mul n 1) (aO 0 (EIn.all l))=EIn.all (l.take n):=EIn.all_take n l
theorem Rw(l:List Int)(n:Nat):takeC n (aO 0 (EIn.all l))=EIn.all (l.take n):=by
 have h:=JP l n;rw[show Nat.mul n 1=n from uQ n]at h;exact h
theorem Xc(l:List Int):(EIn.all l).length=l.length:=by rw[EIn.all_length]; exact uQ _
theorem t_{n k:Nat}(h:n<=k):dS 0 (n:Int) k=true:=by unfold dS; exact eU (by omega)
theorem ab6{d:DkM}{cs:List CmM}{n:Nat}(hd:DkC d 100000)(hp:d.pend=[])(hn:n<=cs.length)(hl:cs.length<4000)(h0:d.d0=b_ cs)(h1:(b_ cs).length<=3000000) :
  CRX P 2 209 [p0, .int .i64 (n:Int)] (iO ⟨d,false,cs,f_ cs⟩) (.int .i64 0) (iO ⟨{ d with steps:=d.steps+1,pend:=[⟨1,0,[],((b_ (cs.take n)).length:Int)⟩] },false,cs.take n,f_ (cs.take n)⟩):=by
 have hst:=hd.steps;have hle:(b_ (cs.take n)).length<=(b_ cs).length:=by
  have e:b_ cs=b_ (cs.take n)++b_ (cs.drop n):=by rw[<-vw,sN]
  rw[e,bP]; omega
 have q1:CRX P 1 175 [p0, .int .i64 0, .int .i64 ((b_ (cs.take n)).length:Int)] (a_ d) (.int .i64 (BR d 0 ((b_ (cs.take n)).length:Int)).1) (a_ (BR d 0 ((b_ (cs.take n)).length:Int)).2):=afE.at (s:=⟨d,0,((b_ (cs.take n)).length:Int)⟩) ⟨⟨by show 0<=(0:Int)/\(0:Int)<4; omega,by show d.d0.length<=_; rw[h0]; omega,by show d.pend.length<_; rw[hp]; decide,by show EJ 0 (fD d 0) d.pend; rw[hp]; trivial⟩,
  ⟨hst.1,by show d.steps<_; omega,hd.fuse.1,hd.fuse.2,by show d.pend.length<_; rw[hp]; decide⟩⟩ rfl
 rw[Z7 (m:=d) (f:=0) hd.off hd.fused hp ⟨by omega,by show _<=((d.d0.length:Nat):Int); rw[h0]; omega⟩]at q1;have q:=ae9 wz Dc (ay [p0, .int .i64 0, .int .i64 ((b_ (cs.take n)).length:Int)] (a_ d)) 0 d { d with steps:=d.steps+1,pend:=[⟨1,0,[],((b_ (cs.take n)).length:Int)⟩] } cs (f_ cs) n;rw[H9 hd.off]at q;refine co_ (af (iw aA YE) (az q1)) (q.trans ?_);clear q q1;have hoff:=hd.off;have g1:gtI ((n:Nat):Int) (ah cs.length)=false:=gF_ (by unfold ah; omega);have g1':ltI ((n:Nat):Int) 0=false:=lF_ (by omega);have g2:dS 0 ((n:Nat):Int) n=true:=t_ (dm n);have g3:dS 0 ((n:Nat):Int) cs.length=true:=t_ hn;have g4:Nat.div (Nat.sub (Nat.mul cs.length 3) 0) 3=cs.length:=by show(cs.length*3-0) / 3=_; omega
 have g5:Nat.div (Nat.sub cs.length 0) 1=cs.length:=by show(cs.length-0) / 1=_; omega
 have g6:fC 0 ((n:Nat):Int)=n:=by unfold fC; omega
 have g7:Nat.ble (Nat.succ n) 18446744073709551616=true:=dG (by omega);have g8:Nat.beq n 18446744073709551616=false:=by
  cases h:Nat.beq n 18446744073709551616 with
  |false=>rfl
  |true=>have:=dF h; omega
 have g9:Nat.ble 18446744073709551616 n=false:=by
  cases h:Nat.ble 18446744073709551616 n with
  |false=>rfl
  |true=>have:=dR h; omega
 have b1:Nat.ble n n=true:=dG (dm n);have b2:Nat.ble n cs.length=true:=dG hn;have b3:Nat.ble (Nat.mul n 3) (Nat.mul cs.length 3)=true:=dG (xA 3 hn);have t1:(f_ cs).length=cs.length:=vY cs;have t2:(f_ cs).take n=f_ (cs.take n):=U9 cs n;have t3:(cs.take n).length=n:=by rw[fH]; omega
 have t4:(f_ (cs.take n)).length=n:=by rw[vY,t3]
 have k1:wz 18446744073709551617 n 0 (EIn.all (f_ (cs.take n)))=true:=by
  have:=S_ (l:=f_ (cs.take n)) (by rw[t4]; omega);rw[t4]at this; exact this
 have k2:Dc (EIn.all (f_ (cs.take n)))=((b_ (cs.take n)).length:Int):=by rw[Td,BJ]
 have z1:neI 0 0=false:=rfl;cases hz:Nat.ble 1 cs.length with
 |true=>
  simp (disch:=first|omega|(simp only[bU,bY,bZ,bT,bW,aH]<;>omega)|fail) only[bk_,cz_,dk_,dl_,dn_,io_,lb_,nb_,pt_,sl_,w0_,hoff,hz,g1,g1',g2,g3,g4,g5,g6,g7,g8,g9,b1,b2,b3,t1,t2,t3,t4,k1,k2,z1,Ot,Ey,JP,Rw,Xc,show Nat.ble 1 1=true from rfl,iO,lX,lsV,ptV,p0,a_,dkC,bD,aQ,cmV,fJ,dY,bC,zq,qi,Bq,xw,yT,yV,mZ,vI,um,Ac,uT,aZ,dE,dH,Enc.all_ren,nf_]
 |false=>
  have hcs:cs=[]:=by
   cases cs with
   |nil=>rfl
   |cons c l=>exfalso; rw[show Nat.ble 1 (c::l).length=true from dG (by simp)]at hz; cases hz
  subst hcs;have hn0:n=0:=by simpa using hn
  subst hn0;have k3:wz 18446744073709551617 0 0 []=true:=k1;have k4:Dc []=((b_ ([]:List CmM)).length:Int):=k2;have e1:([]:List CmM).length=0:=rfl;have e2:f_ []=[]:=rfl;have e3:(EIn.all ([]:List Int))=[]:=rfl;have e4:(ECm.all ([]:List CmM))=[]:=rfl;have e5:([]:List Int).length=0:=rfl;have e6:([]:List Value).length=0:=rfl;have e7:takeC 0 (aO 0 [])=[]:=rfl;have e8:List.take 0 ([]:List CmM)=[]:=rfl;rw[e1]at g1 g3 g4 g5 b2 b3 hz;simp (disch:=first|omega|(simp only[bU,bY,bZ,bT,bW,aH]<;>omega)|fail) only[bk_,cz_,dk_,dl_,dn_,io_,lb_,nb_,pt_,sl_,w0_,hoff,hz,g1,g1',g2,g3,g4,g5,g6,g7,g8,g9,b1,b2,b3,e1,e2,e3,e4,e5,e6,e7,e8,t3,k3,k4,z1,Ot,Ey,JP,Rw,Xc,show Nat.ble 1 1=true from rfl,iO,lX,lsV,ptV,p0,a_,dkC,bD,aQ,cmV,fJ,dY,bC,zq,qi,Bq,xw,yT,yV,mZ,vI,um,Ac,uT,aZ,dE,dH,Enc.all_ren,nf_]
  rfl
theorem YV{d:DkM}{cs:List CmM}{n:Nat}(hd:DkC d 100000)(h0:d.d0=b_ cs)(h1:(b_ cs).length<=3000000) :
  CRX P 2 80 [p0] (iO ⟨{ d with steps:=d.steps+1,pend:=[⟨1,0,[],((b_ (cs.take n)).length:Int)⟩] },false,cs.take n,f_ (cs.take n)⟩) (.int .i64 0)
   (iO ⟨{ d with steps:=d.steps+1+1,d0:=b_ (cs.take n),pend:=[] },false,cs.take n,f_ (cs.take n)⟩):=by
 have hst:=hd.steps;have hle:(b_ (cs.take n)).length<=(b_ cs).length:=by
  have e:b_ cs=b_ (cs.take n)++b_ (cs.drop n):=by rw[<-vw,sN]
  rw[e,bP]; omega
 have ht:(b_ cs).take (b_ (cs.take n)).length=b_ (cs.take n):=by
  have e:b_ cs=b_ (cs.take n)++b_ (cs.drop n):=by rw[<-vw,sN]
  rw[e,AO rfl]
 have hg:fD { d with steps:=d.steps+1,pend:=[⟨1,0,[],((b_ (cs.take n)).length:Int)⟩] } 0=b_ cs:=h0;have hk:kSy.ok { d with steps:=d.steps+1,pend:=[⟨1,0,[],((b_ (cs.take n)).length:Int)⟩] }:=adG (f:=0) (l:=((b_ (cs.take n)).length:Int)) hd.fused (by omega) rfl
  ⟨by show 0<=d.steps+1; omega,by show d.steps+1<_; omega,hd.fuse.1,hd.fuse.2,by show 1<4194304; decide⟩ (by rw[hg]; omega) (by rw[hg]; omega)
 have q:=Rf (w:=⟨{ d with steps:=d.steps+1,pend:=[⟨1,0,[],((b_ (cs.take n)).length:Int)⟩] },false,cs.take n,f_ (cs.take n)⟩) hd.off rfl hk;have e:Gv ⟨{ d with steps:=d.steps+1,pend:=[⟨1,0,[],((b_ (cs.take n)).length:Int)⟩] },false,cs.take n,f_ (cs.take n)⟩=(0,⟨{ d with steps:=d.steps+1+1,d0:=b_ (cs.take n),pend:=[] },false,cs.take n,f_ (cs.take n)⟩):=by
  unfold Gv;rw[U_ (m:={ d with steps:=d.steps+1,pend:=[⟨1,0,[],((b_ (cs.take n)).length:Int)⟩] }) (f:=0) (l:=((b_ (cs.take n)).length:Int)) hd.off hd.fused rfl,hg];simp only[uy,ht]
  rfl
 rw[e]at q;exact q
def kD(held:Int)(p:PgM)(en ep ru:Int):Bool:=
 leI ru en&&leI ep p.ep&&leI p.ac en&&(bif eqI p.ro 3 then ltI ep p.ep else true)&&
 (bif eqI p.ph 4 then eqI p.fo en else true)&&(bif eqI p.ph 4 || (eqI p.ph 2 || eqI p.ph 3)then leI ru p.fo&&leI p.fo en&&leI p.ba held else true)
theorem Ku{s:StaM}(ht:fZ s.tb){p:PgM}{en ep ru:Int}:CRX P 7 76 [p0,pgV p, .int .i64 en, .int .i64 ep, .int .i64 ru] (stB s) (.bool (kD s.held p en ep ru)) (stB s):=by
 obtain⟨S,hS⟩:∃ S,S=ag (stB s):=⟨_,rfl⟩
 refine co_ aA ((aeS s p en ep ru).trans ?_);rw[<-hS];unfold stB pgC at hS;simp only[mz_,uf_]at hS;simp only[mz_,ht.ren,pgC,uf_,aZ rfl,dE rfl,dH rfl,bf rfl,nf_];rw[<-hS];clear hS;unfold kD;generalize eqI p.ro 3=a1;generalize leI p.ac en=a2;generalize eqI p.ph 4=a3;generalize ltI ep p.ep=a4;generalize eqI p.fo en=a5;generalize leI ru p.fo=a6;generalize leI p.fo en=a7;generalize leI p.ba s.held=a8;generalize eqI p.ph 2=a9;generalize eqI p.ph 3=b1;generalize leI ru en=b2;generalize leI ep p.ep=b3;cases b2<;>cases b3<;>cases a2<;>cases a1<;>cases a4<;>cases a3<;>cases a5<;>first | rfl | (cases a9<;>cases b1<;>cases a6<;>cases a7<;>rfl)
theorem MR(l:List CmM){i:Nat}(h:i<l.length):b_ (l.drop i)=frC l[i]++b_ (l.drop (i+1)):=by rw[lu h]; rfl
theorem fF{N:Nat}{g:FuncId}{r:DT (Value×List Blk)}:CallOkX P N g (aP (fun _ _=>false) r):=by
 refine⟨fun args bs t hR v' bs' hev=>?_⟩;unfold aP at hR;obtain rfl:=aC hR;cases hev
theorem MX{s:StaM}(hs:s.off=false)(ht:fZ s.tb){l' l:List CmM}(hl:l.length<=1000){d:DkM}(hd:DkC d 100000):∀ (k i:Nat) (cs:List (List UInt8)) (L:List CmM),i+k=l.length->Fol L (l.drop i)->cs.length<=17*i->(L.length+k<4194300)->((b_ L).length+1035*k<4611686018427387904)->
  ∃ cs',cs'.flatten=cs.flatten++b_ (l.drop i)/\cs'.length<=17*l.length/\LRX P 38 0 Ba1 Da1.head (a1V l' l 0 i) (stB (s.setW (kV d cs L))) .normal (a1V l' l 0 l.length) (stB (s.setW (kV d cs' (L++l.drop i))))
 |0,i,cs,L,h1,h2,h3,h4,h5=>by
  obtain rfl:i=l.length:=by omega
  refine⟨cs,?_⟩;rw[qc];refine⟨by simp[b_],h3,?_⟩;rw[gG];exact ls_ (af aA (fF (r:= .leaf (.int .i64 0,iO (kV d cs L))))) SK (e:= .exit 0) (agM (s:=s.setW (kV d cs L)) (w:=kV d cs L) (r:=0) (C:=fun _ _=>false) ht) (by intro h; cases h)
 |k+1,i,cs,L,h1,h2,h3,h4,h5=>by
  have hi:i<l.length:=by omega
  rw[lu hi]at h2;obtain⟨g1,_,_,g4⟩:=h2.cons;have hst:=hd.steps;obtain⟨c1,k1,k2,k3⟩:=ahC (cs:=cs) (L:=L) hd.off hd.fused h2 hd.fuse (by omega) (by omega) (by omega) (by omega);have hf:=EM g1;obtain⟨c2,m1,m2,m3⟩:=MX hs ht hl hd k (i+1) c1 (L++[l[i]]) (by omega) g4 (by omega) (by rw[bP,BD]; omega) (by rw[vw,Ov,bP]; omega);refine⟨c2,?_⟩;rw[MR l hi,m1,k1,fG,lu hi];refine⟨rfl,m2,?_⟩;rw[fG]at m3;exact la_ (af aA (az k3)) SK (aas (s:=s.setW (kV d cs L)) hs ht hi (by omega) k3) m3
def StaM.plus(s:StaM)(c:CmM):StaM:={ s with log:=s.log++[c],tb:=tbM s.tb c.ops,rest:=s.rest++[c] }
def tbL(t:TbM)(l:List CmM):TbM:=l.foldl (fun t c=>tbM t c.ops) t
theorem Zy(s:StaM):∀ l:List CmM,l.foldl StaM.plus s={ s with log:=s.log++l,tb:=tbL s.tb l,rest:=s.rest++l }:=by
 intro l
 induction l generalizing s with
 |nil=>simp[tbL]
 |cons c l ih=>rw[Az,ih]; simp[StaM.plus,tbL]
theorem fZ.log{t:TbM}(h:fZ t)(l:List CmM):fZ (tbL t l):=by
 induction l generalizing t with
 |nil=>exact h
 |cons c l ih=>exact ih (h.all c.ops)
/-- The store goes with the log. -/
structure StR(s:StaM):Prop where
 tb:fZ s.tb
 n:(s.log.length:Int)=fP s.rs+s.rest.length
 e:s.rest=[]\/aY s.rest=aY s.log
 r:s.rs.length<4194304
 r0:0<=fP s.rs
theorem StR.plus{s:StaM}(h:StR s)(c:CmM):StR (s.plus c):=by
 obtain⟨h1,h2,h3,h4,h5⟩:=h;refine⟨h1.all c.ops,?_,Or.inr ?_,h4,h5⟩
 ·show((s.log++[c]).length:Int)=fP s.rs+((s.rest++[c]).length:Int);simp; omega
 ·show aY (s.rest++[c])=aY (s.log++[c]);rw[uf,uf]
theorem ahY{s:StaM}(h:StR s){c:CmM}{l:List CmM}(hf:Fol s.log (c::l))(hl:s.log.length<4194300):CRX P 5 82 [p0,cmV c] (srB s.sr) (.int .i64 0) (srB ⟨tbM s.tb c.ops,s.rn,s.rest++[c]⟩):=by
 obtain⟨h1,h2,h3,h4,h5⟩:=h;obtain⟨f1,f2,f3,_⟩:=hf.cons;have h3':s.rest=[]\/aY s.rest<=c.e:=by
  rcases h3 with h3 | h3
  ·exact Or.inl h3
  ·exact Or.inr (by omega)
 exact aho (s:=s.sr) h1 f1 (by show c.n-1=fP s.rs+(s.rest.length:Int); omega) h3' h4 (by show s.rest.length<_; omega) h5
theorem OH{l:List CmM}(hl:l.length<=1000):∀ (k i:Nat) (s:StaM),StR s->i+k=l.length->Fol s.log (l.drop i)->(s.log.length+k<4194300)->
  LRX P 38 2 Ba2 Da2.head (a2V l i) (stB s) .normal (a2V l l.length) (stB ((l.drop i).foldl StaM.plus s))
 |0,i,s,hs,h1,h2,h3=>by
  obtain rfl:i=l.length:=by omega
  rw[qc];exact ls_ (af (af aA (fF (r:= .leaf (.int .i64 0,srB s.sr)))) (fF (r:= .leaf (cmV ⟨0,0,[]⟩,[])))) RP (e:= .exit 2) (af2 (C1:=fun _ _=>false) (C2:=fun _ _=>false) (c:=⟨0,0,[]⟩) (sr:=s.sr) hs.tb) (by intro h; cases h)
 |k+1,i,s,hs,h1,h2,h3=>by
  have hi:i<l.length:=by omega
  rw[lu hi]at h2 ⊢;obtain⟨g1,_,_,g4⟩:=h2.cons;obtain⟨_,_,hb⟩:=fU.1 g1;obtain⟨b1,b2,b3⟩:=dM.1 hb;have q1:=tY (c:=l[i]) b1 (by omega);have q2:=ahY hs h2 (by omega);have ih:=OH hl k (i+1) (s.plus l[i]) (hs.plus _) (by omega) g4 (by show(s.log++[l[i]]).length+k<_; simp; omega);have q:=aab (s:=s) hs.tb hi (by omega) (by omega) (sr:=⟨tbM s.tb l[i].ops,s.rn,s.rest++[l[i]]⟩) (hs.tb.all _);exact la_ (af (af aA (az q2)) (az q1)) RP q ih
/-- A state on a disk without a fuse,all durable. -/
structure StQ(s:StaM)(k:Nat):Prop where
 off:s.off=false
 dk:DkC s.dk k
 pend:s.dk.pend=[]
 wbr:s.wbr=false
 wcs:s.wcs=s.log
 wes:s.wes=f_ s.log
 sr:StR s
 d0:s.dk.d0=b_ s.log
theorem AB{s:StaM}(h:s.off=false)(h2:s.dk.off=false):okS s=s:=by
 obtain⟨off,pg,log,held,dk,wbr,wcs,wes,rbr,rs,tb,rest⟩:=s;simp only at h h2;subst h;unfold okS;simp only[H9 h2]
theorem Zb{s:StaM}{k:Nat}(h:StQ s k):kV s.dk [] s.log=s.wal:=by
 obtain⟨⟨off,pg,log,held,⟨d1,d2,d3,d4,d5,d6,d7,d8,d9⟩,wbr,wcs,wes,rbr,rs,tb,rest⟩,h2⟩:∃ t,t=s:=⟨s,rfl⟩
 subst h2;obtain⟨h1,h2,h3,h4,h5,h6,h7,h8⟩:=h;simp only at h3 h4 h5 h6;subst h3 h4 h5 h6;unfold kV StaM.wal;simp[pnd]
theorem WO(s:StaM):s.setW s.wal=s:=rfl
def StaM.added(s:StaM)(k:Nat)(l:List CmM):StaM:={ s with log:=s.log++l,dk:={ s.dk with steps:=s.dk.steps+(k:Int)+1,d0:=s.dk.d0++b_ l,pend:=[] },wbr:=false,wcs:=s.log++l,wes:=f_ (s.log++l),tb:=tbL s.tb l,rest:=s.rest++l }
theorem oO(a b c d e f:Int):bz (.agg ⟨[.int .i64 a, .int .u8 b, .int .i64 c, .int .u8 d, .int .i64 e, .int .i64 f]⟩) (.agg ⟨[.int .i64 a, .int .u8 b, .int .i64 c, .int .u8 d, .int .i64 e, .int .i64 f]⟩)=true:=aan rfl
theorem nU{l:List CmM}(h:l≠[]):aY l=(l[l.length-1]'(by have:=kY.2 h; omega)).e:=by unfold aY; rw[last_at l h]; rfl
theorem YC{s:StaM}{l:List CmM}(hs:StQ s 100000)(hf:Fol s.log l)(hne:l≠[])(hl:l.length<=1000)(hg:s.log.length<4000)(hb2:(b_ s.log).length<=3000000)(hso:kD s.held s.pg ((s.log.length:Int)+(l.length:Int)) (aY l) (fP s.rs)=true) :
  ∃ k,k<=17*l.length/\CRX P 7 38 [p0,aQ l] (stB s) (.int .i64 0) (stB (s.added k l)):=by
 have hb:=sW l hf.all;obtain⟨cs,k1,k2,q4⟩:=MX (l':=l) hs.off hs.sr.tb hl hs.dk l.length 0 [] s.log (by omega) hf (ig _) (by omega) (by omega);rw[Zb hs,WO]at q4;have hst:=hs.dk.steps;have hfl:cs.flatten.length<=1035*l.length:=by rw[k1]; simpa using hb
 have q5:=ahK (d:=s.dk) (cs:=cs) (L:=s.log++l) hs.dk.off hs.dk.fused hs.dk.fuse (by omega) (by omega) (by have:=congrArg List.length hs.d0; omega);have hr2:StR (s.setW (BI s.dk cs.length cs.flatten (s.log++l))):=⟨hs.sr.tb,hs.sr.n,hs.sr.e,hs.sr.r,hs.sr.r0⟩
 have q6:=OH hl l.length 0 (s.setW (BI s.dk cs.length cs.flatten (s.log++l))) hr2 (by omega) hf (by show s.log.length+l.length<_; omega);have q1:=pq (e:=aY s.log) (n:=(s.log.length:Int)) (l:=l) (by omega) (by
  intro x hx;obtain⟨_,_,hb⟩:=fU.1 (hf.all x hx);obtain⟨b1,b2,b3⟩:=dM.1 hb
  omega)
 rw[hf.f]at q1;have q2:=AL (r:=s.rn) hs.sr.r;have q3:=Ku (s:=s) hs.sr.tb (p:=s.pg) (en:=(s.log.length:Int)+(l.length:Int)) (ep:=aY l) (ru:=fP s.rs);rw[hso]at q3;rw[iQ]at k1 q4 q6;rw[List.flatten_nil,iY]at k1;refine⟨cs.length,k2,?_⟩;have q:=QT (fun _ _=>false) (ay [.int .i64 (aY s.log), .int .i64 (s.log.length:Int),aQ l] []) (ay [p0] (rnB s.rn)) (ay [p0,pgV s.pg, .int .i64 ((s.log.length:Int)+(l.length:Int)), .int .i64 (aY l), .int .i64 (fP s.rs)] (stB s))
  (ay (a1V l l 0 (0:Nat)) (stB s)) (ay [p0] (iO (kV s.dk cs (s.log++l)))) (ay (a2V l (0:Nat)) (stB (s.setW (BI s.dk cs.length cs.flatten (s.log++l)))))
  0 (fP s.rs) 0 l.length l.length s (s.setW (kV s.dk cs (s.log++l))) (l.foldl StaM.plus (s.setW (BI s.dk cs.length cs.flatten (s.log++l)))) (BI s.dk cs.length cs.flatten (s.log++l)) l
 rw[AB hs.off hs.dk.off]at q;refine co_ (af (af (af (dB (af (dB aA (d_ (bJ MZ) q6)) (az q5)) (d_ (bJ NS) q4)) (az q3)) (az q2)) (az q1)) (q.trans ?_);clear q q1 q2 q3 q4 q5 q6;rw[Zy];have hoff:=hs.off;have hdo:=hs.dk.off;have ht:=hs.sr.tb.ren;have ht2:=(hs.sr.tb.log l).ren;have g0:eqI (ah l.length) 0=false:=(mJ hne (by omega)).1;obtain⟨_,_,l1,l2⟩:=mJ hne (by omega);have hp:=kY.2 hne;have l4:aV (ECm.all l) (Nat.add (atN ((l.length-1:Nat):Int) 3) 0) = .int .i64 (l[l.length-1]'(by have:=kY.2 hne; omega)).e:=jZ (l:=l) (i:=l.length-1) (by have:=kY.2 hne; omega);have l5:=qw (n:=l.length) (k:=1) hp (by decide);have l6:=nU hne;have e0:ah s.log.length=(s.log.length:Int):=rfl;have a1:bM .i64 (s.log.length:Int) (ah l.length)=(s.log.length:Int)+(l.length:Int):=by unfold bM ah; rw[wrap64 (by omega) (by omega)]
 have z0:((0:Nat):Int)=0:=rfl;have z1:neI 0 0=false:=rfl;have z2:eqI 0 6=false:=rfl;by_cases h0:s.log=[]
 ·have e1:aY s.log=0:=by rw[h0]; rfl
  have e2:(s.log.length:Int)=0:=by rw[h0]; rfl
  have e3:eqI (s.log.length:Int) 0=true:=by rw[e2]; rfl
  simp (disch:=first|omega|(simp only[bU,bY,bZ,bT,bW,aH]<;>omega)|fail) only[pg_,mz_,hoff,hdo,ht,ht2,g0,l1,l2,l4,l5,l6,e0,a1,e1,e3,k1,z0,z1,z2,StaM.added,zF,oO,a1V,a2V,pgV,iy,lW,StaM.wal,StaM.rn,StaM.setW,stB,pgC,BI,kV,uf_,aZ rfl,dE rfl,dH rfl,bf rfl,nf_]
 ·obtain⟨m0,_,m1,m2⟩:=mJ h0 (by omega);have mp:=kY.2 h0;have m4:=jZ (l:=s.log) (i:=s.log.length-1) (by omega);have m5:=qw (n:=s.log.length) (k:=1) mp (by decide);have m6:=nU h0;rw[e0]at m0 m1;simp (disch:=first|omega|(simp only[bU,bY,bZ,bT,bW,aH]<;>omega)|fail) only[pg_,mz_,hoff,hdo,ht,ht2,g0,l1,l2,l4,l5,l6,e0,a1,m0,m1,m2,m4,m5,m6,k1,z0,z1,z2,StaM.added,zF,oO,a1V,a2V,pgV,iy,lW,StaM.wal,StaM.rn,StaM.setW,stB,pgC,BI,kV,uf_,aZ rfl,dE rfl,dH rfl,bf rfl,nf_]
def Bso:Code:=(di P 152 0).getD .skip
theorem YD:di P 152 0=some Bso:=by kernel_rfl
theorem TL:Occ P 152 (.block 0 (.loop Bso)):=dN YD
def Z8(C1 C2:List Value->List Blk->Bool)(tb:TbM)(c:CmM):Ct:=ak P aB 0 81 (aP C1 (.leaf (cmV c,[]))) (ak P aB 2 20 (aP C2 (.leaf (.int .i64 0,tbB tb))) ctF)
def aiL:Pol:=fun t=>match Nat.beq t 128 with
 |true=>some [.val, .val, .val, .val, .val, .val, .val, .val, .keep, .val, .val, .val, .val]
 |false=>aB t
def Dlg:HeadX:=⟨7,24,[0,3,11,12,13],[.val, .own, .keep, .val, .val],[0,35,0,0,0],aiL⟩
def Blg:Code:=(di P 41 0).getD .skip
theorem WN:di P 41 0=some Blg:=by kernel_rfl
theorem QI:Occ P 41 (.block 0 (.loop Blg)):=dN WN
def lgV(o:List CmM)(n:Nat)(i:Int):List Value:=[p0,lsV 17 o.length,lsV 12 n, .int .i64 (ah n), .int .i64 i]
def lgB(s:StaM)(o:List CmM):List Blk:=stB s++[.cells (ECm.all o) 47 false]
def wL(C1:List Value->List Blk->Bool)(c:CmM):Ct:=ak P aB 0 81 (aP C1 (.leaf (cmV c,[]))) ctF
theorem Xo(C1:List Value->List Blk->Bool)(c:CmM)(s:StaM)(o:List CmM)(n:Nat)(i:Int):aU P E (wL C1 c) 50 41 Blg Dlg (lgV o n i) (lgB s o) =
 (let z:=Nat.add 0 (atN i 3);let y:=Enc.all ECm s.log;let x:=Eta.int .i64;let w:=Nat.add z 1;let v:=aV y (Nat.add w 1);let u:=o.length;let t:=Nat.add u 1;let r:=Enc.all ECm o;let q:=List.append (jC 0 r) [io_ c.e,io_ c.n,fa_ c.ops.length 0 (Enc.all EOp c.ops)];let p:=s.wcs.length;let m:=Enc.all ECm s.wcs;
 let l:=s.wes.length;let k:=Enc.all EIn s.wes;let j:=s.rs.length;let h:=Enc.all gI s.rs;let g:=s.rest.length;let f:=Enc.all ECm s.rest;let e:=io_ (ah n);let d:=sb_ s s.pg 1 12 2 3 4;let b:=dk_ s.dk 7 8 9 10 11;let a:=wb_ s 1 13 14;let Z:=rb_ s 1 15;let Y:=so_ 5 3 16 g;let X:=ro_ [0,7,22,5,12,1,27,4,21,1];
 let W:=ro_ [0,7,19,5,12,1,24,4,18,1];
 (aj (ltI i (ah n)) (ae (inI i n) (ae (Bool.and (Nat.ble (Nat.add z 3) y.length) (jg [x,x, .slice 3] y z)) (ae (C1 [.agg ⟨[io_ (asI (aV y z)),io_ (asI (aV y w)),fa_ (zN v) (zB v) (zC v)]⟩] []) (ae (Nat.ble t 4194304) (ae (Nat.beq (Nat.add 0 (Nat.mul u 3)) r.length) (nb_ t 3 q (dn_ w0_ s.dk (nb_ p 3 m (nb_ l 1 k (nb_ j 3 h (nb_ g 3 f (some (.tuple ⟨[io_ 0,pt_ 0,sl_ 17 t,sl_ 12 n,e,io_ (bM .i64 i 1)]⟩,ag (d::b::a::Z::Y::tb_ 6:: .map (aF true X s.tb.es) s.tb.ck::dl_ (cz_ X w0_) s.dk [.cells (aG true X y) 47 false,lb_ X p 3 m 47,lb_ X l 1 k 3,lb_ X j 3 h 161,lb_ X g 3 f 47,lb_ X t 3 q 47])))))))))))))) (nb_ u 3 r (dn_ w0_ s.dk (nb_ p 3 m (nb_ l 1 k (nb_ j 3 h (nb_ g 3 f (some (.tuple ⟨[io_ 1,pt_ 0,sl_ 17 u,sl_ 12 n,e,io_ i]⟩,ag (d::b::a::Z::Y::tb_ 6:: .map (aF true W s.tb.es) s.tb.ck::dl_ (cz_ W w0_) s.dk [.cells (aG true W y) 47 false,lb_ W p 3 m 47,lb_ W l 1 k 3,lb_ W j 3 h 161,lb_ W g 3 f 47,lb_ W u 3 r 47]))))))))))):=by kernel_rfl
def aiC(C:List Value->List Blk->Bool)(s:StaM)(l:List CmM):Ct:=dX P 41 0 Dlg (gX C (.leaf (.normal,lgV l l.length (ah l.length),lgB s l))) ctF
theorem afb(C:List Value->List Blk->Bool)(s:StaM):aN P E (aiC C s s.log) 50 aB [.val] [35] 7 41 [p0] (stB s) =
 (let z:=s.wcs.length;let y:=Enc.all ECm s.wcs;let x:=s.wes.length;let w:=Enc.all EIn s.wes;let v:=s.rs.length;let u:=Enc.all gI s.rs;let t:=s.rest.length;let r:=Enc.all ECm s.rest;let q:=s.log.length;let p:=ro_ [0,7,18,5,12,1,23,4,17,1];let o:=Enc.all ECm s.log;let n:=aT (rg_ [0,7]) 27;
 let m:=aG true n o;
 (dn_ w0_ s.dk (nb_ z 3 y (nb_ x 1 w (nb_ v 3 u (nb_ t 3 r (ae (C [pt_ 0,sl_ 17 0,sl_ 12 q,io_ (ah q),io_ 0] (sb_ s s.pg 1 12 2 3 4::dk_ s.dk 7 8 9 10 11::wb_ s 1 13 14::rb_ s 1 15::so_ 5 3 16 t::tb_ 6:: .map (aF true p s.tb.es) s.tb.ck::dl_ (cz_ p w0_) s.dk [.cells (aG true p o) 47 false,lb_ p z 3 y 47,lb_ p x 1 w 3,lb_ p v 3 u 161,lb_ p t 3 r 47, .cells [] 47 false])) (ae (fq_ q m 47) (nw_ s n (some (fa_ q 0 (takeC (Nat.mul q 3) (aO 0 m)),ag (sw_ s (ro_ [0,7,39,5,38,1,44,4]) n)))))))))))):=by kernel_rfl
def ahz(C1 C2 C3 C4 C5 C6:List Value->List Blk->Bool)(ru r1 r2:Int)(s:StaM)(x f:List UInt8)(d1 d2:DkM):Ct:=
 ak P aB 0 87 (aP C1 (.leaf (.tuple ⟨[ax 1 x.length 0 (bc x), .int .i64 0]⟩,[]))) (ak P aB 2 77 (aP C2 (.leaf (.int .i64 ru,rnB s.rn)))
 (ak P aB 7 76 (aP C3 (.leaf (.bool true,stB s))) (ak P aB 0 88 (aP C4 (.leaf (.tuple ⟨[ax 1 f.length 0 (bc f), .int .i64 0]⟩,[])))
 (ak P aB 1 89 (aP C5 (.leaf (.int .i64 r1,a_ d1))) (ak P aB 1 90 (aP C6 (.leaf (.int .i64 r2,a_ d2))) ctF)))))
theorem adh(C1 C2 C3 C4 C5 C6:List Value->List Blk->Bool)(ru:Int)(s:StaM)(x f:List UInt8)(d1 d2:DkM)(p:PgM):aN P E (ahz C1 C2 C3 C4 C5 C6 ru 0 0 (okS s) x f d1 d2) 50 aB [] [] 7 44 [p0,pgV p] (stB (okS s)) =
 (let z:=pg_ p;let y:=okS s;let w:=y.log.length;let v:=ah w;let u:=y.rs.length;let t:=Enc.all gI y.rs;let r:=y.dk;let q:=pt_ 0;let o:=rb_ y 1 7;let n:=dk_ r 2 3 4 5 6;let m:=bQ 0 [3,1,35,36,37,38,39,34];let l:=Enc.all ECm y.log;let k:=aT [3,1] 40;let j:=bk_ k w0_;let i:=y.rn.dk;
 let h:=y.wcs.length;let g:=Enc.all ECm y.wcs;let e:=y.wes.length;let d:=Enc.all EIn y.wes;let c:=y.rn.rs.length;let b:=Enc.all gI y.rn.rs;let a:=aG true k b;let Z:=y.rest.length;let Y:=Enc.all ECm y.rest;let X:=io_ v;let W:=io_ 0;let V:=sb_ y y.pg 1 12 2 3 4;let U:=dk_ i 7 8 9 10 11;
 let T:=wb_ y 1 13 14;let S:=Blk.cells [pt_ 1, .bool y.rn.br,sl_ 15 c] 168 true;let R:=so_ 5 3 16 Z;let Q:=tb_ 6;let O:=ro_ [0,7,47,5,46,1,52,4];let N:=y.tb.es;let M:=y.tb.ck;let L:=bz z z;let K:=sl_ 12 w;let J:=bz K K;let I:=bz X X;let H:=C4 [fb_ 0 0 [],fb_ x.length 0 (bc x)] [];
 let G:=rg_ [0,7];let F:=aT G 56;let D:=bk_ F w0_;let C:=[q,io_ 1,fb_ f.length 0 (bc f)];let B:=dk_ r 1 2 3 4 5;let A:=bk_ (aT [1] 71) w0_;let z0:=dk_ d1 1 2 3 4 5;let y0:=aG true F l;let x0:=bk_ (aT [1] 81) w0_;let w0:=aG true F g;let v0:=aG true F d;let u0:=aG true F t;
 let t0:=aG true F Y;let s0:=Blk.cells [pt_ 1, .bool (eqI 0 6),io_ p.ep, .int .u8 p.ro,io_ p.ac, .int .u8 p.ph,io_ p.fo,io_ p.ba,K,pt_ 2,pt_ 3,pt_ 4,io_ y.held] 128 true;let r0:=dk_ d2 7 8 9 10 11;let q0:=rb_ y 1 15;let o0:=ro_ [0,7,87,5,86,1,92,4];let n0:=dJ .i64 v 1;let m0:=Nat.add 0 (atN n0 3);
 let l0:=aV l m0;let k0:=bQ 0 [3,1,49,50,51,52,53,48];let j0:=aT [3,1] 54;let i0:=bk_ j0 w0_;let h0:=aG true j0 b;let g0:=ro_ [0,7,61,5,60,1,66,4];let f0:=aT G 70;let e0:=bk_ f0 w0_;let d0:=bk_ (aT [1] 85) w0_;let c0:=aG true f0 l;let b0:=bk_ (aT [1] 95) w0_;
 let a0:=aG true f0 g;let Z0:=aG true f0 d;let Y0:=aG true f0 t;let X0:=aG true f0 Y;let W0:=ro_ [0,7,101,5,100,1,106,4];
 (ae (C1 [z] []) (aj (eqI v 0) (nb_ u 3 t (dn_ w0_ r (ae (C2 [q] (o::n::dl_ (cz_ m w0_) r [lb_ m u 3 t 161])) (nb_ w 3 l (dn_ j i (nb_ h 3 g (nb_ e 1 d (nb_ c 3 a (nb_ Z 3 Y (ae (C3 [q,z,X,W,io_ ru] (V::U::T::S::R::Q:: .map (aF true O N) M::dl_ (cz_ O j) i [lb_ O w 3 l 47,lb_ O h 3 g 47,lb_ O e 1 d 3,lb_ O c 3 a 161,lb_ O Z 3 Y 47])) (ae L (ae L (ae J (ae J (ae I (ae I (ae H (dn_ D r (ae (C5 C (B::dl_ (cz_ (ro_ [1,1,66,5]) D) r [])) (dn_ A d1 (ae (C6 [q] (z0::dl_ (cz_ (ro_ [1,1,76,5]) A) d1 [])) (nb_ w 3 y0 (dn_ x0 d2 (nb_ h 3 w0 (nb_ e 1 v0 (nb_ u 3 u0 (nb_ Z 3 t0 (some (W,ag (s0::r0::T::q0::R::Q:: .map (aF true o0 (aF true F N)) M::dl_ (cz_ o0 x0) d2 [lb_ o0 w 3 y0 47,lb_ o0 h 3 w0 47,lb_ o0 e 1 v0 3,lb_ o0 u 3 u0 161,lb_ o0 Z 3 t0 47])))))))))))))))))))))))))))))) (ae (inI n0 w) (ae (Bool.and (Nat.ble (Nat.add m0 1) l.length) (gm (.int .i64) l0)) (nb_ u 3 t (dn_ w0_ r (ae (C2 [q] (o::n::dl_ (cz_ k0 w0_) r [lb_ k0 u 3 t 161])) (nb_ w 3 l (dn_ i0 i (nb_ h 3 g (nb_ e 1 d (nb_ c 3 h0 (nb_ Z 3 Y (ae (C3 [q,z,X,io_ (asI l0),io_ ru] (V::U::T::S::R::Q:: .map (aF true g0 N) M::dl_ (cz_ g0 i0) i [lb_ g0 w 3 l 47,lb_ g0 h 3 g 47,lb_ g0 e 1 d 3,lb_ g0 c 3 h0 161,lb_ g0 Z 3 Y 47])) (ae L (ae L (ae J (ae J (ae I (ae I (ae H (dn_ e0 r (ae (C5 C (B::dl_ (cz_ (ro_ [1,1,80,5]) e0) r [])) (dn_ d0 d1 (ae (C6 [q] (z0::dl_ (cz_ (ro_ [1,1,90,5]) d0) d1 [])) (nb_ w 3 c0 (dn_ b0 d2 (nb_ h 3 a0 (nb_ e 1 Z0 (nb_ u 3 Y0 (nb_ Z 3 X0 (some (W,ag (s0::r0::T::q0::R::Q:: .map (aF true W0 (aF true f0 N)) M::dl_ (cz_ W0 b0) d2 [lb_ W0 w 3 c0 47,lb_ W0 h 3 a0 47,lb_ W0 e 1 Z0 3,lb_ W0 u 3 Y0 161,lb_ W0 Z 3 X0 47]))))))))))))))))))))))))))))))))))):=by kernel_rfl
theorem Y4{s:StaM}(ht:fZ s.tb){o:List CmM}{i:Nat}(hi:i<s.log.length)(hl:s.log.length<4194304)(ho:o.length<4194300) :
  aU P E (wL (ay [cmV s.log[i]] []) s.log[i]) 50 41 Blg Dlg (lgV o s.log.length i) (lgB s o)=some (.tuple ⟨exV .normal::lgV (o++[s.log[i]]) s.log.length ((i+1:Nat):Int)⟩,ag (lgB s (o++[s.log[i]]))):=by
 obtain⟨g1,g2,a1⟩:=lH hi hl;have g4:=kW hi;have h1:(o++[s.log[i]]).length=Nat.add o.length 1:=by simp
 rw[Xo];simp (disch:=first|omega|(simp only[bU,bY,bZ,bT,bW,aH]<;>omega)|fail) only[mz_,ht.ren,g1,g2,a1,g4,iL hi (dm 3),jZ hi,pR hi,qH hi,iy,zF,lgV,lgB,stB,pgC,h1,vN,uf_,aZ rfl,aZ h1.symm,dE rfl,dH rfl,bf rfl,nf_]
 rfl
theorem ahy{s:StaM}{C:List Value->List Blk->Bool}{c:CmM}(ht:fZ s.tb){o:List CmM} :
  aU P E (wL C c) 50 41 Blg Dlg (lgV o s.log.length s.log.length) (lgB s o)=some (.tuple ⟨exV (.exit 0)::lgV o s.log.length s.log.length⟩,ag (lgB s o)):=by
 rw[Xo];simp only[mz_,kU,ht.ren,lgV,lgB,stB,pgC,uf_,aZ rfl,dE rfl,dH rfl,bf rfl,nf_]
 rfl
theorem QJ{s:StaM}(ht:fZ s.tb)(hl:s.log.length<4194300)(hc:∀ c∈s.log,1<=c.ops.length/\c.ops.length<=4194304):∀ (k i:Nat),i+k=s.log.length->
  LRX P 41 0 Blg Dlg.head (lgV (s.log.take i) s.log.length i) (lgB s (s.log.take i)) .normal (lgV s.log s.log.length s.log.length) (lgB s s.log)
 |0,i,h=>by
  obtain rfl:i=s.log.length:=by omega
  rw[rC];exact ls_ (af aA (fF (r:= .leaf (cmV ⟨0,0,[]⟩,[])))) QI (e:= .exit 0) (ahy (C:=fun _ _=>false) (c:=⟨0,0,[]⟩) ht) (by intro h; cases h)
 |k+1,i,h=>by
  have hi:i<s.log.length:=by omega
  obtain⟨b1,b2⟩:=hc _ (kQ hi);have q:=Y4 (o:=s.log.take i) ht hi (by omega) (by rw[fH]; omega);have e:s.log.take i++[s.log[i]]=s.log.take (i+1):=by rw[List.take_succ_eq_append_getElem hi]
  rw[e]at q;exact la_ (af aA (az (tY b1 b2))) QI q (QJ ht hl hc k (i+1) (by omega))
theorem IA{s:StaM}(ht:fZ s.tb)(hl:s.log.length<4194300)(hc:∀ c∈s.log,1<=c.ops.length/\c.ops.length<=4194304):CRX P 7 41 [p0] (stB s) (aQ s.log) (stB s):=by
 have q1:=QJ ht hl hc s.log.length 0 (by omega);refine co_ (dB aA (d_ (bJ WN) q1)) ((afb (ay (lgV (s.log.take 0) s.log.length (0:Nat)) (lgB s (s.log.take 0))) s).trans ?_);clear q1;have z0:((0:Nat):Int)=0:=rfl;have e0:(ECm.all ([]:List CmM))=[]:=rfl;have e1:([]:List CmM).length=0:=rfl;simp (disch:=first|omega|(simp only[bU,bY,bZ,bT,bW,aH]<;>omega)|fail) only[mz_,ht.ren,z0,e0,e1,List.take_zero,v_ rfl,lgV,lgB,stB,pgC,uf_,aZ rfl,dE rfl,dH rfl,bf rfl,nf_]
def tb0:TbM:=⟨[],0⟩
theorem wo:fZ tb0:=by intro e he; cases he
def StaM.paged(s:StaM)(k:Nat)(p:PgM):StaM:={ s with pg:=p,dk:={ s.dk with d1:=s.dk.d1++frM (kw p),steps:=s.dk.steps+(k:Int)+1,pend:=[] } }
theorem tq(p:PgM):(frM (kw p)).length<=77:=by
 have h:=KQ p;unfold frM;rw[bP];have:=aK (n:=(kw p).length);omega
theorem MI{d:DkM}{f:Int}(b:List UInt8)(hd:DkC d 100000)(hp:d.pend=[])(h:0<=f/\f<4)(hb:b.length<=500000)(hl:(fD d f).length<=3000000) :
  ∃ k,k<=o_ b.length/\CRX P 1 89 [p0, .int .i64 f,ax 1 b.length 0 (bc b)] (a_ d) (.int .i64 0) (a_ { d with steps:=d.steps+(k:Int),pend:=(writeM ⟨d,f,b⟩).2.pend })/\
   CRX P 1 90 [p0] (a_ { d with steps:=d.steps+(k:Int),pend:=(writeM ⟨d,f,b⟩).2.pend }) (.int .i64 0) (a_ { setF d f (fD d f++b)with steps:=d.steps+(k:Int)+1,pend:=[] }):=by
 obtain⟨cs,k1,k2,k3⟩:=Hg (m:=d) (f:=f) b hd.off hd.fused h;have hst:=hd.steps;have hr:o_ b.length<=7813:=by unfold o_; omega
 have q1:=PE.at (s:=⟨d,f,b⟩) ⟨by show b.length<=_; omega,by
  show qA d (o_ b.length)
  exact⟨hst.1,by have:=hst.2; omega,hd.fuse.1,hd.fuse.2,by rw[hp]; show 0+_<_; omega⟩⟩ rfl
 rw[k3]at q1;have hk:kSy.ok { d with steps:=d.steps+(cs.length:Int),pend:=pnd f cs }:=QK (f:=f) (cs:=cs) hd.fused h rfl ⟨by show 0<=d.steps+_; omega,by show d.steps+_<_; omega,hd.fuse.1,hd.fuse.2,by show(pnd f cs).length<_; rw[J8]; omega⟩ (by
  have e:fD { d with steps:=d.steps+(cs.length:Int),pend:=pnd f cs } f=fD d f:=xI
  rw[e,k1]; omega)
 have q2:=RY.at hk rfl;rw[KI (m:={ d with steps:=d.steps+(cs.length:Int),pend:=pnd f cs }) (f:=f) (cs:=cs) hd.off hd.fused h rfl]at q2;have e:fD { d with steps:=d.steps+(cs.length:Int),pend:=pnd f cs } f=fD d f:=xI;rw[e,k1]at q2;have e2:(writeM ⟨d,f,b⟩).2.pend=pnd f cs:=by rw[k3,hp]; rfl
 refine⟨cs.length,k2,?_,?_⟩
 ·rw[e2];rw[hp]at q1;exact q1
 ·rw[e2];have e3:=Kt (m:=d) (f:=f) (s:=d.steps+(cs.length:Int)) (p:=pnd f cs) (q:=[]) (d:=fD d f++b);have e4:({ setF { d with steps:=d.steps+(cs.length:Int),pend:=pnd f cs } f (fD d f++b)with steps:=d.steps+(cs.length:Int)+1,pend:=[] }:DkM)={ setF d f (fD d f++b)with steps:=d.steps+(cs.length:Int)+1,pend:=[] }:=by
   have:=congrArg (fun m:DkM=>{ m with steps:=d.steps+(cs.length:Int)+1 }) e3;exact this
  rw[<-e4];exact q2
theorem xG{s:StaM}{p:PgM}(hs:StQ s 100000)(hp:pgE p=0)(hg:s.log.length<4000)(h1:s.dk.d1.length<=3000000)(hso:kD s.held p (s.log.length:Int) (aY s.log) (fP s.rs)=true) :
  ∃ k,k<=2/\CRX P 7 44 [p0,pgV p] (stB s) (.int .i64 0) (stB (s.paged k p)):=by
 have hfl:=tq p;obtain⟨k,k2,q5,q6⟩:=MI (d:=s.dk) (f:=1) (frM (kw p)) hs.dk hs.pend (by omega) (by omega) h1;refine⟨k,by unfold o_ at k2; omega,?_⟩;have q1:=aes hp;have q2:=AL (r:=s.rn) hs.sr.r;have q3:=Ku (s:=s) hs.sr.tb (p:=p) (en:=(s.log.length:Int)) (ep:=aY s.log) (ru:=fP s.rs);rw[hso]at q3;have q4:=JF (r:=kw p) (by have:=KQ p; omega);generalize hw:(writeM ⟨s.dk,1,frM (kw p)⟩).2.pend=W at q5 q6;clear hw;have q:=adh (ay [pgV p] []) (ay [p0] (rnB s.rn)) (ay [p0,pgV p, .int .i64 (s.log.length:Int), .int .i64 (aY s.log), .int .i64 (fP s.rs)] (stB s)) (ay [ax 1 0 0 [],ax 1 (kw p).length 0 (bc (kw p))] [])
  (ay [p0, .int .i64 1,ax 1 (frM (kw p)).length 0 (bc (frM (kw p)))] (a_ s.dk)) (ay [p0] (a_ { s.dk with steps:=s.dk.steps+(k:Int),pend:=W })) (fP s.rs) s (kw p) (frM (kw p)) { s.dk with steps:=s.dk.steps+(k:Int),pend:=W } { setF s.dk 1 (fD s.dk 1++frM (kw p))with steps:=s.dk.steps+(k:Int)+1,pend:=[] } p
 rw[AB hs.off hs.dk.off]at q;refine co_ (af (af (af (af (af (af aA (az q6)) (az q5)) (az q4)) (az q3)) (az q2)) (az q1)) (q.trans ?_);clear q q1 q2 q3 q4 q5 q6;have hoff:=hs.off;have hdo:=hs.dk.off;have ht:=hs.sr.tb.ren;have e0:ah s.log.length=(s.log.length:Int):=rfl;have z1:neI 0 0=false:=rfl;have z2:eqI 0 6=false:=rfl;have z3:eqI 0 0=true:=rfl;have f1:∀ d:List UInt8,setF s.dk 1 d={ s.dk with d1:=d }:=fun _=>rfl;have f2:fD s.dk 1=s.dk.d1:=rfl;by_cases h0:s.log=[]
 ·have e1:aY s.log=0:=by rw[h0]; rfl
  have e2:(s.log.length:Int)=0:=by rw[h0]; rfl
  have e3:eqI (s.log.length:Int) 0=true:=by rw[e2]; rfl
  simp (disch:=first|omega|(simp only[bU,bY,bZ,bT,bW,aH]<;>omega)|fail) only[pg_,mz_,hoff,hdo,ht,e0,e1,e3,z1,z2,z3,f1,f2,StaM.paged,zF,oO,pgV,iy,lW,StaM.wal,StaM.rn,StaM.setW,stB,pgC,uf_,aZ rfl,dE rfl,dH rfl,bf rfl,nf_]
 ·obtain⟨m0,_,m1,m2⟩:=mJ h0 (by omega);have mp:=kY.2 h0;have m4:=jZ (l:=s.log) (i:=s.log.length-1) (by omega);have m4':aV (ECm.all s.log) (Nat.add (atN ((s.log.length-1:Nat):Int) 3) 0) = .int .i64 (s.log[s.log.length-1]'(by omega)).e:=m4;have m5:=qw (n:=s.log.length) (k:=1) mp (by decide);have m6:=nU h0;rw[e0]at m0 m1;simp (disch:=first|omega|(simp only[bU,bY,bZ,bT,bW,aH]<;>omega)|fail) only[pg_,mz_,hoff,hdo,ht,e0,m0,m1,m2,m4,m4',m5,m6,z1,z2,z3,f1,f2,StaM.paged,zF,oO,pgV,iy,lW,StaM.wal,StaM.rn,StaM.setW,stB,pgC,uf_,aZ rfl,dE rfl,dH rfl,bf rfl,nf_]
end Go.VS.Tryz
end

noncomputable section
namespace Go.VS

section
variable{P:Program}{ct:Ct}
def upL(n:Nat):Nat->List Nat:=@Nat.rec (fun _=>Nat->List Nat) (fun _=>[]) (fun _ ih i=>i::ih (Nat.succ i)) n
def geL(n:Nat)(l:List Nat):List Nat:=@List.rec Nat (fun _=>List Nat) [] (fun b _ ih=>match Nat.ble n b with
 |true=>b::ih
 |false=>ih) l
def Df(l:List Nat):List Value:=@List.rec Nat (fun _=>List Value) [] (fun b _ ih=> .pointer (some ⟨b,0,none⟩)::ih) l
theorem yL:∀ (n i:Nat) (Z:List Nat),upTo n (upL n i++Z) i=true
 |0,_,_=>rfl
 |n+1,i,Z=>by
  have h:upL (n+1) i=i::upL n (i+1):=rfl;rw[h];show(match Nat.beq i i with | true=>upTo n (upL n (i+1)++Z) (i+1) | false=>false)=true;rw[nR];exact yL n (i+1) Z
end
section
variable{P:Program}{ct:Ct}
def kbF(kb:List Bool):List Value->List Nat:=@List.rec Bool (fun _=>List Value->List Nat) (fun _=>[]) (fun f _ ih vs=>match vs with
 |[]=>[]
 |v::vs=>match f with
  |true=>match v with
   | .slice (some a) _ _=>a.block::ih vs
   |_=>ih vs
  |false=>ih vs) kb
structure HeadK where
 N:Nat
 nt:Nat
 L:List Tmp
 fl:List Fl
 ts:List TypeId
 pol:Pol
 kb:List Bool
def HeadK.head(D:HeadK):Head:=⟨D.N,D.nt,D.L,[]⟩
def Ce{α:Type}(P:Program)(D:HeadK)(s:Trie Value)(st:St)(k:List Nat->List Nat->St->List Value->List Blk->DT α):DT α:=
 mO P 60 D.fl D.ts (D.L.map (nP s)) st fun vs1 ps st1=>uI P D.pol 200 ps [] st1 fun st2=>
  oZ (kz st2) 1000 vs1 (kbF D.kb vs1) [] fun X L=>match Nat.beq X.length D.N,jm 0 (X.append L) (fun i=>dW (path i) st2.heap) (X.append L)with
  |true,some ms=>k X L st2 (vs1.map (eP true (bQ 0 (X.append L)))) ms
  |_,_=> .fail
theorem CE{α:Type}{r:α}{D:HeadK}{s:Trie Value}{st:St}{k:List Nat->List Nat->St->List Value->List Blk->DT α}(h:(Ce P D s st k).eval=some r) :
  ∃ X L st2 vs1 ms,(k X L st2 (vs1.map (eP true (bQ 0 (X++L)))) ms).eval=some r/\X.length=D.N/\jm 0 (X++L) (fun i=>st2.heap.get i) (X++L)=some ms/\
   ∀ (K:Prot) (β:Env) (w:World) (n:Nat) (tmps:Array Value),Rel P K β st w->jh β s n tmps->∃ β1,β.le β1/\Rel P K β1 st2 w/\VRL β1 vs1 (D.L.map fun t=>tmps.getD t undef):=by
 unfold Ce at h;obtain⟨vs1,ps,st1,h1,h3,h4⟩:=jG _ _ _ _ _ _ h;obtain⟨st2,k1,k2⟩:=jV _ _ _ _ _ h1;obtain⟨X,L,hX⟩:=lI (kz st2) 1000 vs1 (kbF D.kb vs1) [] fun X L=>match Nat.beq X.length D.N,jm 0 (X.append L) (fun i=>dW (path i) st2.heap) (X.append L)with
  |true,some ms=>k X L st2 (vs1.map (eP true (bQ 0 (X.append L)))) ms
  |_,_=> .fail
 rw[hX]at k1;split at k1
 ·rename_i ms hn hm;refine⟨X,L,st2,vs1,ms,k1,dF hn,by simp only[dL]at hm; exact hm,fun K β w n tmps hr hs=>?_⟩;obtain⟨β1,a1,a2,a3⟩:=h4 K β w _ hr (Bj hs D.L);obtain⟨β2,b1,b2⟩:=k2 K β1 w a2;exact⟨β2,a1.trans b1,b2,a3.mono b1⟩
 ·cases k1
def Xq(P:Program)(D:HeadK):Ex->Trie Value->List Deferred->St->Res:=fun e s d st=>match d with
 |[]=>DT.run (Ce P D s st fun X _ _ vs ms=>match upTo D.N X 0 with
  |true=> .leaf (vs,ms)
  |false=> .fail) fun r=>some (.tuple ⟨exV e::r.1⟩,ag r.2)
 |_=>none
def vG(P:Program)(E:Eng)(ct:Ct)(n:Nat)(fid:Nat)(B:Code)(D:HeadK)(vs:List Value)(bs:List Blk):Res:=
 qW P E ct n (xu P E ct n n) fid D.nt none B (mkS D.nt D.L vs) [] (ag bs) (Xq P D)
theorem DV{E:Eng}(hE:EngOk P ct E)(hN:noNum P=true)(hct:CtOk P ct){n fid id:Nat}{B:Code}{D:HeadK}(hocc:Occ P fid (.block id (.loop B))){vs vs1:List Value}{bs bs1:List Blk}{e:Ex}
  (h:vG P E ct n fid B D vs bs=some (.tuple ⟨exV e::vs1⟩,ag bs1)) (K:Prot) (β:Env) (w:World) (fr:Frame) (cs:List Frame) (k:List Item) (hid:∀ i,¬K.id i) (ht:fr.todo = .code B::k) (hfid:fr.fn=fid) (hf:FrR β (D.head.fr vs) fr) (hr:Rel P K β (ag bs) w) :
  AQ D.head.N P K β fr cs w e k (D.head.fr vs1) (ag bs1)/\D.head.N<=bs1.length:=by
 unfold vG at h;obtain⟨m,e1,s1,d1,st1,h1,h2⟩:=ku hE (nT hE n n) n fid D.nt none B _ _ _ _ _ h;unfold Xq at h2;split at h2
 ·obtain⟨r,hc,h2⟩:=DT.run_spec h2;obtain⟨X,L,st2,vs2,ms,hc1,hlen,hm,hc2⟩:=CE hc;split at hc1
  ·rename_i hup;simp only[DT.eval,dD]at hc1;subst hc1;simp only[dD,dA,Value.tuple.injEq,Array.mk.injEq,je]at h2;obtain⟨⟨he,rfl⟩,hst⟩:=h2;obtain rfl:=EX he;obtain⟨β1,fr1,w1,a1,a2,a3,a4,a5,a6,a7,a8,a9⟩:=(ja hN hct m K).code fid B _ _ _ _ _ h1 (hocc.sub (.block (.loop (.refl _)))) β w fr cs k ht hfid hf hr;obtain⟨β2,b1,b2,b3⟩:=hc2 K β1 w1 _ _ a3 a5.slots;obtain⟨m1,m2,m3⟩:=jr hm;have hmid:=lC (N:=0) (src:=X++L) b2 (fun i hi=>(hid i hi).elim) (ig _) m1 m2;have hren:=qE (X++L) β2;have hms:(ag ms).next=bs1.length:=by rw[hst]; rfl
   have hmsl:ms.length=bs1.length:=hms;refine⟨⟨iR 0 (X++L) β2,fr1,w1,a1,(a2.trans b1 |>.leN _).trans (vk hup),?_,a4,⟨Ak a5.slots.1 ?_,by have:=a5.defers; unfold nZ at this; rw[this]; rfl,by have:=a5.round; exact this,a5.mode⟩,a6,a7,a8,a9⟩,?_⟩
   ·rw[<-hst,m3]; exact hmid
   ·exact b3.mapr fun v _ x hx=>gU hren v x hx
   ·rw[<-hmsl,m3,n_,bP];show D.N<=_;omega
  ·cases hc1
 ·cases h2
theorem LRX.againK{E:Eng}(hE:EngOk P ct E)(hN:noNum P=true)(hct:CtOk P ct){n fid id:Nat}{B:Code}{D:HeadK}(hocc:Occ P fid (.block id (.loop B))){vs vs1 vs':List Value}{bs bs1 bs':List Blk}{e:Ex}
  (h:vG P E ct n fid B D vs bs=some (.tuple ⟨exV .normal::vs1⟩,ag bs1)) (hl:LRX P fid id B D.head vs1 bs1 e vs' bs'):LRX P fid id B D.head vs bs e vs' bs':=by
 intro K β w fr cs k hid ht hfid hf hr;obtain⟨⟨β1,fr1,w1,a1,a2,a3,a4,a5,a6,a7,a8,a9⟩,_⟩:=DV hE hN hct hocc h K β w fr cs _ hid ht hfid hf hr;have a9:fr1.todo = .inLoop B:: .inBlock id::k:=a9;have hs:=yN (P:=P) (cs:=cs) (w:=w1) a5.mode a9;obtain⟨⟨β2,fr2,w2,b1,b2,b3,b4,b5,b6,b7,b8,b9⟩,hb⟩:=hl K β1 w1 { fr1 with todo:= .code B:: .inLoop B:: .inBlock id::k } cs k hid rfl (a7.trans hfid) ⟨a5.slots,a5.defers,a5.round,a5.mode⟩ a3;exact⟨⟨β2,fr2,w2,a1.trans (.head hs b1),a2.trans b2,b3,a4.trans b4,b5,b6.trans a6,b7.trans a7,b8.trans a8,b9⟩,hb⟩
theorem LRX.stopK{E:Eng}(hE:EngOk P ct E)(hN:noNum P=true)(hct:CtOk P ct){n fid id:Nat}{B:Code}{D:HeadK}(hocc:Occ P fid (.block id (.loop B))){vs vs1:List Value}{bs bs1:List Blk}{e:Ex}
  (h:vG P E ct n fid B D vs bs=some (.tuple ⟨exV e::vs1⟩,ag bs1)) (he:e≠ .normal):LRX P fid id B D.head vs bs (kP id e) vs1 bs1:=by
 intro K β w fr cs k hid ht hfid hf hr;obtain⟨⟨β1,fr1,w1,a1,a2,a3,a4,a5,a6,a7,a8,a9⟩,hb⟩:=DV hE hN hct hocc h K β w fr cs _ hid ht hfid hf hr;refine⟨?_,hb⟩;have a9:=a9.under he (fun i e=>by cases e);cases e with
 |normal=>exact absurd rfl he
 |ret=>exact⟨β1,fr1,w1,a1,a2,a3,a4,a5,a6,a7,a8,a9⟩
 |exit i=>
  obtain⟨k2,h1,h2⟩:=a9;cases hb:Nat.beq i id with
  |true=>
   have hx2:kP id (.exit i) = .normal:=by simp only[kP,hb]
   rw[hx2];have:=dF hb;subst this;have hx:exitTo i k2=some k:=by rw[h2]; simp[exitTo]
   exact⟨β1,{ fr1 with todo:=k },w1,a1.trans (.one (s_exit a5.mode h1 hx)),a2,a3,a4,a5.todo k,a6,a7,a8,rfl⟩
  |false=>
   have hx2:kP id (.exit i) = .exit i:=by simp only[kP,hb]
   rw[hx2];have:=pV hb;refine⟨β1,fr1,w1,a1,a2,a3,a4,a5,a6,a7,a8,k2,h1,?_⟩;rw[h2];have:(id == i)=false:=by simp; exact fun ee=>this ee.symm
   simp[exitTo,this]
def RV(P:Program)(D:HeadK)(R:lU)(f:Fr)(st:St):Option (DT (Ex×Trie Value×St)):=
 match f.defers,f.roundOf,Nat.beq f.ntmps D.nt with
 |[],none,true=>some (Ce P D f.slots st fun X L st2 vs ms=>match R vs ms with
  |some t=>t.map fun x=>(x.1,mkS D.nt D.L (x.2.1.map (eP true (aT X st2.next))),rM X L st2 x.2.2)
  |none=> .fail)
 |_,_,_=>none
def Gh(P:Program)(fid id:Nat)(D:HeadK)(R:lU)(ct:Ct):Ct where
 call:=ct.call
 loop:=fun fid' id' f st=>match and (Nat.beq fid' fid) (Nat.beq id' id)with
  |true=>RV P D R f st
  |false=>ct.loop fid' id' f st
 op:=ct.op
theorem Qw{fid id:Nat}{B:Code}{D:HeadK}{R:lU}(hct:CtOk P ct)(h:LoopOkX P fid id B D.head R):CtOk P (Gh P fid id D R ct) where
 opc:=hct.opc
 op:=hct.op
 call:=hct.call
 loop:=by
  intro K fid' id' c f st e s' st' hl hocc β w fr cs k ht hfid hf hr;simp only[Gh]at hl;split at hl
  ·rename_i hb;simp only[bV]at hb;obtain rfl:=dF hb.1;obtain rfl:=dF hb.2;obtain rfl:=h.occ c hocc;unfold RV at hl;split at hl
   ·rename_i hd hro hnt;have hnt:=dF hnt;simp only[jf]at hl;obtain⟨X,L,st2,vs1,ms,hk,hXN,hm,hrel⟩:=CE hl;split at hk
    ·rename_i t hR;obtain⟨⟨e1,vs2,bs2⟩,hev,heq⟩:=DT.map_eval hk;simp only[dA]at heq;obtain⟨rfl,rfl,rfl⟩:=heq;obtain⟨β0,b1,b2,b3⟩:=hrel K β w _ _ hr hf.slots;obtain⟨m1,m2,m3⟩:=jr hm;obtain⟨K',k1,k2,k3,k4⟩:=zH b2 m1 m2;have hslots:jh (iR 0 (X++L) β0) (mkS D.nt D.L (vs1.map (eP true (bQ 0 (X++L))))) D.nt fr.tmps:=
      Ak (by rw[hf.slots.1]; exact hnt) (b3.mapr fun v _ x hx=>gU (qE (X++L) β0) v x hx)
     have s1:=E5 (P:=P) (cs:=cs) (w:=w) hf.mode ht;have s2:=IQ (P:=P) (fr:={ fr with todo:= .code (.loop B):: .inBlock id'::k }) (cs:=cs) (w:=w) hf.mode rfl;have hdf:fr.defers=[]:=by have:=hf.defers; rw[hd]at this; exact this
     have hrf:fr.roundOf=none:=by have:=hf.round; rw[hro]at this; exact this
     obtain⟨⟨β1,fr1,w1,a1,a2,a3,a4,a5,a6,a7,a8,a9⟩,a10⟩:=h.run _ _ t hR _ _ _ hev K' (iR 0 (X++L) β0) w { fr with todo:= .code B:: .inLoop B:: .inBlock id'::k } cs k k2 rfl hfid ⟨hslots,hdf,hrf,hf.mode⟩ (by rw[m3]; exact k3);have a2:leN X.length (iR 0 (X++L) β0) β1:=by rw[hXN]; exact a2
     have a10:X.length<=bs2.length:=by rw[hXN]; exact a10
     obtain⟨c1,c2,c3⟩:=k4 β1 bs2 w1 a2 a10 a3 a4;refine⟨_,fr1,w1, .head s1 (.head s2 a1),b1.trans c1,c2,a4.mono k1,⟨⟨by rw[a5.slots.1]; exact hnt.symm,fun i=>?_⟩,?_,?_,a5.mode⟩,a6,a7,a8,a9⟩
     ·show VR _ (((mkS D.nt D.L (vs2.map (eP true (aT X st2.next)))).get i).getD undef) _;rw[J6 rfl D9];exact gU c3 _ _ (a5.slots.2 i)
     ·show nZ _ f.defers _;rw[hd]; exact a5.defers
     ·show qy _ f.roundOf _;rw[hro]; exact a5.round
    ·cases hk
   ·cases hl
  ·exact hct.loop K fid' id' c f st e s' st' hl hocc β w fr cs k ht hfid hf hr
def SI(P:Program)(pol:Pol)(N:Nat)(g:FuncId)(kb:List Bool)(R:iC)(args:List Value)(st:St):DT (Value×St):=
 uI P pol 200 (EH args) [] st fun st2=>oZ (kz st2) 1000 args (kbF kb args) [] fun X L=>match Nat.beq X.length N,jm 0 (X.append L) (fun i=>dW (path i) st2.heap) (X.append L)with
  |true,some ms=>match R (args.map (eP true (bQ 0 (X.append L)))) ms with
   |some t=>t.map fun x=>(eP true (aT X st2.next) x.1,rM X L st2 x.2)
   |none=> .fail
  |_,_=> .fail
def Gx(P:Program)(pol:Pol)(N:Nat)(g:FuncId)(kb:List Bool)(R:iC)(ct:Ct):Ct where
 call:=fun g' args st=>match Nat.beq g' g with
  |true=>some (SI P pol N g kb R args st)
  |false=>ct.call g' args st
 loop:=ct.loop
 op:=ct.op
theorem PZ{pol:Pol}{N:Nat}{g:FuncId}{kb:List Bool}{R:iC}(hct:CtOk P ct)(h:CallOkX P N g R):CtOk P (Gx P pol N g kb R ct) where
 opc:=hct.opc
 op:=hct.op
 loop:=hct.loop
 call:=by
  intro K g' args st v st' hl β w args' cs ha hr;simp only[Gx]at hl;split at hl
  ·rename_i hb;obtain rfl:=dF hb;simp only[SI,jf]at hl;obtain⟨st2,k1,h2⟩:=jV _ _ _ _ _ hl;obtain⟨X,L,hX⟩:=lI (kz st2) 1000 args (kbF kb args) [] fun X L=>match Nat.beq X.length N,jm 0 (X.append L) (fun i=>dW (path i) st2.heap) (X.append L)with
    |true,some ms=>match R (args.map (eP true (bQ 0 (X.append L)))) ms with
     |some t=>t.map fun(x:Value×List Blk)=>(eP true (aT X st2.next) x.1,rM X L st2 x.2)
     |none=> .fail
    |_,_=> .fail
   rw[hX]at k1;split at k1
   ·rename_i ms hn hm;have hm:jm 0 (X++L) (fun i=>dW (path i) st2.heap) (X++L)=some ms:=hm;have hXN:=dF hn;split at k1
    ·rename_i t hR;obtain⟨⟨v1,bs1⟩,hev,heq⟩:=DT.map_eval k1;simp only[dA]at heq;obtain⟨rfl,rfl⟩:=heq;obtain⟨β2,b1,b2⟩:=h2 K β w hr;have b3:=ha.mono b1;obtain⟨m1,m2,m3⟩:=jr hm;simp only[dL]at m2 m3;obtain⟨K',q1,q2,q3,q4⟩:=zH b2 m1 m2;have ha':VRL (iR 0 (X++L) β2) (args.map (eP true (bQ 0 (X++L)))) args'.toList:=b3.mapr fun v _ x hx=>gU (qE _ _) v x hx;obtain⟨⟨β3,fr,w1,v',d1,d2,d3,d4,d5,d6⟩,d7⟩:=h.run _ _ t hR v1 bs1 hev K' _ w args' cs q2 ha' (by rw[m3]; exact q3);obtain⟨c1,c2,c3⟩:=q4 β3 bs1 w1 (by rw[hXN]; exact d2) (by rw[hXN]; exact d7) d3 d4;exact⟨_,fr,w1,v',d1,b1.trans c1,c2,d4.mono q1,gU c3 _ _ d5,d6⟩
    ·cases k1
   ·cases k1
  ·exact hct.call K g' args st v st' hl β w args' cs ha hr
def rP(P:Program)(E:Eng)(ct:Ct)(n:Nat)(pol:Pol)(fl:List Fl)(ts:List TypeId)(N:Nat)(kb:List Bool)(g:FuncId)(args:List Value)(bs:List Blk):Res:=
 (xu P E ct n n).call g args (ag bs) fun v st=>DT.run (mO P 60 fl ts (qB v) st fun vs1 ps st1=>uI P pol 200 (List.append (EH args) (List.append ps (upL N 0))) [] st1 fun st2=>
  oZ (kz st2) 1000 (List.append args (List.append vs1 (Df (upL N 0)))) (kbF kb args) [] fun X L=>match Nat.beq vs1.length (qB v).length,jm 0 ((List.append (upL N 0) (geL N X)).append L) (fun i=>dW (path i) st2.heap) ((List.append (upL N 0) (geL N X)).append L)with
  |true,some ms=> .leaf (xX v (vs1.map (eP true (bQ 0 ((List.append (upL N 0) (geL N X)).append L)))),ms)
  |_,_=> .fail) fun r=>some (r.1,ag r.2)
theorem CRX.ofK{E:Eng}(hE:EngOk P ct E)(hN:noNum P=true)(hct:CtOk P ct){n:Nat}{pol:Pol}{fl:List Fl}{ts:List TypeId}{N:Nat}{kb:List Bool}{g:FuncId}{args:List Value}{bs:List Blk}{v:Value}{bs':List Blk}(h:rP P E ct n pol fl ts N kb g args bs=some (v,ag bs')):CRX P N g args bs v bs':=by
 intro K β w args' cs hid ha hr;unfold rP at h;obtain⟨m,v1,st1,h1,h2⟩:=(nT hE n n).call _ _ _ _ _ h;obtain⟨β1,fr,w1,v',a1,a2,a3,a4,a5,a6⟩:=(ja hN hct m K).call g args (ag bs) v1 st1 h1 β w args' .normal cs (Or.inl rfl) ha hr;obtain⟨r,hc,h2⟩:=DT.run_spec h2;obtain⟨vs1,ps,st2,f1,f2,f3⟩:=jG _ _ _ _ _ _ hc;obtain⟨st3,g1,g2⟩:=jV _ _ _ _ _ f1;obtain⟨X0,L,hX⟩:=lI (kz st3) 1000 (List.append args (List.append vs1 (Df (upL N 0)))) (kbF kb args) [] fun X L=>match Nat.beq vs1.length (qB v1).length,jm 0 ((List.append (upL N 0) (geL N X)).append L) (fun i=>dW (path i) st3.heap) ((List.append (upL N 0) (geL N X)).append L)with
  |true,some ms=>DT.leaf (xX v1 (vs1.map (eP true (bQ 0 ((List.append (upL N 0) (geL N X)).append L)))),ms)
  |_,_=> .fail
 rw[hX]at g1;have hup:upTo N (upL N 0++geL N X0) 0=true:=yL N 0 _;generalize hY:upL N 0++geL N X0=X at hup;have hY':List.append (upL N 0) (geL N X0)=X:=hY;rw[hY']at g1;split at g1
 ·rename_i ms hvl hm;have hm:jm 0 (X++L) (fun i=>dW (path i) st3.heap) (X++L)=some ms:=hm;simp only[DT.eval,dD]at g1;subst g1;simp only[dD,dA]at h2;obtain⟨rfl,hst⟩:=h2;obtain⟨m1,m2,m3⟩:=jr hm;simp only[dL]at m2 m3;have hvl:=dF hvl;obtain⟨xs,x1,x2⟩:=BO a5;obtain⟨β2,c1,c2,c3⟩:=f3 K β1 w1 xs a3 x1;obtain⟨β3,d1,d2⟩:=g2 K β2 w1 c2;have hmid:=lC (N:=0) (src:=X++L) d2 (fun i hi=>(hid i hi).elim) (ig _) m1 m2;have hren:=qE (X++L) β3;have hmsl:ms.length=bs'.length:=by have:=congrArg St.next hst; exact this
  refine⟨⟨iR 0 (X++L) β3,fr,w1,v',a1,(((a2.trans c1).trans d1).leN _).trans (vk hup),?_,a4,?_,a6⟩,?_⟩
  ·rw[<-hst,m3]; exact hmid
  ·refine x2 _ _ (by rw[n_]; exact hvl) ((c3.mono d1).mapr fun v _ x hx=>gU hren v x hx)
  ·rw[<-hmsl,m3,n_,bP];have:=(qJ _ _ _ hup).1;omega
 ·cases g1
theorem CR.ofK0{g:FuncId}{args:List Value}{v:Value}{bs:List Blk}{N:Nat}(h:CRX P N g args [] v bs):CR P g args v bs:=by
 intro w args' cs obs hG ha;obtain⟨⟨β',fr,w',v',h1,h2,h3,h4,h5,h6⟩,_⟩:=h (K0 w obs) (envOf w) w args' cs (fun _ h=>h) ha (KL w obs hG);refine⟨β',fr,w',v',h1,fun i l hi=>?_,h3,h4,h5,h6⟩;cases i with
 |ofNat i=>cases hi
 |negSucc k=>exact h2 _ _ (by show Int.negSucc k<(N:Int); omega) hi
theorem CallOkR.ofK0{g:FuncId}{N:Nat}{R:iC}(h:CallOkX P N g R):CallOkR P g (fun args=>R args []):=⟨fun args t hR v bs hev=>CR.ofK0 (h.run args [] t hR v bs hev)⟩
end
end Go.VS
end

noncomputable section
namespace Go.VS.Tryz
open Go.VS
set_option maxRecDepth 1000000
theorem cK_{ct:Ct}(hct:CtOk P ct){pol:Pol}{fl:List Fl}{ts:List TypeId}{N:Nat}{kb:List Bool}{g:FuncId}{args:List Value}{bs:List Blk}{v:Value}{bs':List Blk}(h:rP P E ct 50 pol fl ts N kb g args bs=some (v,ag bs')):CRX P N g args bs v bs':=CRX.ofK (dU _) bK hct h
def Dsk:HeadK:=⟨6,37,[4,5,7,26,27,28],[.val, .val, .val, .keep, .val, .val],[],aB,[false,false,false,true,false,false]⟩
def srK(lg:List CmM)(s:SrM):List Blk:=[.cells (ECm.all lg) 47 false, .cells [ptV 2,ptV 4,lsV 12 s.rest.length] 174 true, .cells [.map (some 3)] 98 true, .map s.tb.es s.tb.ck, .cells [ptV 5, .bool s.rn.br,lsV 11 s.rn.rs.length] 168 true, .cells (lX 6 7 8 9 10 s.rn.dk) 86 true]++dkL s.rn.dk++[.cells (gI.all s.rn.rs) 161 false, .cells (ECm.all s.rest) 47 false]
def slK(b k m:Nat):Value:= .slice (some ⟨b,Nat.mul k 3,none⟩) m 18446744073709551616
def skV(k m:Nat)(i:Int):List Value:=[.pointer none, .int .i64 0,ptV 1,slK 0 k m, .int .i64 (ah m), .int .i64 i]
theorem Yu(C1 C2:List Value->List Blk->Bool)(tb:TbM)(c:CmM)(lg:List CmM)(s:SrM)(k m:Nat)(i:Int):vG P E (Z8 C1 C2 tb c) 50 152 Bso Dsk (skV k m i) (srK lg s) =
 (let z:=Nat.mul k 3;let y:=Nat.add z (atN i 3);let x:=Enc.all ECm lg;let w:=Eta.int .i64;let v:=Nat.add y 1;let u:=aV x (Nat.add v 1);let t:=fa_ (zN u) (zB u) (zC u);let r:=s.rest.length;let q:=Nat.add r 1;let p:=Enc.all ECm s.rest;let o:=List.append (jC 0 p) [io_ c.e,io_ c.n,fa_ c.ops.length 0 (Enc.all EOp c.ops)];
 let n:=s.rn.rs.length;let l:=Enc.all gI s.rn.rs;let j:=s.rn.dk;let h:=io_ 0;let g:=Value.pointer none;let f:=Value.slice (some ⟨0,Go.Addr.off ⟨0,z,none⟩,none⟩) m 18446744073709551616;let e:=io_ (ah m);let d:=ro_ [0,6,37,5,36,1,35,1];let b:=Blk.cells [pt_ 5, .bool s.rn.br,sl_ 11 n] 168 true;
 let a:=dk_ j 6 7 8 9 10;let Z:=ro_ [0,6,15,5,14,1,13,1];
 (aj (ltI i (ah m)) (ae (inI i m) (ae (Bool.and (Nat.ble (Nat.add y 3) x.length) (jg [w,w, .slice 3] x y)) (ae (C1 [.agg ⟨[io_ (asI (aV x y)),io_ (asI (aV x v)),t]⟩] []) (ae (Nat.ble q 4194304) (ae (Nat.beq (Nat.add 0 (Nat.mul r 3)) p.length) (ae (bz (sl_ 12 r) (sl_ 12 r)) (ae (C2 [pt_ 0,t] [tb_ 1, .map (aF true (bQ 0 [2,3]) s.tb.es) s.tb.ck]) (nb_ q 3 o (nb_ n 3 l (dn_ w0_ j (some (.tuple ⟨[h,g,h,pt_ 1,f,e,io_ (bM .i64 i 1)]⟩,ag (.cells (aG true d x) 47 false::so_ 2 4 12 q::tb_ 3:: .map (aF true d (aF true (aT [2,3] 35) tb.es)) tb.ck::b::a::dl_ (cz_ d w0_) j [lb_ d n 3 l 161,lb_ d q 3 o 47]))))))))))))) (nb_ r 3 p (nb_ n 3 l (dn_ w0_ j (some (.tuple ⟨[io_ 1,g,h,pt_ 1,f,e,io_ i]⟩,ag (.cells (aG true Z x) 47 false::so_ 2 4 12 r::tb_ 3:: .map (aF true Z s.tb.es) s.tb.ck::b::a::dl_ (cz_ Z w0_) j [lb_ Z n 3 l 161,lb_ Z r 3 p 47])))))))):=by kernel_rfl
def rnK(lg:List CmM)(r:RnM):List Blk:=[.cells (ECm.all lg) 47 false, .cells [ptV 2, .bool r.br,lsV 8 r.rs.length] 168 true, .cells (lX 3 4 5 6 7 r.dk) 86 true]++dkL r.dk++[.cells (gI.all r.rs) 161 false]
def ah0(C1 C2 C3:List Value->List Blk->Bool)(ru:Int)(r:RnM)(lg:List CmM)(s:SrM)(k m:Nat):Ct:=ak P aB 2 77 (aP C1 (.leaf (.int .i64 ru,rnB r))) (jy P 74 (fun args=>aP C2 (.leaf (yM (0,0),[])) args []) (Gh P 152 0 Dsk (gX C3 (.leaf (.normal,skV k m (ah m),srK lg s))) ctF))
theorem ae3(C1 C2 C3:List Value->List Blk->Bool)(ru:Int)(r:RnM)(lg:List CmM)(s:SrM)(k m:Nat):rP P E (ah0 C1 C2 C3 ru r lg s k m) 50 aB [] [] 3 [false,true] 152 [ptV 1,slK 0 k m] (rnK lg r) =
 (let z:=r.rs.length;let y:=Enc.all gI r.rs;let x:=r.dk;let w:=Value.bool r.br;let v:=ro_ [1,2,10,5,9,1];let u:=Go.Addr.off ⟨0,Nat.mul k 3,none⟩;let t:=Nat.mul m 3;let q:=Enc.all ECm lg;let p:=takeC t (aO u q);let o:=aT [1,2] 15;let n:=aG true o y;let l:=bk_ o w0_;let j:=io_ 0;
 let i:=bQ 0 [0,24,23,22,1,2,27,28,29,30,31,26,25];let h:=s.rn.rs.length;let g:=aT [0,24,23,22,1,2] 32;let f:=aG true g (Enc.all gI s.rn.rs);let e:=bk_ g w0_;let d:=s.rn.dk;let c:=s.rest.length;let b:=aG true g (Enc.all ECm s.rest);let a:=bQ 0 [0,1,2,24,23,22,40,41,42,43,44,39,45];
 (nb_ z 3 y (dn_ w0_ x (ae (C1 [pt_ 0] (.cells [pt_ 1,w,sl_ 7 z] 168 true::dk_ x 2 3 4 5 6::dl_ (cz_ v w0_) x [lb_ v z 3 y 161])) (ae (Bool.and (Nat.ble (Nat.add u t) q.length) (Nat.ble 1 3)) (ae (gq p) (ae (C2 [io_ 1,io_ ru,fa_ m 0 p] []) (nb_ z 3 n (dn_ l x (ae (C3 [.pointer none,j,pt_ 1, .slice (some ⟨0,u,none⟩) m 18446744073709551616,io_ (ah m),j] (.cells (aG true i q) 47 false::so_ 2 4 12 0::tb_ 3:: .map [] 0:: .cells [pt_ 5,w,sl_ 11 z] 168 true::dk_ x 6 7 8 9 10::dl_ (cz_ i l) x [lb_ i z 3 n 161, .cells [] 47 false])) (nb_ h 3 f (dn_ e d (nb_ c 3 b (some (.tuple ⟨[pt_ 3,j]⟩,ag (.cells (aG true a (aG true g q)) 47 false:: .cells [pt_ 2, .bool s.rn.br,sl_ 11 h] 168 true::dk_ d 6 7 8 9 10::so_ 4 1 12 c::tb_ 5:: .map (aF true a (aF true g s.tb.es)) s.tb.ck::dl_ (cz_ a e) d [lb_ a h 3 f 161,lb_ a c 3 b 47])))))))))))))))):=by kernel_rfl
theorem atK(k i:Nat):Nat.add (Nat.mul k 3) (atN (i:Int) 3)=atN ((k+i:Nat):Int) 3:=by
 show k*3+(i:Int).toNat*3=((k+i:Nat):Int).toNat*3;omega
theorem Zd{s:SrM}(ht:fZ s.tb){lg:List CmM}{k m i:Nat}(hi:i<m)(hm:k+m=lg.length)(hl:lg.length<4194304)(hg:s.rest.length<4194300) :
  vG P E (Z8 (ay [cmV (lg[k+i]'(by omega))] []) (ay [p0,bD (lg[k+i]'(by omega)).ops] (tbB s.tb)) (tbM s.tb (lg[k+i]'(by omega)).ops) (lg[k+i]'(by omega))) 50 152 Bso Dsk (skV k m i) (srK lg s)=some (.tuple ⟨exV .normal::skV k m ((i+1:Nat):Int)⟩,ag (srK lg ⟨tbM s.tb (lg[k+i]'(by omega)).ops,s.rn,s.rest++[lg[k+i]'(by omega)]⟩)):=by
 obtain⟨g1,g2,a1⟩:=lH hi (by omega);have hk:k+i<lg.length:=by omega
 have g4:=kW hk;have h1:(s.rest++[lg[k+i]]).length=Nat.add s.rest.length 1:=by simp
 have ht2:=(ht.all lg[k+i].ops).ren;rw[Yu];simp (disch:=first|omega|(simp only[bU,bY,bZ,bT,bW,aH]<;>omega)|fail) only[mz_,ht.ren,ht2,atK,g1,g2,a1,g4,iL hk (dm 3),jZ hk,pR hk,qH hk,iy,zF,h1,vN,skV,slK,srK,uf_,aZ rfl,aZ h1.symm,dE rfl,dH rfl,bf rfl,nf_]
 rfl
theorem afP{C1 C2:List Value->List Blk->Bool}{tb:TbM}{c:CmM}{s:SrM}(ht:fZ s.tb){lg:List CmM}{k m:Nat}:vG P E (Z8 C1 C2 tb c) 50 152 Bso Dsk (skV k m m) (srK lg s)=some (.tuple ⟨exV (.exit 0)::skV k m m⟩,ag (srK lg s)):=by
 rw[Yu];simp only[mz_,kU,ht.ren,skV,slK,srK,uf_,aZ rfl,dE rfl,dH rfl,bf rfl,nf_]
 rfl
theorem TB{lg:List CmM}{k m:Nat}(hm:k+m=lg.length)(hl:lg.length<4194300)(hc:∀ c∈lg,cmE c=0):∀ (j i:Nat) (s:SrM),fZ s.tb->s.rest.length+j<4194300->i+j=m->
  LRX P 152 0 Bso Dsk.head (skV k m i) (srK lg s) .normal (skV k m m) (srK lg ⟨tbL s.tb (lg.drop (k+i)),s.rn,s.rest++lg.drop (k+i)⟩)
 |0,i,s,ht,h3,h=>by
  obtain rfl:i=m:=by omega
  rw[hm,qc,gG];exact LRX.stopK (n:=50) (dU _) bK (af (af aA (fF (r:= .leaf (.int .i64 0,tbB s.tb)))) (fF (r:= .leaf (cmV ⟨0,0,[]⟩,[])))) TL (e:= .exit 0) (afP (C1:=fun _ _=>false) (C2:=fun _ _=>false) (tb:=s.tb) (c:=⟨0,0,[]⟩) ht) (by intro h; cases h)
 |j+1,i,s,ht,h3,h=>by
  have hk:k+i<lg.length:=by omega
  obtain⟨_,_,hb⟩:=fU.1 (hc _ (kQ hk));obtain⟨b1,b2,b3⟩:=dM.1 hb;have ih:=TB hm hl hc j (i+1) ⟨tbM s.tb lg[k+i].ops,s.rn,s.rest++[lg[k+i]]⟩ (ht.all _) (by show(s.rest++[lg[k+i]]).length+j<_; simp; omega) (by omega);have e:(⟨tbL (tbM s.tb lg[k+i].ops) (lg.drop (k+(i+1))),s.rn,(s.rest++[lg[k+i]])++lg.drop (k+(i+1))⟩:SrM)=⟨tbL s.tb (lg.drop (k+i)),s.rn,s.rest++lg.drop (k+i)⟩:=by
   rw[lu hk,fG]; rfl
  rw[<-e];exact LRX.againK (n:=50) (dU _) bK (af (af aA (az (X8 ht hb))) (az (tY (c:=lg[k+i]) b1 (by omega)))) TL (Zd ht (by omega) hm (by omega) (by omega)) ih
def skB(lg:List CmM)(s:SrM):List Blk:=[.cells (ECm.all lg) 47 false, .cells [ptV 2, .bool s.rn.br,lsV 11 s.rn.rs.length] 168 true, .cells (lX 6 7 8 9 10 s.rn.dk) 86 true, .cells [ptV 4,ptV 1,lsV 12 s.rest.length] 174 true, .cells [.map (some 5)] 98 true, .map s.tb.es s.tb.ck]++dkL s.rn.dk++[.cells (gI.all s.rn.rs) 161 false, .cells (ECm.all s.rest) 47 false]
theorem ab5(l:List CmM):gq (ECm.all l)=true:=ECm.all_nr l
theorem Dy{lg:List CmM}{k m:Nat}(hm:k+m=lg.length):takeC (Nat.mul m 3) (aO (Nat.mul k 3) (ECm.all lg))=ECm.all (lg.drop k):=by
 have h1:aO (Nat.mul k 3) (ECm.all lg)=ECm.all (lg.drop k):=ECm.all_drop k lg;rw[h1];have h2:takeC (Nat.mul m 3) (ECm.all (lg.drop k))=ECm.all ((lg.drop k).take m):=ECm.all_take m _;rw[h2,oC (by rw[gZ]; omega)]
theorem age{r:RnM}{lg:List CmM}{k m:Nat}(hm:k+m=lg.length)(hr:r.rs.length<4194304)(hl:lg.length<4000)(hf:fA 1 (fP r.rs) 0 (lg.drop k)=(0,0))(hc:∀ c∈lg,cmE c=0) :
  CRX P 3 152 [ptV 1,slK 0 k m] (rnK lg r) (.tuple ⟨[ptV 3, .int .i64 0]⟩) (skB lg ⟨tbL tb0 (lg.drop k),r,lg.drop k⟩):=by
 have hlen:(lg.drop k).length=m:=by rw[gZ]; omega
 have q1:=AL hr;have q2:=pq (e:=1) (n:=fP r.rs) (l:=lg.drop k) (by omega) (by
  intro x hx;obtain⟨_,_,hb⟩:=fU.1 (hc x (Et hx));obtain⟨b1,b2,b3⟩:=dM.1 hb
  omega)
 rw[hf]at q2;have q3:=TB hm (by omega) hc m 0 ⟨tb0,r,[]⟩ wo (by show 0+m<_; omega) (by omega);rw[iY,pX]at q3;refine cK_ (af (iw (Qw aA (d_ (bJ YD) q3)) (CallOkR.ofK0 (az q2))) (az q1)) ((ae3 (ay [p0] (rnB r)) (ay [.int .i64 1, .int .i64 (fP r.rs),aQ (lg.drop k)] []) (ay (skV k m (0:Nat)) (srK lg ⟨tb0,r,[]⟩)) (fP r.rs) r lg ⟨tbL tb0 (lg.drop k),r,lg.drop k⟩ k m).trans ?_);clear q1 q2 q3;have z0:((0:Nat):Int)=0:=rfl;have e0:(ECm.all ([]:List CmM))=[]:=rfl;have e1:([]:List CmM).length=0:=rfl;have ht2:=(wo.log (lg.drop k)).ren;have e2:tb0.es=[]:=rfl;have e3:tb0.ck=0:=rfl;have b1:Nat.ble (Nat.add (Nat.mul k 3) (Nat.mul m 3)) (Nat.mul lg.length 3)=true:=dG (by show k*3+m*3<=lg.length*3; omega);simp (disch:=first|omega|(simp only[bU,bY,bZ,bT,bW,aH]<;>omega)|fail) only[mz_,ht2,z0,e0,e1,e2,e3,hlen,b1,show Nat.ble 1 3=true from rfl,ab5,Dy hm,skV,slK,srK,skB,rnK,uf_,aZ hlen.symm,dE rfl,dH rfl,bf rfl,nf_]
def ahM(C4:List Value->List Blk->Bool)(lg:List CmM)(sr:SrM):Ct:=Gx P aB 3 152 [false,true] (aP C4 (.leaf (.tuple ⟨[ptV 3, .int .i64 0]⟩,skB lg sr))) ctF
theorem ade(C4:List Value->List Blk->Bool)(s:StaM)(sr:SrM):rP P E (ahM C4 s.log sr) 50 aB [] [] 7 [] 111 [p0] (stB s) =
 (let z:=s.rs.length;let y:=s.log.length;let x:=ah y;let w:=Enc.all ECm s.log;let v:=Nat.div (Nat.sub w.length 0) 3;let u:=Enc.all gI s.rs;let t:=s.dk;let r:=pt_ 1;let q:=bQ 0 [12,3,1,38,39,40,41,42,37];let p:=rb_ s 2 8;let o:=dk_ t 3 4 5 6 7;let n:=Blk.cells (aG true q w) 47 false::p::o::dl_ (cz_ q w0_) t [lb_ q z 3 u 161];
 let m:=bz (sl_ 12 y) (sl_ 12 y);let l:=aT [12,3,1] 43;let k:=aG true l w;let j:=bk_ l w0_;let i:=sr.rn.dk;let h:=s.wcs.length;let g:=Enc.all ECm s.wcs;let f:=s.wes.length;let e:=Enc.all EIn s.wes;let d:=sr.rn.rs.length;let c:=Enc.all gI sr.rn.rs;let b:=aG true l c;let a:=sr.rest.length;
 let Z:=Enc.all ECm sr.rest;let Y:=aG true l Z;let X:=s.rest.length;let W:=Enc.all ECm s.rest;let V:=sb_ s s.pg 1 15 2 3 7;let U:=dk_ i 10 11 12 13 14;let T:=wb_ s 1 16 17;let S:=Blk.cells [r, .bool sr.rn.br,sl_ 18 d] 168 true;let R:=so_ 5 3 20 X;let Q:=ro_ [0,7,43,3,54,5,53,1,59,5];
 let O:=so_ 8 3 19 a;let N:=ae m (nb_ y 3 k (dn_ j i (nb_ h 3 g (nb_ f 1 e (nb_ d 3 b (nb_ a 3 Y (nb_ X 3 W (some (io_ 0,ag (V::U::T::S::R::tb_ 6:: .map (aF true Q s.tb.es) s.tb.ck::O::tb_ 9:: .map (aF true Q (aF true l sr.tb.es)) sr.tb.ck::dl_ (cz_ Q j) i [lb_ Q y 3 k 47,lb_ Q h 3 g 47,lb_ Q f 1 e 3,lb_ Q d 3 b 161,lb_ Q a 3 Y 47,lb_ Q X 3 W 47]))))))))));
 let M:=[r,sl_ 0 0];let L:=dJ .i64 (ah z) 1;let K:=Nat.add (Nat.add 0 (atN L 3)) 1;let J:=asI (aV u K);let I:=Int.toNat J;let H:=bQ 0 [12,3,1,52,53,54,55,56,51];let G:=Blk.cells (aG true H w) 47 false::p::o::dl_ (cz_ H w0_) t [lb_ H z 3 u 161];let F:=aT [12,3,1] 57;
 let D:=aG true F w;let C:=bk_ F w0_;let B:=aG true F c;let A:=aG true F Z;let z0:=ro_ [0,7,57,3,68,5,67,1,73,5];let y0:=ae m (nb_ y 3 D (dn_ C i (nb_ h 3 g (nb_ f 1 e (nb_ d 3 B (nb_ a 3 A (nb_ X 3 W (some (io_ 0,ag (V::U::T::S::R::tb_ 6:: .map (aF true z0 s.tb.es) s.tb.ck::O::tb_ 9:: .map (aF true z0 (aF true F sr.tb.es)) sr.tb.ck::dl_ (cz_ z0 C) i [lb_ z0 y 3 D 47,lb_ z0 h 3 g 47,lb_ z0 f 1 e 3,lb_ z0 d 3 B 161,lb_ z0 a 3 A 47,lb_ z0 X 3 W 47]))))))))));
 (aj (eqI (ah z) 0) (ae (dS 0 x v) (aj (Nat.ble 1 v) (nb_ z 3 u (dn_ w0_ t (ae (C4 [r,sl_ 0 (fC 0 x)] n) N))) (nb_ z 3 u (dn_ w0_ t (ae (C4 M n) N))))) (ae (inI L z) (ae (Bool.and (Nat.ble (Nat.add K 1) u.length) (gm (.int .i64) (aV u K))) (ae (dS J x v) (aj (Nat.ble (Nat.add I 1) v) (nb_ z 3 u (dn_ w0_ t (ae (C4 [r, .slice (some ⟨0,Go.Addr.off (Ei ⟨12,0,none⟩ (atN J 3)),none⟩) (fC J x) 18446744073709551616] G) y0))) (aj (Nat.beq I 0) (nb_ z 3 u (dn_ w0_ t (ae (C4 M G) y0))) (nb_ z 3 u (dn_ w0_ t (ae (C4 [r, .slice (some ⟨0,0,none⟩) 0 (Nat.add 18446744073709551616 I)] G) y0)))))))))):=by kernel_rfl
def stG(s:StaM)(ot:TbM)(orest:List CmM):List Blk:=[.cells ([ptV 1, .bool s.off]++pgC s.pg++[lsV 15 s.log.length,ptV 2,ptV 3,ptV 7, .int .i64 s.held]) 128 true, .cells (lX 10 11 12 13 14 s.dk) 86 true,
 .cells [ptV 1, .bool s.wbr,lsV 16 s.wcs.length,lsV 17 s.wes.length] 170 true, .cells [ptV 1, .bool s.rbr,lsV 18 s.rs.length] 168 true, .cells [ptV 5,ptV 3,lsV 20 orest.length] 174 true, .cells [.map (some 6)] 98 true, .map ot.es ot.ck,
 .cells [ptV 8,ptV 3,lsV 19 s.rest.length] 174 true, .cells [.map (some 9)] 98 true, .map s.tb.es s.tb.ck]++dkL s.dk++
 [.cells (ECm.all s.log) 47 false, .cells (ECm.all s.wcs) 47 false, .cells (EIn.all s.wes) 3 false, .cells (gI.all s.rs) 161 false, .cells (ECm.all s.rest) 47 false, .cells (ECm.all orest) 47 false]
theorem ab_{s:StaM}(ht:fZ s.tb)(hrs:s.rs=[])(hl:s.log.length<4000)(hf:fA 1 0 0 s.log=(0,0))(hc:∀ c∈s.log,cmE c=0) :
  CRX P 7 111 [p0] (stB s) (.int .i64 0) (stG { s with tb:=tbL tb0 s.log,rest:=s.log } s.tb s.rest):=by
 have hr0:fP s.rs=0:=by rw[hrs]; rfl
 have q1:=age (r:=s.rn) (lg:=s.log) (k:=0) (m:=s.log.length) (by omega) (by show s.rs.length<_; rw[hrs]; decide) hl (by show fA 1 (fP s.rs) 0 _=_; rw[hr0]; exact hf) hc;rw[iQ]at q1;refine cK_ (PZ aA (az q1)) ((ade (ay [ptV 1,slK 0 0 s.log.length] (rnK s.log s.rn)) s ⟨tbL tb0 s.log,s.rn,s.log⟩).trans ?_);clear q1;have ht1:=ht.ren;have ht2:=(wo.log s.log).ren;have hrl:s.rs.length=0:=by rw[hrs]; rfl
 have g0:eqI (ah 0) 0=true:=rfl;have g1:Nat.div (Nat.sub (Nat.mul s.log.length 3) 0) 3=s.log.length:=by show(s.log.length*3-0) / 3=_; omega
 have g2:dS 0 (ah s.log.length) s.log.length=true:=t_ (dm _);have g3:fC 0 (ah s.log.length)=s.log.length:=Y2 _;have m0:Nat.mul 0 3=0:=rfl;cases hz:Nat.ble 1 s.log.length with
 |true=>
  simp (disch:=first|omega|(simp only[bU,bY,bZ,bT,bW,aH]<;>omega)|fail) only[mz_,ht1,ht2,hrl,hz,g0,g1,g2,g3,m0,Dy,pgC,stB,stG,slK,rnK,skB,StaM.rn,qi,uf_,aZ rfl,dE rfl,dH rfl,bf rfl,bf hrl.symm,nf_]
 |false=>
  have hn:s.log.length=0:=by
   cases h:s.log.length with
   |zero=>rfl
   |succ j=>exfalso; rw[h,dG (by omega)]at hz; cases hz
  have hlg:s.log=[]:=o6.1 hn;have n0:Nat.div (Nat.sub 0 0) 3=0:=rfl;have n1:dS 0 (ah 0) 0=true:=rfl;have n2:fC 0 (ah 0)=0:=rfl;have n3:Nat.ble 1 0=false:=rfl;simp (disch:=first|omega|(simp only[bU,bY,bZ,bT,bW,aH]<;>omega)|fail) only[mz_,n0,n1,n2,n3,ht1,ht2,hrl,hz,hn,g0,g1,g2,g3,m0,Dy,pgC,stB,stG,slK,rnK,skB,StaM.rn,qi,uf_,aZ rfl,aZ hn.symm,dE rfl,dH rfl,bf rfl,bf hrl.symm,nf_]
def ah6(C0 C1 C2 C3 C4:List Value->List Blk->Bool)(ru:Int)(s:StaM)(w1 w2:WalM)(s2:StaM)(ot:TbM)(orest:List CmM):Ct:=
 ak P aB 2 77 (aP C0 (.leaf (.int .i64 ru,rnB s.rn))) (ak P aB 7 76 (aP C1 (.leaf (.bool true,stB s))) (ak P aB 2 209 (aP C2 (.leaf (.int .i64 0,iO w1))) (ak P aB 2 80 (aP C3 (.leaf (.int .i64 0,iO w2)))
 (ak P aB 7 111 (aP C4 (.leaf (.int .i64 0,stG s2 ot orest))) ctF))))
theorem ae4(C0 C1 C2 C3 C4:List Value->List Blk->Bool)(ru:Int)(s:StaM)(w1 w2:WalM)(s2:StaM)(ot:TbM)(orest:List CmM)(n:Nat):rP P E (ah6 C0 C1 C2 C3 C4 ru (okS s) w1 w2 s2 ot orest) 50 aB [] [] 7 [] 187 [p0, .int .i64 (n:Int)] (stB (okS s)) =
 (let z:=okS s;let y:=z.rs.length;let x:=Enc.all gI z.rs;let w:=pt_ 0;let v:=dk_ z.dk 2 3 4 5 6;let u:=bQ 0 [3,1,18,19,20,21,22,17];let t:=Nat.cast n;let r:=z.log.length;let q:=Enc.all ECm z.log;let p:=aT [3,1] 23;let o:=bk_ p w0_;let m:=z.rn.dk;let l:=z.wcs.length;let k:=Enc.all ECm z.wcs;
 let j:=z.wes.length;let i:=Enc.all EIn z.wes;let h:=z.rn.rs.length;let g:=Enc.all gI z.rn.rs;let f:=aG true p g;let e:=z.rest.length;let d:=Enc.all ECm z.rest;let c:=z.pg;let b:=sb_ z c 1 12 2 3 4;let a:=dk_ m 7 8 9 10 11;let Z:=wb_ z 1 13 14;let Y:=pt_ 1;let X:=Value.bool z.rn.br;let W:=Blk.cells [Y,X,sl_ 15 h] 168 true;
 let V:=so_ 5 3 16 e;let U:=tb_ 6;let T:=ro_ [0,7,30,5,29,1,35,4];let S:=z.tb.es;let R:=z.tb.ck;let Q:=nb_ r 3 q (dn_ o m (nb_ l 3 k (nb_ j 1 i (nb_ h 3 f (nb_ e 3 d (some (io_ 2,ag (b::a::Z::W::V::U:: .map (aF true T S) R::dl_ (cz_ T o) m [lb_ T r 3 q 47,lb_ T l 3 k 47,lb_ T j 1 i 3,lb_ T h 3 f 161,lb_ T e 3 d 47]))))))));
 let O:=dJ .i64 t 1;let N:=Nat.add 0 (atN O 3);let M:=bQ 0 [3,1,44,45,46,47,48,43];let L:=C0 [w] (.cells [Y,X,sl_ 7 h] 168 true::dk_ m 2 3 4 5 6::dl_ (cz_ M o) m [lb_ M h 3 f 161]);let K:=aT [3,1] 49;let J:=bk_ K w0_;let I:=aG true K g;let H:=pg_ c;let G:=io_ t;let F:=ro_ [0,7,56,5,55,1,61,4];
 let D:=b::a::Z::W::V::U::Blk.map (aF true F S) R::dl_ (cz_ F J) m [lb_ F r 3 q 47,lb_ F l 3 k 47,lb_ F j 1 i 3,lb_ F h 3 I 161,lb_ F e 3 d 47];let C:=rg_ [0,7];let B:=aT C 65;let A:=aG true B k;let z0:=aG true B i;let y0:=bk_ B w0_;let x0:=ro_ [2,1,1,1,77,5,75,2];
 let w0:=w1.cs.length;let v0:=aT [2,1] 82;let u0:=aG true v0 (Enc.all ECm w1.cs);let t0:=w1.es.length;let s0:=aG true v0 (Enc.all EIn w1.es);let r0:=bk_ v0 w0_;let q0:=ro_ [2,1,1,1,91,5,89,2];let o0:=Int.toNat t;let n0:=aG true B q;let m0:=aT [2,1] 96;let l0:=bk_ m0 w0_;
 let k0:=w2.dk;let j0:=w2.cs.length;let i0:=aG true m0 (Enc.all ECm w2.cs);let h0:=w2.es.length;let g0:=aG true m0 (Enc.all EIn w2.es);let f0:=aG true B x;let e0:=aG true B d;let d0:=Value.bool (eqI 0 6);let c0:=io_ c.ep;let b0:=Value.int .u8 c.ro;let a0:=io_ c.ac;let Z0:=Value.int .u8 c.ph;
 let Y0:=io_ c.fo;let X0:=io_ c.ba;let W0:=pt_ 2;let V0:=pt_ 3;let U0:=pt_ 4;let T0:=io_ z.held;let S0:=dk_ k0 7 8 9 10 11;let R0:=Blk.cells [Y, .bool w2.br,sl_ 13 j0,sl_ 14 h0] 170 true;let Q0:=rb_ z 1 15;let P0:=ro_ [0,7,104,5,103,1,109,4];let O0:=aF true B S;let N0:=Blk.map (aF true P0 O0) R;
 let M0:=cz_ P0 l0;let L0:=lb_ P0 j0 3 i0 47;let K0:=lb_ P0 h0 1 g0 3;let J0:=lb_ P0 y 3 f0 161;let I0:=lb_ P0 e 3 e0 47;let H0:=aT C 113;let G0:=orest.length;let F0:=Enc.all ECm orest;let E0:=io_ 0;let D0:=nw_ s2 H0 (nb_ G0 3 (aG true H0 F0) (some (E0,ag (gw_ s2 ot orest (ro_ [0,7,113,3,128,5,127,1,133,5]) H0))));
 let B0:=dn_ l0 k0 (nb_ j0 3 i0 (nb_ h0 1 g0 (nb_ y 3 f0 (nb_ e 3 e0 (ae (C4 [w] (.cells [Y,d0,c0,b0,a0,Z0,Y0,X0,sl_ 12 o0,W0,V0,U0,T0] 128 true::S0::R0::Q0::V::U::N0::dl_ M0 k0 [lb_ P0 o0 3 n0 47,L0,K0,J0,I0])) D0)))));let A0:=ro_ [0,7,103,5,70,1,108,4];let z1:=aT C 112;
 let y1:=ae (bz H H) (nb_ l 3 A (nb_ j 1 z0 (dn_ y0 z.dk (ae (C2 [w,G] (wb_ z 1 7 8::v::dl_ (cz_ x0 y0) z.dk [lb_ x0 l 3 A 47,lb_ x0 j 1 z0 3])) (nb_ w0 3 u0 (nb_ t0 1 s0 (dn_ r0 w1.dk (ae (C3 [w] (.cells [Y, .bool w1.br,sl_ 7 w0,sl_ 8 t0] 170 true::dk_ w1.dk 2 3 4 5 6::dl_ (cz_ q0 r0) w1.dk [lb_ q0 w0 3 u0 47,lb_ q0 t0 1 s0 3])) (ae (Bool.and (dS 0 t o0) (Bool.and (dS 0 t (Nat.div (Nat.sub n0.length 0) 3)) (Nat.ble (Nat.succ o0) 18446744073709551616))) (aj (Nat.beq o0 18446744073709551616) (nb_ o0 3 n0 B0) (aj (Nat.ble 18446744073709551616 o0) (dn_ l0 k0 (nb_ j0 3 i0 (nb_ h0 1 g0 (nb_ y 3 f0 (nb_ e 3 e0 (ae (C4 [w] (.cells [Y,d0,c0,b0,a0,Z0,Y0,X0,sl_ 12 0,W0,V0,U0,T0] 128 true::S0::R0::Q0::V::U::N0::dl_ M0 k0 [.cells [] 47 false,L0,K0,J0,I0])) D0)))))) (aj (Bool.and (Nat.ble o0 o0) (Nat.ble (Nat.add 0 (Nat.mul o0 3)) n0.length)) B0 (dn_ l0 k0 (nb_ j0 3 i0 (nb_ h0 1 g0 (nb_ y 3 f0 (nb_ e 3 e0 (ae (C4 [w] (.cells [Y,d0,c0,b0,a0,Z0,Y0,X0, .slice (some ⟨12,0,none⟩) o0 o0,W0,V0,U0,T0] 128 true::S0::R0::Q0::V::U:: .map (aF true A0 O0) R::dl_ (cz_ A0 l0) k0 [.cells (aG true A0 n0) 47 false,lb_ A0 j0 3 i0 47,lb_ A0 h0 1 g0 3,lb_ A0 y 3 f0 161,lb_ A0 e 3 e0 47])) (nw_ s2 z1 (nb_ G0 3 (aG true z1 F0) (some (E0,ag (gw_ s2 ot orest (ro_ [0,7,112,3,127,5,126,1,132,5]) z1)))))))))))))))))))))));
 (nb_ y 3 x (dn_ w0_ z.dk (ae (C0 [w] (rb_ z 1 7::v::dl_ (cz_ u w0_) z.dk [lb_ u y 3 x 161])) (aj (ltI t ru) Q (aj (gtI t (ah r)) Q (aj (gtI t 0) (ae (inI O r) (ae (Bool.and (Nat.ble (Nat.add N 1) q.length) (gm (.int .i64) (aV q N))) (nb_ h 3 f (dn_ o m (ae L (nb_ r 3 q (dn_ J m (nb_ l 3 k (nb_ j 1 i (nb_ h 3 I (nb_ e 3 d (ae (C1 [w,H,G,io_ (asI (aV q N)),io_ ru] D) y1)))))))))))) (nb_ h 3 f (dn_ o m (ae L (nb_ r 3 q (dn_ J m (nb_ l 3 k (nb_ j 1 i (nb_ h 3 I (nb_ e 3 d (ae (C1 [w,H,G,E0,io_ ru] D) y1))))))))))))))))):=by kernel_rfl
def StaM.shut(s:StaM)(n:Nat):StaM:={ s with log:=s.log.take n,dk:={ s.dk with steps:=s.dk.steps+1+1,d0:=b_ (s.log.take n),pend:=[] },wbr:=false,wcs:=s.log.take n,wes:=f_ (s.log.take n) }
def StaM.short(s:StaM)(n:Nat):StaM:={ s.shut n with tb:=tbL tb0 (s.log.take n),rest:=s.log.take n }
theorem BG{l:List CmM}{n:Nat}(h0:0<n)(hn:n<=l.length):aY (l.take n)=(l[n-1]'(by omega)).e:=by
 have hne:l.take n≠[]:=by
  intro h;have:=congrArg List.length h;rw[fH,lL]at this;omega
 have hlen:(l.take n).length=n:=by rw[fH]; omega
 rw[nU hne];simp only[hlen,List.getElem_take]
theorem NR:∀ {l:List CmM} {e x:Int} {i:Nat} (n:Nat),fA e x i l=(0,0)->fA e x i (l.take n)=(0,0)
 |[],_,_,_,n,_=>by rw[wB]; rfl
 |c::l,e,x,i,0,h=>rfl
 |c::l,e,x,i,n+1,h=>by
  obtain⟨h1,h2,h3,h4⟩:=mM h;rw[BH];exact yQ ⟨h1,h2,h3,NR n h4⟩
theorem ab9:∀ {l:List CmM} {x:Int} {i:Nat},fA 0 x i l=(0,0)->fA 1 x i l=(0,0)
 |[],_,_,_=>rfl
 |c::l,x,i,h=>by
  obtain⟨h1,h2,h3,h4⟩:=mM h;exact yQ ⟨h1,h2,(fU.1 h1).1.1,h4⟩
theorem ahu{s:StaM}{n:Nat}(hs:StQ s 100000)(hrs:s.rs=[])(hf:fA 0 0 0 s.log=(0,0))(hn:n<=s.log.length)(hg:s.log.length<4000)(h1:(b_ s.log).length<=3000000)(hso:kD s.held s.pg (n:Int) (aY (s.log.take n)) 0=true) :
  CRX P 7 187 [p0, .int .i64 (n:Int)] (stB s) (.int .i64 0) (stG (s.short n) s.tb s.rest):=by
 have hall:∀ c∈s.log,cmE c=0:=Fol.all (L:=[]) ⟨hf⟩;have hr0:fP s.rs=0:=by rw[hrs]; rfl
 have q0:=AL (r:=s.rn) hs.sr.r;have hr0':fP s.rn.rs=0:=hr0;rw[hr0']at q0;have q1:=Ku (s:=s) hs.sr.tb (p:=s.pg) (en:=(n:Int)) (ep:=aY (s.log.take n)) (ru:=0);rw[hso]at q1;have q2:=ab6 (d:=s.dk) (cs:=s.log) (n:=n) hs.dk hs.pend hn hg hs.d0 h1;have q3:=YV (d:=s.dk) (cs:=s.log) (n:=n) hs.dk hs.d0 h1;have q4:=ab_ (s:=s.shut n) hs.sr.tb hrs (by show(s.log.take n).length<_; rw[fH]; omega) (ab9 (NR n hf)) fun c hc=>hall c (oW hc);have q:=ae4 (ay [p0] (rnB s.rn)) (ay [p0,pgV s.pg, .int .i64 (n:Int), .int .i64 (aY (s.log.take n)), .int .i64 0] (stB s)) (ay [p0, .int .i64 (n:Int)] (iO ⟨s.dk,false,s.log,f_ s.log⟩))
  (ay [p0] (iO ⟨{ s.dk with steps:=s.dk.steps+1,pend:=[⟨1,0,[],((b_ (s.log.take n)).length:Int)⟩] },false,s.log.take n,f_ (s.log.take n)⟩)) (ay [p0] (stB (s.shut n))) 0 s ⟨{ s.dk with steps:=s.dk.steps+1,pend:=[⟨1,0,[],((b_ (s.log.take n)).length:Int)⟩] },false,s.log.take n,f_ (s.log.take n)⟩
  ⟨{ s.dk with steps:=s.dk.steps+1+1,d0:=b_ (s.log.take n),pend:=[] },false,s.log.take n,f_ (s.log.take n)⟩ (s.short n) s.tb s.rest n
 rw[AB hs.off hs.dk.off]at q;refine cK_ (af (af (af (af (af aA (az q4)) (az q3)) (az q2)) (az q1)) (az q0)) (q.trans ?_);clear q q0 q1 q2 q3 q4;have hoff:=hs.off;have hdo:=hs.dk.off;have hwb:=hs.wbr;have hwc:=hs.wcs;have hwe:=hs.wes;have ht:=hs.sr.tb.ren;have ht2:=(wo.log (s.log.take n)).ren;have c1:ltI ((n:Nat):Int) 0=false:=lF_ (by omega);have c2:gtI ((n:Nat):Int) (ah s.log.length)=false:=gF_ (by unfold ah; omega);have g2:dS 0 ((n:Nat):Int) n=true:=t_ (dm n);have g3:dS 0 ((n:Nat):Int) s.log.length=true:=t_ hn;have g4:Nat.div (Nat.sub (Nat.mul s.log.length 3) 0) 3=s.log.length:=by show(s.log.length*3-0) / 3=_; omega
 have g6:fC 0 ((n:Nat):Int)=n:=by unfold fC; omega
 have g7:Nat.ble (Nat.succ n) 18446744073709551616=true:=dG (by omega);have g8:Nat.beq n 18446744073709551616=false:=by
  cases h:Nat.beq n 18446744073709551616 with
  |false=>rfl
  |true=>have:=dF h; omega
 have g9:Nat.ble 18446744073709551616 n=false:=by
  cases h:Nat.ble 18446744073709551616 n with
  |false=>rfl
  |true=>have:=dR h; omega
 have b1:Nat.ble n n=true:=dG (dm n);have b2:Nat.ble n s.log.length=true:=dG hn;have b3:Nat.ble (Nat.mul n 3) (Nat.mul s.log.length 3)=true:=dG (xA 3 hn);have t3:(s.log.take n).length=n:=by rw[fH]; omega
 have t1:(f_ s.log).length=s.log.length:=vY _;have t4:(f_ (s.log.take n)).length=n:=by rw[vY,t3]
 have z1:neI 0 0=false:=rfl;have z2:eqI 0 6=false:=rfl;have z3:eqI 0 0=true:=rfl;by_cases h0:n=0
 ·subst h0;have c3:gtI (((0:Nat)):Int) 0=false:=rfl;have e1:aY (s.log.take 0)=0:=rfl;simp (disch:=first|omega|(simp only[bU,bY,bZ,bT,bW,aH]<;>omega)|fail) only[pg_,mz_,hoff,hdo,hwb,hwc,hwe,ht,ht2,c1,c2,c3,e1,g2,g3,g4,g6,g7,g8,g9,b1,b2,b3,t1,t3,t4,z1,z2,z3,Ey,zF,oO,qi,pgV,iy,lW,StaM.wal,StaM.rn,StaM.shut,StaM.short,stB,stG,pgC,uf_,aZ rfl,dE rfl,dH rfl,bf rfl,aZ t3.symm,dE t4.symm,nf_]
 ·have c3:gtI ((n:Nat):Int) 0=true:=gT_ (by omega);have m1:dJ .i64 ((n:Nat):Int) 1=((n-1:Nat):Int):=by unfold dJ; rw[wrap64 (by omega) (by omega)]; omega
  have m2:inI ((n-1:Nat):Int) s.log.length=true:=jl (by omega) (by omega);have m4:=jZ (l:=s.log) (i:=n-1) (by omega);have m4':aV (ECm.all s.log) (Nat.add (atN ((n-1:Nat):Int) 3) 0) = .int .i64 (s.log[n-1]'(by omega)).e:=m4;have m5:Nat.ble (Nat.add (atN ((n-1:Nat):Int) 3) 1) (Nat.mul s.log.length 3)=true:=iL (by omega) (by decide);have e1:=BG (l:=s.log) (n:=n) (by omega) hn;simp (disch:=first|omega|(simp only[bU,bY,bZ,bT,bW,aH]<;>omega)|fail) only[pg_,mz_,hoff,hdo,hwb,hwc,hwe,ht,ht2,c1,c2,c3,e1,m1,m2,m4,m4',m5,g2,g3,g4,g6,g7,g8,g9,b1,b2,b3,t1,t3,t4,z1,z2,z3,Ey,zF,oO,qi,pgV,iy,lW,StaM.wal,StaM.rn,StaM.shut,StaM.short,stB,stG,pgC,uf_,aZ rfl,dE rfl,dH rfl,bf rfl,aZ t3.symm,dE t4.symm,nf_]
theorem DkC.mono{d:DkM}{k K:Nat}(h:DkC d K)(hk:k<=K):DkC d k:=⟨h.off,h.fused,h.fuse,h.steps.1,by have:=h.steps.2; omega⟩
theorem StQ.mono{s:StaM}{k K:Nat}(h:StQ s K)(hk:k<=K):StQ s k:=⟨h.off,h.dk.mono hk,h.pend,h.wbr,h.wcs,h.wes,h.sr,h.d0⟩
theorem yu{a l:List CmM}(h:l≠[]):aY (a++l)=aY l:=by
 rcases List.eq_nil_or_concat l with rfl | ⟨t,c,rfl⟩
 ·exact absurd rfl h
 ·rw[List.concat_eq_append,<-fG,uf,uf]
theorem ad2{s:StaM}{l:List CmM}{k K:Nat}(hs:StQ s (K+20000))(hk:k<=17*l.length)(hl:l.length<=1000):StQ (s.added k l) K:=by
 obtain⟨h1,h2,h3,h4,h5,h6,h7,h8⟩:=hs;have hst:=h2.steps;refine⟨h1,⟨h2.off,h2.fused,h2.fuse,?_,?_⟩,rfl,rfl,rfl,rfl,⟨h7.tb.log l,?_,?_,h7.r,h7.r0⟩,?_⟩
 ·show 0<=s.dk.steps+(k:Int)+1; omega
 ·show s.dk.steps+(k:Int)+1+(K:Int)<_; omega
 ·show((s.log++l).length:Int)=fP s.rs+((s.rest++l).length:Int);have:=h7.n;rw[bP,bP]; omega
 ·show s.rest++l=[]\/aY (s.rest++l)=aY (s.log++l);by_cases hn:l=[]
  ·subst hn; rw[gG,gG]; exact h7.e
  ·right; rw[yu hn,yu hn]
 ·show s.dk.d0++b_ l=b_ (s.log++l);rw[h8,vw]
theorem Jw{s:StaM}{p:PgM}{k K:Nat}(hs:StQ s (K+20000))(hk:k<=2):StQ (s.paged k p) K:=by
 obtain⟨h1,h2,h3,h4,h5,h6,h7,h8⟩:=hs;have hst:=h2.steps;refine⟨h1,⟨h2.off,h2.fused,h2.fuse,?_,?_⟩,rfl,h4,h5,h6,⟨h7.tb,h7.n,h7.e,h7.r,h7.r0⟩,h8⟩
 ·show 0<=s.dk.steps+(k:Int)+1; omega
 ·show s.dk.steps+(k:Int)+1+(K:Int)<_; omega
theorem TN{s:StaM}{n K:Nat}(hs:StQ s (K+20000))(hrs:s.rs=[]):StQ (s.short n) K:=by
 obtain⟨h1,h2,h3,h4,h5,h6,h7,h8⟩:=hs;have hst:=h2.steps;refine⟨h1,⟨h2.off,h2.fused,h2.fuse,?_,?_⟩,rfl,rfl,rfl,rfl,⟨wo.log _,?_,Or.inr rfl,h7.r,h7.r0⟩,rfl⟩
 ·show 0<=s.dk.steps+1+1; omega
 ·show s.dk.steps+1+1+(K:Int)<_; omega
 ·show((s.log.take n).length:Int)=fP s.rs+((s.log.take n).length:Int);rw[hrs]; show _=(0:Int)+_; omega
def StaM.filed(s:StaM)(k:Nat)(b:List UInt8)(h:Int):StaM:={ s with held:=h,dk:={ s.dk with d3:=s.dk.d3++b,steps:=s.dk.steps+(k:Int)+1,pend:=[] } }
theorem adl{s:StaM}{b:List UInt8}{h:Int}{k K:Nat}(hs:StQ s (K+20000))(hk:k<=10000):StQ (s.filed k b h) K:=by
 obtain⟨h1,h2,h3,h4,h5,h6,h7,h8⟩:=hs;have hst:=h2.steps;refine⟨h1,⟨h2.off,h2.fused,h2.fuse,?_,?_⟩,rfl,h4,h5,h6,⟨h7.tb,h7.n,h7.e,h7.r,h7.r0⟩,h8⟩
 ·show 0<=s.dk.steps+(k:Int)+1; omega
 ·show s.dk.steps+(k:Int)+1+(K:Int)<_; omega
theorem aaN(V:Nat->List UInt8)(C:Int->Bool)(m d:Nat)(e:List Value)(n b:Nat)(c:List Value):aN P E (nV P 50 (jy P 50 (uq V C) ctF)) 50 g_ [.val, .val] [57,0] 0 88 [ax 1 m d e,ax 1 n b c] [] =
 (let z:=cvI .u64 (ah n);let y:=HAppend.hAppend (List.map byteOf e) (V (Int.toNat z));let x:=Nat.add y.length n;let w:=aG false (dQ 0) (bc y);let v:=List.append (jC 0 w) c;
 (aj (gtI (ah n) 131072) (some (.tuple ⟨[fb_ 0 0 [],io_ 3]⟩,ag [])) (ae (Bool.and (fw_ m e) (C z)) (ae (List.all c oneCell) (ae (Nat.ble x 4194304) (ae (Nat.beq (Nat.add 0 (Nat.mul y.length 1)) w.length) (ae (fq_ x v 5) (some (.tuple ⟨[fb_ x 0 (takeC (Nat.mul x 1) (aO 0 v)),io_ 0]⟩,ag []))))))))):=by kernel_rfl
def lQ(s:SecM):Value:= .agg ⟨[.int .i64 s.e, .int .i64 s.f,aQ s.cs]⟩
def ahO(C1:List Value->List Blk->Bool)(r:Int×Nat):Ct:=ak P aB 0 74 (aP C1 (.leaf (yM r,[]))) ctF
theorem adR(C1:List Value->List Blk->Bool)(r:Int×Nat)(s:SecM):aN P E (ahO C1 r) 50 aB [.val] [0] 0 203 [lQ s] [] =
 (let z:=ag [];let y:=some (io_ 2,z);let x:=s.cs.length;let w:=Enc.all ECm s.cs;let v:=Prod.fst r;let u:=dJ .i64 (ah x) 1;let t:=Nat.add (atN u 3) 0;
 (aj (ltI s.e 1) y (aj (gtI s.e 1048576) y (aj (ltI s.f 0) y (aj (eqI (ah x) 0) y (ae (C1 [io_ 1,io_ s.f,fa_ x 0 w] []) (aj (neI v 0) (some (io_ v,z)) (ae (Bool.and (Nat.beq 3 3) (inI u x)) (ae (Bool.and (Nat.ble (Nat.add t 1) w.length) (gm (.int .i64) (aV w t))) (aj (geI (asI (aV w t)) s.e) (some (io_ 15,z)) (some (io_ 0,z)))))))))))):=by kernel_rfl
def Doe:HeadX:=⟨0,64,[2,3,8,9,41,42,43],[.val, .val, .val, .val, .val, .val, .val],[57,0,57,0,35,0,0],aB⟩
def Boe:Code:=(di P 206 2).getD .skip
theorem XY:di P 206 2=some Boe:=by kernel_rfl
theorem QV:Occ P 206 (.block 2 (.loop Boe)):=dN XY
def oeV(b:List UInt8)(l:List CmM)(i:Int):List Value:=[ax 1 0 0 [], .int .i64 0,ax 1 b.length 0 (bc b), .int .i64 0,aQ l, .int .i64 (ah l.length), .int .i64 i]
def Zz(C1 C2:List Value->List Blk->Bool)(x f:List UInt8):Ct:=ak P aB 0 51 (aP C1 (.leaf (.tuple ⟨[ax 1 x.length 0 (bc x), .int .i64 0]⟩,[]))) (ak P aB 0 88 (aP C2 (.leaf (.tuple ⟨[ax 1 f.length 0 (bc f), .int .i64 0]⟩,[]))) ctF)
theorem Wu(C1 C2:List Value->List Blk->Bool)(x f b:List UInt8)(l:List CmM)(i:Int):aU P E (Zz C1 C2 x f) 50 206 Boe Doe (oeV b l i) [] =
 (let z:=l.length;let y:=atN i 3;let w:=Enc.all ECm l;let v:=Eta.int .i64;let u:=Nat.add y 1;let t:=aV w (Nat.add u 1);let s:=fb_ b.length 0 (bc b);let r:=io_ 0;let q:=fb_ 0 0 [];let p:=fa_ z 0 w;let o:=io_ (ah z);
 (aj (ltI i (ah z)) (ae (Bool.and (Nat.beq 3 3) (inI i z)) (ae (Bool.and (Nat.ble (Nat.add y 3) w.length) (jg [v,v, .slice 3] w y)) (ae (C1 [.agg ⟨[io_ (asI (aV w y)),io_ (asI (aV w u)),fa_ (zN t) (zB t) (zC t)]⟩] []) (ae (C2 [s,fb_ x.length 0 (bc x)] []) (some (.tuple ⟨[r,q,r,fb_ f.length 0 (bc f),r,p,o,io_ (bM .i64 i 1)]⟩,ag [])))))) (some (.tuple ⟨[io_ 3,q,r,s,r,p,o,io_ i]⟩,ag [])))):=by kernel_rfl
def ah8(C1 C2 C3:List Value->List Blk->Bool)(V:Nat->List UInt8)(C:Int->Bool)(f g:List UInt8)(l:List CmM):Ct:=ak P aB 0 203 (aP C1 (.leaf (.int .i64 0,[]))) (ak P aB 0 88 (aP C2 (.leaf (.tuple ⟨[ax 1 f.length 0 (bc f), .int .i64 0]⟩,[]))) (dX P 206 2 Doe (gX C3 (.leaf (.normal,oeV g l (ah l.length),[]))) (nV P 50 (jy P 50 (uq V C) ctF))))
theorem acG(C1 C2 C3:List Value->List Blk->Bool)(V:Nat->List UInt8)(C:Int->Bool)(f g:List UInt8)(s:SecM):aN P E (ah8 C1 C2 C3 V C f g s.cs) 50 aB [.val, .val] [57,0] 0 206 [lQ s] [] =
 (let z:=s.cs.length;let y:=fa_ z 0 (Enc.all ECm s.cs);let x:=cvI .u64 s.e;let w:=HAppend.hAppend [] (V (Int.toNat x));let v:=w.length;let u:=aG false (dQ 1) (bc w);let t:=takeC (Nat.mul v 1) (aO 0 u);let r:=cvI .u64 s.f;let q:=HAppend.hAppend (List.map byteOf t) (V (Int.toNat r));let p:=q.length;
 let o:=aG false (dQ 2) (bc q);let n:=takeC (Nat.mul p 1) (aO 0 o);let m:=cvI .u64 (ah z);let l:=HAppend.hAppend (List.map byteOf n) (V (Int.toNat m));let k:=l.length;let j:=aG false (dQ 3) (bc l);let i:=fb_ 0 0 [];let h:=io_ 0;
 (ae (C1 [.agg ⟨[io_ s.e,io_ s.f,y]⟩] []) (ae (Bool.and (fw_ 0 []) (C x)) (ae (fq_ v u 5) (ae (Bool.and (fw_ v t) (C r)) (ae (fq_ p o 5) (ae (Bool.and (fw_ p n) (C m)) (ae (fq_ k j 5) (ae (C2 [i,fb_ k 0 (takeC (Nat.mul k 1) (aO 0 j))] []) (ae (C3 [i,h,fb_ f.length 0 (bc f),h,y,io_ (ah z),h] []) (some (.tuple ⟨[fb_ g.length 0 (bc g),h]⟩,ag [])))))))))))):=by kernel_rfl
end Go.VS.Tryz
end
