/- Texts of the proof, merged. No conditions. -/
import Derived.Test.YtofceohboacaoaaGreatNodePairQ4
set_option linter.unusedSimpArgs false
set_option linter.unusedVariables false
noncomputable section
namespace Go.VS.Tryz
open Go.VS
set_option maxRecDepth 1000000
theorem aar{b r:List UInt8}(h:r.length<=131072)(hb:b.length<=3000000):CRX P 0 88 [ax 1 b.length 0 (bc b),ax 1 r.length 0 (bc r)] [] (.tuple ⟨[ax 1 (b++frM r).length 0 (bc (b++frM r)), .int .i64 0]⟩) []:=by
 refine co_ (l_ (g:=50) (iw aA uN)) ((aaN au gB b.length 0 (bc b) r.length 0 (bc r)).trans ?_);have g1:gtI (ah r.length) 131072=false:=gF_ (by unfold ah; omega);have d1:=aK (n:=r.length);have c1:cvI .u64 (ah r.length)=(r.length:Int):=iG (by omega);have u1:gB (r.length:Int)=true:=jl (by omega) (by omega);have z:fzB 18446744073709551617 b.length (bc b)=true:=by rw[<-fz1]; exact yO rfl (by omega)
 have e1:b++au r.length++r=b++frM r:=by rw[fG]; rfl
 have hl:(b++au r.length).length=b.length+(au r.length).length:=bP;have e2:Nat.add (b++au r.length).length r.length=(b++frM r).length:=by rw[<-e1]; exact bP.symm
 have e3:Nat.ble (b++frM r).length 4194304=true:=dG (by rw[<-e1,bP,hl]; omega);simp (disch:=first|omega|(simp only[bU,bY,bZ,bT,bW,aH]<;>omega)|fail) only[mz_,g1,c1,u1,z,e1,e2,e3,fJ,nf_]
theorem adF{s:SecM}(hl:s.cs.length<4000)(ho:∀ c∈s.cs,c.ops.length<4194304):CRX P 0 203 [lQ s] [] (.int .i64 (zQ s)) []:=by
 have q1:=pq (e:=1) (n:=s.f) (l:=s.cs) (by omega) ho;refine co_ (af aA (az q1)) ((adR (ay [.int .i64 1, .int .i64 s.f,aQ s.cs] []) (fA 1 s.f 0 s.cs) s).trans ?_);clear q1;unfold zQ;generalize fA 1 s.f 0 s.cs=r;by_cases h1:s.e<1
 ·have w:(within s.e 1 1048576&&decide (0<=s.f)&&!s.cs.isEmpty)=false:=by unfold within; rw[iW (by omega:¬1<=s.e)]; rfl
  have g1:ltI s.e 1=true:=lT_ h1;simp only[mz_,w,g1,nf_]
 ·have g1:ltI s.e 1=false:=lF_ h1;by_cases h2:s.e>1048576
  ·have w:(within s.e 1 1048576&&decide (0<=s.f)&&!s.cs.isEmpty)=false:=by unfold within; rw[iW (by omega:¬s.e<=1048576),Bool.and_false]; rfl
   have g2:gtI s.e 1048576=true:=gT_ (by omega);simp only[mz_,w,g1,g2,nf_]
  ·have g2:gtI s.e 1048576=false:=gF_ (by omega);by_cases h3:s.f<0
   ·have w:(within s.e 1 1048576&&decide (0<=s.f)&&!s.cs.isEmpty)=false:=by rw[iW (by omega:¬0<=s.f),Bool.and_false]; rfl
    have g3:ltI s.f 0=true:=lT_ h3;simp only[mz_,w,g1,g2,g3,nf_]
   ·have g3:ltI s.f 0=false:=lF_ h3;by_cases h4:s.cs=[]
    ·have w:(within s.e 1 1048576&&decide (0<=s.f)&&!s.cs.isEmpty)=false:=by rw[h4]; simp
     have g4:eqI (ah s.cs.length) 0=true:=by rw[h4]; rfl
     simp only[mz_,w,g1,g2,g3,g4,nf_]
    ·have w:(within s.e 1 1048576&&decide (0<=s.f)&&!s.cs.isEmpty)=true:=by
      unfold within;rw[eU (by omega:1<=s.e),eU (by omega:s.e<=1048576),eU (by omega:0<=s.f)];cases hc:s.cs with
      |nil=>exact absurd hc h4
      |cons c l=>rfl
     obtain⟨g4,_,l1,l2⟩:=mJ h4 (by omega);have hp:=kY.2 h4;have l4:aV (ECm.all s.cs) (Nat.add (atN ((s.cs.length-1:Nat):Int) 3) 0) = .int .i64 (s.cs[s.cs.length-1]'(by omega)).e:=jZ (l:=s.cs) (i:=s.cs.length-1) (by omega);have l5:=qw (n:=s.cs.length) (k:=1) hp (by decide);have l5':Nat.ble (Nat.add (Nat.add (atN ((s.cs.length-1:Nat):Int) 3) 0) 1) (Nat.mul s.cs.length 3)=true:=l5;have l6:=nU h4;simp only[mz_,w,g1,g2,g3,g4,l1,l2,l4,l5,l5',l6,iy,lW,uf_,nf_];cases hr:eqI r.1 0 with
     |true=>
      have hn:neI r.1 0=false:=by unfold neI; unfold eqI at hr; simpa using hr
      simp only[mz_,hn,bg];cases geI (s.cs[s.cs.length-1]'(by omega)).e s.e<;>rfl
     |false=>
      have hn:neI r.1 0=true:=by unfold neI; unfold eqI at hr; simpa using hr
      simp only[mz_,hn,bu]
theorem Zp{b:List UInt8}{l:List CmM}{i:Nat}(hi:i<l.length)(hl:l.length<4000) :
  aU P E (Zz (ay [cmV l[i]] []) (ay [ax 1 b.length 0 (bc b),ax 1 (bF l[i]).length 0 (bc (bF l[i]))] []) (bF l[i]) (b++frC l[i])) 50 206 Boe Doe (oeV b l i) []=some (.tuple ⟨exV .normal::oeV (b++frC l[i]) l ((i+1:Nat):Int)⟩,ag []):=by
 obtain⟨g1,g2,a1⟩:=lH hi (by omega);have g4:=kW hi;rw[Wu];simp (disch:=first|omega|(simp only[bU,bY,bZ,bT,bW,aH]<;>omega)|fail) only[mz_,g1,g2,a1,g4,iL hi (dm 3),jZ hi,pR hi,qH hi,iy,zF,oeV,uf_,nf_]
 rfl
theorem afr{C1 C2:List Value->List Blk->Bool}{x f b:List UInt8}{l:List CmM}:aU P E (Zz C1 C2 x f) 50 206 Boe Doe (oeV b l l.length) []=some (.tuple ⟨exV (.exit 2)::oeV b l l.length⟩,ag []):=by
 rw[Wu];simp only[mz_,kU,oeV,uf_,nf_]
 rfl
theorem QW{l:List CmM}(hl:l.length<1000)(hc:∀ c∈l,cmE c=0):∀ (j i:Nat) (b:List UInt8),b.length<=100+1035*i->i+j=l.length->
  LRX P 206 2 Boe Doe.head (oeV b l i) [] .normal (oeV (b++b_ (l.drop i)) l l.length) []
 |0,i,b,hb,h=>by
  obtain rfl:i=l.length:=by omega
  rw[qc];have e:b++b_ []=b:=by simp[b_]
  rw[e];exact ls_ (af (af aA (fF (r:= .leaf (.tuple ⟨[ax 1 b.length 0 (bc b), .int .i64 0]⟩,[])))) (fF (r:= .leaf (.tuple ⟨[ax 1 b.length 0 (bc b), .int .i64 0]⟩,[])))) QV (e:= .exit 2) (afr (C1:=fun _ _=>false) (C2:=fun _ _=>false) (x:=b) (f:=b)) (by intro h; cases h)
 |j+1,i,b,hb,h=>by
  have hi:i<l.length:=by omega
  have hce:=hc _ (kQ hi);have hfl:=EM hce;have hel:=kX hce;have ih:=QW hl hc j (i+1) (b++frC l[i]) (by rw[bP]; omega) (by omega);rw[fG,<-MR l hi]at ih;exact la_ (af (af aA (az (aar (b:=b) (r:=bF l[i]) (by omega) (by omega)))) (az (JA hce))) QV (Zp hi (by omega)) ih
theorem SQ(s:SecM):encS s=frM (headB s)++b_ s.cs:=rfl
theorem KR(s:SecM):(headB s).length<=33:=by
 have d1:=aK (n:=s.e.toNat);have d2:=aK (n:=s.f.toNat);have d3:=aK (n:=s.cs.length);unfold headB;rw[bP,bP];omega
theorem TU{s:SecM}(h:zQ s=0):(1<=s.e/\s.e<=1048576)/\0<=s.f/\s.cs≠[]/\fA 1 s.f 0 s.cs=(0,0):=by
 unfold zQ at h;cases w:(within s.e 1 1048576&&decide (0<=s.f)&&!s.cs.isEmpty)with
 |false=>rw[w]at h; cases h
 |true=>
  rw[w]at h;simp only at h;cases hr:eqI (fA 1 s.f 0 s.cs).1 0 with
  |false=>rw[hr]at h; have h:(fA 1 s.f 0 s.cs).1=0:=h; rw[h]at hr; cases hr
  |true=>
   rw[bV,bV]at w;obtain⟨⟨w1,w2⟩,w3⟩:=w;refine⟨within_iff.1 w1,lY w2,?_,F7 _ _ _ _ (by simpa [eqI]using hr)⟩;intro hn;rw[hn]at w3;cases w3
theorem mr:∀ {l:List CmM} {e n:Int} {i:Nat},fA e n i l=(0,0)->∀ c∈l,cmE c=0
 |[],_,_,_,_=>fun c hc=>by cases hc
 |c::l,e,n,i,h=>by
  obtain⟨h1,_,_,h4⟩:=mM h;intro x hx;rcases jY.1 hx with rfl | hx
  ·exact h1
  ·exact mr h4 x hx
theorem Q_{s:SecM}(h:zQ s=0)(hl:s.cs.length<1000)(hf:s.f<=1048576):CRX P 0 206 [lQ s] [] (.tuple ⟨[ax 1 (encS s).length 0 (bc (encS s)), .int .i64 0]⟩) []:=by
 obtain⟨⟨e1,e2⟩,f1,_,h4⟩:=TU h;have hc:=mr h4;have q1:=adF (s:=s) (by omega) (by
  intro x hx;obtain⟨_,_,hb⟩:=fU.1 (hc x hx);obtain⟨b1,b2,b3⟩:=dM.1 hb
  omega)
 rw[h]at q1;have hh:=KR s;have hfr:(frM (headB s)).length<=44:=by
  unfold frM;rw[bP];have:=aK (n:=(headB s).length);omega
 have q2:=JF (r:=headB s) (by omega);have q3:=QW hl hc s.cs.length 0 (frM (headB s)) (by omega) (by omega);rw[iQ,<-SQ]at q3;have d1:=aK (n:=s.e.toNat);have d2:=aK (n:=s.f.toNat);have d3:=aK (n:=s.cs.length);refine co_ (af (af (dB (l_ (g:=50) (iw aA uN)) (d_ (bJ XY) q3)) (az q2)) (az q1)) ((acG (ay [lQ s] []) (ay [ax 1 0 0 [],ax 1 (headB s).length 0 (bc (headB s))] []) (ay (oeV (frM (headB s)) s.cs (0:Nat)) []) au gB (frM (headB s)) (encS s) s).trans ?_);clear q1 q2 q3;have uu:∀ n:Nat,n<=1073741824->gB (n:Int)=true:=fun n hn=>jl (by omega) (by omega);have u1:=uu s.e.toNat (by omega);have u2:=uu s.f.toNat (by omega);have u3:=uu s.cs.length (by omega);have c3:cvI .u64 (ah s.cs.length)=(s.cs.length:Int):=iG (by omega);have z:fzB 18446744073709551617 0 []=true:=by rw[<-fz1]; exact yO (l:=[]) rfl (by simp)
 have hb:au s.e.toNat++au s.f.toNat++au s.cs.length=headB s:=by unfold headB; rw[fG]
 have z0:((0:Nat):Int)=0:=rfl;simp (disch:=first|omega|(simp only[bU,bY,bZ,bT,bW,aH]<;>omega)|fail) only[mz_,cvN (x:=s.e) ⟨by omega,by omega⟩,cvN (x:=s.f) ⟨by omega,by omega⟩,c3,u1,u2,u3,z,hb,z0,iY,lQ,oeV,aQ,dY,bC,fJ,nf_]
theorem ZQ:aN P E ctF 50 aB [.val, .val] [206,0] 0 151 [ax 1 0 0 []] [] =
 (some (Value.tuple ⟨[fa_ 0 0 [],io_ 0]⟩,ag [])):=by kernel_rfl
def aiK(C1 C2:List Value->List Blk->Bool)(d:DkM):Ct:=ak P aB 1 28 (aP C1 (.leaf (.tuple ⟨[ax 1 0 0 [], .int .i64 0]⟩,a_ d))) (ak P aB 0 151 (aP C2 (.leaf (.tuple ⟨[ax 3 0 0 [], .int .i64 0]⟩,[]))) ctF)
theorem acn(C1 C2:List Value->List Blk->Bool)(s:StaM)(x:SecM):aN P E (aiK C1 C2 s.dk) 50 aB [] [] 7 207 [p0, .int .i64 0,lQ x] (stB s) =
 (let z:=s.dk;let y:=s.log.length;let w:=Enc.all ECm s.log;let v:=bk_ (aT [1] 23) w0_;let u:=s.wcs.length;let t:=Enc.all ECm s.wcs;let r:=s.wes.length;let q:=Enc.all EIn s.wes;let p:=s.rs.length;let o:=Enc.all gI s.rs;let n:=s.rest.length;let m:=Enc.all ECm s.rest;let l:=ro_ [0,7,49,5,48,1,54,4];
 let k:=ag (sb_ s s.pg 1 12 2 3 4::dk_ z 7 8 9 10 11::wb_ s 1 13 14::rb_ s 1 15::so_ 5 3 16 n::tb_ 6:: .map (aF true l s.tb.es) s.tb.ck::dl_ (cz_ l v) z [lb_ l y 3 w 47,lb_ l u 3 t 47,lb_ l r 1 q 3,lb_ l p 3 o 161,lb_ l n 3 m 47]);
 (dn_ w0_ z (ae (C1 [pt_ 0,io_ 3] (dk_ z 1 2 3 4 5::dl_ (cz_ (ro_ [1,1,18,5]) w0_) z [])) (ae (C2 [fb_ 0 0 []] []) (aj (ltI s.pg.ph 2) (nb_ y 3 w (dn_ v z (nb_ u 3 t (nb_ r 1 q (nb_ p 3 o (nb_ n 3 m (some (.bool true,k)))))))) (nb_ y 3 w (dn_ v z (nb_ u 3 t (nb_ r 1 q (nb_ p 3 o (nb_ n 3 m (some (.bool (geI 0 s.pg.ba),k))))))))))))):=by kernel_rfl
def aic(C1 C2 C3 C4:List Value->List Blk->Bool)(b:List UInt8)(d d1 d2:DkM):Ct:=ak P aB 1 28 (aP C1 (.leaf (.tuple ⟨[ax 1 0 0 [], .int .i64 0]⟩,a_ d))) (ak P aB 0 206 (aP C2 (.leaf (.tuple ⟨[ax 1 b.length 0 (bc b), .int .i64 0]⟩,[])))
 (ak P aB 1 89 (aP C3 (.leaf (.int .i64 0,a_ d1))) (ak P aB 1 90 (aP C4 (.leaf (.int .i64 0,a_ d2))) ctF)))
theorem adT(C1 C2 C3 C4:List Value->List Blk->Bool)(b:List UInt8)(d d1 d2:DkM)(x:SecM):aN P E (aic C1 C2 C3 C4 b d d1 d2) 50 aB [] [] 1 208 [p0, .int .i64 0,lQ x] (a_ d) =
 (let z:=pt_ 0;let y:=dk_ d 1 2 3 4 5;let w:=bk_ (aT [0] 12) w0_;let v:=bk_ (aT [0] 22) w0_;let u:=bk_ (aT [0] 32) w0_;
 (dn_ w0_ d (ae (C1 [z,io_ 3] (y::dl_ (cz_ (ro_ [0,1,7,5]) w0_) d [])) (ae (C2 [.agg ⟨[io_ x.e,io_ x.f,fa_ x.cs.length 0 (Enc.all ECm x.cs)]⟩] []) (dn_ w d (ae (C3 [z,io_ 3,fb_ b.length 0 (bc b)] (y::dl_ (cz_ (ro_ [0,1,17,5]) w) d [])) (dn_ v d1 (ae (C4 [z] (dk_ d1 1 2 3 4 5::dl_ (cz_ (ro_ [0,1,27,5]) v) d1 [])) (dn_ u d2 (some (io_ 0,ag (dk_ d2 1 2 3 4 5::dl_ (cz_ (ro_ [0,1,37,5]) u) d2 [])))))))))))):=by kernel_rfl
def aim(C1 C2 C3:List Value->List Blk->Bool)(b:List UInt8)(s:StaM)(d2:DkM):Ct:=ak P aB 0 206 (aP C1 (.leaf (.tuple ⟨[ax 1 b.length 0 (bc b), .int .i64 0]⟩,[]))) (ak P aB 7 207 (aP C2 (.leaf (.bool true,stB s))) (ak P aB 1 208 (aP C3 (.leaf (.int .i64 0,a_ d2))) ctF))
theorem adw(C1 C2 C3:List Value->List Blk->Bool)(b:List UInt8)(s:StaM)(d2:DkM)(x:SecM):aN P E (aim C1 C2 C3 b (okS s) d2) 50 aB [] [] 7 185 [p0, .int .i64 0,lQ x] (stB (okS s)) =
 (let z:=Value.agg ⟨[io_ x.e,io_ x.f,fa_ x.cs.length 0 (Enc.all ECm x.cs)]⟩;let y:=okS s;let w:=sm_ y (ro_ [0,7,19,5,18,1,24,4]);let v:=[pt_ 0,io_ 0,z];let u:=aT (rg_ [0,7]) 28;let t:=bk_ u w0_;let r:=y.log.length;let q:=aG true u (Enc.all ECm y.log);let p:=bk_ (aT [1] 53) w0_;
 let o:=y.wcs.length;let n:=aG true u (Enc.all ECm y.wcs);let m:=y.wes.length;let l:=aG true u (Enc.all EIn y.wes);let k:=y.rs.length;let j:=aG true u (Enc.all gI y.rs);let i:=y.rest.length;let h:=aG true u (Enc.all ECm y.rest);let g:=y.pg;let f:=ro_ [0,7,59,5,58,1,64,4];
 (ae (C1 [z] []) (aj (gtI 0 y.held) (ns_ y (some (io_ 2,ag w))) (ns_ y (ae (C2 v w) (dn_ t y.dk (ae (C3 v (dk_ y.dk 1 2 3 4 5::dl_ (cz_ (ro_ [1,1,48,5]) t) y.dk [])) (nb_ r 3 q (dn_ p d2 (nb_ o 3 n (nb_ m 1 l (nb_ k 3 j (nb_ i 3 h (some (io_ 0,ag (.cells [pt_ 1, .bool (eqI 0 6),io_ g.ep, .int .u8 g.ro,io_ g.ac, .int .u8 g.ph,io_ g.fo,io_ g.ba,sl_ 12 r,pt_ 2,pt_ 3,pt_ 4,io_ (bM .i64 0 (ah b.length))] 128 true::dk_ d2 7 8 9 10 11::wb_ y 1 13 14::rb_ y 1 15::so_ 5 3 16 i::tb_ 6:: .map (aF true f (aF true u y.tb.es)) y.tb.ck::dl_ (cz_ f p) d2 [lb_ f r 3 q 47,lb_ f o 3 n 47,lb_ f m 1 l 3,lb_ f k 3 j 161,lb_ f i 3 h 47])))))))))))))))):=by kernel_rfl
theorem aeU(s:StaM):aN P E ctF 50 aB [] [] 7 181 [p0] (stB (okS s)) =
 (let z:=okS s;
 (ns_ z (some (.tuple ⟨[io_ z.held,io_ 0]⟩,ag (sm_ z (ro_ [0,7,18,5,17,1,23,4])))))):=by kernel_rfl
theorem ZA:CRX P 0 151 [ax 1 0 0 []] [] (.tuple ⟨[ax 3 0 0 [], .int .i64 0]⟩) []:=by
 refine co_ aA (ZQ.trans ?_);rw[dY]<;>rfl
theorem Tj{d:DkM}(h0:d.off=false)(hp:d.pend=[])(h3:d.d3=[]):CRX P 1 28 [p0, .int .i64 3] (a_ d) (.tuple ⟨[ax 1 0 0 [], .int .i64 0]⟩) (a_ d):=by
 have hg:fD d 3=[]:=h3;have q:CRX P 1 28 [p0, .int .i64 3] (a_ d) (.tuple ⟨[ax 1 (pF d 3).1.length 0 (bc (pF d 3).1), .int .i64 (pF d 3).2]⟩) (a_ d):=
  abW.at (s:=⟨d,3⟩) ⟨by show 0<=(3:Int)/\(3:Int)<4; omega,by show(fD d 3).length<=_; rw[hg]; decide,by show d.pend.length<_; rw[hp]; decide,by show EJ 3 (fD d 3) d.pend; rw[hp]; trivial⟩ rfl
 have e:pF d 3=([],0):=by unfold pF; rw[h0]; simp only[Lt hp,hg]
 rw[e]at q;exact q
theorem ad6{s:StaM}(ht:fZ s.tb)(h0:s.dk.off=false)(hp:s.dk.pend=[])(h3:s.dk.d3=[]){x:SecM}(hb:ltI s.pg.ph 2=true\/s.pg.ba=0) :
  CRX P 7 207 [p0, .int .i64 0,lQ x] (stB s) (.bool true) (stB s):=by
 refine co_ (af (af aA (az ZA)) (az (Tj h0 hp h3))) ((acn (ay [p0, .int .i64 3] (a_ s.dk)) (ay [ax 1 0 0 []] []) s x).trans ?_);have ht1:=ht.ren;rcases hb with hb | hb
 ·simp (disch:=first|omega|(simp only[bU,bY,bZ,bT,bW,aH]<;>omega)|fail) only[mz_,ht1,hb,stB,pgC,uf_,aZ rfl,dE rfl,dH rfl,bf rfl,nf_]
 ·have g:geI 0 0=true:=rfl;cases h:ltI s.pg.ph 2 with
  |true=>simp (disch:=first|omega|(simp only[bU,bY,bZ,bT,bW,aH]<;>omega)|fail) only[mz_,ht1,h,hb,g,stB,pgC,uf_,aZ rfl,dE rfl,dH rfl,bf rfl,nf_]
  |false=>simp (disch:=first|omega|(simp only[bU,bY,bZ,bT,bW,aH]<;>omega)|fail) only[mz_,ht1,h,hb,g,stB,pgC,uf_,aZ rfl,dE rfl,dH rfl,bf rfl,nf_]
theorem NI{x:SecM}(h:zQ x=0):(encS x).length<=44+1035*x.cs.length:=by
 obtain⟨_,_,_,h4⟩:=TU h;have h1:=sW x.cs (mr h4);have hh:=KR x;rw[SQ,bP];have hfr:(frM (headB x)).length<=44:=by
  unfold frM;rw[bP];have:=aK (n:=(headB x).length);omega
 omega
def MM(d:DkM)(k:Nat)(b:List UInt8):DkM:={ d with d3:=d.d3++b,steps:=d.steps+(k:Int)+1,pend:=[] }
theorem acv{d:DkM}{x:SecM}(hd:DkC d 100000)(hp:d.pend=[])(h3:d.d3=[])(h:zQ x=0)(hl:x.cs.length<=400)(hf:x.f<=1048576) :
  ∃ k,k<=10000/\CRX P 1 208 [p0, .int .i64 0,lQ x] (a_ d) (.int .i64 0) (a_ (MM d k (encS x))):=by
 have hel:=NI h;obtain⟨k,k2,q3,q4⟩:=MI (d:=d) (f:=3) (encS x) hd hp (by omega) (by omega) (by show d.d3.length<=_; rw[h3]; decide);refine⟨k,by unfold o_ at k2; omega,?_⟩;have q1:=Tj hd.off hp h3;have q2:=Q_ h (by omega) hf;generalize hw:(writeM ⟨d,3,encS x⟩).2.pend=W at q3 q4;clear hw;have hD:({ setF d 3 (fD d 3++encS x)with steps:=d.steps+(k:Int)+1,pend:=[] }:DkM)=MM d k (encS x):=rfl;rw[hD]at q4;refine co_ (af (af (af (af aA (az q4)) (az q3)) (az q2)) (az q1)) ((adT (ay [p0, .int .i64 3] (a_ d)) (ay [lQ x] []) (ay [p0, .int .i64 3,ax 1 (encS x).length 0 (bc (encS x))] (a_ d)) (ay [p0] (a_ { d with steps:=d.steps+(k:Int),pend:=W })) (encS x) d { d with steps:=d.steps+(k:Int),pend:=W } (MM d k (encS x)) x).trans ?_);clear q1 q2 q3 q4;have hdo:=hd.off;simp (disch:=first|omega|(simp only[bU,bY,bZ,bT,bW,aH]<;>omega)|fail) only[mz_,hdo,lQ,uf_,aZ rfl,dE rfl,dH rfl,bf rfl,nf_]
theorem acj{s:StaM}{x:SecM}(hs:StQ s 100000)(h3:s.dk.d3=[])(hh:s.held=0)(h:zQ x=0)(hl:x.cs.length<=400)(hf:x.f<=1048576)(hb:ltI s.pg.ph 2=true\/s.pg.ba=0) :
  ∃ k,k<=10000/\CRX P 7 185 [p0, .int .i64 0,lQ x] (stB s) (.int .i64 0) (stB (s.filed k (encS x) ((encS x).length:Int))):=by
 have hel:=NI h;obtain⟨k,k2,q3⟩:=acv hs.dk hs.pend h3 h hl hf;refine⟨k,k2,?_⟩;have q1:=Q_ h (by omega) hf;have q2:=ad6 (s:=s) hs.sr.tb hs.dk.off hs.pend h3 (x:=x) hb;have q:=adw (ay [lQ x] []) (ay [p0, .int .i64 0,lQ x] (stB s)) (ay [p0, .int .i64 0,lQ x] (a_ s.dk)) (encS x) s (MM s.dk k (encS x)) x;rw[AB hs.off hs.dk.off]at q;refine co_ (af (af (af aA (az q3)) (az q2)) (az q1)) (q.trans ?_);clear q q1 q2 q3;have hoff:=hs.off;have hdo:=hs.dk.off;have ht:=hs.sr.tb.ren;have a1:bM .i64 0 (ah (encS x).length)=((encS x).length:Int):=by unfold bM ah; rw[wrap64 (by omega) (by omega)]; omega
 have g1:gtI 0 0=false:=rfl;have z2:eqI 0 6=false:=rfl;simp (disch:=first|omega|(simp only[bU,bY,bZ,bT,bW,aH]<;>omega)|fail) only[mz_,hoff,hdo,ht,a1,g1,z2,hh,lQ,MM,StaM.filed,stB,pgC,uf_,aZ rfl,dE rfl,dH rfl,bf rfl,nf_]
theorem abT{s:StaM}(hoff:s.off=false)(hdo:s.dk.off=false)(ht:fZ s.tb):CRX P 7 181 [p0] (stB s) (.tuple ⟨[.int .i64 s.held, .int .i64 0]⟩) (stB s):=by
 have q:=aeU s;rw[AB hoff hdo]at q;refine co_ aA (q.trans ?_);have ht1:=ht.ren;simp (disch:=first|omega|(simp only[bU,bY,bZ,bT,bW,aH]<;>omega)|fail) only[mz_,ht1,stB,pgC,uf_,aZ rfl,dE rfl,dH rfl,bf rfl,nf_]
end Go.VS.Tryz
end

noncomputable section
namespace Go.VS

section
variable{P:Program}{ct:Ct}
def flA(l:List Value):List Value:=@List.rec Value (fun _=>List Value) [] (fun v _ ih=>match v with
 | .agg ⟨a⟩=>List.append a ih
 |v=>v::ih) l
def unA(l:List Value):List Value->List Value:=@List.rec Value (fun _=>List Value->List Value) (fun _=>[]) (fun v _ ih vs=>match v with
 | .agg ⟨a⟩=> .agg ⟨vs.take a.length⟩::ih (vs.drop a.length)
 |_=>match vs with
  |x::vs=>x::ih vs
  |[]=>[]) l
theorem Ti{β:Env}:∀ {l xs:List Value},VRL β l xs->∃ ys,VRL β (flA l) ys/\∀ (β':Env) (vs:List Value),vs.length=(flA l).length->VRL β' vs ys->VRL β' (unA l vs) xs
 |[],xs,h=>by
  have hx:xs=[]:=o6.1 h.length.symm;subst hx;exact⟨[],VRL.nil,fun _ _ _ _=>VRL.nil⟩
 |v::l,xs,h=>by
  simp only[VRL]at h;obtain⟨x,xs',rfl,hx,hxs⟩:=h;obtain⟨ys,h1,h2⟩:=Ti hxs;by_cases ha:∃ a,v = .agg a
  ·obtain⟨⟨a⟩,rfl⟩:=ha;simp only[VR]at hx;obtain⟨a',rfl,haa⟩:=hx;have haa:VRL β a a'.toList:=by
    have:=jK.1 haa;exact this
   refine⟨a'.toList++ys,haa.append h1,fun β' vs hl hv=>?_⟩;have e:flA (.agg ⟨a⟩::l)=a++flA l:=rfl;rw[e,bP]at hl;show VRL β' (.agg ⟨vs.take a.length⟩::unA l (vs.drop a.length)) (.agg a'::xs');have t1:=hv.take a.length;have t2:=hv.drop a.length;rw[haa.length,AO rfl]at t1;rw[haa.length,x9 rfl]at t2;refine VRL.cons ?_ (h2 β' _ (by rw[gZ]; omega) (by rw[haa.length]; exact t2));simp only[VR];refine⟨a',rfl,jK.2 ?_⟩;rw[haa.length];exact t1
  ·have e1:flA (v::l)=v::flA l:=by cases v<;>first | rfl | exact absurd ⟨_,rfl⟩ ha
   have e2:∀ y vs,unA (v::l) (y::vs)=y::unA l vs:=by intro y vs; cases v<;>first | rfl | exact absurd ⟨_,rfl⟩ ha
   refine⟨x::ys,by rw[e1]; exact VRL.cons hx h1,fun β' vs hl hv=>?_⟩;rw[e1]at hl;cases vs with
   |nil=>cases hl
   |cons y vs=>
    rw[e2];simp only[VRL]at hv;obtain⟨z,zs,e,hy,hvs⟩:=hv;simp only[je]at e;obtain⟨rfl,rfl⟩:=e;exact VRL.cons hy (h2 β' vs (by simpa using hl) hvs)
def rW(P:Program)(E:Eng)(ct:Ct)(n:Nat)(pol:Pol)(fl:List Fl)(ts:List TypeId)(N:Nat)(kb:List Bool)(g:FuncId)(args:List Value)(bs:List Blk):Res:=
 (xu P E ct n n).call g args (ag bs) fun v st=>DT.run (mO P 60 fl ts (flA (qB v)) st fun vs1 ps st1=>uI P pol 200 (List.append (EH args) (List.append ps (upL N 0))) [] st1 fun st2=>
  oZ (kz st2) 1000 (List.append args (List.append vs1 (Df (upL N 0)))) (kbF kb args) [] fun X L=>match Nat.beq vs1.length (flA (qB v)).length,jm 0 ((List.append (upL N 0) (geL N X)).append L) (fun i=>dW (path i) st2.heap) ((List.append (upL N 0) (geL N X)).append L)with
  |true,some ms=> .leaf (xX v (unA (qB v) (vs1.map (eP true (bQ 0 ((List.append (upL N 0) (geL N X)).append L))))),ms)
  |_,_=> .fail) fun r=>some (r.1,ag r.2)
theorem CRX.ofF{E:Eng}(hE:EngOk P ct E)(hN:noNum P=true)(hct:CtOk P ct){n:Nat}{pol:Pol}{fl:List Fl}{ts:List TypeId}{N:Nat}{kb:List Bool}{g:FuncId}{args:List Value}{bs:List Blk}{v:Value}{bs':List Blk}(h:rW P E ct n pol fl ts N kb g args bs=some (v,ag bs')):CRX P N g args bs v bs':=by
 intro K β w args' cs hid ha hr;unfold rW at h;obtain⟨m,v1,st1,h1,h2⟩:=(nT hE n n).call _ _ _ _ _ h;obtain⟨β1,fr,w1,v',a1,a2,a3,a4,a5,a6⟩:=(ja hN hct m K).call g args (ag bs) v1 st1 h1 β w args' .normal cs (Or.inl rfl) ha hr;obtain⟨r,hc,h2⟩:=DT.run_spec h2;obtain⟨vs1,ps,st2,f1,f2,f3⟩:=jG _ _ _ _ _ _ hc;obtain⟨st3,g1,g2⟩:=jV _ _ _ _ _ f1;obtain⟨X0,L,hX⟩:=lI (kz st3) 1000 (List.append args (List.append vs1 (Df (upL N 0)))) (kbF kb args) [] fun X L=>match Nat.beq vs1.length (flA (qB v1)).length,jm 0 ((List.append (upL N 0) (geL N X)).append L) (fun i=>dW (path i) st3.heap) ((List.append (upL N 0) (geL N X)).append L)with
  |true,some ms=>DT.leaf (xX v1 (unA (qB v1) (vs1.map (eP true (bQ 0 ((List.append (upL N 0) (geL N X)).append L))))),ms)
  |_,_=> .fail
 rw[hX]at g1;have hup:upTo N (upL N 0++geL N X0) 0=true:=yL N 0 _;generalize hY:upL N 0++geL N X0=X at hup;have hY':List.append (upL N 0) (geL N X0)=X:=hY;rw[hY']at g1;split at g1
 ·rename_i ms hvl hm;have hm:jm 0 (X++L) (fun i=>dW (path i) st3.heap) (X++L)=some ms:=hm;simp only[DT.eval,dD]at g1;subst g1;simp only[dD,dA]at h2;obtain⟨rfl,hst⟩:=h2;obtain⟨m1,m2,m3⟩:=jr hm;simp only[dL]at m2 m3;have hvl:=dF hvl;obtain⟨xs,x1,x2⟩:=BO a5;obtain⟨ys,y1,y2⟩:=Ti x1;obtain⟨β2,c1,c2,c3⟩:=f3 K β1 w1 ys a3 y1;obtain⟨β3,d1,d2⟩:=g2 K β2 w1 c2;have hmid:=lC (N:=0) (src:=X++L) d2 (fun i hi=>(hid i hi).elim) (ig _) m1 m2;have hren:=qE (X++L) β3;have hmsl:ms.length=bs'.length:=by have:=congrArg St.next hst; exact this
  refine⟨⟨iR 0 (X++L) β3,fr,w1,v',a1,(((a2.trans c1).trans d1).leN _).trans (vk hup),?_,a4,?_,a6⟩,?_⟩
  ·rw[<-hst,m3]; exact hmid
  ·have hy:=y2 _ _ (by rw[n_]; exact hvl) ((c3.mono d1).mapr fun v _ x hx=>gU hren v x hx);exact x2 _ _ (hy.length.trans x1.length.symm) hy
  ·rw[<-hmsl,m3,n_,bP];have:=(qJ _ _ _ hup).1;omega
 ·cases g1
end
end Go.VS
end

noncomputable section
namespace Go.VS.Tryz
open Go.VS
set_option maxRecDepth 1000000
def Zc:Pol:=fun t=>match Nat.beq t 238 with
 |true=>some [.val, .val, .own]
 |false=>aB t
def Dlo:HeadX:=⟨2,66,[4,5,6,9,51,52,53],[.val, .val, .val, .val, .val, .val, .val],[0,0,0,0,35,0,0],Zc⟩
def Blo:Code:=(di P 184 0).getD .skip
theorem Yl:di P 184 0=some Blo:=by kernel_rfl
theorem Ro:Occ P 184 (.block 0 (.loop Blo)):=dN Yl
def loB(x:SecM):List Blk:=[.cells [.int .i64 0, .int .i64 0,lsV 2 0] 238 true, .cells [.int .i64 x.e, .int .i64 x.f,lsV 3 x.cs.length] 238 true, .cells [] 47 false, .cells (ECm.all x.cs) 47 false]
def loV(l:List CmM)(i:Int):List Value:=[ptV 0, .bool false, .int .i64 0,ptV 1,aQ l, .int .i64 (ah l.length), .int .i64 i]
theorem YH(C1:List Value->List Blk->Bool)(c:CmM)(x:SecM)(l:List CmM)(i:Int):aU P E (wL C1 c) 50 184 Blo Dlo (loV l i) (loB x) =
 (let z:=l.length;let y:=atN i 3;let w:=Enc.all ECm l;let v:=Eta.int .i64;let u:=Nat.add y 1;let t:=aV w (Nat.add u 1);let s:=x.cs.length;let r:=Nat.add s 1;let q:=Enc.all ECm x.cs;let p:=sl_ 3 s;let o:=List.append (jC 0 q) [io_ c.e,io_ c.n,fa_ c.ops.length 0 (Enc.all EOp c.ops)];let n:=io_ 0;
 let m:=Value.bool false;let k:=fa_ z 0 w;let j:=io_ (ah z);let h:=Blk.cells [n,n,sl_ 2 0] 238 true;let g:=Blk.cells [] 47 false;
 (aj (ltI i (ah z)) (ae (Bool.and (Nat.beq 3 3) (inI i z)) (ae (Bool.and (Nat.ble (Nat.add y 3) w.length) (jg [v,v, .slice 3] w y)) (ae (C1 [.agg ⟨[io_ (asI (aV w y)),io_ (asI (aV w u)),fa_ (zN t) (zB t) (zC t)]⟩] []) (ae (Nat.ble r 4194304) (ae (Nat.beq (Nat.add 0 (Nat.mul s 3)) q.length) (ae (bz p p) (nb_ r 3 o (some (.tuple ⟨[n,pt_ 0,m,n,pt_ 1,k,j,io_ (bM .i64 i 1)]⟩,ag [h, .cells [io_ x.e,io_ x.f,sl_ 3 r] 238 true,g,lb_ (bQ 0 [0,1,14,15]) r 3 o 47]))))))))) (nb_ s 3 q (some (.tuple ⟨[io_ 1,pt_ 0,m,n,pt_ 1,k,j,io_ i]⟩,ag [h, .cells [io_ x.e,io_ x.f,p] 238 true,g,lb_ (bQ 0 [0,1,4,5]) s 3 q 47]))))):=by kernel_rfl
def aio(C1 C2 C3:List Value->List Blk->Bool)(l:List CmM)(x:SecM):Ct:=ak P aB 0 74 (aP C1 (.leaf (yM (0,0),[]))) (ak P aB 0 71 (aP C2 (.leaf (.int .i64 0,[]))) (dX P 184 0 Dlo (gX C3 (.leaf (.normal,loV l (ah l.length),loB x))) ctF))
theorem ab1(C1 C2 C3:List Value->List Blk->Bool)(l m:List CmM)(p:PgM)(x:SecM):rW P E (aio C1 C2 C3 m x) 50 Zc [.val, .val, .val, .val, .val] [0,0,35,0,0] 0 [] 184 [aQ l,pgV p] [] =
 (let z:=io_ 0;let y:=l.length;let w:=Enc.all ECm l;let v:=Value.agg ⟨[z,z,fa_ 0 0 []]⟩;let u:=Value.bool false;let t:=ag [];let s:=some (Value.tuple ⟨[v,u,io_ 2]⟩,t);let r:=p.fo;let q:=ah y;let o:=fC r q;let n:=Blk.cells [] 47 false;let k:=x.cs.length;let j:=aG true (aT [1,3] 6) (Enc.all ECm x.cs);
 (ae (C1 [z,z,fa_ y 0 w] []) (ae (C2 [pg_ p] []) (aj (neI p.ph 2) s (aj (gtI r q) s (aj (eqI r q) (some (.tuple ⟨[v,u,z]⟩,t)) (ae (Bool.and (Nat.beq 3 3) (dS r q y)) (ae (C3 [pt_ 0,u,z,pt_ 1,fa_ o 0 (takeC (Nat.mul o 3) (aO (atN r 3) w)),io_ (ah o),z] [.cells [z,z,sl_ 2 0] 238 true, .cells [io_ p.ep,io_ r,sl_ 3 0] 238 true,n,n]) (ae (fq_ k j 47) (some (.tuple ⟨[.agg ⟨[io_ x.e,io_ x.f,fa_ k 0 (takeC (Nat.mul k 3) (aO 0 j))]⟩, .bool true,z]⟩,t))))))))))):=by kernel_rfl
theorem ZU{x:SecM}{l:List CmM}{i:Nat}(hi:i<l.length)(hl:l.length<4194304)(ho:x.cs.length<4194300) :
  aU P E (wL (ay [cmV l[i]] []) l[i]) 50 184 Blo Dlo (loV l i) (loB x)=some (.tuple ⟨exV .normal::loV l ((i+1:Nat):Int)⟩,ag (loB ⟨x.e,x.f,x.cs++[l[i]]⟩)):=by
 obtain⟨g1,g2,a1⟩:=lH hi hl;have g4:=kW hi;have h1:(x.cs++[l[i]]).length=Nat.add x.cs.length 1:=by simp
 rw[YH];simp (disch:=first|omega|(simp only[bU,bY,bZ,bT,bW,aH]<;>omega)|fail) only[mz_,g1,g2,a1,g4,iL hi (dm 3),jZ hi,pR hi,qH hi,iy,zF,loV,loB,h1,vN,uf_,aZ rfl,aZ h1.symm,nf_]
 rfl
theorem ahi{C:List Value->List Blk->Bool}{c:CmM}{x:SecM}{l:List CmM} :
  aU P E (wL C c) 50 184 Blo Dlo (loV l l.length) (loB x)=some (.tuple ⟨exV (.exit 0)::loV l l.length⟩,ag (loB x)):=by
 rw[YH];simp only[mz_,kU,loV,loB,uf_,aZ rfl,nf_]
 rfl
theorem QS{l:List CmM}(hl:l.length<1000)(hc:∀ c∈l,cmE c=0):∀ (j i:Nat) (x:SecM),x.cs.length+j<4194300->i+j=l.length->
  LRX P 184 0 Blo Dlo.head (loV l i) (loB x) .normal (loV l l.length) (loB ⟨x.e,x.f,x.cs++l.drop i⟩)
 |0,i,x,h1,h=>by
  obtain rfl:i=l.length:=by omega
  rw[qc,gG];exact ls_ (af aA (fF (r:= .leaf (cmV ⟨0,0,[]⟩,[])))) Ro (e:= .exit 0) (ahi (C:=fun _ _=>false) (c:=⟨0,0,[]⟩)) (by intro h; cases h)
 |j+1,i,x,h1,h=>by
  have hi:i<l.length:=by omega
  obtain⟨_,_,hb⟩:=fU.1 (hc _ (kQ hi));obtain⟨b1,b2,b3⟩:=dM.1 hb;have ih:=QS hl hc j (i+1) ⟨x.e,x.f,x.cs++[l[i]]⟩ (by show(x.cs++[l[i]]).length+j<_; simp; omega) (by omega);have e:(x.cs++[l[i]])++l.drop (i+1)=x.cs++l.drop i:=by rw[fG,lu hi]; rfl
  rw[e]at ih;exact la_ (af aA (az (tY b1 (by omega)))) Ro (ZU hi (by omega) (by omega)) ih
theorem Rn{l:List CmM}{p:PgM}{k:Nat}(hf:fA 0 0 0 l=(0,0))(hl:l.length<1000)(hp:pgE p=0)(hph:p.ph=2)(hk:p.fo=(k:Int))(hkl:k<=l.length) :
  CRX P 0 184 [aQ l,pgV p] [] (.tuple ⟨[lQ (if k<l.length then⟨p.ep,k,l.drop k⟩else⟨0,0,[]⟩), .bool (decide (k<l.length)), .int .i64 0]⟩) []:=by
 have hall:=mr hf;have q1:=pq (e:=0) (n:=0) (l:=l) (by omega) (by
  intro x hx;obtain⟨_,_,hb⟩:=fU.1 (hall x hx);obtain⟨b1,b2,b3⟩:=dM.1 hb
  omega)
 rw[hf]at q1;have q2:=nG p;rw[hp]at q2;have hdl:(l.drop k).length=l.length-k:=by rw[gZ]
 have q3:=QS (l:=l.drop k) (by omega) (fun c hc=>hall c (Et hc)) (l.drop k).length 0 ⟨p.ep,k,[]⟩ (by show 0+_<_; omega) (by omega);rw[iQ,iY]at q3;refine CRX.ofF (pol:=Zc) (fl:=[.val, .val, .val, .val, .val]) (ts:=[0,0,35,0,0]) (n:=50) (kb:=[]) (dU _) bK (af (af (dB aA (d_ (bJ Yl) q3)) (az q2)) (az q1)) ((ab1 (ay [.int .i64 0, .int .i64 0,aQ l] []) (ay [pgV p] []) (ay (loV (l.drop k) (0:Nat)) (loB ⟨p.ep,k,[]⟩)) l (l.drop k) p ⟨p.ep,k,l.drop k⟩).trans ?_);clear q1 q2 q3;have g1:neI 2 2=false:=rfl;have g2:gtI ((k:Nat):Int) (ah l.length)=false:=gF_ (by unfold ah; omega);have z0:((0:Nat):Int)=0:=rfl;by_cases h:k<l.length
 ·rw[if_pos h,eU h];have g3:eqI ((k:Nat):Int) (ah l.length)=false:=eF_ (by unfold ah; omega);have g4:dS ((k:Nat):Int) (ah l.length) l.length=true:=by unfold dS ah; exact eU (by omega)
  have g5:fC ((k:Nat):Int) (ah l.length)=(l.drop k).length:=by unfold fC ah; rw[hdl]; omega
  have g6:atN ((k:Nat):Int) 3=Nat.mul k 3:=by show((k:Nat):Int).toNat*3=k*3; omega
  have g7:takeC (Nat.mul (l.drop k).length 3) (aO (Nat.mul k 3) (ECm.all l))=ECm.all (l.drop k):=Dy (by rw[hdl]; omega);have n2:([]:List CmM).length=0:=rfl;have f3:ECm.all ([]:List CmM)=[]:=rfl;simp (disch:=first|omega|(simp only[bU,bY,bZ,bT,bW,aH]<;>omega)|fail) only[pg_,mz_,hph,hk,g1,g2,g3,g4,g5,g6,g7,z0,n2,f3,v_ rfl,lQ,loV,loB,pgV,pgC,uf_,aZ rfl,nf_]
 ·rw[if_neg h,iW h];have g3:eqI ((k:Nat):Int) (ah l.length)=true:=eT_ (by unfold ah; omega);have n2:([]:List CmM).length=0:=rfl;have f3:ECm.all ([]:List CmM)=[]:=rfl;simp (disch:=first|omega|(simp only[bU,bY,bZ,bT,bW,aH]<;>omega)|fail) only[pg_,mz_,hph,hk,g1,g2,g3,z0,n2,f3,lQ,loV,loB,pgV,pgC,uf_,aZ rfl,nf_]
def ESa:Enc (Int×Int) where
 sz:=2
 f n:=[.int .i64 n.1, .int .i64 n.2]
 len _:=rfl
 pos:=by decide
 inj a b h:=by
  obtain⟨a1,a2⟩:=a;obtain⟨b1,b2⟩:=b;simpa using h
 nr _:=rfl
def Dsa:HeadX:=⟨1,26,[3,5,14,15,16],[.val, .own, .val, .val, .val],[0,54,35,0,0],aB⟩
def Bsa:Code:=(di P 163 0).getD .skip
theorem OE:di P 163 0=some Bsa:=by kernel_rfl
theorem xN:Occ P 163 (.block 0 (.loop Bsa)):=dN OE
def saB(o:List (Int×Int)):List Blk:=[.cells [.int .i64 0, .int .i64 0] 131 true, .cells (ESa.all o) 109 false]
def saV(o:List (Int×Int))(l:List CmM)(i:Int):List Value:=[ptV 0,lsV 1 o.length,aQ l, .int .i64 (ah l.length), .int .i64 i]
theorem EP(o:List (Int×Int))(l:List CmM)(i:Int):aU P E ctF 50 163 Bsa Dsa (saV o l i) (saB o) =
 (let z:=l.length;let y:=atN i 3;let x:=Enc.all ECm l;let w:=Eta.int .i64;let v:=o.length;let u:=dJ .i64 (ah v) 1;let t:=Nat.add 0 (atN u 2);let s:=Enc.all ESa o;let r:=asI (aV x y);let q:=io_ 0;let p:=pt_ 0;let n:=fa_ z 0 x;let m:=io_ (ah z);let k:=io_ (bM .i64 i 1);let j:=Blk.cells [q,q] 131 true;
 let h:=Nat.add v 1;let g:=List.append (jC 0 s) [io_ r,io_ (asI (aV x (Nat.add y 1)))];let f:=ae (Nat.ble h 4194304) (ae (Nat.beq (Nat.add 0 (Nat.mul v 2)) s.length) (nb_ h 2 g (some (.tuple ⟨[q,p,sl_ 1 h,n,m,k]⟩,ag [j,lb_ (bQ 0 [0,19]) h 2 g 109]))));
 (aj (ltI i (ah z)) (ae (Bool.and (Nat.beq 3 3) (inI i z)) (ae (Bool.and (Nat.ble (Nat.add y 3) x.length) (jg [w,w, .slice 3] x y)) (aj (gtI (ah v) 0) (ae (inI u v) (ae (Bool.and (Nat.ble (Nat.add t 1) s.length) (gm w (aV s t))) (aj (eqI (asI (aV s t)) r) (nb_ v 2 s (some (.tuple ⟨[q,p,sl_ 1 v,n,m,k]⟩,ag [j,lb_ (bQ 0 [0,17]) v 2 s 109]))) f))) f))) (nb_ v 2 s (some (.tuple ⟨[io_ 1,p,sl_ 1 v,n,m,io_ i]⟩,ag [j,lb_ (bQ 0 [0,2]) v 2 s 109]))))):=by kernel_rfl
def ah9(C1 C2:List Value->List Blk->Bool)(l:List CmM)(o:List (Int×Int)):Ct:=ak P aB 0 74 (aP C1 (.leaf (yM (0,0),[]))) (dX P 163 0 Dsa (gX C2 (.leaf (.normal,saV o l (ah l.length),saB o))) ctF)
theorem QN(C1 C2:List Value->List Blk->Bool)(l:List CmM)(o:List (Int×Int)):rW P E (ah9 C1 C2 l o) 50 aB [.val, .val, .val] [54,0,0] 0 [] 163 [aQ l] [] =
 (let z:=io_ 0;let y:=fa_ l.length 0 (Enc.all ECm l);let x:=o.length;let w:=aG true (aT [0] 3) (Enc.all ESa o);
 (ae (C1 [z,z,y] []) (ae (C2 [pt_ 0,sl_ 1 0,y,io_ (ah l.length),z] [.cells [z,z] 131 true, .cells [] 109 false]) (ae (fq_ x w 109) (some (.tuple ⟨[fc_ x 0 (takeC (Nat.mul x 2) (aO 0 w)), .agg ⟨[z,z]⟩]⟩,ag [])))))):=by kernel_rfl
theorem aaT{l:List CmM}(hi:0<l.length)(hl:l.length<4000):aU P E ctF 50 163 Bsa Dsa (saV [] l (0:Nat)) (saB [])=some (.tuple ⟨exV .normal::saV [(l[0].e,l[0].n)] l ((0+1:Nat):Int)⟩,ag (saB [(l[0].e,l[0].n)])):=by
 obtain⟨g1,g2,a1⟩:=lH hi (by omega);have g4:=kW hi;have z0:((0:Nat):Int)=0:=rfl;have n1:([]:List (Int×Int)).length=0:=rfl;have n2:ESa.all ([]:List (Int×Int))=[]:=rfl;have n3:gtI (ah 0) 0=false:=rfl;rw[EP];simp (disch:=first|omega|(simp only[bU,bY,bZ,bT,bW,aH]<;>omega)|fail) only[mz_,g1,g2,a1,g4,iL hi (dm 3),jZ hi,pR hi,qH hi,n1,n2,n3,iy,saV,saB,uf_,nf_]
 rfl
theorem acY{l:List CmM}{i:Nat}{x:Int}(hi:i<l.length)(hl:l.length<4000)(he:l[i].e=1):aU P E ctF 50 163 Bsa Dsa (saV [(1,x)] l i) (saB [(1,x)])=some (.tuple ⟨exV .normal::saV [(1,x)] l ((i+1:Nat):Int)⟩,ag (saB [(1,x)])):=by
 obtain⟨g1,g2,a1⟩:=lH hi (by omega);have g4:=kW hi;have n1:[((1:Int),x)].length=1:=rfl;have n2:ESa.all [((1:Int),x)]=[.int .i64 1, .int .i64 x]:=rfl;have n3:gtI (ah 1) 0=true:=rfl;have n4:dJ .i64 (ah 1) 1=0:=by decide
 have n5:inI 0 1=true:=rfl;have n6:eqI 1 1=true:=rfl;have n7:aV [Value.int .i64 1,Value.int .i64 x] (Nat.add 0 (atN 0 2)) = .int .i64 1:=rfl;rw[EP];simp (disch:=first|omega|(simp only[bU,bY,bZ,bT,bW,aH]<;>omega)|fail) only[mz_,g1,g2,a1,g4,iL hi (dm 3),jZ hi,pR hi,qH hi,he,n1,n2,n3,n4,n5,n6,n7,iy,saV,saB,uf_,nf_]
 rfl
theorem MH{o:List (Int×Int)}{l:List CmM}:aU P E ctF 50 163 Bsa Dsa (saV o l l.length) (saB o)=some (.tuple ⟨exV (.exit 0)::saV o l l.length⟩,ag (saB o)):=by
 rw[EP];have b1:Nat.ble (Nat.add 0 (Nat.mul o.length 2)) (ESa.all o).length=true:=dG (by rw[ESa.all_length]; show 0+o.length*2<=o.length*2; omega);have t1:takeC (Nat.mul o.length 2) (aO 0 (ESa.all o))=ESa.all o:=ESa.all_self o;simp only[mz_,kU,b1,t1,saV,saB,lsV,ptV,aQ,dY,Enc.all_ren,bg,aW]
 rfl
theorem TV{l:List CmM}{x:Int}(hl:l.length<4000)(he:∀ c∈l,c.e=1):∀ (j i:Nat),i+j=l.length->
  LRX P 163 0 Bsa Dsa.head (saV [(1,x)] l i) (saB [(1,x)]) .normal (saV [(1,x)] l l.length) (saB [(1,x)])
 |0,i,h=>by
  obtain rfl:i=l.length:=by omega
  exact ls_ aA xN (e:= .exit 0) MH (by intro h; cases h)
 |j+1,i,h=>by
  have hi:i<l.length:=by omega
  exact la_ aA xN (acY hi hl (he _ (kQ hi))) (TV hl he j (i+1) (by omega))
def ofM(l:List CmM):List (Int×Int):=match l with
 |[]=>[]
 |_::_=>[(1,1)]
theorem afO{l:List CmM}(hl:l.length<4000)(hf:fA 0 0 0 l=(0,0))(he:∀ c∈l,c.e=1) :
  LRX P 163 0 Bsa Dsa.head (saV [] l (0:Nat)) (saB []) .normal (saV (ofM l) l l.length) (saB (ofM l)):=by
 cases l with
 |nil=>exact ls_ aA xN (e:= .exit 0) (MH (o:=[]) (l:=[])) (by intro h; cases h)
 |cons c l=>
  obtain⟨_,h2,_,_⟩:=mM hf;have e1:c.e=1:=he c (qQ ..);have e2:c.n=1:=by omega
  have q:=aaT (l:=c::l) (by simp) hl;have e3:((c::l)[0].e,(c::l)[0].n)=((1:Int),(1:Int)):=by show(c.e,c.n)=_; rw[e1,e2]
  rw[e3]at q;exact la_ aA xN q (TV hl he l.length 1 (by simp; omega))
theorem Iy{l:List (Int×Int)}{n:Nat}(h:n=l.length):oI P 0 n 18446744073709551616 (ESa.all l) 109=true:=by
 subst h;have he:esz P 109=2:=by kernel_rfl
 unfold oI;rw[he,ESa.all_nr,ESa.all_length];have h2:Nat.ble (Nat.add 0 (Nat.mul l.length 2)) (l.length*ESa.sz)=true:=dG (by show 0+l.length*2<=l.length*2; omega);rw[h2]; rfl
theorem afM{l:List CmM}(hl:l.length<4000)(hf:fA 0 0 0 l=(0,0))(he:∀ c∈l,c.e=1) :
  CRX P 0 163 [aQ l] [] (.tuple ⟨[ax 2 (ofM l).length 0 (ESa.all (ofM l)), .agg ⟨[.int .i64 0, .int .i64 0]⟩]⟩) []:=by
 have q1:=pq (e:=0) (n:=0) (l:=l) (by omega) (by
  intro x hx;obtain⟨_,_,hb⟩:=fU.1 (mr hf x hx);obtain⟨b1,b2,b3⟩:=dM.1 hb
  omega)
 rw[hf]at q1;have q2:=afO hl hf he;refine CRX.ofF (pol:=aB) (fl:=[.val, .val, .val]) (ts:=[54,0,0]) (n:=50) (kb:=[]) (dU _) bK (af (dB aA (d_ (bJ OE) q2)) (az q1)) ((QN (ay [.int .i64 0, .int .i64 0,aQ l] []) (ay (saV [] l (0:Nat)) (saB [])) l (ofM l)).trans ?_);clear q1 q2;have z0:((0:Nat):Int)=0:=rfl;have n1:([]:List (Int×Int)).length=0:=rfl;have n2:ESa.all ([]:List (Int×Int))=[]:=rfl;have t1:takeC (Nat.mul (ofM l).length 2) (aO 0 (ESa.all (ofM l)))=ESa.all (ofM l):=ESa.all_self _;have m2:∀ (n b:Nat) (c:List Value),ax 2 n b c = .iface 18446744073709551618 (.agg ⟨.slice none n b::c⟩):=fun n b c=>by unfold ax; rw[show FZ+2=18446744073709551618 from by unfold FZ; rfl]
 simp (disch:=first|omega|(simp only[bU,bY,bZ,bT,bW,aH]<;>omega)|fail) only[mz_,z0,n1,n2,t1,m2,Iy rfl,saV,saB,uf_,nf_]
structure MsgM where
 k:Int
 e:Int
 ro:Int
 en:Int
 st:List (Int×Int)
 fr:Int
 pv:Int
 cs:List CmM
def dC(l:List (Int×Int)):Value:=ax 2 l.length 0 (ESa.all l)
def mV(m:MsgM):Value:= .agg ⟨[.int .i64 m.k, .int .i64 m.e, .int .u8 m.ro, .int .i64 m.en,dC m.st, .int .i64 m.fr, .int .i64 m.pv,aQ m.cs]⟩
def me_(m:MsgM):Value:=(Value.agg (Array.mk [(Value.int IntKind.i64 (MsgM.k m)),(Value.int IntKind.i64 (MsgM.e m)),(Value.int IntKind.u8 (MsgM.ro m)),(Value.int IntKind.i64 (MsgM.en m)),(Value.iface 18446744073709551618 (Value.agg (Array.mk ((Value.slice none (List.length (MsgM.st m)) 0)::(Enc.all ESa (MsgM.st m)))))),(Value.int IntKind.i64 (MsgM.fr m)),(Value.int IntKind.i64 (MsgM.pv m)),(Value.iface 18446744073709551619 (Value.agg (Array.mk ((Value.slice none (List.length (MsgM.cs m)) 0)::(Enc.all ECm (MsgM.cs m))))))]))
def Dsc:HeadX:=⟨1,64,[1,4,5,23,24,25],[.val, .val, .val, .val, .val, .val],[0,0,0,54,0,0],aB⟩
def Bsc:Code:=(di P 131 0).getD .skip
theorem N9:di P 131 0=some Bsc:=by kernel_rfl
theorem EL:Occ P 131 (.block 0 (.loop Bsc)):=dN N9
def scB(x:Int×Int):List Blk:=[.cells [.int .i64 x.1, .int .i64 x.2] 109 true]
def scV(en r:Int)(l:List (Int×Int))(i:Int):List Value:=[.int .i64 en, .int .i64 r,ptV 0,dC l, .int .i64 (ah l.length), .int .i64 i]
theorem Yp(en:Int)(l:List (Int×Int))(i:Int)(x:Int×Int):aU P E ctF 50 131 Bsc Dsc (scV en 0 l i) (scB x) =
 (let z:=l.length;let y:=atN i 2;let w:=Enc.all ESa l;let v:=Eta.int .i64;let u:=asI (aV w y);let t:=Prod.fst x;let s:=io_ en;let r:=pt_ 0;let q:=fc_ z 0 w;let p:=io_ (ah z);let o:=Prod.snd x;let n:=ag [.cells [io_ t,io_ o] 109 true];let m:=some (Value.tuple ⟨[io_ (-1),s,io_ 5,r,q,p,io_ i]⟩,n);
 let k:=asI (aV w (Nat.add y 1));let j:=io_ 0;let h:=some (Value.tuple ⟨[j,s,j,r,q,p,io_ (bM .i64 i 1)]⟩,ag [.cells [io_ u,io_ k] 109 true]);
 (aj (ltI i (ah z)) (ae (Bool.and (Nat.beq 2 2) (inI i z)) (ae (Bool.and (Nat.ble (Nat.add y 2) w.length) (jg [v,v] w y)) (aj (leI u t) m (aj (gtI u 1048576) m (aj (leI k o) m (aj (gtI k en) m (aj (eqI i 0) (aj (neI k 1) m h) h))))))) (some (.tuple ⟨[io_ 1,s,j,r,q,p,io_ i]⟩,n)))):=by kernel_rfl
def abK(C:List Value->List Blk->Bool)(e:Ex)(en r:Int)(l:List (Int×Int))(i:Int)(x:Int×Int):Ct:=dX P 131 0 Dsc (gX C (.leaf (e,scV en r l i,scB x))) ctF
theorem acU(C:List Value->List Blk->Bool)(en:Int)(l:List (Int×Int))(i:Int)(x:Int×Int):aN P E (abK C .normal en 0 l i x) 50 aB [] [] 0 131 [dC l, .int .i64 en] [] =
 (let z:=some (io_ 5,ag []);let y:=ah l.length;let w:=io_ 0;
 (aj (ltI en 0) z (aj (gtI en 1048576) z (aj (eQ (eqB (eqI y 0) (eqI en 0))) z (ae (C [io_ en,w,pt_ 0,fc_ l.length 0 (Enc.all ESa l),io_ y,w] [.cells [w,w] 109 true]) (some (w,ag []))))))):=by kernel_rfl
theorem ace(C:List Value->List Blk->Bool)(en:Int)(l:List (Int×Int))(i:Int)(x:Int×Int):aN P E (abK C .ret en 5 l i x) 50 aB [] [] 0 131 [dC l, .int .i64 en] [] =
 (let z:=some (io_ 5,ag []);let y:=ah l.length;let w:=io_ 0;
 (aj (ltI en 0) z (aj (gtI en 1048576) z (aj (eQ (eqB (eqI y 0) (eqI en 0))) z (ae (C [io_ en,w,pt_ 0,fc_ l.length 0 (Enc.all ESa l),io_ y,w] [.cells [w,w] 109 true]) z))))):=by kernel_rfl
def aii(C1:List Value->List Blk->Bool)(e:Int):Ct:=ak P aB 0 131 (aP C1 (.leaf (.int .i64 e,[]))) ctF
theorem afj(C1:List Value->List Blk->Bool)(e:Int)(m:MsgM):aN P E (aii C1 e) 50 aB [] [] 0 92 [mV m] [] =
 (let z:=some (Value.bool false,ag []);let y:=m.st.length;let x:=Enc.all ESa m.st;let w:=dJ .i64 (ah y) 1;let v:=Nat.add (atN w 2) 0;let u:=aj (eqI m.fr 0) (aj (eqI m.pv 0) (some (.bool (eqI (ah m.cs.length) 0),ag [])) z) z;
 (aj (geI m.ro 1) (aj (eQ (leI m.ro 3)) z (ae (C1 [fc_ y 0 x,io_ m.en] []) (aj (neI e 0) z (aj (gtI (ah y) 0) (ae (Bool.and (Nat.beq 2 2) (inI w y)) (ae (Bool.and (Nat.ble (Nat.add v 1) x.length) (gm (.int .i64) (aV x v))) (aj (gtI (asI (aV x v)) m.e) z u))) u)))) z)):=by kernel_rfl
def Dsp:HeadX:=⟨1,60,[1,2,43,44,45],[.val, .val, .val, .val, .val],[0,0,35,0,0],aB⟩
def Bsp:Code:=(di P 93 0).getD .skip
theorem XK:di P 93 0=some Bsp:=by kernel_rfl
theorem Tf:Occ P 93 (.block 0 (.loop Bsp)):=dN XK
def msB(m:MsgM):List Blk:=[.cells [.int .i64 m.k, .int .i64 m.e, .int .u8 m.ro, .int .i64 m.en,dC m.st, .int .i64 m.fr, .int .i64 m.pv,aQ m.cs] 56 true]
def spV(l:List CmM)(i:Int):List Value:=[ptV 0, .bool false,aQ l, .int .i64 (ah l.length), .int .i64 i]
theorem Wq(m:MsgM)(l:List CmM)(i:Int):aU P E ctF 50 93 Bsp Dsp (spV l i) (msB m) =
 (let z:=l.length;let y:=atN i 3;let x:=Enc.all ECm l;let w:=Eta.int .i64;let v:=pt_ 0;let u:=Value.bool false;let t:=fa_ z 0 x;let s:=io_ (ah z);let r:=ag [.cells [io_ m.k,io_ m.e, .int .u8 m.ro,io_ m.en,fc_ m.st.length 0 (Enc.all ESa m.st),io_ m.fr,io_ m.pv,fa_ m.cs.length 0 (Enc.all ECm m.cs)] 56 true];
 (aj (ltI i (ah z)) (ae (Bool.and (Nat.beq 3 3) (inI i z)) (ae (Bool.and (Nat.ble (Nat.add y 3) x.length) (jg [w,w, .slice 3] x y)) (aj (gtI (asI (aV x y)) m.e) (some (.tuple ⟨[io_ (-1),v,u,t,s,io_ i]⟩,r)) (some (.tuple ⟨[io_ 0,v,u,t,s,io_ (bM .i64 i 1)]⟩,r))))) (some (.tuple ⟨[io_ 1,v,u,t,s,io_ i]⟩,r)))):=by kernel_rfl
def aiF(C1 C2:List Value->List Blk->Bool)(r:Int×Nat)(e:Ex)(m:MsgM)(i:Int):Ct:=ak P aB 0 74 (aP C1 (.leaf (yM r,[]))) (dX P 93 0 Dsp (gX C2 (.leaf (e,spV m.cs i,msB m))) ctF)
theorem adk(C1 C2:List Value->List Blk->Bool)(r:Int×Nat)(m:MsgM)(i:Int):aN P E (aiF C1 C2 r .normal m i) 50 aB [] [] 0 93 [mV m] [] =
 (let z:=Value.bool false;let y:=some (z,ag []);let x:=m.cs.length;let w:=fa_ x 0 (Enc.all ECm m.cs);let v:=m.st.length;
 (aj (geI m.fr 1) (aj (eQ (leI m.fr 1048576)) y (aj (geI m.pv 0) (aj (eQ (leI m.pv m.e)) y (aj (eQ (eqB (eqI m.pv 0) (eqI m.fr 1))) y (aj (gtI (ah x) 4) y (ae (C1 [io_ m.pv,io_ (dJ .i64 m.fr 1),w] []) (aj (neI (Prod.fst r) 0) y (ae (C2 [pt_ 0,z,w,io_ (ah x),io_ 0] [.cells [io_ m.k,io_ m.e, .int .u8 m.ro,io_ m.en,fc_ v 0 (Enc.all ESa m.st),io_ m.fr,io_ m.pv,w] 56 true]) (aj (eqI m.ro 0) (aj (eqI m.en 0) (aj (eqI (ah v) 0) (some (.bool (eqI 0 0),ag [])) y) y) y))))))) y)) y)):=by kernel_rfl
def ahL(C1 C2:List Value->List Blk->Bool)(b1 b2:Bool):Ct:=ak P aB 0 92 (aP C1 (.leaf (.bool b1,[]))) (ak P aB 0 93 (aP C2 (.leaf (.bool b2,[]))) ctF)
theorem Oi(C1 C2:List Value->List Blk->Bool)(b1 b2:Bool)(m:MsgM):aN P E (ahL C1 C2 b1 b2) 50 aB [] [] 0 48 [mV m] [] =
 (let z:=eqI m.k 1;let y:=leI m.e 1048576;let x:=some (io_ 2,ag []);let w:=some (io_ 0,ag []);let v:=eqI m.k 2;let u:=eqI m.k 3;
 (aj (geI m.e 1) (aj z (aj y (ae (C1 [me_ m] []) (aj (eQ b1) x w)) x) (aj v (aj y (ae (C2 [me_ m] []) (aj (eQ b2) x w)) x) (aj u (aj y (aj (geI m.en 0) (aj (leI m.en 1048576) (aj (eqI m.ro 0) (aj (eqI (ah m.st.length) 0) (aj (eqI m.fr 0) (aj (eqI m.pv 0) (aj (eQ (eqI (ah m.cs.length) 0)) x w) x) x) x) x) x) x) x) x))) (aj z x (aj v x (aj u x x))))):=by kernel_rfl
def JM(C:List Value->List Blk->Bool):Ct:=ak P aB 0 131 (aP C (.leaf (.int .i64 0,[]))) ctF
theorem ad3(C:List Value->List Blk->Bool)(n x y:Int):aN P E (JM C) 50 aB [] [] 0 182 [ax 2 1 0 [.int .i64 1, .int .i64 1], .int .i64 n,ax 2 2 0 [.int .i64 1, .int .i64 1, .int .i64 2, .int .i64 x], .int .i64 y] [] =
 (let z:=io_ 1;let w:=dJ .i64 x 1;let v:=io_ 0;let u:=ag [];let t:=some (Value.tuple ⟨[v,v]⟩,u);
 (ae (C [.iface 18446744073709551618 (.agg ⟨[.slice none 1 0,z,z]⟩),io_ n] []) (ae (C [.iface 18446744073709551618 (.agg ⟨[.slice none 2 0,z,z,io_ 2,io_ x]⟩),io_ y] []) (aj (ltI w n) (aj (leI 1 w) (some (.tuple ⟨[io_ w,v]⟩,u)) t) (aj (leI 1 n) (some (.tuple ⟨[io_ n,v]⟩,u)) t))))):=by kernel_rfl
def Vr(C:List Value->List Blk->Bool):Ct:=ak P aB 0 71 (aP C (.leaf (.int .i64 0,[]))) ctF
theorem adY(C:List Value->List Blk->Bool)(f b:Int):aN P E (Vr C) 50 aB [] [] 0 183 [.agg ⟨[.int .i64 2, .int .u8 3, .int .i64 0, .int .u8 1, .int .i64 0, .int .i64 0]⟩, .int .i64 f, .int .i64 b] [] =
 (let z:=io_ 2;let y:=Value.int .u8 3;let x:=io_ 0;let w:=C [.agg ⟨[z,y,x, .int .u8 1,x,x]⟩] [];let v:=Value.int .u8 0;let u:=some (Value.tuple ⟨[.agg ⟨[x,v,x,v,x,x]⟩,z]⟩,ag []);
 (ae w (aj (geI f 0) (aj (eQ (leI f 1048576)) u (aj (geI b 0) (aj (eQ (leI b 1073741824)) u (ae w (some (.tuple ⟨[.agg ⟨[z,y,x, .int .u8 2,io_ f,io_ b]⟩,x]⟩,ag [])))) u)) u))):=by kernel_rfl
theorem adc(C:List Value->List Blk->Bool)(f:Int):aN P E (Vr C) 50 aB [] [] 0 186 [.agg ⟨[.int .i64 2, .int .u8 3, .int .i64 0, .int .u8 2, .int .i64 f, .int .i64 0]⟩] [] =
 (let z:=Value.int .u8 3;let y:=io_ 0;
 (ae (C [.agg ⟨[io_ 2,z,y, .int .u8 2,io_ f,y]⟩] []) (some (.tuple ⟨[.agg ⟨[io_ 2,z,y,z,io_ f,y]⟩,y]⟩,ag [])))):=by kernel_rfl
theorem aek(C:List Value->List Blk->Bool)(f:Int):aN P E (Vr C) 50 aB [] [] 0 188 [.agg ⟨[.int .i64 2, .int .u8 3, .int .i64 0, .int .u8 3, .int .i64 f, .int .i64 0]⟩] [] =
 (let z:=Value.int .u8 3;let y:=io_ 0;
 (ae (C [.agg ⟨[io_ 2,z,y,z,io_ f,y]⟩] []) (some (.tuple ⟨[.agg ⟨[io_ 2,z,y, .int .u8 4,io_ f,y]⟩,y]⟩,ag [])))):=by kernel_rfl
theorem adN(C:List Value->List Blk->Bool)(f:Int):aN P E (Vr C) 50 aB [] [] 0 161 [.agg ⟨[.int .i64 2, .int .u8 3, .int .i64 0, .int .u8 4, .int .i64 f, .int .i64 0]⟩] [] =
 (let z:=io_ 0;
 (ae (C [.agg ⟨[io_ 2, .int .u8 3,z, .int .u8 4,io_ f,z]⟩] []) (some (.tuple ⟨[.agg ⟨[io_ 2, .int .u8 2,z, .int .u8 0,z,z]⟩,z]⟩,ag [])))):=by kernel_rfl
def ahG(C1 C2 C3 C4 C5 C6:List Value->List Blk->Bool)(b:Bool)(s:StaM)(o:List (Int×Int))(f:Int)(p:PgM):Ct:=ak P aB 0 103 (aP C1 (.leaf (.bool b,[]))) (ak P aB 7 181 (aP C2 (.leaf (.tuple ⟨[.int .i64 s.held, .int .i64 0]⟩,stB s)))
 (ak P aB 7 41 (aP C3 (.leaf (aQ s.log,stB s))) (ak P aB 0 163 (aP C4 (.leaf (.tuple ⟨[dC o, .agg ⟨[.int .i64 0, .int .i64 0]⟩]⟩,[]))) (ak P aB 0 182 (aP C5 (.leaf (.tuple ⟨[.int .i64 f, .int .i64 0]⟩,[])))
 (ak P aB 0 183 (aP C6 (.leaf (.tuple ⟨[pgV p, .int .i64 0]⟩,[]))) ctF)))))
theorem Zn(C1 C2 C3 C4 C5 C6:List Value->List Blk->Bool)(s:StaM)(m:MsgM)(o:List (Int×Int))(f:Int)(p:PgM):aN P E (ahG C1 C2 C3 C4 C5 C6 true s o f p) 50 aB [] [] 7 155 [p0,mV m] (stB s) =
 (let z:=me_ m;let y:=rg_ [0,7];let x:=aT y 35;let w:=s.log.length;let v:=aT y 55;
 (ae (C1 [pg_ s.pg,z] []) (ae (bz z z) (ns_ s (ae (C2 [pt_ 0] (sm_ s (ro_ [0,7,26,5,25,1,31,4]))) (nw_ s x (ae (C3 [pt_ 0] (sw_ s (ro_ [0,7,46,5,45,1,51,4]) x)) (ae (C4 [fa_ w 0 (Enc.all ECm s.log)] []) (ae (C5 [fc_ o.length 0 (Enc.all ESa o),io_ (ah w),fc_ m.st.length 0 (Enc.all ESa m.st),io_ m.en] []) (ae (C6 [pg_ s.pg,io_ f,io_ s.held] []) (nw_ s v (some (.tuple ⟨[pg_ p,io_ 0]⟩,ag (sw_ s (ro_ [0,7,68,5,67,1,73,4]) v)))))))))))))):=by kernel_rfl
def abm(C1 C2 C3 C4:List Value->List Blk->Bool)(b:Bool)(s s2:StaM)(x:SecM)(p:PgM):Ct:=ak P aB 7 41 (aP C1 (.leaf (aQ s.log,stB s))) (ak P aB 0 184 (aP C2 (.leaf (.tuple ⟨[lQ x, .bool b, .int .i64 0]⟩,[])))
 (ak P aB 7 185 (aP C3 (.leaf (.int .i64 0,stB s2))) (ak P aB 0 186 (aP C4 (.leaf (.tuple ⟨[pgV p, .int .i64 0]⟩,[]))) ctF)))
theorem ZT(C1 C2 C3 C4:List Value->List Blk->Bool)(s s2:StaM)(x:SecM)(p:PgM):aN P E (abm C1 C2 C3 C4 true s s2 x p) 50 aB [] [] 7 157 [p0] (stB s) =
 (let z:=pg_ s.pg;let y:=rg_ [0,7];let w:=aT y 42;let v:=aT y 62;
 (ns_ s (ae (C1 [pt_ 0] (sm_ s (ro_ [0,7,33,5,32,1,38,4]))) (ae (C2 [fa_ s.log.length 0 (Enc.all ECm s.log),z] []) (ae (bz z z) (nw_ s w (ae (C3 [pt_ 0,io_ s.pg.ba, .agg ⟨[io_ x.e,io_ x.f,fa_ x.cs.length 0 (Enc.all ECm x.cs)]⟩] (sw_ s (ro_ [0,7,53,5,52,1,58,4]) w)) (ae (C4 [z] []) (nw_ s2 v (some (.tuple ⟨[pg_ p,io_ 0]⟩,ag (sw_ s2 (ro_ [0,7,73,5,72,1,78,4]) v)))))))))))):=by kernel_rfl
theorem ZB(C1 C2 C3 C4:List Value->List Blk->Bool)(s s2:StaM)(x:SecM)(p:PgM):aN P E (abm C1 C2 C3 C4 false s s2 x p) 50 aB [] [] 7 157 [p0] (stB s) =
 (let z:=pg_ s.pg;let y:=aT (rg_ [0,7]) 42;
 (ns_ s (ae (C1 [pt_ 0] (sm_ s (ro_ [0,7,33,5,32,1,38,4]))) (ae (C2 [fa_ s.log.length 0 (Enc.all ECm s.log),z] []) (ae (bz z z) (ae (C4 [z] []) (nw_ s y (some (.tuple ⟨[pg_ p,io_ 0]⟩,ag (sw_ s (ro_ [0,7,53,5,52,1,58,4]) y)))))))))):=by kernel_rfl
def ah5(C1 C2:List Value->List Blk->Bool)(s2:StaM)(ot:TbM)(orest:List CmM)(p:PgM):Ct:=ak P aB 7 187 (aP C1 (.leaf (.int .i64 0,stG s2 ot orest))) (ak P aB 0 188 (aP C2 (.leaf (.tuple ⟨[pgV p, .int .i64 0]⟩,[]))) ctF)
theorem aee(C1 C2:List Value->List Blk->Bool)(s s2:StaM)(ot:TbM)(orest:List CmM)(p:PgM):rP P E (ah5 C1 C2 s2 ot orest p) 50 aB [] [] 7 [] 159 [p0] (stB s) =
 (let z:=aT (rg_ [0,7]) 29;
 (ns_ s (ae (C1 [pt_ 0,io_ s.pg.fo] (sm_ s (ro_ [0,7,20,5,19,1,25,4]))) (ae (C2 [pg_ s2.pg] []) (nw_ s2 z (nb_ orest.length 3 (aG true z (Enc.all ECm orest)) (some (.tuple ⟨[pg_ p,io_ 0]⟩,ag (gw_ s2 ot orest (ro_ [0,7,29,3,45,5,44,1,50,5]) z))))))))):=by kernel_rfl
def StaM.at2(s:StaM)(ph f:Int):StaM:={ s with pg:=⟨2,3,0,ph,f,0⟩ }
def ahN(C1 C2:List Value->List Blk->Bool)(e:Int)(s s2:StaM)(p:PgM):Ct:=ak P aB 7 155 (aP C1 (.leaf (.tuple ⟨[pgV p, .int .i64 e]⟩,stB s))) (ak P aB 7 44 (aP C2 (.leaf (.int .i64 0,stB s2))) ctF)
theorem aeL(C1 C2:List Value->List Blk->Bool)(s s2:StaM)(m:MsgM)(p:PgM):aN P E (ahN C1 C2 0 (s.at2 1 0) s2 p) 50 aB [] [] 7 84 [p0,mV m] (stB (s.at2 1 0)) =
 (let z:=StaM.at2 s 1 0;let y:=rg_ [0,7];let x:=aT y 47;let w:=aT y 67;
 (ns_ z (ae (C1 [pt_ 0,me_ m] (sm_ z (ro_ [0,7,38,5,37,1,43,4]))) (nw_ z x (ae (C2 [pt_ 0,pg_ p] (sw_ z (ro_ [0,7,58,5,57,1,63,4]) x)) (nw_ s2 w (some (.tuple ⟨[pg_ p,io_ 0]⟩,ag (sw_ s2 (ro_ [0,7,78,5,77,1,83,4]) w))))))))):=by kernel_rfl
def ahX(C1 C2:List Value->List Blk->Bool)(s s2:StaM)(p:PgM):Ct:=ak P aB 7 157 (aP C1 (.leaf (.tuple ⟨[pgV p, .int .i64 0]⟩,stB s))) (ak P aB 7 44 (aP C2 (.leaf (.int .i64 0,stB s2))) ctF)
theorem aeX(C1 C2:List Value->List Blk->Bool)(s s1 s2:StaM)(m:MsgM)(p:PgM)(f:Int):aN P E (ahX C1 C2 s1 s2 p) 50 aB [] [] 7 84 [p0,mV m] (stB (s.at2 2 f)) =
 (let z:=StaM.at2 s 2 f;let y:=rg_ [0,7];let x:=aT y 47;let w:=aT y 67;
 (ns_ z (ae (C1 [pt_ 0] (sm_ z (ro_ [0,7,38,5,37,1,43,4]))) (nw_ s1 x (ae (C2 [pt_ 0,pg_ p] (sw_ s1 (ro_ [0,7,58,5,57,1,63,4]) x)) (nw_ s2 w (some (.tuple ⟨[pg_ p,io_ 0]⟩,ag (sw_ s2 (ro_ [0,7,78,5,77,1,83,4]) w))))))))):=by kernel_rfl
def ahE(C1 C2:List Value->List Blk->Bool)(s s2:StaM)(ot:TbM)(orest:List CmM)(p:PgM):Ct:=ak P aB 7 159 (aP C1 (.leaf (.tuple ⟨[pgV p, .int .i64 0]⟩,stG s ot orest))) (ak P aB 7 44 (aP C2 (.leaf (.int .i64 0,stB s2))) ctF)
theorem ad4(C1 C2:List Value->List Blk->Bool)(s s1 s2:StaM)(ot:TbM)(orest:List CmM)(m:MsgM)(p:PgM)(f:Int):rP P E (ahE C1 C2 s1 s2 ot orest p) 50 aB [] [] 7 [] 84 [p0,mV m] (stB (s.at2 3 f)) =
 (let z:=StaM.at2 s 3 f;let y:=aT (rg_ [0,7]) 47;let x:=aT (rg_ [0,4,47,3]) 71;let w:=orest.length;let v:=aG true y (Enc.all ECm orest);let u:=ro_ [0,7,47,3,82,5,81,1,87,5];
 (ns_ z (ae (C1 [pt_ 0] (sm_ z (ro_ [0,7,38,5,37,1,43,4]))) (nw_ s1 y (ae (C2 [pt_ 0,pg_ p] (sw_ s1 (ro_ [0,4,47,3,62,5,61,1,67,4]) y)) (nw_ s2 x (nb_ w 3 v (some (.tuple ⟨[pg_ p,io_ 0]⟩,ag (sb_ s2 s2.pg 1 15 2 3 7::dk_ s2.dk 10 11 12 13 14::wb_ s2 1 16 17::rb_ s2 1 18::so_ 5 3 20 w::tb_ 6:: .map (aF true u (aF true y ot.es)) ot.ck::so_ 8 3 19 s2.rest.length::tb_ 9:: .map (aF true u (aF true x s2.tb.es)) s2.tb.ck::nl_ (cz_ u (bk_ x w0_)) s2 [lb_ u w 3 v 47])))))))))):=by kernel_rfl
def ahP(C1 C2:List Value->List Blk->Bool)(s2:StaM)(p:PgM):Ct:=ak P aB 0 161 (aP C1 (.leaf (.tuple ⟨[pgV p, .int .i64 0]⟩,[]))) (ak P aB 7 44 (aP C2 (.leaf (.int .i64 0,stB s2))) ctF)
theorem abZ(C1 C2:List Value->List Blk->Bool)(s s2:StaM)(m:MsgM)(p:PgM)(f:Int):aN P E (ahP C1 C2 s2 p) 50 aB [] [] 7 84 [p0,mV m] (stB (s.at2 4 f)) =
 (let z:=StaM.at2 s 4 f;let y:=aT (rg_ [0,7]) 48;
 (ae (C1 [pg_ z.pg] []) (ns_ z (ae (C2 [pt_ 0,pg_ p] (sm_ z (ro_ [0,7,39,5,38,1,44,4]))) (nw_ s2 y (some (.tuple ⟨[pg_ p,io_ 0]⟩,ag (sw_ s2 (ro_ [0,7,59,5,58,1,64,4]) y)))))))):=by kernel_rfl
end Go.VS.Tryz
end

noncomputable section
namespace Go.VS

section
variable{P:Program}{ct:Ct}
def Dz(P:Program)(ct:Ct)(n:Nat)(pol:Pol)(fl:List Fl)(ts:List TypeId)(N:Nat)(kb:List Bool)(g:FuncId)(args:List Value)(bs:List Blk):Res:=
 match iU P ct n g args (ag bs)with
 |some (v,st)=>DT.run (mO P 60 fl ts (qB v) st fun vs1 ps st1=>uI P pol 200 (List.append (EH args) (List.append ps (upL N 0))) [] st1 fun st2=>
  oZ (kz st2) 1000 (List.append args (List.append vs1 (Df (upL N 0)))) (kbF kb args) [] fun X L=>match Nat.beq vs1.length (qB v).length,jm 0 ((List.append (upL N 0) (geL N X)).append L) (fun i=>dW (path i) st2.heap) ((List.append (upL N 0) (geL N X)).append L)with
  |true,some ms=> .leaf (xX v (vs1.map (eP true (bQ 0 ((List.append (upL N 0) (geL N X)).append L)))),ms)
  |_,_=> .fail) fun r=>some (r.1,ag r.2)
 |none=>none
theorem CRX.ofE(hN:noNum P=true)(hct:CtOk P ct){n:Nat}{pol:Pol}{fl:List Fl}{ts:List TypeId}{N:Nat}{kb:List Bool}{g:FuncId}{args:List Value}{bs:List Blk}{v:Value}{bs':List Blk}(h:Dz P ct n pol fl ts N kb g args bs=some (v,ag bs')):CRX P N g args bs v bs':=by
 intro K β w args' cs hid ha hr;unfold Dz at h;split at h
 ·rename_i v1 st1 h1;have h2:=h;obtain⟨β1,fr,w1,v',a1,a2,a3,a4,a5,a6⟩:=(ja hN hct n K).call g args (ag bs) v1 st1 h1 β w args' .normal cs (Or.inl rfl) ha hr;obtain⟨r,hc,h2⟩:=DT.run_spec h2;obtain⟨vs1,ps,st2,f1,f2,f3⟩:=jG _ _ _ _ _ _ hc;obtain⟨st3,g1,g2⟩:=jV _ _ _ _ _ f1;obtain⟨X0,L,hX⟩:=lI (kz st3) 1000 (List.append args (List.append vs1 (Df (upL N 0)))) (kbF kb args) [] fun X L=>match Nat.beq vs1.length (qB v1).length,jm 0 ((List.append (upL N 0) (geL N X)).append L) (fun i=>dW (path i) st3.heap) ((List.append (upL N 0) (geL N X)).append L)with
   |true,some ms=>DT.leaf (xX v1 (vs1.map (eP true (bQ 0 ((List.append (upL N 0) (geL N X)).append L)))),ms)
   |_,_=> .fail
  rw[hX]at g1;have hup:upTo N (upL N 0++geL N X0) 0=true:=yL N 0 _;generalize hY:upL N 0++geL N X0=X at hup;have hY':List.append (upL N 0) (geL N X0)=X:=hY;rw[hY']at g1;split at g1
  ·rename_i ms hvl hm;have hm:jm 0 (X++L) (fun i=>dW (path i) st3.heap) (X++L)=some ms:=hm;simp only[DT.eval,dD]at g1;subst g1;simp only[dD,dA]at h2;obtain⟨rfl,hst⟩:=h2;obtain⟨m1,m2,m3⟩:=jr hm;simp only[dL]at m2 m3;have hvl:=dF hvl;obtain⟨xs,x1,x2⟩:=BO a5;obtain⟨β2,c1,c2,c3⟩:=f3 K β1 w1 xs a3 x1;obtain⟨β3,d1,d2⟩:=g2 K β2 w1 c2;have hmid:=lC (N:=0) (src:=X++L) d2 (fun i hi=>(hid i hi).elim) (ig _) m1 m2;have hren:=qE (X++L) β3;have hmsl:ms.length=bs'.length:=by have:=congrArg St.next hst; exact this
   refine⟨⟨iR 0 (X++L) β3,fr,w1,v',a1,(((a2.trans c1).trans d1).leN _).trans (vk hup),?_,a4,?_,a6⟩,?_⟩
   ·rw[<-hst,m3]; exact hmid
   ·refine x2 _ _ (by rw[n_]; exact hvl) ((c3.mono d1).mapr fun v _ x hx=>gU hren v x hx)
   ·rw[<-hmsl,m3,n_,bP];have:=(qJ _ _ _ hup).1;omega
  ·cases g1
 ·cases h
end
end Go.VS
end

noncomputable section
namespace Go.VS.Tryz
open Go.VS
set_option maxRecDepth 1000000
def dkN:DkM:=⟨false,false,0,0,[],[],[],[],[]⟩
def qY:List Blk:=[.cells [.bool true, .bool false, .bool false, .int .i64 0, .int .i64 0, .slice none 0 0, .slice none 0 0, .slice none 0 0, .slice none 0 0, .slice none 0 0] 86 true]
theorem acr:Dz P uP 4000 aB [] [] 1 [] 67 [p0, .int .i64 0] qY =
 (let z:=io_ 0;let y:=Value.bool false;let x:=pt_ 0;let w:=Blk.cells [] 5 false;let v:=Blk.cells [] 47 false;
 (some (Value.tuple ⟨[pt_ 1,z]⟩,ag [.cells [.bool true,y,y,z,z,sl_ 7 0,sl_ 8 0,sl_ 9 0,sl_ 10 0,sl_ 11 0] 86 true, .cells [x,y,io_ 1, .int .u8 1,z, .int .u8 0,z,z,sl_ 12 0,pt_ 2,pt_ 3,pt_ 4,z] 128 true, .cells [x,y,sl_ 13 0,sl_ 14 0] 170 true, .cells [x,y,sl_ 15 0] 168 true,so_ 5 3 16 0,tb_ 6, .map [] 0,w,w,w,w, .cells [] 163 false,v,v, .cells [] 3 false, .cells [] 161 false,v]))):=by kernel_rfl
def kK:StaM:=⟨false,⟨1,1,0,0,0,0⟩,[],0,dkN,false,[],[],false,[],tb0,[]⟩
def stD(s:StaM):List Blk:=[.cells (lX 7 8 9 10 11 s.dk) 86 true, .cells ([ptV 0, .bool s.off]++pgC s.pg++[lsV 12 s.log.length,ptV 2,ptV 3,ptV 4, .int .i64 s.held]) 128 true,
 .cells [ptV 0, .bool s.wbr,lsV 13 s.wcs.length,lsV 14 s.wes.length] 170 true, .cells [ptV 0, .bool s.rbr,lsV 15 s.rs.length] 168 true, .cells [ptV 5,ptV 3,lsV 16 s.rest.length] 174 true, .cells [.map (some 6)] 98 true, .map s.tb.es s.tb.ck]++dkL s.dk++
 [.cells (ECm.all s.log) 47 false, .cells (ECm.all s.wcs) 47 false, .cells (EIn.all s.wes) 3 false, .cells (gI.all s.rs) 161 false, .cells (ECm.all s.rest) 47 false]
theorem aeZ:CRX P 1 67 [p0, .int .i64 0] qY (.tuple ⟨[ptV 1, .int .i64 0]⟩) (stD kK):=
 CRX.ofE (pol:=aB) (fl:=[]) (ts:=[]) (n:=4000) (kb:=[]) bK (q_ P) (acr.trans rfl)
theorem mD{fid id:Nat}{B:Code}{H:Head}{r:DT (Ex×List Value×List Blk)}(hocc:∀ c,Occ P fid (.block id c)->c = .loop B):LoopOkX P fid id B H (gX (fun _ _=>false) r) where
 occ:=hocc
 run:=by
  intro vs bs t hR e' vs' bs' hev;unfold gX at hR;obtain rfl:=aC hR;cases hev
theorem acN{s:StaM}(hs:StQ s 100000)(hg:s.log.length<4000):CRX P 7 38 [p0,aQ []] (stB s) (.int .i64 0) (stB s):=by
 have q1:=pq (e:=aY s.log) (n:=(s.log.length:Int)) (l:=[]) (by decide) (by intro x hx; cases hx);have hf0:fA (aY s.log) (s.log.length:Int) 0 []=(0,0):=rfl;rw[hf0]at q1;have q:=QT (fun _ _=>false) (ay [.int .i64 (aY s.log), .int .i64 (s.log.length:Int),aQ []] []) (fun _ _=>false) (fun _ _=>false) (fun _ _=>false) (fun _ _=>false) (fun _ _=>false) 0 0 0 0 0 s s s s.wal [];rw[AB hs.off hs.dk.off]at q;refine co_ (af (af (af (dB (af (dB aA (mD (bJ MZ))) fF) (mD (bJ NS))) fF) fF) (az q1)) (q.trans ?_);clear q q1;have hoff:=hs.off;have hdo:=hs.dk.off;have ht:=hs.sr.tb.ren;have g0:eqI (ah ([]:List CmM).length) 0=true:=rfl;have g0':eqI (ah 0) 0=true:=rfl;have g1:([]:List CmM).length=0:=rfl;have g2:ECm.all ([]:List CmM)=[]:=rfl;have e0:ah s.log.length=(s.log.length:Int):=rfl;have z3:eqI 0 0=true:=rfl;have z4:neI 0 0=false:=rfl;by_cases h0:s.log=[]
 ·have e1:aY s.log=0:=by rw[h0]; rfl
  have e2:(s.log.length:Int)=0:=by rw[h0]; rfl
  have e3:eqI (s.log.length:Int) 0=true:=by rw[e2]; rfl
  simp (disch:=first|omega|(simp only[bU,bY,bZ,bT,bW,aH]<;>omega)|fail) only[pg_,mz_,hoff,hdo,ht,g0,g0',g1,g2,e0,e1,e3,z3,z4,zF,oO,pgV,iy,lW,stB,pgC,uf_,aZ rfl,dE rfl,dH rfl,bf rfl,nf_]
 ·obtain⟨m0,_,m1,m2⟩:=mJ h0 (by omega);have mp:=kY.2 h0;have m4:=jZ (l:=s.log) (i:=s.log.length-1) (by omega);have m5:=qw (n:=s.log.length) (k:=1) mp (by decide);have m6:=nU h0;rw[e0]at m0 m1;simp (disch:=first|omega|(simp only[bU,bY,bZ,bT,bW,aH]<;>omega)|fail) only[pg_,mz_,hoff,hdo,ht,g0,g0',g1,g2,e0,m0,m1,m2,m4,m5,m6,z3,z4,zF,oO,pgV,iy,lW,stB,pgC,uf_,aZ rfl,dE rfl,dH rfl,bf rfl,nf_]
def fM:PgM:=⟨2,3,0,1,0,0⟩
theorem Uf(c d:CmM)(l:List CmM):aY (c::d::l)=aY (d::l):=by unfold aY; rw[List.getLast?_cons_cons]
theorem IL:∀ {l:List CmM} {e n:Int} {i:Nat},fA e n i l=(0,0)->∀ c∈l,c.e<=aY l
 |[],_,_,_,_,c,hc=>by cases hc
 |[a],_,_,_,_,c,hc=>by
  obtain rfl:=EU.1 hc;exact Int.le_refl _
 |a::b::l,e,n,i,h,c,hc=>by
  obtain⟨_,_,_,h4⟩:=mM h;obtain⟨_,_,h3,_⟩:=mM h4;have ih:=IL h4;rw[Uf];rcases jY.1 hc with rfl | hc
  ·have:=ih b (qQ ..);omega
  ·exact ih c hc
theorem OD:∀ {l:List CmM} {e n:Int} {i:Nat} (k:Nat),fA e n i l=(0,0)->(∀ c∈l,c.e=1)->fA 1 (n+k) 0 (l.drop k)=(0,0)
 |[],_,_,_,k,_,_=>by rw[List.drop_nil]; rfl
 |c::l,e,n,i,0,h,h1=>by
  obtain⟨a1,a2,a3,a4⟩:=mM h;refine yQ ⟨a1,by omega,by rw[h1 c (qQ ..)]; exact Int.le_refl _,Ik 1 a4⟩
 |c::l,e,n,i,k+1,h,h1=>by
  obtain⟨a1,a2,a3,a4⟩:=mM h;have ih:=OD k a4 fun x hx=>h1 x (ni _ hx);have e:c.n+(k:Int)=n+((k+1:Nat):Int):=by omega
  rw[e]at ih;exact ih
theorem zJ{l:List CmM}(h:∀ c∈l,c.e=1):aY l=0\/aY l=1:=by
 unfold aY;cases hq:l.getLast? with
 |none=>exact Or.inl rfl
 |some c=>exact Or.inr (h c (List.mem_of_getLast? hq))
def xW(l:List CmM)(k:Nat):SecM:=⟨2,k,l.drop k⟩
theorem acC{l:List CmM}{k:Nat}(hf:fA 0 0 0 l=(0,0))(h1:∀ c∈l,c.e=1)(hk:k<l.length):zQ (xW l k)=0:=by
 have q:=OD k hf h1;rw[Int.zero_add]at q;have hne:l.drop k≠[]:=fun h=>by
  have:=congrArg List.length h;rw[gZ,lL]at this;omega
 have w:(within 2 1 1048576&&decide ((0:Int)<=(k:Int))&&!(l.drop k).isEmpty)=true:=by
  rw[eU (by omega:(0:Int)<=(k:Int))];cases hd:l.drop k with
  |nil=>exact absurd hd hne
  |cons c r=>rfl
 have hl:=zJ fun c (hc:c∈l.drop k)=>h1 c (Et hc);unfold zQ xW;simp only[w,q];have e:geI (aY (l.drop k)) 2=false:=hF_ (by omega);simp only[e,show eqI (0,0).1 0=true from rfl]
theorem Gm{n f ba:Int}{k:Nat}{l:List CmM}{held:Int}(ph:Int)(hph:ph=2\/ph=3)(h1:∀ c∈l,c.e=1)(hh:0<=held)(hf:0<=f)(hn:f<=n):kD held ⟨2,3,0,ph,f,0⟩ n (aY l) 0=true:=by
 have hl:=zJ h1;have e1:leI (aY l) 2=true:=mT_ (by omega);have e2:leI 0 n=true:=mT_ (by omega);have e3:ltI (aY l) 2=true:=lT_ (by omega);have e4:leI 0 f=true:=mT_ hf;have e5:leI f n=true:=mT_ hn;have e6:leI 0 held=true:=mT_ hh;unfold kD;rcases hph with rfl | rfl<;>simp only[e1,e2,e3,e4,e5,e6]<;>rfl
theorem Wx{n:Int}{l:List CmM}{held:Int}(h1:∀ c∈l,c.e=1)(hh:0<=held)(hn:0<=n):kD held ⟨2,3,0,4,n,0⟩ n (aY l) 0=true:=by
 have hl:=zJ h1;have e1:leI (aY l) 2=true:=mT_ (by omega);have e2:leI 0 n=true:=mT_ (by omega);have e3:ltI (aY l) 2=true:=lT_ (by omega);have e5:leI n n=true:=mT_ (Int.le_refl _);have e6:leI 0 held=true:=mT_ hh;have e7:eqI n n=true:=eT_ rfl;unfold kD;simp only[e1,e2,e3,e5,e6,e7]
 rfl
theorem Xt{n:Int}{l:List CmM}{held:Int}(h1:∀ c∈l,c.e=1)(hn:0<=n):kD held ⟨2,2,0,0,0,0⟩ n (aY l) 0=true:=by
 have hl:=zJ h1;have e1:leI (aY l) 2=true:=mT_ (by omega);have e2:leI 0 n=true:=mT_ (by omega);unfold kD;simp only[e1,e2]
 rfl
theorem qx{f:Int}(ph:Int)(hph:ph=2\/ph=3\/ph=4)(hf:0<=f)(h2:f<=1048576):pgE ⟨2,3,0,ph,f,0⟩=0:=by
 have e1:geI f 0=true:=hT_ hf;have e2:leI f 1048576=true:=mT_ h2;unfold pgE DI;rcases hph with rfl | rfl | rfl<;>simp only[e1,e2]<;>rfl

theorem Vo{l:List (Int×Int)}{i:Nat}(h:i<l.length):aV (ESa.all l) (atN (i:Int) 2) = .int .i64 l[i].1:=by
 have e:atN (i:Int) 2=i*ESa.sz+0:=by simp[atN]; rfl
 rw[e,ESa.nth h (by decide)]; rfl
theorem agy{l:List (Int×Int)}{i:Nat}(h:i<l.length):aV (ESa.all l) (Nat.add (atN (i:Int) 2) 1) = .int .i64 l[i].2:=by
 have e:Nat.add (atN (i:Int) 2) 1=i*ESa.sz+1:=by simp[atN]; rfl
 rw[e,ESa.nth h (by decide)]; rfl
theorem aeV{l:List (Int×Int)}{i:Nat}(h:i<l.length):jg [.int .i64, .int .i64] (ESa.all l) (atN (i:Int) 2)=true:=by
 show and (gm (.int .i64) (aV (ESa.all l) (atN (i:Int) 2))) (and (gm (.int .i64) (aV (ESa.all l) (Nat.add (atN (i:Int) 2) 1))) true)=true;rw[Vo h,agy h]; rfl
theorem PH{l:List (Int×Int)}{i k:Nat}(h:i<l.length)(hk:k<=2):Nat.ble (Nat.add (atN (i:Int) 2) k) (ESa.all l).length=true:=dG (by
 rw[ESa.all_length];show(i:Int).toNat*2+k<=l.length*2;have:(i:Int).toNat=i:=by omega
 omega)
theorem cZ(n b:Nat)(c:List Value):ax 2 n b c = .iface 18446744073709551618 (.agg ⟨.slice none n b::c⟩):=by unfold ax; rw[show FZ+2=18446744073709551618 from by unfold FZ; rfl]
def GV(en:Int)(x:Int×Int)(i:Nat)(s:Int×Int):Bool:=leI s.1 x.1 || (gtI s.1 1048576 || (leI s.2 x.2 || (gtI s.2 en || (eqI (i:Int) 0&&neI s.2 1))))
def scM(en:Int):Int×Int->Nat->List (Int×Int)->Bool
 |_,_,[]=>true
 |x,i,s::r=>match GV en x i s with
  |true=>false
  |false=>scM en s (i+1) r
theorem ZP{en:Int}{l:List (Int×Int)}{i:Nat}{x:Int×Int}(hi:i<l.length)(hl:l.length<4194304) :
  aU P E ctF 50 131 Bsc Dsc (scV en 0 l i) (scB x)=match GV en x i l[i]with
   |true=>some (.tuple ⟨exV .ret::scV en 5 l i⟩,ag (scB x))
   |false=>some (.tuple ⟨exV .normal::scV en 0 l ((i+1:Nat):Int)⟩,ag (scB l[i])):=by
 obtain⟨g1,g2,a1⟩:=lH hi hl;rw[Yp];simp only[mz_,g1,g2,a1,aeV hi,PH hi (dm 2),Vo hi,agy hi,iy,scV,scB,dC,cZ,ptV,nf_];unfold GV;generalize leI l[i].1 x.1=b1;generalize gtI l[i].1 1048576=b2;generalize leI l[i].2 x.2=b3;generalize gtI l[i].2 en=b4;generalize eqI (i:Int) 0=b5;generalize neI l[i].2 1=b6;cases b1<;>cases b2<;>cases b3<;>cases b4<;>cases b5<;>cases b6<;>rfl
theorem agb{en:Int}{l:List (Int×Int)}{x:Int×Int}:aU P E ctF 50 131 Bsc Dsc (scV en 0 l l.length) (scB x)=some (.tuple ⟨exV (.exit 0)::scV en 0 l l.length⟩,ag (scB x)):=by
 rw[Yp];simp only[mz_,kU,scV,scB,dC,cZ,ptV,nf_]
 rfl
theorem TW{en:Int}{l:List (Int×Int)}(hl:l.length<4194304):∀ (j i:Nat) (x:Int×Int),i+j=l.length->∃ i' x',match scM en x i (l.drop i)with
  |true=>LRX P 131 0 Bsc Dsc.head (scV en 0 l i) (scB x) .normal (scV en 0 l i') (scB x')
  |false=>LRX P 131 0 Bsc Dsc.head (scV en 0 l i) (scB x) .ret (scV en 5 l i') (scB x')
 |0,i,x,h=>by
  obtain rfl:i=l.length:=by omega
  rw[qc];exact⟨_,x,ls_ aA EL (e:= .exit 0) agb (by intro h; cases h)⟩
 |j+1,i,x,h=>by
  have hi:i<l.length:=by omega
  have q:=ZP (en:=en) (x:=x) hi hl;rw[lu hi];unfold scM;cases hb:GV en x i l[i]with
  |true=>
   rw[hb]at q;exact⟨_,x,ls_ aA EL (e:= .ret) q (by intro h; cases h)⟩
  |false=>
   rw[hb]at q;obtain⟨i',x',ih⟩:=TW hl j (i+1) l[i] (by omega);refine⟨i',x',?_⟩;simp only;cases hm:scM en l[i] (i+1) (l.drop (i+1))with
   |true=>rw[hm]at ih; exact la_ aA EL q ih
   |false=>rw[hm]at ih; exact la_ aA EL q ih
def scE(l:List (Int×Int))(en:Int):Int:=match ltI en 0,gtI en 1048576,eQ (eqB (eqI (ah l.length) 0) (eqI en 0)),scM en (0,0) 0 l with
 |false,false,false,true=>0
 |_,_,_,_=>5
theorem Js{l:List (Int×Int)}{en:Int}(hl:l.length<4194304):CRX P 0 131 [dC l, .int .i64 en] [] (.int .i64 (scE l en)) []:=by
 obtain⟨i',x',q⟩:=TW (en:=en) hl l.length 0 (0,0) (by omega);rw[iQ]at q;unfold scE;cases hm:scM en (0,0) 0 l with
 |true=>
  rw[hm]at q;refine co_ (dB aA (d_ (bJ N9) q)) ((acU (ay (scV en 0 l (0:Nat)) (scB (0,0))) en l i' x').trans ?_);have z0:((0:Nat):Int)=0:=rfl;simp only[mz_,z0,scV,scB,dC,cZ,ptV,bC,aW];cases ltI en 0<;>cases gtI en 1048576<;>cases eQ (eqB (eqI (ah l.length) 0) (eqI en 0))<;>rfl
 |false=>
  rw[hm]at q;refine co_ (dB aA (d_ (bJ N9) q)) ((ace (ay (scV en 0 l (0:Nat)) (scB (0,0))) en l i' x').trans ?_);have z0:((0:Nat):Int)=0:=rfl;simp only[mz_,z0,scV,scB,dC,cZ,ptV,bC,aW];cases ltI en 0<;>cases gtI en 1048576<;>cases eQ (eqB (eqI (ah l.length) 0) (eqI en 0))<;>rfl
theorem ahh{l:List CmM}(h:l.length<=1000):scE (ofM l) (l.length:Int)=0:=by
 cases l with
 |nil=>decide
 |cons c l=>
  have e1:ltI ((c::l).length:Int) 0=false:=lF_ (by omega);have e2:gtI ((c::l).length:Int) 1048576=false:=gF_ (by omega);have e3:eqI ((c::l).length:Int) 0=false:=eF_ (by simp; omega);have e4:gtI 1 ((c::l).length:Int)=false:=gF_ (by simp; omega);have m:scM ((c::l).length:Int) (0,0) 0 (ofM (c::l))=true:=by
   simp only[ofM,scM,GV,e4]
   rfl
  unfold scE;simp only[e1,e2,e3,m]
  rfl
theorem acw{l:List (Int×Int)}(h:l≠[]):Nat.ble (Nat.add (Nat.add (atN ((l.length-1:Nat):Int) 2) 0) 1) (ESa.all l).length=true/\aV (ESa.all l) (Nat.add (atN ((l.length-1:Nat):Int) 2) 0) = .int .i64 (l[l.length-1]'(by have:=kY.2 h; omega)).1:=by
 have hp:=kY.2 h;have h1:l.length-1<l.length:=by omega
 exact⟨PH h1 (by decide),Vo h1⟩
theorem aaf{m:MsgM}{l:List CmM}{i:Nat}(hi:i<l.length)(hl:l.length<4194304) :
  aU P E ctF 50 93 Bsp Dsp (spV l i) (msB m)=match gtI l[i].e m.e with
   |true=>some (.tuple ⟨exV .ret::spV l i⟩,ag (msB m))
   |false=>some (.tuple ⟨exV .normal::spV l ((i+1:Nat):Int)⟩,ag (msB m)):=by
 obtain⟨g1,g2,a1⟩:=lH hi hl;have g4:=kW hi;rw[Wq];simp only[mz_,g1,g2,a1,g4,iL hi (dm 3),jZ hi,iy,mZ,spV,msB,dC,cZ,ptV,aQ,dY,nf_];cases gtI l[i].e m.e<;>rfl
theorem ag4{m:MsgM}{l:List CmM}:aU P E ctF 50 93 Bsp Dsp (spV l l.length) (msB m)=some (.tuple ⟨exV (.exit 0)::spV l l.length⟩,ag (msB m)):=by
 rw[Wq];simp only[mz_,kU,spV,msB,dC,cZ,ptV,aQ,dY,nf_]
 rfl
theorem agC{N:Nat}{g:FuncId}{a0 a1:List Value}{b0 b1:List Blk}{v:Value}{b':List Blk}(h0:CRX P N g a0 b0 v b')(h1:CRX P N g a1 b1 v b'):CallOkX P N g (aP (fun a b=>ay a0 b0 a b || ay a1 b1 a b) (.leaf (v,b'))):=by
 refine⟨fun args bs t hR v' bs' hev=>?_⟩;unfold aP at hR;obtain rfl:=aC hR;have hev:(DT.ite (ay a0 b0 args bs || ay a1 b1 args bs) (.leaf (v,b')) .fail).eval=some (v',bs'):=hev;cases hc:(ay a0 b0 args bs || ay a1 b1 args bs)with
 |false=>rw[hc]at hev; cases hev
 |true=>
  rw[hc]at hev;have hev:(DT.leaf (v,b')).eval=some (v',bs'):=hev;simp only[DT.eval,dD,dA]at hev;obtain⟨rfl,rfl⟩:=hev;rcases kM _ _▸hc with h | h
  ·obtain⟨rfl,rfl⟩:=tK h; exact h0
  ·obtain⟨rfl,rfl⟩:=tK h; exact h1
theorem aeP{f:Nat}(hf:f<=1000):CRX P 0 183 [pgV fM, .int .i64 (f:Int), .int .i64 0] [] (.tuple ⟨[pgV ⟨2,3,0,2,f,0⟩, .int .i64 0]⟩) []:=by
 have q:=nG fM;rw[show pgE fM=0 from rfl]at q;refine co_ (af aA (az q)) ((adY (ay [pgV fM] []) (f:Int) 0).trans ?_);have e1:geI (f:Int) 0=true:=hT_ (by omega);have e2:leI (f:Int) 1048576=true:=mT_ (by omega);have e3:geI 0 0=true:=rfl;have e4:eQ (leI 0 1073741824)=false:=rfl;have e5:eQ true=false:=rfl;simp only[mz_,e1,e2,e3,e4,e5,pgV,pgC,fM,bC,aW,bu,bg]
theorem TA{f:Nat}(hf:f<=1000):CRX P 0 186 [pgV ⟨2,3,0,2,f,0⟩] [] (.tuple ⟨[pgV ⟨2,3,0,3,f,0⟩, .int .i64 0]⟩) []:=by
 have q:=nG ⟨2,3,0,2,f,0⟩;rw[qx 2 (by decide) (by omega) (by omega)]at q;refine co_ (af aA (az q)) ((adc (ay [pgV ⟨2,3,0,2,f,0⟩] []) (f:Int)).trans ?_);simp only[mz_,pgV,pgC,bC,aW]
theorem afd{f:Nat}(hf:f<=1000):CRX P 0 188 [pgV ⟨2,3,0,3,f,0⟩] [] (.tuple ⟨[pgV ⟨2,3,0,4,f,0⟩, .int .i64 0]⟩) []:=by
 have q:=nG ⟨2,3,0,3,f,0⟩;rw[qx 3 (by decide) (by omega) (by omega)]at q;refine co_ (af aA (az q)) ((aek (ay [pgV ⟨2,3,0,3,f,0⟩] []) (f:Int)).trans ?_);simp only[mz_,pgV,pgC,bC,aW]
theorem adD{f:Nat}(hf:f<=1000):CRX P 0 161 [pgV ⟨2,3,0,4,f,0⟩] [] (.tuple ⟨[pgV ⟨2,2,0,0,0,0⟩, .int .i64 0]⟩) []:=by
 have q:=nG ⟨2,3,0,4,f,0⟩;rw[qx 4 (by decide) (by omega) (by omega)]at q;refine co_ (af aA (az q)) ((adN (ay [pgV ⟨2,3,0,4,f,0⟩] []) (f:Int)).trans ?_);simp only[mz_,pgV,pgC,bC,aW]
theorem qK{l:List (Int×Int)}{n:Nat}(h:n=l.length):takeC (Nat.mul n 2) (aO 0 (ESa.all l))=ESa.all l:=by subst h; exact ESa.all_self l
theorem abE{l:List (Int×Int)}:Nat.ble (Nat.mul l.length 2) (ESa.all l).length=true:=dG (by rw[ESa.all_length]; exact dm _)
theorem aci(l:List (Int×Int)):jk (ESa.all l) (ESa.all l)=true:=Enc.beq ESa (fun a=>by simp[ESa,bz,jk]) l
theorem yF(k e ro en fr pv:Int)(n b n2 b2:Nat)(st:List (Int×Int))(cs:List CmM):bz (.agg ⟨[.int .i64 k, .int .i64 e, .int .u8 ro, .int .i64 en, .iface 18446744073709551618 (.agg ⟨.slice none n b::ESa.all st⟩), .int .i64 fr, .int .i64 pv, .iface 18446744073709551619 (.agg ⟨.slice none n2 b2::ECm.all cs⟩)]⟩) (.agg ⟨[.int .i64 k, .int .i64 e, .int .u8 ro, .int .i64 en, .iface 18446744073709551618 (.agg ⟨.slice none n b::ESa.all st⟩), .int .i64 fr, .int .i64 pv, .iface 18446744073709551619 (.agg ⟨.slice none n2 b2::ECm.all cs⟩)]⟩)=true:=by
 simp[bz,zg,jk,aci,TC]
theorem Za{s:StaM}{l:List CmM}{k:Nat}(hs:StQ s 100000)(hlog:s.log=l)(hf:fA 0 0 0 l=(0,0))(he:∀ c∈l,c.e=1)(hl:l.length<=60)(hh:s.held=0)(h3:s.dk.d3=[])(hpg:s.pg=⟨2,3,0,2,(k:Int),0⟩)(hk:k<l.length) :
  ∃ j,j<=10000/\CRX P 7 157 [p0] (stB s) (.tuple ⟨[pgV ⟨2,3,0,3,k,0⟩, .int .i64 0]⟩) (stB (s.filed j (encS (xW l k)) ((encS (xW l k)).length:Int))):=by
 subst hlog;have q1:=IA (s:=s) hs.sr.tb (by omega) (fun c hc=>by
  obtain⟨_,_,hb⟩:=fU.1 (mr hf c hc);obtain⟨b1,b2,b3⟩:=dM.1 hb
  omega)
 have q2:=Rn (l:=s.log) (p:=s.pg) (k:=k) hf (by omega) (by rw[hpg]; exact qx 2 (by decide) (by omega) (by omega)) (by rw[hpg]) (by rw[hpg]) (by omega);rw[if_pos hk,eU hk]at q2;have hep:s.pg.ep=2:=by rw[hpg]
 rw[hep]at q2;obtain⟨j,j1,q3⟩:=acj (s:=s) (x:=xW s.log k) hs h3 hh (acC hf he hk) (by show(s.log.drop k).length<=400; rw[gZ]; omega) (by show(k:Int)<=_; omega) (Or.inr (by rw[hpg]));refine⟨j,j1,?_⟩;have q4:=TA (f:=k) (by omega);have q:=ZT (ay [p0] (stB s)) (ay [aQ s.log,pgV s.pg] []) (ay [p0, .int .i64 0,lQ (xW s.log k)] (stB s)) (ay [pgV ⟨2,3,0,2,k,0⟩] []) s (s.filed j (encS (xW s.log k)) ((encS (xW s.log k)).length:Int)) (xW s.log k) ⟨2,3,0,3,k,0⟩;refine co_ (af (af (af (af aA (az q4)) (az q3)) (az q2)) (az q1)) (q.trans ?_);clear q q1 q2 q3 q4;have ht:=hs.sr.tb.ren;simp (disch:=first|omega|(simp only[bU,bY,bZ,bT,bW,aH]<;>omega)|fail) only[pg_,mz_,ht,hpg,oO,lQ,xW,StaM.filed,pgV,stB,pgC,uf_,aZ rfl,dE rfl,dH rfl,bf rfl,nf_]
theorem aaz{s:StaM}{l:List CmM}{k:Nat}(hs:StQ s 100000)(hlog:s.log=l)(hf:fA 0 0 0 l=(0,0))(he:∀ c∈l,c.e=1)(hl:l.length<=60)(hpg:s.pg=⟨2,3,0,2,(k:Int),0⟩)(hk:k=l.length) :
  CRX P 7 157 [p0] (stB s) (.tuple ⟨[pgV ⟨2,3,0,3,k,0⟩, .int .i64 0]⟩) (stB s):=by
 subst hlog;have q1:=IA (s:=s) hs.sr.tb (by omega) (fun c hc=>by
  obtain⟨_,_,hb⟩:=fU.1 (mr hf c hc);obtain⟨b1,b2,b3⟩:=dM.1 hb
  omega)
 have q2:=Rn (l:=s.log) (p:=s.pg) (k:=k) hf (by omega) (by rw[hpg]; exact qx 2 (by decide) (by omega) (by omega)) (by rw[hpg]) (by rw[hpg]) (by omega);have hn:¬k<s.log.length:=by omega
 rw[if_neg hn,iW hn]at q2;have q4:=TA (f:=k) (by omega);have q:=ZB (ay [p0] (stB s)) (ay [aQ s.log,pgV s.pg] []) (fun _ _=>false) (ay [pgV ⟨2,3,0,2,k,0⟩] []) s s ⟨0,0,[]⟩ ⟨2,3,0,3,k,0⟩;refine co_ (af (af (af (af aA (az q4)) fF) (az q2)) (az q1)) (q.trans ?_);clear q q1 q2 q4;have ht:=hs.sr.tb.ren;simp (disch:=first|omega|(simp only[bU,bY,bZ,bT,bW,aH]<;>omega)|fail) only[pg_,mz_,ht,hpg,oO,lQ,pgV,stB,pgC,uf_,aZ rfl,dE rfl,dH rfl,bf rfl,nf_]
theorem adt{s:StaM}{l:List CmM}{k:Nat}(hs:StQ s 100000)(hlog:s.log=l)(hf:fA 0 0 0 l=(0,0))(he:∀ c∈l,c.e=1)(hl:l.length<=60)(hh:0<=s.held)(hrs:s.rs=[])(hpg:s.pg=⟨2,3,0,3,(k:Int),0⟩)(hk:k<=l.length) :
  CRX P 7 159 [p0] (stB s) (.tuple ⟨[pgV ⟨2,3,0,4,k,0⟩, .int .i64 0]⟩) (stG (s.short k) s.tb s.rest):=by
 subst hlog;have hlb:=sW s.log (mr hf);have q1:=ahu (s:=s) (n:=k) hs hrs hf hk (by omega) (by omega) (by
  rw[hpg]
  exact Gm 3 (by decide) (fun c hc=>he c (oW hc)) hh (by omega) (Int.le_refl _) (k:=0) (ba:=0))
 have q2:=afd (f:=k) (by omega);have q:=aee (ay [p0, .int .i64 (k:Int)] (stB s)) (ay [pgV ⟨2,3,0,3,k,0⟩] []) s (s.short k) s.tb s.rest ⟨2,3,0,4,k,0⟩;refine cK_ (af (af aA (az q2)) (az q1)) (q.trans ?_);clear q q1 q2;have ht:=hs.sr.tb.ren;have ht2:=(wo.log (s.log.take k)).ren;simp (disch:=first|omega|(simp only[bU,bY,bZ,bT,bW,aH]<;>omega)|fail) only[pg_,mz_,ht,ht2,hpg,StaM.short,StaM.shut,stG,pgV,stB,pgC,uf_,aZ rfl,dE rfl,dH rfl,bf rfl,nf_]
theorem yP{s:StaM}{ph f:Int}(h:s.pg=⟨2,3,0,ph,f,0⟩):s.at2 ph f=s:=by
 cases s;unfold StaM.at2;simp only at h;subst h
 rfl
theorem acE{s s1:StaM}{l:List CmM}{k:Nat}{m:MsgM}(hs:StQ s 100000)(hs1:StQ s1 100000)(hlog:s1.log=l)(he:∀ c∈l,c.e=1)(hl:l.length<=60)(hh:0<=s1.held)(hrs:s1.rs=[])(hpg:s.pg=⟨2,3,0,2,(k:Int),0⟩)(h1:s1.dk.d1.length<=3000000)(hk:k<=l.length)
  (q1:CRX P 7 157 [p0] (stB s) (.tuple ⟨[pgV ⟨2,3,0,3,k,0⟩, .int .i64 0]⟩) (stB s1)) :
  ∃ j,j<=2/\CRX P 7 84 [p0,mV m] (stB s) (.tuple ⟨[pgV ⟨2,3,0,3,k,0⟩, .int .i64 0]⟩) (stB (s1.paged j ⟨2,3,0,3,k,0⟩)):=by
 have hr0:fP s1.rs=0:=by rw[hrs]; rfl
 obtain⟨j,j1,q2⟩:=xG (s:=s1) (p:=⟨2,3,0,3,k,0⟩) hs1 (qx 3 (by decide) (by omega) (by omega)) (by rw[hlog]; omega) h1 (by rw[hlog,hr0]; exact Gm 3 (by decide) he hh (by omega) (by omega) (k:=0) (ba:=0));refine⟨j,j1,?_⟩;have q:=aeX (ay [p0] (stB s)) (ay [p0,pgV ⟨2,3,0,3,k,0⟩] (stB s1)) s s1 (s1.paged j ⟨2,3,0,3,k,0⟩) m ⟨2,3,0,3,k,0⟩ (k:Int);rw[yP hpg]at q;refine co_ (af (af aA (az q2)) (az q1)) (q.trans ?_);clear q q1 q2;have ht:=hs.sr.tb.ren;have ht1:=hs1.sr.tb.ren;have ht2:∀ ρ,aF true ρ (s1.paged j ⟨2,3,0,3,k,0⟩).tb.es=(s1.paged j ⟨2,3,0,3,k,0⟩).tb.es:=hs1.sr.tb.ren;generalize s1.paged j ⟨2,3,0,3,k,0⟩=s2 at ht2;simp (disch:=first|omega|(simp only[bU,bY,bZ,bT,bW,aH]<;>omega)|fail) only[pg_,mz_,ht,ht1,ht2,hpg,oO,yF,mV,dC,cZ,pgV,stB,pgC,uf_,aZ rfl,dE rfl,dH rfl,bf rfl,nf_]
theorem acF{s:StaM}{l:List CmM}{k:Nat}{m:MsgM}(hs:StQ s 120000)(hlog:s.log=l)(hf:fA 0 0 0 l=(0,0))(he:∀ c∈l,c.e=1)(hl:l.length<=60)(hh:0<=s.held)(hrs:s.rs=[])(hpg:s.pg=⟨2,3,0,3,(k:Int),0⟩)(h1:s.dk.d1.length<=3000000)(hk:k<=l.length) :
  ∃ j,j<=2/\CRX P 7 84 [p0,mV m] (stB s) (.tuple ⟨[pgV ⟨2,3,0,4,k,0⟩, .int .i64 0]⟩) (stG ((s.short k).paged j ⟨2,3,0,4,k,0⟩) s.tb s.rest):=by
 have q1:=adt (hs.mono (by omega)) hlog hf he hl hh hrs hpg hk;have hs2:StQ (s.short k) 100000:=TN hs hrs;have hr0:fP (s.short k).rs=0:=by show fP s.rs=0; rw[hrs]; rfl
 have hlt:(s.short k).log=l.take k:=by show s.log.take k=_; rw[hlog]
 have hln:(l.take k).length=k:=by rw[fH]; omega
 obtain⟨j,j1,q2⟩:=xG (s:=s.short k) (p:=⟨2,3,0,4,k,0⟩) hs2 (qx 4 (by decide) (by omega) (by omega)) (by rw[hlt]; omega) h1 (by rw[hlt,hr0,hln]; exact Wx (fun c hc=>he c (oW hc)) hh (by omega));refine⟨j,j1,?_⟩;have q:=ad4 (ay [p0] (stB s)) (ay [p0,pgV ⟨2,3,0,4,k,0⟩] (stB (s.short k))) s (s.short k) ((s.short k).paged j ⟨2,3,0,4,k,0⟩) s.tb s.rest m ⟨2,3,0,4,k,0⟩ (k:Int);rw[yP hpg]at q;refine cK_ (af (af aA (az q2)) (az q1)) (q.trans ?_);clear q q1 q2;have ht:=hs.sr.tb.ren;have ht1:=hs2.sr.tb.ren;have ht2:∀ ρ,aF true ρ ((s.short k).paged j ⟨2,3,0,4,k,0⟩).tb.es=((s.short k).paged j ⟨2,3,0,4,k,0⟩).tb.es:=hs2.sr.tb.ren;generalize (s.short k).paged j ⟨2,3,0,4,k,0⟩=s2 at ht2;generalize s.short k=s1 at ht1;simp (disch:=first|omega|(simp only[bU,bY,bZ,bT,bW,aH]<;>omega)|fail) only[pg_,mz_,ht,ht1,ht2,hpg,oO,yF,mV,dC,cZ,pgV,stG,stB,pgC,uf_,aZ rfl,dE rfl,dH rfl,bf rfl,nf_]
theorem adu{s:StaM}{l:List CmM}{k:Nat}{m:MsgM}(hs:StQ s 100000)(hlog:s.log=l)(he:∀ c∈l,c.e=1)(hl:l.length<=60)(hrs:s.rs=[])(hpg:s.pg=⟨2,3,0,4,(k:Int),0⟩)(h1:s.dk.d1.length<=3000000)(hk:k<=1000) :
  ∃ j,j<=2/\CRX P 7 84 [p0,mV m] (stB s) (.tuple ⟨[pgV ⟨2,2,0,0,0,0⟩, .int .i64 0]⟩) (stB (s.paged j ⟨2,2,0,0,0,0⟩)):=by
 have q1:=adD (f:=k) hk;have hr0:fP s.rs=0:=by rw[hrs]; rfl
 obtain⟨j,j1,q2⟩:=xG (s:=s) (p:=⟨2,2,0,0,0,0⟩) hs (by decide) (by rw[hlog]; omega) h1 (by rw[hlog,hr0]; exact Xt he (by omega));refine⟨j,j1,?_⟩;have q:=abZ (ay [pgV ⟨2,3,0,4,k,0⟩] []) (ay [p0,pgV ⟨2,2,0,0,0,0⟩] (stB s)) s (s.paged j ⟨2,2,0,0,0,0⟩) m ⟨2,2,0,0,0,0⟩ (k:Int);rw[yP hpg]at q;refine co_ (af (af aA (az q2)) (az q1)) (q.trans ?_);clear q q1 q2;have ht:=hs.sr.tb.ren;have ht2:∀ ρ,aF true ρ (s.paged j ⟨2,2,0,0,0,0⟩).tb.es=(s.paged j ⟨2,2,0,0,0,0⟩).tb.es:=hs.sr.tb.ren;generalize s.paged j ⟨2,2,0,0,0,0⟩=s2 at ht2;simp (disch:=first|omega|(simp only[bU,bY,bZ,bT,bW,aH]<;>omega)|fail) only[pg_,mz_,ht,ht2,hpg,oO,yF,mV,dC,cZ,pgV,stB,pgC,uf_,aZ rfl,dE rfl,dH rfl,bf rfl,nf_]
theorem cF_{ct:Ct}(hct:CtOk P ct){pol:Pol}{fl:List Fl}{ts:List TypeId}{N:Nat}{kb:List Bool}{g:FuncId}{args:List Value}{bs:List Blk}{v:Value}{bs':List Blk}(h:rW P E ct 50 pol fl ts N kb g args bs=some (v,ag bs')):CRX P N g args bs v bs':=CRX.ofF (dU _) bK hct h
def aaI(C:List UInt8->Int->Bool)(X N:List UInt8->Int):lT
 |[.iface t (.agg ⟨.slice none n b::c⟩), .int .i64 m]=>some (.ite (fzB t n c&&C (c.map byteOf) m) (.leaf (smV (X (c.map byteOf)) (N (c.map byteOf)) 0,[])) .fail)
 |_=>none
def smC(l:List UInt8)(m:Int):Bool:=Gz m&&jX l m
def smX(l:List UInt8):Int:=((eX l).1:Int)
def smN(l:List UInt8):Int:=((eX l).2.1:Int)
theorem agi:CallOkR P 135 (aaI smC smX smN):=⟨fun args t hR v bs hev=>by
 unfold aaI at hR;split at hR
 ·rename_i t0 n b c m;obtain rfl:=aC hR;cases hc:fzB t0 n c&&smC (c.map byteOf) m with
  |false=>rw[hc]at hev; cases hev
  |true=>
   rw[hc]at hev;unfold smC at hc;simp only[bV]at hc;obtain⟨h1,h2,h3⟩:=hc;refine aa3.run _ _ rfl v bs ?_;show(DT.ite (fzB t0 n c&&Gz m) (.ite (jX (c.map byteOf) m) _ _) .fail).eval=_;rw[h1,h2];simp only[fV];rw[h3];exact hev
 ·cases hR⟩
def Vs(C:List UInt8->Int->Bool)(X N:List UInt8->Int):Ct:=jy P 135 (aaI C X N) ctF
theorem Jt:CtOk P (Vs smC smX smN):=iw aA agi
def rdB(l:List UInt8)(b:Nat)(a:Int)(bad:Bool):List Blk:=[.cells [ax 1 l.length b (bc l), .int .i64 a, .bool bad] 249 true]
theorem acs(C:List UInt8->Int->Bool)(X N:List UInt8->Int)(l:List UInt8)(b:Nat)(a m:Int):aN P E (Vs C X N) 50 aB [] [] 1 190 [p0, .int .i64 m] (rdB l b a false) =
 (let z:=l.length;let y:=fC a (ah z);let x:=takeC (Nat.mul y 1) (aO (atN a 1) (bc l));let w:=List.map byteOf x;
 (ae (Bool.and (Nat.beq 1 1) (dS a (ah z) z)) (ae (Bool.and (fw_ y x) (C w m)) (some (io_ (X w),ag [.cells [fb_ z b (bc l),io_ (bM .i64 a (N w)), .bool false] 249 true]))))):=by kernel_rfl
def aac(C:List UInt8->Int->Int->Bool)(X A:List UInt8->Int->Int):iC:=fun args bs=>match args,bs with
 |[.pointer (some ⟨0,0,none⟩), .int .i64 m],[.cells [.iface t (.agg ⟨.slice none n b::c⟩), .int .i64 a, .bool bd] ty true]=>some (.ite (fzB t n c&&Nat.beq ty 249&&!bd&&C (c.map byteOf) a m) (.leaf (.int .i64 (X (c.map byteOf) a),[.cells [.iface t (.agg ⟨.slice none n b::c⟩), .int .i64 (A (c.map byteOf) a), .bool false] ty true])) .fail)
 |_,_=>none
def ahp(C:List UInt8->Int->Int->Bool)(X A:List UInt8->Int->Int):Ct:=ak P aB 1 190 (aac C X A) ctF
theorem acQ(C:List UInt8->Int->Int->Bool)(X A:List UInt8->Int->Int)(l:List UInt8)(b:Nat)(a m:Int):aN P E (ahp C X A) 50 aB [] [] 1 210 [p0, .int .i64 m] (rdB l b a false) =
 (let z:=l.length;let y:=bc l;let x:=List.map byteOf y;let w:=A x a;let v:=X x a;let u:=fb_ z b y;let t:=Nat.beq 1 1;let s:=bM .i64 w v;let r:=dJ .i64 s v;let q:=takeC (Nat.mul (fC r s) 1) (aO (atN r 1) y);
 (ae (Bool.and (Bool.and (Bool.and (fw_ z y) (Nat.beq 249 249)) (Bool.not false)) (C x a m)) (aj (ltI (dJ .i64 (ah z) w) v) (some (.string (ByteArray.mk #[]),ag [.cells [u,io_ w, .bool true] 249 true])) (ae (Bool.and t (dS r s z)) (ae (Bool.and t (allBytes q)) (some (.string (CY q),ag [.cells [u,io_ s, .bool false] 249 true]))))))):=by kernel_rfl
theorem WY{l:List UInt8}{m:Int}(h:jX l m=true):((eX l).1:Int)<=m:=by
 unfold jX at h;rw[bV]at h;exact lY h.2
theorem ry{b:List UInt8}{a m x a':Nat}(h:lw b a false m=(x,a',false)):jX (b.drop a) m=true/\x=(eX (b.drop a)).1/\a'=a+(eX (b.drop a)).2.1/\x<=m/\(a<=b.length->a'<=b.length):=by
 unfold lw at h;cases hs:jX (b.drop a) m with
 |false=>rw[hs]at h; simp at h
 |true=>
  rw[hs]at h;simp only[dA,jd]at h;obtain⟨rfl,rfl⟩:=h;have h1:=WY hs;have h2:=xC (b.drop a);rw[gZ]at h2;exact⟨rfl,rfl,rfl,by omega,fun h=>by omega⟩
theorem GK(b:List UInt8)(a m:Nat):lw b a true m=(0,a,true):=rfl
theorem DW(b:List UInt8)(a m:Nat):nz b a true m=([],a,true):=by unfold nz; rw[GK]; rfl
theorem Af{b t:List UInt8}{a m a':Nat}(h:nz b a false m=(t,a',false)):∃ x a1,lw b a false m=(x,a1,false)/\a1+x<=b.length/\t=(b.drop a1).take x/\a'=a1+x:=by
 unfold nz at h;rcases hq:lw b a false m with⟨x,a1,bad⟩
 rw[hq]at h;cases bad with
 |true=>simp at h
 |false=>
  simp only[yR]at h;by_cases hd:b.length<a1+x
  ·rw[eU hd]at h; simp at h
  ·rw[iW hd]at h;simp only[dA,jd]at h;obtain⟨rfl,rfl⟩:=h;exact⟨x,a1,rfl,by omega,rfl,rfl⟩
theorem YF{b last:List UInt8}{a a':Nat}{o:OpM}(h:opR b a false last=(o,a',false)):∃ p a1 k a2 t a3,lw b a false 1=(p,a1,false)/\lw b a1 false last.length=(k,a2,false)/\nz b a2 false 16=(t,a3,false)/\shN last (opK last k t)=k/\
  ((p=1/\∃ v,nz b a3 false 32=(v,a',false)/\o=⟨true,txt (opK last k t),txt v⟩)\/(p≠1/\a'=a3/\o=⟨false,txt (opK last k t),txt []⟩)):=by
 unfold opR at h;rcases h1:lw b a false 1 with⟨p,a1,b1⟩
 rw[h1]at h;simp only at h;rcases h2:lw b a1 b1 last.length with⟨k,a2,b2⟩
 rw[h2]at h;simp only at h;rcases h3:nz b a2 b2 16 with⟨t,a3,b3⟩
 rw[h3]at h;simp only at h;cases hp:p == 1 with
 |true=>
  rw[hp]at h;simp only[dA]at h;obtain⟨ho,ha,hb⟩:=h;cases hx:(b3 || shN last (opK last k t) != k)with
  |true=>rw[hx,DW]at hb; cases hb
  |false=>
   rw[hx]at ho ha hb;rw[Eo]at hx;obtain⟨rfl,hx⟩:=hx;have hb2:b2=false:=by cases b2 with | false=>rfl | true=>rw[DW]at h3; cases h3
   subst hb2;have hb1:b1=false:=by cases b1 with | false=>rfl | true=>rw[GK]at h2; cases h2
   subst hb1;rcases h4:nz b a3 false 32 with⟨v,a4,b4⟩
   rw[h4]at ho ha hb;simp only at ho ha hb;subst ho ha hb;exact⟨p,a1,k,a2,t,a3,rfl,h2,h3,by simpa using hx,Or.inl ⟨by simpa using hp,v,h4,rfl⟩⟩
 |false=>
  rw[hp]at h;simp only[dA]at h;obtain⟨ho,ha,hx⟩:=h;rw[Eo]at hx;obtain⟨rfl,hx⟩:=hx;have hb2:b2=false:=by cases b2 with | false=>rfl | true=>rw[DW]at h3; cases h3
  subst hb2;have hb1:b1=false:=by cases b1 with | false=>rfl | true=>rw[GK]at h2; cases h2
  subst hb1;subst ho ha;exact⟨p,a1,k,a2,t,a3,rfl,h2,h3,by simpa using hx,Or.inr ⟨by simpa using hp,rfl,rfl⟩⟩
def ZW(C:List UInt8->Int->Int->Bool)(T:List UInt8->Int->ByteArray)(A:List UInt8->Int->Int):iC:=fun args bs=>match args,bs with
 |[.pointer (some ⟨0,0,none⟩), .int .i64 m],[.cells [.iface t (.agg ⟨.slice none n b::c⟩), .int .i64 a, .bool bd] ty true]=>some (.ite (fzB t n c&&Nat.beq ty 249&&!bd&&C (c.map byteOf) a m) (.leaf (.string (T (c.map byteOf) a),[.cells [.iface t (.agg ⟨.slice none n b::c⟩), .int .i64 (A (c.map byteOf) a), .bool false] ty true])) .fail)
 |_,_=>none
def ahF(C:List UInt8->Int->Int->Bool)(X A:List UInt8->Int->Int)(C2:List UInt8->Int->Int->Bool)(T:List UInt8->Int->ByteArray)(A2:List UInt8->Int->Int)(K:ByteArray->ByteArray->Bool)(S:ByteArray->ByteArray->Int):Ct:=
 ak P g_ 0 134 (Vh K S) (ak P aB 1 210 (ZW C2 T A2) (ahp C X A))
theorem ack(C:List UInt8->Int->Int->Bool)(X A:List UInt8->Int->Int)(C2:List UInt8->Int->Int->Bool)(T:List UInt8->Int->ByteArray)(A2:List UInt8->Int->Int)(K:ByteArray->ByteArray->Bool)(S:ByteArray->ByteArray->Int)(l:List UInt8)(b:Nat)(a:Int)(s:ByteArray):aN P E (ahF C X A C2 T A2 K S) 50 aB [] [] 1 191 [p0, .string s] (rdB l b a false) =
 (let z:=Bool.and (fw_ l.length (bc l)) (Nat.beq 249 249);let y:=Bool.and z (Bool.not false);let x:=List.map byteOf (bc l);let w:=A x a;let v:=X x w;let u:=dS 0 v s.size;let t:=A x w;let r:=yw s 0 v;let q:=Value.string r;let p:=O7 r (T x t);let o:=eqI (X x a) 1;let n:=neI (S s p) v;let m:=A2 x t;
 let k:=Value.string p;let j:=fb_ l.length b (bc l);
 (ae (Bool.and y (C x a 1)) (ae (Bool.and y (C x w (ah s.size))) (ae u (ae (Bool.and y (C2 x t 16)) (ae (UZ r (T x t)) (ae u (ae (bz q q) (ae (K s p) (aj o (ae (Bool.and (Bool.and z (Bool.not n)) (C2 x m 32)) (some (.agg ⟨[.bool o,k, .string (T x m)]⟩,ag [.cells [j,io_ (A2 x m), .bool false] 249 true]))) (some (.agg ⟨[.bool o,k, .string (ByteArray.mk #[])]⟩,ag [.cells [j,io_ m, .bool n] 249 true])))))))))))):=by kernel_rfl
def Dbr:HeadX:=⟨1,48,[2,5,6,7],[.own, .val, .val, .val],[33,0,0,0],aB⟩
def Bbr:Code:=(di P 165 0).getD .skip
theorem VY:di P 165 0=some Bbr:=by kernel_rfl
theorem SC:Occ P 165 (.block 0 (.loop Bbr)):=dN VY
def brB(l:List UInt8)(b:Nat)(a:Int)(o:List OpM):List Blk:=rdB l b a false++[.cells (EOp.all o) 74 false]
def brV(o:List OpM)(s:ByteArray)(k:Int):List Value:=[lsV 1 o.length,ptV 0, .string s, .int .i64 k]
def opV(o:OpM):Value:= .agg ⟨[.bool o.p, .string o.k, .string o.v]⟩
theorem Yy(C:List Value->List Blk->Bool)(l:List UInt8)(b:Nat)(a a2:Int)(o:List OpM)(x:OpM)(s:ByteArray)(k:Int):aU P E (ak P aB 1 191 (aP C (.leaf (opV x,rdB l b a2 false))) ctF) 50 165 Bbr Dbr (brV o s k) (brB l b a o) =
 (let z:=pt_ 0;let y:=Value.string s;let w:=fb_ l.length b (bc l);let v:=Value.bool false;let u:=Blk.cells [w,io_ a,v] 249 true;let t:=o.length;let r:=Nat.add t 1;let q:=Enc.all EOp o;let p:=Value.string x.k;let n:=List.append (jC 0 q) [.bool x.p,p, .string x.v];
 (aj (gtI k 0) (ae (C [z,y] [u]) (ae (Nat.ble r 4194304) (ae (Nat.beq (Nat.add 0 (Nat.mul t 3)) q.length) (nb_ r 3 n (some (.tuple ⟨[io_ 0,sl_ 1 r,z,p,io_ (dJ .i64 k 1)]⟩,ag [.cells [w,io_ a2,v] 249 true,lb_ (bQ 0 [0,5]) r 3 n 74])))))) (nb_ t 3 q (some (.tuple ⟨[io_ 1,sl_ 1 t,z,y,io_ k]⟩,ag [u,lb_ (bQ 0 [0,2]) t 3 q 74]))))):=by kernel_rfl
def ah_(C1 C2 C3:List Value->List Blk->Bool)(l:List UInt8)(b:Nat)(a1 a2 k:Int)(o:List OpM)(s:ByteArray):Ct:=ak P aB 1 190 (aP C1 (.leaf (.int .i64 k,rdB l b a1 false))) (dX P 165 0 Dbr (gX C2 (.leaf (.normal,brV o s 0,brB l b a2 o))) (jy P 33 (fun args=>aP C3 (.leaf (.int .i64 0,[])) args []) ctF))
theorem aeK(C1 C2 C3:List Value->List Blk->Bool)(l:List UInt8)(b:Nat)(a1 a2 k:Int)(o:List OpM)(s:ByteArray):aN P E (ah_ C1 C2 C3 l b a1 a2 k o s) 50 aB [.val, .val, .val] [33,0,0] 0 165 [ax 1 l.length b (bc l)] [] =
 (let z:=fb_ l.length b (bc l);let y:=Value.bool false;let x:=o.length;let w:=Nat.mul x 3;let v:=aG true (aT [0] 2) (Enc.all EOp o);let u:=takeC w (aO 0 v);let t:=fa_ x 0 u;
 (ae (C1 [pt_ 0,io_ 8] [.cells [z,io_ 0,y] 249 true]) (ae (C2 [sl_ 1 0,pt_ 0, .string (ByteArray.mk #[]),io_ k] [.cells [z,io_ a1,y] 249 true, .cells [] 74 false]) (ae (Bool.and (Nat.ble (Nat.add 0 w) v.length) (Nat.ble 1 3)) (ae (gY u) (ae (C3 [t] []) (ae (fq_ x v 74) (some (.tuple ⟨[t,io_ a2,io_ 0]⟩,ag []))))))))):=by kernel_rfl
def ahD(C:List UInt8->Int->Bool)(X N:List UInt8->Int)(C1 C2:List Value->List Blk->Bool)(o:List OpM)(k:Int):Ct:=ak P aB 0 165 (aP C1 (.leaf (.tuple ⟨[bD o, .int .i64 k, .int .i64 0]⟩,[]))) (ak P aB 0 95 (aP C2 (.leaf (.int .i64 0,[]))) (Vs C X N))
theorem aec(C:List UInt8->Int->Bool)(X N:List UInt8->Int)(C1 C2:List Value->List Blk->Bool)(o:List OpM)(k:Int)(l:List UInt8)(b:Nat):rW P E (ahD C X N C1 C2 o k) 50 aB [.val, .val, .val, .val] [0,0,33,0] 0 [] 136 [ax 1 l.length b (bc l)] [] =
 (let z:=l.length;let y:=bc l;let x:=List.map byteOf y;let w:=Nat.beq 1 1;let v:=N x;let u:=ah z;let t:=takeC (Nat.mul (fC v u) 1) (aO (atN v 1) y);let s:=List.map byteOf t;let r:=bM .i64 v (N s);let q:=io_ 0;let p:=Value.agg ⟨[io_ (X x),io_ (X s),fa_ o.length 0 (Enc.all EOp o)]⟩;
 (ae (Bool.and (fw_ z y) (C x 1048576)) (ae (Bool.and w (dS v u z)) (ae (Bool.and (fw_ (fC v u) t) (C s 1048576)) (ae (Bool.and w (dS r u z)) (ae (C1 [fb_ (fC r u) (yA b (Int.toNat r)) (takeC (Nat.mul (fC r u) 1) (aO (atN r 1) y))] []) (aj (neI (bM .i64 r k) u) (some (.tuple ⟨[.agg ⟨[q,q,fa_ 0 0 []]⟩,io_ 5]⟩,ag [])) (ae (C2 [p] []) (some (.tuple ⟨[p,q]⟩,ag [])))))))))):=by kernel_rfl
theorem aag(l:List UInt8)(a:Nat):takeC (l.drop a).length (aO (atN (a:Int) 1) (bc l))=bc (l.drop a):=by
 have h1:atN (a:Int) 1=a:=by simp[atN]
 rw[h1,wS,oC (dm _)]
theorem aap(l:List UInt8)(a:Nat):fC (a:Int) (ah l.length)=(l.drop a).length:=by rw[gZ]; exact ahg a l.length
theorem OW{a n:Nat}(h:a<=n):dS (a:Int) (ah n) n=true:=by unfold dS ah; exact eU (by omega)
theorem H_:Nat.beq 1 1=true:=rfl
theorem TD{l:List UInt8}{a m x a' b:Nat}(hq:lw l a false m=(x,a',false))(ha:a<=l.length)(hl:l.length+64<=4194304)(hm:m<4611686018427387904) :
  CRX P 1 190 [p0, .int .i64 (m:Int)] (rdB l b a false) (.int .i64 (x:Int)) (rdB l b (a':Int) false):=by
 obtain⟨h1,h2,h3,h4,h5⟩:=ry hq;have h5:=h5 ha;refine co_ Jt ((acs smC smX smN l b a m).trans ?_);have hc:smC (l.drop a) (m:Int)=true:=by unfold smC Gz; rw[h1,jl (by omega) (by omega)]; rfl
 have hX:smX (l.drop a)=(x:Int):=by unfold smX; omega
 have hN:smN (l.drop a)=(((eX (l.drop a)).2.1:Nat):Int):=rfl;have a1:bM .i64 (a:Int) (((eX (l.drop a)).2.1:Nat):Int)=(a':Int):=by unfold bM; rw[wrap64 (by omega) (by omega)]; omega
 simp (disch:=first|omega|(simp only[bU,bY,bZ,bT,bW,aH]<;>omega)|fail) only[mz_,hc,hX,hN,a1,aag,aap,OW ha,H_,rdB,uf_,nf_]
open Classical in
def nuC(l:List UInt8)(a m:Int):Bool:=decide (∃ (a0 m0 x a':Nat),a=a0/\m=m0/\lw l a0 false m0=(x,a',false)/\a0<=l.length/\m0<4611686018427387904)
def nuX(l:List UInt8)(a:Int):Int:=((eX (l.drop a.toNat)).1:Int)
def nuA(l:List UInt8)(a:Int):Int:=((a.toNat+(eX (l.drop a.toNat)).2.1:Nat):Int)
open Classical in
theorem G7{l:List UInt8}{a m x a':Nat}(h:lw l a false m=(x,a',false))(ha:a<=l.length)(hm:m<4611686018427387904):nuC l (a:Int) (m:Int)=true/\nuX l (a:Int)=(x:Int)/\nuA l (a:Int)=(a':Int):=by
 obtain⟨h1,h2,h3,h4,h5⟩:=ry h;refine⟨by unfold nuC; exact eU ⟨a,m,x,a',rfl,rfl,h,ha,hm⟩,?_,?_⟩
 ·unfold nuX;rw[show(a:Int).toNat=a by omega,<-h2]
 ·unfold nuA;rw[show(a:Int).toNat=a by omega,<-h3]
open Classical in
theorem abG:CallOkX P 1 190 (aac nuC nuX nuA):=⟨fun args bs t hR v bs' hev=>by
 unfold aac at hR;split at hR
 ·rename_i m t0 n b c a bd ty;obtain rfl:=aC hR;cases hc:(fzB t0 n c&&Nat.beq ty 249&&!bd&&nuC (c.map byteOf) a m)with
  |false=>rw[hc]at hev; cases hev
  |true=>
   rw[hc]at hev;simp only[bV]at hc;obtain⟨⟨⟨hf,hty⟩,hbd⟩,hn⟩:=hc;obtain rfl:=dF hty;obtain rfl:bd=false:=by cases bd with | false=>rfl | true=>cases hbd
   obtain⟨rfl,rfl,⟨l,rfl,hl⟩,h4⟩:=AV hf;rw[<-hl]at hev hn;rw[bn]at h4 hev ⊢;have hn':=lY hn;obtain⟨a0,m0,x,a',rfl,rfl,hq,ha,hm⟩:=hn';obtain⟨_,e2,e3⟩:=G7 hq ha hm;simp only[DT.eval,dD,dA,e2,e3]at hev;obtain⟨rfl,rfl⟩:=hev;exact TD hq ha h4 hm
 ·cases hR⟩
theorem afh{l t:List UInt8}{a m a' b:Nat}(hq:nz l a false m=(t,a',false))(ha:a<=l.length)(hl:l.length+64<=4194304)(hm:m<4611686018427387904) :
  CRX P 1 210 [p0, .int .i64 (m:Int)] (rdB l b a false) (.string (txt t)) (rdB l b (a':Int) false):=by
 obtain⟨x,a1,h1,h2,h3,h4⟩:=Af hq;obtain⟨_,_,_,_,h5⟩:=ry h1;have h5:=h5 ha;obtain⟨c1,c2,c3⟩:=G7 h1 ha hm;refine co_ (af aA abG) ((acQ nuC nuX nuA l b a m).trans ?_);have g1:ltI (dJ .i64 (ah l.length) (a1:Int)) (x:Int)=false:=by unfold ltI dJ ah; rw[wrap64 (by omega) (by omega)]; exact iW (by omega)
 have e1:bM .i64 (a1:Int) (x:Int)=(a':Int):=by unfold bM; rw[wrap64 (by omega) (by omega)]; omega
 have e2:dJ .i64 (a':Int) (x:Int)=(a1:Int):=by unfold dJ; rw[wrap64 (by omega) (by omega)]; omega
 have g2:dS (a1:Int) (a':Int) l.length=true:=by unfold dS; exact eU (by omega)
 have t1:takeC (fC (a1:Int) (a':Int)) (aO (atN (a1:Int) 1) (bc l))=bc t:=by
  have h1:atN (a1:Int) 1=a1:=by simp[atN]
  have h2:fC (a1:Int) (a':Int)=x:=by unfold fC; omega
  rw[h1,h2,wS,h3]
 have t2:allBytes (bc t)=true:=by
  unfold allBytes;refine jA.2 fun x hx=>?_;unfold bc at hx;obtain⟨o,_,rfl⟩:=vX.1 hx;first | rfl | simp[isByte] | (have:=o.toNat_lt; simp[isByte]; omega)
 have t3:CY (bc t)=txt t:=by unfold CY txt; rw[mf]
 have z:Nat.beq 249 249=true:=rfl;have z2:(!false)=true:=rfl;simp (disch:=first|omega|(simp only[bU,bY,bZ,bT,bW,aH]<;>omega)|fail) only[mz_,c1,c2,c3,g1,e1,e2,g2,t1,t2,t3,z,z2,H_,rdB,uf_,nf_]
open Classical in
def txC(l:List UInt8)(a m:Int):Bool:=decide (∃ (a0 m0 a':Nat) (t:List UInt8),a=a0/\m=m0/\nz l a0 false m0=(t,a',false)/\a0<=l.length/\m0<4611686018427387904)
def txT(l:List UInt8)(a:Int):ByteArray:=txt ((l.drop (a.toNat+(eX (l.drop a.toNat)).2.1)).take (eX (l.drop a.toNat)).1)
def txA(l:List UInt8)(a:Int):Int:=((a.toNat+(eX (l.drop a.toNat)).2.1+(eX (l.drop a.toNat)).1:Nat):Int)
open Classical in
theorem OM{l t:List UInt8}{a m a':Nat}(h:nz l a false m=(t,a',false))(ha:a<=l.length)(hm:m<4611686018427387904):txC l (a:Int) (m:Int)=true/\txT l (a:Int)=txt t/\txA l (a:Int)=(a':Int):=by
 obtain⟨x,a1,h1,h2,h3,h4⟩:=Af h;obtain⟨_,e2,e3,_,_⟩:=ry h1;refine⟨by unfold txC; exact eU ⟨a,m,a',t,rfl,rfl,h,ha,hm⟩,?_,?_⟩
 ·unfold txT;rw[show(a:Int).toNat=a by omega,<-e3,<-e2,<-h3]
 ·unfold txA;rw[show(a:Int).toNat=a by omega,<-e3,<-e2,<-h4]
open Classical in
theorem ahJ:CallOkX P 1 210 (ZW txC txT txA):=⟨fun args bs t hR v bs' hev=>by
 unfold ZW at hR;split at hR
 ·rename_i m t0 n b c a bd ty;obtain rfl:=aC hR;cases hc:(fzB t0 n c&&Nat.beq ty 249&&!bd&&txC (c.map byteOf) a m)with
  |false=>rw[hc]at hev; cases hev
  |true=>
   rw[hc]at hev;simp only[bV]at hc;obtain⟨⟨⟨hf,hty⟩,hbd⟩,hn⟩:=hc;obtain rfl:=dF hty;obtain rfl:bd=false:=by cases bd with | false=>rfl | true=>cases hbd
   obtain⟨rfl,rfl,⟨l,rfl,hl⟩,h4⟩:=AV hf;rw[<-hl]at hev hn;rw[bn]at h4 hev ⊢;have hn':=lY hn;obtain⟨a0,m0,a',t,rfl,rfl,hq,ha,hm⟩:=hn';obtain⟨_,e2,e3⟩:=OM hq ha hm;simp only[DT.eval,dD,dA,e2,e3]at hev;obtain⟨rfl,rfl⟩:=hev;exact afh hq ha h4 hm
 ·cases hR⟩
theorem Gw(l:List UInt8):(txt l).size=l.length:=by rw[size_eq]; rfl
theorem adz(l:List UInt8)(k:Nat):yw (txt l) 0 (k:Int)=txt (l.take k):=by
 have h:=KJ (txt l) 0 k;have e:(txt l).data.toList=l:=rfl;rw[e,iQ,wu]at h;have h0:yw (txt l) 0 (k:Int)=txt (lst (yw (txt l) 0 (k:Int))):=rfl;rw[h0];exact congrArg txt h
theorem acX(a b:List UInt8):O7 (txt a) (txt b)=txt (a++b):=by
 unfold O7;have h0:txt a++txt b=txt (lst (txt a++txt b)):=rfl;rw[h0];unfold lst;rw[ByteArray.data_append,Array.toList_append]
 rfl
theorem aft{l last:List UInt8}{a a':Nat}{o:OpM}(h:opR l a false last=(o,a',false))(ha:a<=l.length):a'<=l.length:=by
 obtain⟨p,a1,k,a2,t,a3,n1,n2,t3,hsh,hcase⟩:=YF h;have h1:=(ry n1).2.2.2.2 ha;have h2:=(ry n2).2.2.2.2 h1;obtain⟨x,b1,m1,m2,m3,m4⟩:=Af t3;rcases hcase with⟨_,v,t4,_⟩ | ⟨_,rfl,_⟩
 ·obtain⟨y,c1,k1,k2,k3,k4⟩:=Af t4;omega
 ·omega
theorem acP{l t:List UInt8}{a m a':Nat}(h:nz l a false m=(t,a',false)):a'<=l.length/\t.length<=l.length:=by
 obtain⟨x,b1,m1,m2,m3,m4⟩:=Af h;refine⟨by omega,?_⟩;rw[m3,fH,gZ];omega
theorem agr{l last:List UInt8}{a a' b:Nat}{o:OpM}(h:opR l a false last=(o,a',false))(ha:a<=l.length)(hl:l.length+64<=4194304)(hla:last.length<=16) :
  CRX P 1 191 [p0, .string (txt last)] (rdB l b a false) (opV o) (rdB l b (a':Int) false):=by
 obtain⟨p,a1,k,a2,t,a3,n1,n2,t3,hsh,hcase⟩:=YF h;have h1:=(ry n1).2.2.2.2 ha;obtain⟨_,_,_,hk,h2⟩:=ry n2;have h2:=h2 h1;obtain⟨h3,htl⟩:=acP t3;obtain⟨c1,c2,c3⟩:=G7 n1 ha (by decide);obtain⟨d1,d2,d3⟩:=G7 n2 h1 (by omega);obtain⟨e1,e2,e3⟩:=OM t3 h2 (by decide);have z1:((1:Nat):Int)=1:=rfl;have z16:((16:Nat):Int)=16:=rfl;have z32:((32:Nat):Int)=32:=rfl;rw[z1]at c1;rw[z16]at e1;have hsz:=Gw last;have d1':nuC l (a1:Int) (ah last.length)=true:=d1;have g1:dS 0 (k:Int) last.length=true:=t_ hk;have hkey:O7 (txt (last.take k)) (txt t)=txt (opK last k t):=acX _ _;have hfit:UZ (txt (last.take k)) (txt t)=true:=by
  unfold UZ;rw[Gw,Gw];exact dG (by show(last.take k).length+t.length<=_; rw[fH]; omega)
 have hK:shK (txt last) (txt (opK last k t))=true:=by
  unfold shK;have:=(Jh (txt last) (txt (opK last k t))).1;exact eU (by omega)
 have hS:shS (txt last) (txt (opK last k t))=(k:Int):=by
  unfold shS;rw[BQ,RQ,RQ,hsh]
 have hne:neI (k:Int) (k:Int)=false:=by unfold neI; simp
 have z:Nat.beq 249 249=true:=rfl;have z2:(!false)=true:=rfl;have cu:=adz last k;refine co_ (af (af (af aA abG) ahJ) Xm) ((ack nuC nuX nuA txC txT txA shK shS l b a (txt last)).trans ?_);rcases hcase with⟨rfl,v,t4,rfl⟩ | ⟨hp,rfl,rfl⟩
 ·obtain⟨f1,f2,f3⟩:=OM t4 h3 (by decide);rw[z32]at f1;have hp1:eqI ((1:Nat):Int) 1=true:=rfl;simp (disch:=first|omega|(simp only[bU,bY,bZ,bT,bW,aH]<;>omega)|fail) only[mz_,c1,c2,c3,d1',d2,d3,e1,e2,e3,f1,f2,f3,hsz,g1,cu,hkey,hfit,hK,hS,hne,z,z2,hp1,rdB,opV,uf_,nf_]
 ·have hp1:eqI (p:Int) 1=false:=eF_ (by omega);simp (disch:=first|omega|(simp only[bU,bY,bZ,bT,bW,aH]<;>omega)|fail) only[mz_,c1,c2,c3,d1',d2,d3,e1,e2,e3,hsz,g1,cu,hkey,hfit,hK,hS,hne,z,z2,hp1,rdB,opV,uf_,nf_]
  rfl
theorem ah2(l:List OpM)(o:OpM):List.append (EOp.all l) [.bool o.p, .string o.k, .string o.v]=EOp.all (l++[o]):=by rw[EOp.all_append]; rfl
theorem Uc(l:List OpM):(EOp.all l).length=Nat.mul l.length 3:=EOp.all_length l
theorem aaQ{l:List UInt8}{b a a2:Nat}{o:List OpM}{x:OpM}{s:ByteArray}{k:Nat}(ho:o.length<=1000)(hk:k<=1000) :
  aU P E (ak P aB 1 191 (aP (ay [p0, .string s] (rdB l b a false)) (.leaf (opV x,rdB l b (a2:Int) false))) ctF) 50 165 Bbr Dbr (brV o s ((k+1:Nat):Int)) (brB l b a o)=some (.tuple ⟨exV .normal::brV (o++[x]) x.k (k:Int)⟩,ag (brB l b a2 (o++[x]))):=by
 have g1:gtI ((k+1:Nat):Int) 0=true:=gT_ (by omega);have h1:Nat.add o.length 1=(o++[x]).length:=by simp
 have hl1:(o++[x]).length<=1001:=by rw[bP]; show o.length+1<=_; omega
 have s1:dJ .i64 ((k+1:Nat):Int) 1=(k:Int):=by unfold dJ; rw[wrap64 (by omega) (by omega)]; omega
 rw[Yy];simp (disch:=first|omega|(simp only[bU,bY,bZ,bT,bW,aH]<;>omega)|fail) only[mz_,g1,h1,s1,Uc,ah2,Hm rfl,brV,brB,rdB,uf_,nf_]
 rfl
theorem afu{C:List Value->List Blk->Bool}{l:List UInt8}{b a:Nat}{o:List OpM}{x:OpM}{s:ByteArray}{a2:Int} :
  aU P E (ak P aB 1 191 (aP C (.leaf (opV x,rdB l b a2 false))) ctF) 50 165 Bbr Dbr (brV o s 0) (brB l b a o)=some (.tuple ⟨exV (.exit 0)::brV o s 0⟩,ag (brB l b a o)):=by
 have g1:gtI 0 0=false:=rfl;rw[Yy];simp (disch:=first|omega|(simp only[bU,bY,bZ,bT,bW,aH]<;>omega)|fail) only[mz_,g1,Uc,Hm rfl,brV,brB,rdB,uf_,nf_]
 rfl
theorem Lm{b:List UInt8}{k a:Nat}{last:List UInt8}:(p_ b k a true last).2.2=true:=by cases k<;>rfl
theorem Tq{l:List UInt8}{b:Nat}(hl:l.length+64<=4194304):∀ (k a a':Nat) (s:ByteArray) (o ops:List OpM),p_ l k a false (lst s)=(ops,a',false)->a<=l.length->s.size<=16->(∀ x∈ops,x.k.size<=16)->o.length+k<=1000->
  a'<=l.length/\∃ s',LRX P 165 0 Bbr Dbr.head (brV o s (k:Int)) (brB l b a o) .normal (brV (o++ops) s' 0) (brB l b a' (o++ops))
 |0,a,a',s,o,ops,h,ha,hs,hx,ho=>by
  simp only[p_,dA,jd]at h;obtain⟨rfl,rfl⟩:=h;rw[gG];exact⟨ha,s,ls_ (af aA (fF (r:= .leaf (opV ⟨false,s,s⟩,rdB l b 0 false)))) SC (e:= .exit 0) (afu (C:=fun _ _=>false)) (by intro h; cases h)⟩
 |k+1,a,a',s,o,ops,h,ha,hs,hx,ho=>by
  unfold p_ at h;simp only at h;rcases hq:opR l a false (lst s)with⟨x,a1,bad⟩
  rw[hq]at h;simp only[dA]at h;obtain⟨h1,h2⟩:=h;cases bad with
  |true=>
   have:=Lm (b:=l) (k:=k) (a:=a1) (last:=lst x.k);rw[h2]at this;cases this
  |false=>
   have q:=agr (b:=b) hq ha hl (by rw[aH]; exact hs);rw[Ar]at q;subst h1;have hh:p_ l k a1 false (lst x.k)=((p_ l k a1 false (lst x.k)).1,a',false):=by rw[<-h2]
   obtain⟨h3,s',ih⟩:=Tq (b:=b) hl k a1 a' x.k (o++[x]) _ hh (aft hq ha) (hx x (qQ ..)) (fun y hy=>hx y (ni _ hy)) (by rw[bP]; show o.length+1+k<=_; omega);rw[fG]at ih;exact⟨h3,s',la_ (af aA (az q)) SC (aaQ (by omega) (by omega)) ih⟩
theorem ZL(l:List OpM):gY (EOp.all l)=true:=by
 induction l with
 |nil=>rfl
 |cons o l ih=>rw[EOp.all_cons]; show(_&&(_&&(_&&gY (EOp.all l))))=true; rw[ih]; rfl
theorem ac0{l:List UInt8}{ops:List OpM}{n b:Nat}(h:readB l=some (ops,n))(hl:l.length+64<=4194304):n<=l.length/\CRX P 0 165 [ax 1 l.length b (bc l)] [] (.tuple ⟨[bD ops, .int .i64 (n:Int), .int .i64 0]⟩) []:=by
 unfold readB at h;simp only at h;rcases hq:lw l 0 false 8 with⟨k,a1,bad⟩
 rw[hq]at h;simp only at h;rcases hr:p_ l k a1 bad []with⟨o,a',bad'⟩
 rw[hr]at h;simp only at h;cases hb:(bad' || iJ o != 0)with
 |true=>rw[hb]at h; cases h
 |false=>
  rw[hb]at h;simp only[mz_,dD,dA]at h;obtain⟨rfl,rfl⟩:=h;rw[Eo]at hb;obtain⟨rfl,hb⟩:=hb;have hb:iJ o=0:=by simpa using hb
  cases bad with
  |true=>
   have:=Lm (b:=l) (k:=k) (a:=a1) (last:=[]);rw[hr]at this;cases this
  |false=>
   obtain⟨_,_,_,hk,ha⟩:=ry hq;have ha:=ha (ig _);obtain⟨b1,b2,b3⟩:=dM.1 hb;have hn:=TD (b:=b) hq (ig _) hl (by decide);have hr':p_ l k a1 false (lst ⟨#[]⟩)=(o,a',false):=hr;obtain⟨hle,s',q2⟩:=Tq (b:=b) hl k a1 a' ⟨#[]⟩ [] o hr' ha (by decide) (fun x hx=>(Au (jA.1 b3 x hx)).2.1) (by show 0+k<=_; omega);rw[iY]at q2;have q3:=Ji (l:=o) (by omega);rw[y7,hb]at q3;refine⟨hle,?_⟩;refine co_ (af (dB (iw aA (CallOkR.ofK0 (az q3))) (d_ (bJ VY) q2)) (az hn)) ((aeK (ay [p0, .int .i64 ((8:Nat):Int)] (rdB l b ((0:Nat):Int) false)) (ay (brV [] ⟨#[]⟩ (k:Int)) (brB l b a1 [])) (ay [bD o] []) l b a1 a' k o s').trans ?_);clear q2 q3 hn;have z8:((8:Nat):Int)=8:=rfl;have z0:((0:Nat):Int)=0:=rfl;have n1:([]:List OpM).length=0:=rfl;have n2:EOp.all ([]:List OpM)=[]:=rfl;have b13:Nat.ble 1 3=true:=rfl;simp (disch:=first|omega|(simp only[bU,bY,bZ,bT,bW,aH]<;>omega)|fail) only[mz_,z8,z0,n1,n2,b13,Uc,ZL,Hm rfl,abf rfl,brV,brB,rdB,uf_,nf_]
theorem adq{l:List UInt8}{c:CmM}{b:Nat}(h:VH l=some c)(hl:l.length+64<=4194304):CRX P 0 136 [ax 1 l.length b (bc l)] [] (.tuple ⟨[cmV c, .int .i64 0]⟩) []:=by
 unfold VH at h;cases s1:jX l 1048576 with
 |false=>rw[s1]at h; cases h
 |true=>
  rw[s1]at h;simp only at h;have hc1:=xC l;generalize hN1:(eX l).2.1=n1 at h hc1;cases s2:jX (l.drop n1) 1048576 with
  |false=>rw[s2]at h; cases h
  |true=>
   rw[s2]at h;simp only at h;have hc2:=xC (l.drop n1);rw[gZ]at hc2;generalize hN2:(eX (l.drop n1)).2.1=n2 at h hc2;cases s3:readB (l.drop (n1+n2))with
   |none=>rw[s3]at h; cases h
   |some r=>
    obtain⟨ops,k⟩:=r;rw[s3]at h;simp only at h;cases s4:(decide (n1+n2+k=l.length)&&eqI (cmE ⟨(eX l).1,(eX (l.drop n1)).1,ops⟩) 0)with
    |false=>rw[s4]at h; cases h
    |true=>
     rw[s4]at h;simp only[mz_,dD]at h;rw[bV]at s4;obtain⟨s4,s5⟩:=s4;have s4:=lY s4;have s5:cmE ⟨(eX l).1,(eX (l.drop n1)).1,ops⟩=0:=by simpa [eqI]using s5
     rw[h]at s5;obtain⟨_,_,hb⟩:=fU.1 s5;obtain⟨b1,b2,b3⟩:=dM.1 hb;have q2:=Eu (c:=c) (by omega);rw[s5]at q2;have hdl:(l.drop (n1+n2)).length=l.length-(n1+n2):=gZ;obtain⟨_,q1⟩:=ac0 (b:=yA b (n1+n2)) s3 (by omega);have e1:smX l=c.e:=by unfold smX; rw[<-h]
     have e2:smX (l.drop n1)=c.n:=by unfold smX; rw[<-h]
     have e3:ops=c.ops:=by rw[<-h]
     subst e3;have f1:smN l=(n1:Int):=by unfold smN; rw[hN1]
     have f2:smN (l.drop n1)=(n2:Int):=by unfold smN; rw[hN2]
     have c1:smC l 1048576=true:=by unfold smC; rw[s1]; rfl
     have c2:smC (l.drop n1) 1048576=true:=by unfold smC; rw[s2]; rfl
     have a1:bM .i64 (n1:Int) (n2:Int)=((n1+n2:Nat):Int):=by unfold bM; rw[wrap64 (by omega) (by omega)]; omega
     have a2:bM .i64 ((n1+n2:Nat):Int) (k:Int)=(l.length:Int):=by unfold bM; rw[wrap64 (by omega) (by omega)]; omega
     have t1:((n1+n2:Nat):Int).toNat=n1+n2:=by omega
     have g1:=OW (a:=n1) (n:=l.length) (by omega);have g2:=OW (a:=n1+n2) (n:=l.length) (by omega);have i0:neI (l.length:Int) (ah l.length)=false:=by unfold neI ah; simp
     refine cF_ (af (af Jt (az q2)) (az q1)) ((aec smC smX smN (ay [ax 1 (l.drop (n1+n2)).length (yA b (n1+n2)) (bc (l.drop (n1+n2)))] []) (ay [cmV c] []) c.ops k l b).trans ?_);clear q1 q2;simp (disch:=first|omega|(simp only[bU,bY,bZ,bT,bW,aH]<;>omega)|fail) only[mz_,e1,e2,f1,f2,c1,c2,a1,a2,t1,g1,g2,i0,aag,aap,H_,uf_,nf_]
def Zv(K:Int->Int->Nat->Nat->Nat->List Value->Bool)(X:Int->Int->List Value->List UInt8):iC:=fun args bs=>match args,bs with
 |[.agg ⟨[.int .i64 e, .int .i64 n, .iface t (.agg ⟨.slice none k b::c⟩)]⟩],[]=>some (.ite (K e n t k b c) (.leaf (.tuple ⟨[ax 1 (X e n c).length 0 (bc (X e n c)), .int .i64 0]⟩,[])) .fail)
 |_,_=>none
def lg_(V:Nat->List UInt8)(C:Int->Bool)(W:Nat)(u:List Value)(s:Int)(n:Nat)(x:List UInt8->Res):Res:=ae (fq_ W u 5) (ae (Bool.and (fw_ W (takeC (Nat.mul W 1) (aO 0 u))) (C s)) (x ((takeC (Nat.mul W 1) (aO 0 u)).map byteOf++V n)))
def le_(V:Nat->List UInt8)(C:Int->Bool)(k:Nat)(w:List UInt8)(s:Int)(n:Nat)(x:List UInt8->Res):Res:=lg_ V C w.length (aG false (dQ k) (bc w)) s n x
def lc_(k:Nat)(w T:List UInt8)(x:Nat->List Value->Res):Res:=ae (List.all (bc T) oneCell) (ae (Nat.ble (Nat.add w.length T.length) 4194304) (ae (Nat.beq (Nat.add 0 (Nat.mul w.length 1)) (aG false (dQ k) (bc w)).length) (x (Nat.add w.length T.length) (List.append (jC 0 (aG false (dQ k) (bc w))) (bc T)))))
def Aa(V:Nat->List UInt8)(C:Int->Bool)(C1:List Value->List Blk->Bool)(K:Int->Int->Nat->Nat->Nat->List Value->Bool)(X:Int->Int->List Value->List UInt8):Ct:=
 ak P aB 0 48 (aP C1 (.leaf (.int .i64 0,[]))) (ak P aB 0 51 (Zv K X) (nV P 50 (jy P 50 (uq V C) ctF)))
def BM(k e ro en:Int)(ns:Nat)(st:List Value)(fr pv:Int)(nc:Nat)(cs:List Value):Value:= .agg ⟨[.int .i64 k, .int .i64 e, .int .u8 ro, .int .i64 en,ax 2 ns 0 st, .int .i64 fr, .int .i64 pv,ax 3 nc 0 cs]⟩
def cmC(c:CmM):List Value:=[.int .i64 c.e, .int .i64 c.n,bD c.ops]
theorem ac5(V:Nat->List UInt8)(C:Int->Bool)(C1:List Value->List Blk->Bool)(K:Int->Int->Nat->Nat->Nat->List Value->Bool)(X:Int->Int->List Value->List UInt8)(e en:Int):aN P E (Aa V C C1 K X) 50 aB [.val, .val] [57,0] 0 21 [BM 3 e 0 en 0 [] 0 0 0 []] [] =
 (let z:=io_ 0;let y:=cvI .u64 e;let x:=cvI .u64 en;
 (ae (C1 [.agg ⟨[io_ 3,io_ e, .int .u8 0,io_ en,fc_ 0 0 [],z,z,fa_ 0 0 []]⟩] []) (ae (Bool.and (fw_ 0 []) (C 3)) (le_ V C 3 (HAppend.hAppend [] (V 3)) y (Int.toNat y) (fun b2_=>le_ V C 4 b2_ x (Int.toNat x) (fun b1_=>ae (fq_ (List.length b1_) (aG false (dQ 6) (bc b1_)) 5) (some (.tuple ⟨[fb_ (List.length b1_) 0 (takeC (Nat.mul (List.length b1_) 1) (aO 0 (aG false (dQ 6) (bc b1_)))),z]⟩,ag [])))))))):=by kernel_rfl
theorem afa(V:Nat->List UInt8)(C:Int->Bool)(C1:List Value->List Blk->Bool)(K:Int->Int->Nat->Nat->Nat->List Value->Bool)(X:Int->Int->List Value->List UInt8)(e ro en:Int):aN P E (Aa V C C1 K X) 50 aB [.val, .val] [57,0] 0 21 [BM 1 e ro en 0 [] 0 0 0 []] [] =
 (let z:=io_ 0;let y:=cvI .u64 e;let x:=cvI .u64 (cvI .i64 ro);let w:=cvI .u64 en;
 (ae (C1 [.agg ⟨[io_ 1,io_ e, .int .u8 ro,io_ en,fc_ 0 0 [],z,z,fa_ 0 0 []]⟩] []) (ae (Bool.and (fw_ 0 []) (C 1)) (le_ V C 3 (HAppend.hAppend [] (V 1)) y (Int.toNat y) (fun b6_=>le_ V C 4 b6_ x (Int.toNat x) (fun b5_=>le_ V C 6 b5_ w (Int.toNat w) (fun b4_=>le_ V C 7 b4_ 0 0 (fun b3_=>ae (fq_ (List.length b3_) (aG false (dQ 8) (bc b3_)) 5) (some (.tuple ⟨[fb_ (List.length b3_) 0 (takeC (Nat.mul (List.length b3_) 1) (aO 0 (aG false (dQ 8) (bc b3_)))),z]⟩,ag [])))))))))):=by kernel_rfl
theorem acl(V:Nat->List UInt8)(C:Int->Bool)(C1:List Value->List Blk->Bool)(K:Int->Int->Nat->Nat->Nat->List Value->Bool)(X:Int->Int->List Value->List UInt8)(e ro en a b:Int):aN P E (Aa V C C1 K X) 50 aB [.val, .val] [57,0] 0 21 [BM 1 e ro en 1 [.int .i64 a, .int .i64 b] 0 0 0 []] [] =
 (let z:=io_ 0;let y:=cvI .u64 e;let x:=cvI .u64 (cvI .i64 ro);let w:=cvI .u64 en;let v:=cvI .u64 a;let u:=cvI .u64 b;
 (ae (C1 [.agg ⟨[io_ 1,io_ e, .int .u8 ro,io_ en, .iface 18446744073709551618 (.agg ⟨[.slice none 1 0,io_ a,io_ b]⟩),z,z,fa_ 0 0 []]⟩] []) (ae (Bool.and (fw_ 0 []) (C 1)) (le_ V C 3 (HAppend.hAppend [] (V 1)) y (Int.toNat y) (fun b12_=>le_ V C 4 b12_ x (Int.toNat x) (fun b11_=>le_ V C 6 b11_ w (Int.toNat w) (fun b10_=>le_ V C 7 b10_ 1 1 (fun b9_=>le_ V C 8 b9_ v (Int.toNat v) (fun b8_=>le_ V C 11 b8_ u (Int.toNat u) (fun b7_=>ae (fq_ (List.length b7_) (aG false (dQ 12) (bc b7_)) 5) (some (.tuple ⟨[fb_ (List.length b7_) 0 (takeC (Nat.mul (List.length b7_) 1) (aO 0 (aG false (dQ 12) (bc b7_)))),z]⟩,ag [])))))))))))):=by kernel_rfl
theorem acg(V:Nat->List UInt8)(C:Int->Bool)(C1:List Value->List Blk->Bool)(K:Int->Int->Nat->Nat->Nat->List Value->Bool)(X:Int->Int->List Value->List UInt8)(e ro en a b c d:Int):aN P E (Aa V C C1 K X) 50 aB [.val, .val] [57,0] 0 21 [BM 1 e ro en 2 [.int .i64 a, .int .i64 b, .int .i64 c, .int .i64 d] 0 0 0 []] [] =
 (let z:=io_ 0;let y:=cvI .u64 e;let x:=cvI .u64 (cvI .i64 ro);let w:=cvI .u64 en;let v:=cvI .u64 a;let u:=cvI .u64 b;let t:=cvI .u64 c;let s:=cvI .u64 d;
 (ae (C1 [.agg ⟨[io_ 1,io_ e, .int .u8 ro,io_ en, .iface 18446744073709551618 (.agg ⟨[.slice none 2 0,io_ a,io_ b,io_ c,io_ d]⟩),z,z,fa_ 0 0 []]⟩] []) (ae (Bool.and (fw_ 0 []) (C 1)) (le_ V C 3 (HAppend.hAppend [] (V 1)) y (Int.toNat y) (fun b20_=>le_ V C 4 b20_ x (Int.toNat x) (fun b19_=>le_ V C 6 b19_ w (Int.toNat w) (fun b18_=>le_ V C 7 b18_ 2 2 (fun b17_=>le_ V C 8 b17_ v (Int.toNat v) (fun b16_=>le_ V C 11 b16_ u (Int.toNat u) (fun b15_=>le_ V C 12 b15_ t (Int.toNat t) (fun b14_=>le_ V C 15 b14_ s (Int.toNat s) (fun b13_=>ae (fq_ (List.length b13_) (aG false (dQ 16) (bc b13_)) 5) (some (.tuple ⟨[fb_ (List.length b13_) 0 (takeC (Nat.mul (List.length b13_) 1) (aO 0 (aG false (dQ 16) (bc b13_)))),z]⟩,ag [])))))))))))))):=by kernel_rfl
theorem abO(V:Nat->List UInt8)(C:Int->Bool)(C1:List Value->List Blk->Bool)(K:Int->Int->Nat->Nat->Nat->List Value->Bool)(X:Int->Int->List Value->List UInt8)(e fr pv:Int):aN P E (Aa V C C1 K X) 50 aB [.val, .val] [57,0] 0 21 [BM 2 e 0 0 0 [] fr pv 0 []] [] =
 (let z:=cvI .u64 e;let y:=cvI .u64 fr;let x:=cvI .u64 pv;
 (ae (C1 [.agg ⟨[io_ 2,io_ e, .int .u8 0,io_ 0,fc_ 0 0 [],io_ fr,io_ pv,fa_ 0 0 []]⟩] []) (ae (Bool.and (fw_ 0 []) (C 2)) (le_ V C 3 (HAppend.hAppend [] (V 2)) z (Int.toNat z) (fun b24_=>le_ V C 4 b24_ y (Int.toNat y) (fun b23_=>le_ V C 6 b23_ x (Int.toNat x) (fun b22_=>le_ V C 7 b22_ 0 0 (fun b21_=>ae (fq_ (List.length b21_) (aG false (dQ 8) (bc b21_)) 5) (some (.tuple ⟨[fb_ (List.length b21_) 0 (takeC (Nat.mul (List.length b21_) 1) (aO 0 (aG false (dQ 8) (bc b21_)))),io_ 0]⟩,ag [])))))))))):=by kernel_rfl
theorem afe(V:Nat->List UInt8)(C:Int->Bool)(C1:List Value->List Blk->Bool)(K:Int->Int->Nat->Nat->Nat->List Value->Bool)(X:Int->Int->List Value->List UInt8)(e fr pv:Int)(c1:CmM):aN P E (Aa V C C1 K X) 50 aB [.val, .val] [57,0] 0 21 [BM 2 e 0 0 0 [] fr pv 1 (cmC c1)] [] =
 (let z:=fa_ c1.ops.length 0 (Enc.all EOp c1.ops);let y:=cvI .u64 e;let x:=cvI .u64 fr;let w:=cvI .u64 pv;let v:=X c1.e c1.n (zC z);let u:=cvI .u64 (ah v.length);
 (ae (C1 [.agg ⟨[io_ 2,io_ e, .int .u8 0,io_ 0,fc_ 0 0 [],io_ fr,io_ pv, .iface 18446744073709551619 (.agg ⟨[.slice none 1 0,io_ c1.e,io_ c1.n,z]⟩)]⟩] []) (ae (Bool.and (fw_ 0 []) (C 2)) (le_ V C 3 (HAppend.hAppend [] (V 2)) y (Int.toNat y) (fun b31_=>le_ V C 4 b31_ x (Int.toNat x) (fun b30_=>le_ V C 6 b30_ w (Int.toNat w) (fun b29_=>le_ V C 7 b29_ 1 1 (fun b28_=>ae (K c1.e c1.n 18446744073709551619 (zN z) 0 (zC z)) (le_ V C 8 b28_ u (Int.toNat u) (fun b27_=>lc_ 11 b27_ v (fun b26_=>(fun b25_=>ae (fq_ b26_ b25_ 5) (some (.tuple ⟨[fb_ b26_ 0 (takeC (Nat.mul b26_ 1) (aO 0 b25_)),io_ 0]⟩,ag [])))))))))))))):=by kernel_rfl
theorem aeo(V:Nat->List UInt8)(C:Int->Bool)(C1:List Value->List Blk->Bool)(K:Int->Int->Nat->Nat->Nat->List Value->Bool)(X:Int->Int->List Value->List UInt8)(e fr pv:Int)(c1 c2:CmM):aN P E (Aa V C C1 K X) 50 aB [.val, .val] [57,0] 0 21 [BM 2 e 0 0 0 [] fr pv 2 (cmC c1++cmC c2)] [] =
 (let z:=fa_ c1.ops.length 0 (Enc.all EOp c1.ops);let y:=fa_ c2.ops.length 0 (Enc.all EOp c2.ops);let x:=cvI .u64 e;let w:=cvI .u64 fr;let v:=cvI .u64 pv;let u:=X c1.e c1.n (zC z);let t:=cvI .u64 (ah u.length);let s:=X c2.e c2.n (zC y);let r:=cvI .u64 (ah s.length);
 (ae (C1 [.agg ⟨[io_ 2,io_ e, .int .u8 0,io_ 0,fc_ 0 0 [],io_ fr,io_ pv, .iface 18446744073709551619 (.agg ⟨[.slice none 2 0,io_ c1.e,io_ c1.n,z,io_ c2.e,io_ c2.n,y]⟩)]⟩] []) (ae (Bool.and (fw_ 0 []) (C 2)) (le_ V C 3 (HAppend.hAppend [] (V 2)) x (Int.toNat x) (fun b41_=>le_ V C 4 b41_ w (Int.toNat w) (fun b40_=>le_ V C 6 b40_ v (Int.toNat v) (fun b39_=>le_ V C 7 b39_ 2 2 (fun b38_=>ae (K c1.e c1.n 18446744073709551619 (zN z) 0 (zC z)) (le_ V C 8 b38_ t (Int.toNat t) (fun b37_=>lc_ 11 b37_ u (fun b36_=>(fun b35_=>ae (K c2.e c2.n 18446744073709551619 (zN y) 0 (zC y)) (lg_ V C b36_ b35_ r (Int.toNat r) (fun b34_=>lc_ 15 b34_ s (fun b33_=>(fun b32_=>ae (fq_ b33_ b32_ 5) (some (.tuple ⟨[fb_ b33_ 0 (takeC (Nat.mul b33_ 1) (aO 0 b32_)),io_ 0]⟩,ag [])))))))))))))))))):=by kernel_rfl
theorem acp(V:Nat->List UInt8)(C:Int->Bool)(C1:List Value->List Blk->Bool)(K:Int->Int->Nat->Nat->Nat->List Value->Bool)(X:Int->Int->List Value->List UInt8)(e fr pv:Int)(c1 c2 c3:CmM):aN P E (Aa V C C1 K X) 50 aB [.val, .val] [57,0] 0 21 [BM 2 e 0 0 0 [] fr pv 3 (cmC c1++cmC c2++cmC c3)] [] =
 (let z:=fa_ c1.ops.length 0 (Enc.all EOp c1.ops);let y:=fa_ c2.ops.length 0 (Enc.all EOp c2.ops);let x:=fa_ c3.ops.length 0 (Enc.all EOp c3.ops);let w:=cvI .u64 e;let v:=cvI .u64 fr;let u:=cvI .u64 pv;let t:=X c1.e c1.n (zC z);let s:=cvI .u64 (ah t.length);let r:=X c2.e c2.n (zC y);let q:=cvI .u64 (ah r.length);
 let p:=X c3.e c3.n (zC x);let o:=cvI .u64 (ah p.length);
 (ae (C1 [.agg ⟨[io_ 2,io_ e, .int .u8 0,io_ 0,fc_ 0 0 [],io_ fr,io_ pv, .iface 18446744073709551619 (.agg ⟨[.slice none 3 0,io_ c1.e,io_ c1.n,z,io_ c2.e,io_ c2.n,y,io_ c3.e,io_ c3.n,x]⟩)]⟩] []) (ae (Bool.and (fw_ 0 []) (C 2)) (le_ V C 3 (HAppend.hAppend [] (V 2)) w (Int.toNat w) (fun b54_=>le_ V C 4 b54_ v (Int.toNat v) (fun b53_=>le_ V C 6 b53_ u (Int.toNat u) (fun b52_=>le_ V C 7 b52_ 3 3 (fun b51_=>ae (K c1.e c1.n 18446744073709551619 (zN z) 0 (zC z)) (le_ V C 8 b51_ s (Int.toNat s) (fun b50_=>lc_ 11 b50_ t (fun b49_=>(fun b48_=>ae (K c2.e c2.n 18446744073709551619 (zN y) 0 (zC y)) (lg_ V C b49_ b48_ q (Int.toNat q) (fun b47_=>lc_ 15 b47_ r (fun b46_=>(fun b45_=>ae (K c3.e c3.n 18446744073709551619 (zN x) 0 (zC x)) (lg_ V C b46_ b45_ o (Int.toNat o) (fun b44_=>lc_ 19 b44_ p (fun b43_=>(fun b42_=>ae (fq_ b43_ b42_ 5) (some (.tuple ⟨[fb_ b43_ 0 (takeC (Nat.mul b43_ 1) (aO 0 b42_)),io_ 0]⟩,ag [])))))))))))))))))))))):=by kernel_rfl
theorem acV(V:Nat->List UInt8)(C:Int->Bool)(C1:List Value->List Blk->Bool)(K:Int->Int->Nat->Nat->Nat->List Value->Bool)(X:Int->Int->List Value->List UInt8)(e fr pv:Int)(c1 c2 c3 c4:CmM):aN P E (Aa V C C1 K X) 50 aB [.val, .val] [57,0] 0 21 [BM 2 e 0 0 0 [] fr pv 4 (cmC c1++cmC c2++cmC c3++cmC c4)] [] =
 (let z:=fa_ c1.ops.length 0 (Enc.all EOp c1.ops);let y:=fa_ c2.ops.length 0 (Enc.all EOp c2.ops);let x:=fa_ c3.ops.length 0 (Enc.all EOp c3.ops);let w:=fa_ c4.ops.length 0 (Enc.all EOp c4.ops);let v:=cvI .u64 e;let u:=cvI .u64 fr;let t:=cvI .u64 pv;let s:=X c1.e c1.n (zC z);let r:=cvI .u64 (ah s.length);
 let q:=X c2.e c2.n (zC y);let p:=cvI .u64 (ah q.length);let o:=X c3.e c3.n (zC x);let n:=cvI .u64 (ah o.length);let m:=X c4.e c4.n (zC w);let l:=cvI .u64 (ah m.length);
 (ae (C1 [.agg ⟨[io_ 2,io_ e, .int .u8 0,io_ 0,fc_ 0 0 [],io_ fr,io_ pv, .iface 18446744073709551619 (.agg ⟨[.slice none 4 0,io_ c1.e,io_ c1.n,z,io_ c2.e,io_ c2.n,y,io_ c3.e,io_ c3.n,x,io_ c4.e,io_ c4.n,w]⟩)]⟩] []) (ae (Bool.and (fw_ 0 []) (C 2)) (le_ V C 3 (HAppend.hAppend [] (V 2)) v (Int.toNat v) (fun b70_=>le_ V C 4 b70_ u (Int.toNat u) (fun b69_=>le_ V C 6 b69_ t (Int.toNat t) (fun b68_=>le_ V C 7 b68_ 4 4 (fun b67_=>ae (K c1.e c1.n 18446744073709551619 (zN z) 0 (zC z)) (le_ V C 8 b67_ r (Int.toNat r) (fun b66_=>lc_ 11 b66_ s (fun b65_=>(fun b64_=>ae (K c2.e c2.n 18446744073709551619 (zN y) 0 (zC y)) (lg_ V C b65_ b64_ p (Int.toNat p) (fun b63_=>lc_ 15 b63_ q (fun b62_=>(fun b61_=>ae (K c3.e c3.n 18446744073709551619 (zN x) 0 (zC x)) (lg_ V C b62_ b61_ n (Int.toNat n) (fun b60_=>lc_ 19 b60_ o (fun b59_=>(fun b58_=>ae (K c4.e c4.n 18446744073709551619 (zN w) 0 (zC w)) (lg_ V C b59_ b58_ l (Int.toNat l) (fun b57_=>lc_ 23 b57_ m (fun b56_=>(fun b55_=>ae (fq_ b56_ b55_ 5) (some (.tuple ⟨[fb_ b56_ 0 (takeC (Nat.mul b56_ 1) (aO 0 b55_)),io_ 0]⟩,ag [])))))))))))))))))))))))))):=by kernel_rfl
def lrB(l:List UInt8)(b:Nat)(bad:Bool):List Blk:=[.cells [ax 1 l.length b (bc l), .bool bad] 148 true]
theorem adM(C:List UInt8->Int->Bool)(X N:List UInt8->Int)(l:List UInt8)(b:Nat)(m:Int):aN P E (Vs C X N) 50 aB [] [] 1 97 [p0, .int .i64 m] (lrB l b false) =
 (let z:=l.length;let y:=List.map byteOf (bc l);let x:=N y;let w:=fC x (ah z);
 (ae (Bool.and (fw_ z (bc l)) (C y m)) (ae (Bool.and (Nat.beq 1 1) (dS x (ah z) z)) (some (io_ (X y),ag [.cells [fb_ w (yA b (Int.toNat x)) (takeC (Nat.mul w 1) (aO (atN x 1) (bc l))), .bool false] 148 true]))))):=by kernel_rfl
def Oy(C:List UInt8->Int->Bool)(X:List UInt8->Int)(R:List UInt8->List UInt8):iC:=fun args bs=>match args,bs with
 |[.pointer (some ⟨0,0,none⟩), .int .i64 m],[.cells [.iface t (.agg ⟨.slice none n b::c⟩), .bool bd] ty true]=>some (.ite (fzB t n c&&Nat.beq b 0&&Nat.beq ty 148&&!bd&&C (c.map byteOf) m) (.leaf (.int .i64 (X (c.map byteOf)),[.cells [ax 1 (R (c.map byteOf)).length 0 (bc (R (c.map byteOf))), .bool false] ty true])) .fail)
 |_,_=>none
def aiz(C1 C2:List Value->List Blk->Bool)(k:Int)(r:List UInt8)(c:CmM):Ct:=ak P aB 1 97 (aP C1 (.leaf (.int .i64 k,lrB r 0 false))) (ak P aB 0 136 (aP C2 (.leaf (.tuple ⟨[cmV c, .int .i64 0]⟩,[]))) ctF)
theorem aep(C1 C2:List Value->List Blk->Bool)(k:Int)(l r:List UInt8)(c:CmM):aN P E (aiz C1 C2 k r c) 50 aB [] [] 1 98 [p0] (lrB l 0 false) =
 (let z:=r.length;let y:=ah z;let x:=Nat.beq 1 1;
 (ae (C1 [pt_ 0,io_ (ah l.length)] [.cells [fb_ l.length 0 (bc l), .bool false] 148 true]) (aj (gtI k y) (some (.agg ⟨[io_ 0,io_ 0, .slice none 0 0]⟩,ag [.cells [fb_ z 0 (bc r), .bool true] 148 true])) (ae (Bool.and x (dS 0 k z)) (ae (C2 [fb_ (fC 0 k) 0 (takeC (Nat.mul (fC 0 k) 1) (aO 0 (bc r)))] []) (ae (Bool.and x (dS k y z)) (some (.agg ⟨[io_ c.e,io_ c.n,fa_ c.ops.length 0 (Enc.all EOp c.ops)]⟩,ag [.cells [fb_ (fC k y) 0 (takeC (Nat.mul (fC k y) 1) (aO (atN k 1) (bc r))), .bool (neI 0 0)] 148 true])))))))):=by kernel_rfl
def aga:Pol:=fun t=>match Nat.beq t 56 with
 |true=>some [.val, .val, .val, .val, .own, .val, .val, .own]
 |false=>aB t
def mgC(m:MsgM)(a b:Nat):List Value:=[.int .i64 m.k, .int .i64 m.e, .int .u8 m.ro, .int .i64 m.en,lsV a m.st.length, .int .i64 m.fr, .int .i64 m.pv,lsV b m.cs.length]
def wO:MsgM:=⟨0,0,0,0,[],0,0,[]⟩
def deB(l:List UInt8)(m:MsgM):List Blk:=[.cells (mgC wO 3 4) 56 true]++lrB l 0 false++[.cells (mgC m 5 6) 56 true, .cells [] 109 false, .cells [] 47 false, .cells (ESa.all m.st) 109 false, .cells (ECm.all m.cs) 47 false]
def deV(n:Int):List Value:=[ptV 0,ptV 1,ptV 2, .int .i64 n]
def Dd1:HeadX:=⟨3,102,[2,4,5,6],[.val, .val, .val, .val],[0,0,0,0],aga⟩
def Bd1:Code:=(di P 53 1).getD .skip
theorem Ig:di P 53 1=some Bd1:=by kernel_rfl
theorem Ry:Occ P 53 (.block 1 (.loop Bd1)):=dN Ig
def Dd3:HeadX:=⟨3,102,[2,4,5,7],[.val, .val, .val, .val],[0,0,0,0],aga⟩
def Bd3:Code:=(di P 53 3).getD .skip
theorem Io:di P 53 3=some Bd3:=by kernel_rfl
theorem SN:Occ P 53 (.block 3 (.loop Bd3)):=dN Io
theorem af6(C:List UInt8->Int->Bool)(X:List UInt8->Int)(R:List UInt8->List UInt8)(l:List UInt8)(m:MsgM)(n:Int):aU P E (ak P aB 1 97 (Oy C X R) ctF) 50 53 Bd1 Dd1 (deV n) (deB l m) =
 (let z:=Nat.beq 0 0;let y:=Nat.beq 148 148;let x:=Bool.not false;let w:=List.map byteOf (bc l);let v:=List.map byteOf (bc (R w));let u:=m.st.length;let t:=Nat.add u 1;let s:=Enc.all ESa m.st;let r:=sl_ 5 u;let q:=List.append (jC 0 s) [io_ (X w),io_ (X v)];let p:=m.cs.length;let o:=Enc.all ECm m.cs;
 let k:=io_ 0;let j:=Blk.cells [k,k, .int .u8 0,k,sl_ 3 0,k,k,sl_ 4 0] 56 true;let i:=Value.bool false;let h:=Value.int .u8 m.ro;let g:=Blk.cells [] 109 false;let f:=Blk.cells [] 47 false;let e:=ro_ [0,3,19,4];let d:=ro_ [0,3,7,4];
 (aj (gtI n 0) (ae (Bool.and (Bool.and (Bool.and (Bool.and (fw_ l.length (bc l)) z) y) x) (C w 1048576)) (ae (Bool.and (Bool.and (Bool.and (Bool.and (fw_ (List.length (R w)) (bc (R w))) z) y) x) (C v 1048576)) (ae (Nat.ble t 4194304) (ae (Nat.beq (Nat.add 0 (Nat.mul u 2)) s.length) (ae (bz r r) (ae (bz r r) (nb_ t 2 q (nb_ p 3 o (some (.tuple ⟨[k,pt_ 0,pt_ 1,pt_ 2,io_ (dJ .i64 n 1)]⟩,ag [j, .cells [fb_ (List.length (R v)) 0 (bc (R v)),i] 148 true, .cells [io_ m.k,io_ m.e,h,io_ m.en,sl_ 5 t,io_ m.fr,io_ m.pv,sl_ 6 p] 56 true,g,f,lb_ e t 2 q 109,lb_ e p 3 o 47])))))))))) (nb_ u 2 s (nb_ p 3 o (some (.tuple ⟨[io_ 2,pt_ 0,pt_ 1,pt_ 2,io_ n]⟩,ag [j, .cells [fb_ l.length 0 (bc l),i] 148 true, .cells [io_ m.k,io_ m.e,h,io_ m.en,r,io_ m.fr,io_ m.pv,sl_ 6 p] 56 true,g,f,lb_ d u 2 s 109,lb_ d p 3 o 47])))))):=by kernel_rfl
theorem ag8(C:List Value->List Blk->Bool)(c:CmM)(l r:List UInt8)(m:MsgM)(n:Int):aU P E (ak P aB 1 98 (aP C (.leaf (cmV c,lrB r 0 false))) ctF) 50 53 Bd3 Dd3 (deV n) (deB l m) =
 (let z:=pt_ 0;let y:=Value.bool false;let x:=Blk.cells [fb_ l.length 0 (bc l),y] 148 true;let w:=m.cs.length;let v:=Nat.add w 1;let u:=Enc.all ECm m.cs;let t:=sl_ 6 w;let s:=m.st.length;let q:=Enc.all ESa m.st;let p:=List.append (jC 0 u) [io_ c.e,io_ c.n,fa_ c.ops.length 0 (Enc.all EOp c.ops)];
 let o:=io_ 0;let k:=Blk.cells [o,o, .int .u8 0,o,sl_ 3 0,o,o,sl_ 4 0] 56 true;let j:=Value.int .u8 m.ro;let i:=Blk.cells [] 109 false;let h:=Blk.cells [] 47 false;let g:=ro_ [0,3,16,4];let f:=ro_ [0,3,7,4];
 (aj (gtI n 0) (ae (C [z] [x]) (ae (Nat.ble v 4194304) (ae (Nat.beq (Nat.add 0 (Nat.mul w 3)) u.length) (ae (bz t t) (nb_ s 2 q (nb_ v 3 p (some (.tuple ⟨[o,z,pt_ 1,pt_ 2,io_ (dJ .i64 n 1)]⟩,ag [k, .cells [fb_ r.length 0 (bc r),y] 148 true, .cells [io_ m.k,io_ m.e,j,io_ m.en,sl_ 5 s,io_ m.fr,io_ m.pv,sl_ 6 v] 56 true,i,h,lb_ g s 2 q 109,lb_ g v 3 p 47])))))))) (nb_ s 2 q (nb_ w 3 u (some (.tuple ⟨[io_ 4,z,pt_ 1,pt_ 2,io_ n]⟩,ag [k,x, .cells [io_ m.k,io_ m.e,j,io_ m.en,sl_ 5 s,io_ m.fr,io_ m.pv,t] 56 true,i,h,lb_ f s 2 q 109,lb_ f w 3 u 47])))))):=by kernel_rfl
def rF:Pol:=fun t=>match Nat.beq t 56 with
 |true=>some [.val, .val, .val, .val, .val, .val, .val, .val]
 |false=>aB t
def ZM:HeadX:=⟨3,102,[2,4,5,6],[.val, .val, .val, .val],[0,0,0,0],rF⟩
def ZK:HeadX:=⟨3,102,[2,4,5,7],[.val, .val, .val, .val],[0,0,0,0],rF⟩
theorem acf(l:List UInt8)(m:MsgM):aU P E ctF 50 53 Bd1 ZM (deV 0) (deB l m) =
 (let z:=m.st.length;let y:=Enc.all ESa m.st;let x:=m.cs.length;let w:=Enc.all ECm m.cs;let v:=io_ 0;
 (ae (fq_ z y 109) (ae (fq_ x w 47) (some (.tuple ⟨[io_ 2,pt_ 0,pt_ 1,pt_ 2,v]⟩,ag [.cells [v,v, .int .u8 0,v,fc_ 0 0 [],v,v,fa_ 0 0 []] 56 true, .cells [fb_ l.length 0 (bc l), .bool false] 148 true, .cells [io_ m.k,io_ m.e, .int .u8 m.ro,io_ m.en,fc_ z 0 (takeC (Nat.mul z 2) (aO 0 y)),io_ m.fr,io_ m.pv,fa_ x 0 (takeC (Nat.mul x 3) (aO 0 w))] 56 true]))))):=by kernel_rfl
theorem acO(l:List UInt8)(m:MsgM):aU P E ctF 50 53 Bd3 ZK (deV 0) (deB l m) =
 (let z:=m.st.length;let y:=Enc.all ESa m.st;let x:=m.cs.length;let w:=Enc.all ECm m.cs;let v:=io_ 0;
 (ae (fq_ z y 109) (ae (fq_ x w 47) (some (.tuple ⟨[io_ 4,pt_ 0,pt_ 1,pt_ 2,v]⟩,ag [.cells [v,v, .int .u8 0,v,fc_ 0 0 [],v,v,fa_ 0 0 []] 56 true, .cells [fb_ l.length 0 (bc l), .bool false] 148 true, .cells [io_ m.k,io_ m.e, .int .u8 m.ro,io_ m.en,fc_ z 0 (takeC (Nat.mul z 2) (aO 0 y)),io_ m.fr,io_ m.pv,fa_ x 0 (takeC (Nat.mul x 3) (aO 0 w))] 56 true]))))):=by kernel_rfl
def mgV(m:MsgM):List Value:=[.int .i64 m.k, .int .i64 m.e, .int .u8 m.ro, .int .i64 m.en,dC m.st, .int .i64 m.fr, .int .i64 m.pv,aQ m.cs]
def deX(l:List UInt8)(m:MsgM):List Blk:=[.cells (mgV wO) 56 true]++lrB l 0 false++[.cells (mgV m) 56 true]
def ag2(C:List UInt8->Int->Bool)(X:List UInt8->Int)(R:List UInt8->List UInt8)(C1 C3 C4:List Value->List Blk->Bool)(m1 m3:MsgM):Ct:=ak P aB 1 97 (Oy C X R) (dX P 53 1 Dd1 (gX C1 (.leaf (.normal,deV 0,deX [] m1))) (dX P 53 3 Dd3 (gX C3 (.leaf (.normal,deV 0,deX [] m3))) (ak P rF 0 48 (aP C4 (.leaf (.int .i64 0,[]))) ctF)))
def agx:Pol:=fun t=>match Nat.beq t 56 with
 |true=>some [.val, .val, .val, .val, .val, .val, .val, .own]
 |false=>aB t
def ahA(C1 C2:List Value->List Blk->Bool)(o:List (Int×Int)):Ct:=ak P aB 0 74 (aP C1 (.leaf (yM (0,0),[]))) (ak P aB 0 163 (aP C2 (.leaf (.tuple ⟨[dC o, .agg ⟨[.int .i64 0, .int .i64 0]⟩]⟩,[]))) ctF)
theorem aeb(C1 C2:List Value->List Blk->Bool)(o:List (Int×Int))(e ro:Int)(l:List CmM):rW P E (ahA C1 C2 o) 50 aB [.val, .val, .val, .val, .val, .val, .val, .val, .val] [0,0,0,0,54,0,0,35,0] 0 [] 125 [.int .i64 e, .int .u8 ro,aQ l] [] =
 (let z:=io_ 0;let y:=fa_ 0 0 [];let x:=Value.agg ⟨[z,z, .int .u8 0,z,fc_ 0 0 [],z,z,y]⟩;let w:=ag [];let v:=some (Value.tuple ⟨[x,io_ 2]⟩,w);let u:=l.length;let t:=Enc.all ECm l;let s:=fa_ u 0 t;let r:=ah u;let q:=dJ .i64 r 1;let p:=Nat.add (atN q 3) 0;let n:=aj (ltI ro 1) v (aj (gtI ro 3) v (ae (C2 [s] []) (some (.tuple ⟨[.agg ⟨[io_ 1,io_ e, .int .u8 ro,io_ r,fc_ o.length 0 (Enc.all ESa o),z,z,y]⟩,z]⟩,w))));
 (aj (ltI e 1) v (aj (gtI e 1048576) v (ae (C1 [z,z,s] []) (aj (gtI r 0) (ae (Bool.and (Nat.beq 3 3) (inI q u)) (ae (Bool.and (Nat.ble (Nat.add p 1) t.length) (gm (.int .i64) (aV t p))) (aj (gtI (asI (aV t p)) e) (some (.tuple ⟨[x,io_ 15]⟩,w)) n))) n))))):=by kernel_rfl
def Dnx:HeadX:=⟨2,67,[6,7,9,52,53,54],[.val, .val, .val, .val, .val, .val],[0,0,0,35,0,0],agx⟩
def Bnx:Code:=(di P 126 0).getD .skip
theorem VX:di P 126 0=some Bnx:=by kernel_rfl
theorem Rj:Occ P 126 (.block 0 (.loop Bnx)):=dN VX
def nxB(e fr pv:Int)(cs:List CmM):List Blk:=[.cells [.int .i64 0, .int .i64 0, .int .u8 0, .int .i64 0,ax 2 0 0 [], .int .i64 0, .int .i64 0,lsV 2 0] 56 true, .cells [.int .i64 2, .int .i64 e, .int .u8 0, .int .i64 0,ax 2 0 0 [], .int .i64 fr, .int .i64 pv,lsV 3 cs.length] 56 true, .cells [] 47 false, .cells (ECm.all cs) 47 false]
def nxV(l:List CmM)(i:Int):List Value:=[ptV 0, .int .i64 0,ptV 1,aQ l, .int .i64 (ah l.length), .int .i64 i]
theorem Yk(C1:List Value->List Blk->Bool)(c:CmM)(e fr pv:Int)(cs l:List CmM)(i:Int):aU P E (wL C1 c) 50 126 Bnx Dnx (nxV l i) (nxB e fr pv cs) =
 (let z:=l.length;let y:=atN i 3;let x:=Enc.all ECm l;let w:=Eta.int .i64;let v:=Nat.add y 1;let u:=aV x (Nat.add v 1);let t:=cs.length;let s:=Nat.add t 1;let r:=Enc.all ECm cs;let q:=sl_ 3 t;let p:=List.append (jC 0 r) [io_ c.e,io_ c.n,fa_ c.ops.length 0 (Enc.all EOp c.ops)];let o:=io_ 0;
 let n:=fa_ z 0 x;let m:=io_ (ah z);let k:=Value.int .u8 0;let j:=fc_ 0 0 [];let h:=Blk.cells [o,o,k,o,j,o,o,sl_ 2 0] 56 true;let g:=Blk.cells [] 47 false;
 (aj (ltI i (ah z)) (ae (Bool.and (Nat.beq 3 3) (inI i z)) (ae (Bool.and (Nat.ble (Nat.add y 3) x.length) (jg [w,w, .slice 3] x y)) (ae (C1 [.agg ⟨[io_ (asI (aV x y)),io_ (asI (aV x v)),fa_ (zN u) (zB u) (zC u)]⟩] []) (ae (Nat.ble s 4194304) (ae (Nat.beq (Nat.add 0 (Nat.mul t 3)) r.length) (ae (bz q q) (nb_ s 3 p (some (.tuple ⟨[o,pt_ 0,o,pt_ 1,n,m,io_ (bM .i64 i 1)]⟩,ag [h, .cells [io_ 2,io_ e,k,o,j,io_ fr,io_ pv,sl_ 3 s] 56 true,g,lb_ (bQ 0 [0,1,14,15]) s 3 p 47]))))))))) (nb_ t 3 r (some (.tuple ⟨[io_ 1,pt_ 0,o,pt_ 1,n,m,io_ i]⟩,ag [h, .cells [io_ 2,io_ e,k,o,j,io_ fr,io_ pv,q] 56 true,g,lb_ (bQ 0 [0,1,4,5]) t 3 r 47]))))):=by kernel_rfl
def aip(C1 C2:List Value->List Blk->Bool)(e fr pv:Int)(l:List CmM):Ct:=ak P aB 0 74 (aP C1 (.leaf (yM (0,0),[]))) (dX P 126 0 Dnx (gX C2 (.leaf (.normal,nxV l (ah l.length),nxB e fr pv l))) ctF)
theorem aeT(C1 C2:List Value->List Blk->Bool)(e fr pv:Int)(l log:List CmM)(kn:Int):rW P E (aip C1 C2 e fr pv l) 50 agx [.val, .val, .val, .val, .val, .val, .val, .val, .val] [0,0,0,0,54,0,0,35,0] 0 [] 126 [.int .i64 e,aQ log, .int .i64 kn] [] =
 (let z:=io_ 0;let y:=Value.int .u8 0;let x:=fc_ 0 0 [];let w:=Value.agg ⟨[z,z,y,z,x,z,z,fa_ 0 0 []]⟩;let v:=io_ 2;let u:=ag [];let t:=some (Value.tuple ⟨[w,v]⟩,u);let s:=log.length;let r:=Enc.all ECm log;let q:=ah s;let p:=Nat.beq 3 3;let o:=dJ .i64 q 1;let n:=Nat.add (atN o 3) 0;
 let m:=Eta.int .i64;let k:=dJ .i64 kn 1;let j:=Nat.add (atN k 3) 0;let i:=bM .i64 kn 4;let h:=Bool.and p (dS kn q s);let g:=fC kn q;let f:=aO (atN kn 3) r;let d:=[pt_ 0,z,pt_ 1,fa_ g 0 (takeC (Nat.mul g 3) f),io_ (ah g),z];let c:=Blk.cells [z,z,y,z,x,z,z,sl_ 2 0] 56 true;
 let b:=io_ e;let a:=io_ (bM .i64 kn 1);let Z:=Blk.cells [] 47 false;let Y:=[c,Blk.cells [v,b,y,z,x,a,io_ (asI (aV r j)),sl_ 3 0] 56 true,Z,Z];let X:=l.length;let W:=aG true (aT [0,2] 5) (Enc.all ECm l);let V:=ae (fq_ X W 47) (some (.tuple ⟨[.agg ⟨[v,b,y,z,x,io_ fr,io_ pv,fa_ X 0 (takeC (Nat.mul X 3) (aO 0 W))]⟩,z]⟩,u));
 let U:=Bool.and p (dS kn i s);let T:=fC kn i;let S:=[pt_ 0,z,pt_ 1,fa_ T 0 (takeC (Nat.mul T 3) f),io_ (ah T),z];let R:=[c,Blk.cells [v,b,y,z,x,a,z,sl_ 3 0] 56 true,Z,Z];let Q:=aj (ltI kn 0) t (aj (gtI kn q) t (aj (eqI kn 1048576) t (aj (gtI kn 0) (ae (Bool.and p (inI k s)) (ae (Bool.and (Nat.ble (Nat.add j 1) r.length) (gm m (aV r j))) (aj (ltI q i) (ae h (ae (C2 d Y) V)) (ae U (ae (C2 S Y) V))))) (aj (ltI q i) (ae h (ae (C2 d R) V)) (ae U (ae (C2 S R) V))))));
 (aj (ltI e 1) t (aj (gtI e 1048576) t (ae (C1 [z,z,fa_ s 0 r] []) (aj (gtI q 0) (ae (Bool.and p (inI o s)) (ae (Bool.and (Nat.ble (Nat.add n 1) r.length) (gm m (aV r n))) (aj (gtI (asI (aV r n)) e) (some (.tuple ⟨[w,io_ 15]⟩,u)) Q))) Q))))):=by kernel_rfl
theorem abP(e en:Int):rW P E ctF 50 aB [.val, .val, .val, .val, .val, .val, .val, .val, .val] [0,0,0,0,54,0,0,35,0] 0 [] 102 [.int .i64 e, .int .i64 en] [] =
 (let z:=io_ 0;let y:=Value.int .u8 0;let x:=fc_ 0 0 [];let w:=fa_ 0 0 [];let v:=some (Value.tuple ⟨[.agg ⟨[z,z,y,z,x,z,z,w]⟩,io_ 2]⟩,ag []);
 (aj (ltI e 1) v (aj (gtI e 1048576) v (aj (ltI en 0) v (aj (gtI en 1048576) v (some (.tuple ⟨[.agg ⟨[io_ 3,io_ e,y,io_ en,x,z,z,w]⟩,z]⟩,ag []))))))):=by kernel_rfl
theorem ae_(C1:List Value->List Blk->Bool)(e kn:Int)(m:MsgM):aN P E (ak P aB 0 48 (aP C1 (.leaf (.int .i64 0,[]))) ctF) 50 aB [] [] 0 99 [.int .i64 e, .int .i64 kn,mV m] [] =
 (let z:=io_ 0;let y:=Value.bool false;let x:=ag [];let w:=eqI m.k 3;let v:=Value.bool true;let u:=some (Value.tuple ⟨[io_ m.en,v,z]⟩,x);let t:=aj (gtI m.en 0) u (some (.tuple ⟨[z,v,z]⟩,x));let s:=eqI m.k 1;let r:=eqI m.ro 2;let q:=some (Value.tuple ⟨[z,y,z]⟩,x);let p:=aj (gtI m.en kn) u (some (.tuple ⟨[io_ kn,v,z]⟩,x));
 let o:=some (Value.tuple ⟨[io_ kn,y,z]⟩,x);
 (ae (C1 [me_ m] []) (aj (ltI m.e e) (some (.tuple ⟨[z,y,io_ 12]⟩,x)) (aj (gtI m.e e) (some (.tuple ⟨[z,y,io_ 2]⟩,x)) (aj (gtI 0 kn) (aj w t (aj s (aj r t q) q)) (aj w p (aj s (aj r p o) o))))))):=by kernel_rfl
def Dtf:HeadX:=⟨0,47,[0,4,23,24,25],[.val, .val, .val, .val, .val],[35,0,35,0,0],aB⟩
def Btf:Code:=(di P 137 0).getD .skip
theorem Wp:di P 137 0=some Btf:=by kernel_rfl
theorem TY:Occ P 137 (.block 0 (.loop Btf)):=dN Wp
def tfV(log l:List CmM)(i:Int):List Value:=[aQ log, .bool false,aQ l, .int .i64 (ah l.length), .int .i64 i]
theorem YJ(log l:List CmM)(i:Int):aU P E ctF 50 137 Btf Dtf (tfV log l i) [] =
 (let z:=l.length;let y:=Nat.beq 3 3;let x:=atN i 3;let w:=Enc.all ECm l;let v:=Eta.int .i64;let u:=asI (aV w (Nat.add x 1));let t:=log.length;let s:=dJ .i64 u 1;let r:=Nat.add (atN s 3) 0;let q:=Enc.all ECm log;let p:=fa_ t 0 q;let o:=Value.bool false;let n:=fa_ z 0 w;let m:=io_ (ah z);
 let k:=ag [];let j:=some (Value.tuple ⟨[io_ 0,p,o,n,m,io_ (bM .i64 i 1)]⟩,k);
 (aj (ltI i (ah z)) (ae (Bool.and y (inI i z)) (ae (Bool.and (Nat.ble (Nat.add x 3) w.length) (jg [v,v, .slice 3] w x)) (aj (leI u (ah t)) (ae (Bool.and y (inI s t)) (ae (Bool.and (Nat.ble (Nat.add r 1) q.length) (gm v (aV q r))) (aj (neI (asI (aV q r)) (asI (aV w x))) (some (.tuple ⟨[io_ (-1),p,o,n,m,io_ i]⟩,k)) j))) j))) (some (.tuple ⟨[io_ 1,p,o,n,m,io_ i]⟩,k)))):=by kernel_rfl
theorem adb(C:List Value->List Blk->Bool)(log:List CmM)(m:MsgM):aN P E (dX P 137 0 Dtf (gX C (.leaf (.normal,tfV log m.cs (ah m.cs.length),[]))) ctF) 50 aB [] [] 0 137 [aQ log,mV m] [] =
 (let z:=dJ .i64 m.fr 2;let y:=Nat.add (atN z 3) 0;let x:=Enc.all ECm log;let w:=Value.bool false;let v:=m.cs.length;let u:=ae (C [fa_ log.length 0 x,w,fa_ v 0 (Enc.all ECm m.cs),io_ (ah v),io_ 0] []) (some (.bool true,ag []));
 (aj (gtI m.fr 1) (ae (Bool.and (Nat.beq 3 3) (inI z log.length)) (ae (Bool.and (Nat.ble (Nat.add y 1) x.length) (gm (.int .i64) (aV x y))) (aj (neI (asI (aV x y)) m.pv) (some (w,ag [])) u))) u)):=by kernel_rfl
def Dtk:HeadX:=⟨0,69,[1,9,51,52,53],[.val, .own, .val, .val, .val],[35,35,35,0,0],aB⟩
def Btk:Code:=(di P 101 1).getD .skip
theorem V8:di P 101 1=some Btk:=by kernel_rfl
theorem SA:Occ P 101 (.block 1 (.loop Btk)):=dN V8
def tkV(log o l:List CmM)(i:Int):List Value:=[aQ log,lsV 0 o.length,aQ l, .int .i64 (ah l.length), .int .i64 i]
def tkB(o:List CmM):List Blk:=[.cells (ECm.all o) 47 false]
theorem XO(C1:List Value->List Blk->Bool)(c:CmM)(log o l:List CmM)(i:Int):aU P E (wL C1 c) 50 101 Btk Dtk (tkV log o l i) (tkB o) =
 (let z:=l.length;let y:=atN i 3;let x:=Enc.all ECm l;let w:=Eta.int .i64;let v:=Nat.add y 1;let u:=asI (aV x v);let t:=aV x (Nat.add v 1);let s:=o.length;let r:=Nat.add s 1;let q:=Enc.all ECm o;let p:=List.append (jC 0 q) [io_ c.e,io_ c.n,fa_ c.ops.length 0 (Enc.all EOp c.ops)];let n:=fa_ log.length 0 (Enc.all ECm log);
 let m:=fa_ z 0 x;let k:=io_ (ah z);let j:=io_ (bM .i64 i 1);
 (aj (ltI i (ah z)) (ae (Bool.and (Nat.beq 3 3) (inI i z)) (ae (Bool.and (Nat.ble (Nat.add y 3) x.length) (jg [w,w, .slice 3] x y)) (aj (gtI u (ah log.length)) (ae (C1 [.agg ⟨[io_ (asI (aV x y)),io_ u,fa_ (zN t) (zB t) (zC t)]⟩] []) (ae (Nat.ble r 4194304) (ae (Nat.beq (Nat.add 0 (Nat.mul s 3)) q.length) (nb_ r 3 p (some (.tuple ⟨[io_ 0,n,sl_ 0 r,m,k,j]⟩,ag [lb_ (bQ 0 [4]) r 3 p 47])))))) (nb_ s 3 q (some (.tuple ⟨[io_ 0,n,sl_ 0 s,m,k,j]⟩,ag [lb_ (bQ 0 [2]) s 3 q 47])))))) (nb_ s 3 q (some (.tuple ⟨[io_ 2,n,sl_ 0 s,m,k,io_ i]⟩,ag [lb_ (bQ 0 [1]) s 3 q 47]))))):=by kernel_rfl
def aiG(C1 C2 C3 C4:List Value->List Blk->Bool)(log o l:List CmM):Ct:=ak P aB 0 74 (aP C1 (.leaf (yM (0,0),[]))) (ak P aB 0 48 (aP C2 (.leaf (.int .i64 0,[]))) (ak P aB 0 137 (aP C3 (.leaf (.bool true,[]))) (dX P 101 1 Dtk (gX C4 (.leaf (.normal,tkV log o l (ah l.length),tkB o))) ctF)))
theorem acD(C1 C2 C3 C4:List Value->List Blk->Bool)(e:Int)(log o:List CmM)(m:MsgM):aN P E (aiG C1 C2 C3 C4 log o m.cs) 50 aB [.val, .val] [35,0] 0 101 [.int .i64 e,aQ log,mV m] [] =
 (let z:=io_ 0;let y:=fa_ log.length 0 (Enc.all ECm log);let x:=fa_ 0 0 [];let w:=ag [];let v:=some (Value.tuple ⟨[x,io_ 2]⟩,w);let u:=m.cs.length;let t:=o.length;let s:=aG true (aT [] 3) (Enc.all ECm o);
 (ae (C1 [z,z,y] []) (ae (C2 [me_ m] []) (aj (neI m.k 2) v (aj (ltI m.e e) (some (.tuple ⟨[x,io_ 12]⟩,w)) (aj (gtI m.e e) v (aj (gtI (dJ .i64 m.fr 1) (ah log.length)) (some (.tuple ⟨[x,io_ 13]⟩,w)) (ae (C3 [y,me_ m] []) (ae (C4 [y,sl_ 0 0,fa_ u 0 (Enc.all ECm m.cs),io_ (ah u),z] [.cells [] 47 false]) (ae (fq_ t s 47) (some (.tuple ⟨[fa_ t 0 (takeC (Nat.mul t 3) (aO 0 s)),z]⟩,w)))))))))))):=by kernel_rfl
theorem aeB(en ac mo:Int):aN P E ctF 50 aB [] [] 0 36 [.int .i64 en, .int .i64 ac, .int .i64 mo] [] =
 (let z:=ag [];let y:=some (io_ 2,z);
 (aj (ltI mo 1) y (aj (gtI mo 16) y (aj (ltI en 0) y (aj (gtI en 1048576) y (aj (ltI ac 0) y (aj (gtI ac en) y (aj (geI (dJ .i64 en ac) mo) (some (io_ 8,z)) (aj (eqI en 1048576) y (some (io_ 0,z))))))))))):=by kernel_rfl
theorem ada(en ac to:Int):aN P E ctF 50 aB [] [] 0 100 [.int .i64 en, .int .i64 ac, .int .i64 to] [] =
 (let z:=io_ 0;let y:=ag [];let x:=some (Value.tuple ⟨[z,io_ 2]⟩,y);let w:=some (Value.tuple ⟨[io_ ac,z]⟩,y);
 (aj (ltI en 0) x (aj (gtI en 1048576) x (aj (ltI ac 0) x (aj (gtI ac en) x (aj (ltI en to) (aj (gtI en ac) (some (.tuple ⟨[io_ en,z]⟩,y)) w) (aj (gtI to ac) (some (.tuple ⟨[io_ to,z]⟩,y)) w))))))):=by kernel_rfl
def ofS(o:List (Int×Int))(c:CmM):List (Int×Int):=match o.getLast? with
 |none=>o++[(c.e,c.n)]
 |some s=>match eqI s.1 c.e with
  |true=>o
  |false=>o++[(c.e,c.n)]
theorem aa_(o:List (Int×Int))(a b:Int):List.append (ESa.all o) [.int .i64 a, .int .i64 b]=ESa.all (o++[(a,b)]):=by rw[ESa.all_append]; rfl
theorem E9(l:List (Int×Int)):(ESa.all l).length=Nat.mul l.length 2:=ESa.all_length l
theorem ad1(o:List (Int×Int))(c:CmM):(ofS o c).length<=o.length+1:=by
 unfold ofS;split
 ·simp
 ·split<;>simp
theorem aax{o:List (Int×Int)}{l:List CmM}{i:Nat}(hi:i<l.length)(hl:l.length<4000)(ho:o.length<4000) :
  aU P E ctF 50 163 Bsa Dsa (saV o l i) (saB o)=some (.tuple ⟨exV .normal::saV (ofS o l[i]) l ((i+1:Nat):Int)⟩,ag (saB (ofS o l[i]))):=by
 obtain⟨g1,g2,a1⟩:=lH hi (by omega);have g4:=kW hi;have h1:Nat.add o.length 1=(o++[(l[i].e,l[i].n)]).length:=by simp
 have hl1:(o++[(l[i].e,l[i].n)]).length<=4001:=by rw[bP]; show o.length+1<=_; omega
 have b1:Nat.beq (Nat.mul o.length 2) (ESa.all o).length=true:=by rw[Ez]; exact(ESa.all_length o).symm
 rw[EP];by_cases h0:o=[]
 ·have n3:gtI (ah o.length) 0=false:=by rw[h0]; rfl
  have e:ofS o l[i]=o++[(l[i].e,l[i].n)]:=by rw[h0]; rfl
  rw[e];simp (disch:=first|omega|(simp only[bU,bY,bZ,bT,bW,aH]<;>omega)|fail) only[mz_,g1,g2,a1,g4,iL hi (dm 3),jZ hi,pR hi,qH hi,n3,h1,E9,aa_,qK rfl,iy,saV,saB,uf_,nf_]
  rfl
 ·have hp:=kY.2 h0;obtain⟨_,n3,l1,l2⟩:=mJ h0 (by omega);have hlt:o.length-1<o.length:=by omega
  have l4:=Vo hlt;have l5:Nat.ble (Nat.add (atN ((o.length-1:Nat):Int) 2) 1) (Nat.mul o.length 2)=true:=by rw[<-E9]; exact PH hlt (by decide)
  have hla:o.getLast? = some o[o.length-1]:=last_at o h0;cases he:eqI (o[o.length-1]'hlt).1 l[i].e with
  |true=>
   have e:ofS o l[i]=o:=by unfold ofS; rw[hla]; simp only[mz_,he]
   rw[e];simp (disch:=first|omega|(simp only[bU,bY,bZ,bT,bW,aH]<;>omega)|fail) only[mz_,g1,g2,a1,g4,iL hi (dm 3),jZ hi,pR hi,qH hi,n3,l1,l2,l4,l5,he,E9,qK rfl,iy,lW,saV,saB,uf_,nf_]
   rfl
  |false=>
   have e:ofS o l[i]=o++[(l[i].e,l[i].n)]:=by unfold ofS; rw[hla]; simp only[mz_,he]
   rw[e];simp (disch:=first|omega|(simp only[bU,bY,bZ,bT,bW,aH]<;>omega)|fail) only[mz_,g1,g2,a1,g4,iL hi (dm 3),jZ hi,pR hi,qH hi,n3,l1,l2,l4,l5,he,h1,E9,aa_,qK rfl,iy,lW,saV,saB,uf_,nf_]
   rfl
def ofG(o:List (Int×Int))(l:List CmM):List (Int×Int):=l.foldl ofS o
theorem N8{l:List CmM}(hl:l.length<2000):∀ (j i:Nat) (o:List (Int×Int)),o.length<=i->i+j=l.length->
  LRX P 163 0 Bsa Dsa.head (saV o l i) (saB o) .normal (saV (ofG o (l.drop i)) l l.length) (saB (ofG o (l.drop i)))
 |0,i,o,ho,h=>by
  obtain rfl:i=l.length:=by omega
  rw[qc];exact ls_ aA xN (e:= .exit 0) MH (by intro h; cases h)
 |j+1,i,o,ho,h=>by
  have hi:i<l.length:=by omega
  have h1:=ad1 o l[i];have ih:=N8 hl j (i+1) (ofS o l[i]) (by omega) (by omega);have e:ofG o (l.drop i)=ofG (ofS o l[i]) (l.drop (i+1)):=by rw[lu hi]; rfl
  rw[e];exact la_ aA xN (aax hi (by omega) (by omega)) ih
theorem aeN{l:List CmM}(hl:l.length<2000)(hf:fA 0 0 0 l=(0,0)) :
  CRX P 0 163 [aQ l] [] (.tuple ⟨[dC (ofG [] l), .agg ⟨[.int .i64 0, .int .i64 0]⟩]⟩) []:=by
 have q1:=pq (e:=0) (n:=0) (l:=l) (by omega) (by
  intro x hx;obtain⟨_,_,hb⟩:=fU.1 (mr hf x hx);obtain⟨b1,b2,b3⟩:=dM.1 hb
  omega)
 rw[hf]at q1;have q2:=N8 hl l.length 0 [] (by simp) (by omega);rw[iQ]at q2;refine CRX.ofF (pol:=aB) (fl:=[.val, .val, .val]) (ts:=[54,0,0]) (n:=50) (kb:=[]) (dU _) bK (af (dB aA (d_ (bJ OE) q2)) (az q1)) ((QN (ay [.int .i64 0, .int .i64 0,aQ l] []) (ay (saV [] l (0:Nat)) (saB [])) l (ofG [] l)).trans ?_);clear q1 q2;have z0:((0:Nat):Int)=0:=rfl;have n1:([]:List (Int×Int)).length=0:=rfl;have n2:ESa.all ([]:List (Int×Int))=[]:=rfl;simp (disch:=first|omega|(simp only[bU,bY,bZ,bT,bW,aH]<;>omega)|fail) only[mz_,z0,n1,n2,qK rfl,dC,cZ,Iy rfl,saV,saB,uf_,nf_]
theorem yl{l:List CmM}(hl:l.length<4000)(h0:l≠[]):gtI (ah l.length) 0=true/\inI (dJ .i64 (ah l.length) 1) l.length=true/\Nat.ble (Nat.add (Nat.add (atN (dJ .i64 (ah l.length) 1) 3) 0) 1) (Nat.mul l.length 3)=true/\
  aV (ECm.all l) (Nat.add (atN (dJ .i64 (ah l.length) 1) 3) 0) = .int .i64 (aY l):=by
 have hp:=kY.2 h0;obtain⟨_,l0,l1,l2⟩:=mJ h0 (by omega);have l4:=jZ (l:=l) (i:=l.length-1) (by omega);have l5:=qw (n:=l.length) (k:=1) hp (by decide);rw[l1];refine⟨l0,l2,l5,?_⟩;rw[nU h0];exact l4
theorem xH{l:List CmM}{e n:Int}{i:Nat}(hf:fA e n i l=(0,0)):∀ c∈l,1<=c.ops.length/\c.ops.length<=8:=fun c hc=>by
 obtain⟨_,_,hb⟩:=fU.1 (mr hf c hc);obtain⟨b1,b2,b3⟩:=dM.1 hb;exact⟨b1,b2⟩
theorem Aw{e ro:Int}{l:List CmM}(hl:l.length<2000)(hf:fA 0 0 0 l=(0,0))(he:1<=e/\e<=1048576)(hE:aY l<=e)(hr:1<=ro/\ro<=3) :
  CRX P 0 125 [.int .i64 e, .int .u8 ro,aQ l] [] (.tuple ⟨[mV ⟨1,e,ro,(l.length:Int),ofG [] l,0,0,[]⟩, .int .i64 0]⟩) []:=by
 have q1:=pq (e:=0) (n:=0) (l:=l) (by omega) (fun c hc=>by have:=xH hf c hc; omega);rw[hf]at q1;have q2:=aeN hl hf;refine cF_ (af (af aA (az q2)) (az q1)) ((aeb (ay [.int .i64 0, .int .i64 0,aQ l] []) (ay [aQ l] []) (ofG [] l) e ro l).trans ?_);clear q1 q2;have g1:ltI e 1=false:=lF_ (by omega);have g2:gtI e 1048576=false:=gF_ (by omega);have g3:ltI ro 1=false:=lF_ (by omega);have g4:gtI ro 3=false:=gF_ (by omega);have n3:([]:List CmM).length=0:=rfl;have n4:ECm.all ([]:List CmM)=[]:=rfl;by_cases h0:l=[]
 ·have f1:gtI (ah l.length) 0=false:=by rw[h0]; rfl
  simp only[mz_,g1,g2,g3,g4,f1,n3,n4,mV,dC,cZ,aQ,dY,bC,aW,bg]
  rfl
 ·obtain⟨f1,f2,f3,f4⟩:=yl (by omega) h0;have f5:gtI (aY l) e=false:=gF_ (by omega);simp only[mz_,g1,g2,g3,g4,f1,f2,f3,f4,f5,iy,lW,mZ,n3,n4,mV,dC,cZ,aQ,dY,bC,show Nat.beq 3 3=true from rfl,fV,aW,bu,bg]
  rfl
theorem ZI{e fr pv:Int}{cs l:List CmM}{i:Nat}(hi:i<l.length)(hl:l.length<4194304)(ho:cs.length<4194300) :
  aU P E (wL (ay [cmV l[i]] []) l[i]) 50 126 Bnx Dnx (nxV l i) (nxB e fr pv cs)=some (.tuple ⟨exV .normal::nxV l ((i+1:Nat):Int)⟩,ag (nxB e fr pv (cs++[l[i]]))):=by
 obtain⟨g1,g2,a1⟩:=lH hi hl;have g4:=kW hi;have h1:(cs++[l[i]]).length=Nat.add cs.length 1:=by simp
 rw[Yk];simp (disch:=first|omega|(simp only[bU,bY,bZ,bT,bW,aH]<;>omega)|fail) only[mz_,g1,g2,a1,g4,iL hi (dm 3),jZ hi,pR hi,qH hi,iy,zF,nxV,nxB,cZ,h1,vN,uf_,aZ rfl,aZ h1.symm,nf_]
 rfl
theorem agh{C:List Value->List Blk->Bool}{c:CmM}{e fr pv:Int}{cs l:List CmM} :
  aU P E (wL C c) 50 126 Bnx Dnx (nxV l l.length) (nxB e fr pv cs)=some (.tuple ⟨exV (.exit 0)::nxV l l.length⟩,ag (nxB e fr pv cs)):=by
 rw[Yk];simp only[mz_,kU,nxV,nxB,cZ,uf_,aZ rfl,nf_]
 rfl
theorem TI{l:List CmM}{e fr pv:Int}(hl:l.length<1000)(hc:∀ c∈l,1<=c.ops.length/\c.ops.length<=8):∀ (j i:Nat) (cs:List CmM),cs.length+j<4194300->i+j=l.length->
  LRX P 126 0 Bnx Dnx.head (nxV l i) (nxB e fr pv cs) .normal (nxV l l.length) (nxB e fr pv (cs++l.drop i))
 |0,i,cs,h1,h=>by
  obtain rfl:i=l.length:=by omega
  rw[qc,gG];exact ls_ (af aA (fF (r:= .leaf (cmV ⟨0,0,[]⟩,[])))) Rj (e:= .exit 0) (agh (C:=fun _ _=>false) (c:=⟨0,0,[]⟩)) (by intro h; cases h)
 |j+1,i,cs,h1,h=>by
  have hi:i<l.length:=by omega
  obtain⟨b1,b2⟩:=hc _ (kQ hi);have ih:=TI (e:=e) (fr:=fr) (pv:=pv) hl hc j (i+1) (cs++[l[i]]) (by simp; omega) (by omega);have e':(cs++[l[i]])++l.drop (i+1)=cs++l.drop i:=by rw[fG,lu hi]; rfl
  rw[e']at ih;exact la_ (af aA (az (tY b1 (by omega)))) Rj (ZI hi (by omega) (by omega)) ih
def shM(log:List CmM)(kn:Nat):List CmM:=(log.drop kn).take 4
def GM(e:Int)(log:List CmM)(kn:Nat):MsgM:=⟨2,e,0,0,[],(kn:Int)+1,aY (log.take kn),shM log kn⟩
theorem acA{log:List CmM}{kn m:Nat}(h:kn+m<=log.length):takeC (Nat.mul m 3) (aO (atN (kn:Int) 3) (ECm.all log))=ECm.all ((log.drop kn).take m):=by
 have a:atN (kn:Int) 3=Nat.mul kn 3:=by show((kn:Nat):Int).toNat*3=kn*3; omega
 have h1:=Dy (lg:=log) (k:=kn) (m:=log.length-kn) (by omega);have h2:(log.drop kn).length=log.length-kn:=gZ;have h3:takeC (Nat.mul (log.length-kn) 3) (aO (Nat.mul kn 3) (ECm.all log))=aO (Nat.mul kn 3) (ECm.all log):=by
  unfold takeC aO;apply oC;rw[gZ,mZ];show log.length*3-kn*3<=(log.length-kn)*3;omega
 rw[h3]at h1;rw[a,h1];have h4:=ECm.all_take m (log.drop kn);exact h4
theorem ac3{e:Int}{log:List CmM}{kn:Nat}(hl:log.length<2000)(hf:fA 0 0 0 log=(0,0))(he:1<=e/\e<=1048576)(hE:aY log<=e)(hk:kn<=log.length) :
  CRX P 0 126 [.int .i64 e,aQ log, .int .i64 (kn:Int)] [] (.tuple ⟨[mV (GM e log kn), .int .i64 0]⟩) []:=by
 have hops:=xH hf;have q1:=pq (e:=0) (n:=0) (l:=log) (by omega) (fun c hc=>by have:=hops c hc; omega);rw[hf]at q1;have hsl:(shM log kn).length=min 4 (log.length-kn):=by unfold shM; rw[fH,gZ]
 have q2:=TI (l:=shM log kn) (e:=e) (fr:=(kn:Int)+1) (pv:=aY (log.take kn)) (by omega) (fun c hc=>hops c (Et (oW hc))) (shM log kn).length 0 [] (by show 0+_<_; omega) (by omega);rw[iQ,iY]at q2;refine cF_ (af (dB aA (d_ (bJ VX) q2)) (az q1)) ((aeT (ay [.int .i64 0, .int .i64 0,aQ log] []) (ay (nxV (shM log kn) (0:Nat)) (nxB e ((kn:Int)+1) (aY (log.take kn)) [])) e ((kn:Int)+1) (aY (log.take kn)) (shM log kn) log kn).trans ?_);clear q1 q2;have g1:ltI e 1=false:=lF_ (by omega);have g2:gtI e 1048576=false:=gF_ (by omega);have g3:ltI (kn:Int) 0=false:=lF_ (by omega);have g4:gtI (kn:Int) (ah log.length)=false:=gF_ (by unfold ah; omega);have g5:eqI (kn:Int) 1048576=false:=eF_ (by omega);have g6:bM .i64 (kn:Int) 1=(kn:Int)+1:=by unfold bM; exact wrap64 (by omega) (by omega)
 have g7:bM .i64 (kn:Int) 4=((kn+4:Nat):Int):=by unfold bM; rw[wrap64 (by omega) (by omega)]; omega
 have z0:((0:Nat):Int)=0:=rfl;have n3:([]:List CmM).length=0:=rfl;have n4:ECm.all ([]:List CmM)=[]:=rfl;have n5:([]:List (Int×Int)).length=0:=rfl;have n6:ESa.all ([]:List (Int×Int))=[]:=rfl;have hp:(log=[]/\gtI (ah log.length) 0=false)\/(log≠[]/\gtI (ah log.length) 0=true):=by
  by_cases h0:log=[]
  ·exact Or.inl ⟨h0,by rw[h0]; rfl⟩
  ·exact Or.inr ⟨h0,(yl (by omega) h0).1⟩
 have hm:(ltI (ah log.length) ((kn+4:Nat):Int)=true/\dS (kn:Int) (ah log.length) log.length=true/\fC (kn:Int) (ah log.length)=(shM log kn).length)\/(ltI (ah log.length) ((kn+4:Nat):Int)=false/\dS (kn:Int) ((kn+4:Nat):Int) log.length=true/\fC (kn:Int) ((kn+4:Nat):Int)=(shM log kn).length):=by
  by_cases h:log.length<kn+4
  ·exact Or.inl ⟨lT_ (by unfold ah; omega),by unfold dS ah; exact eU (by omega),by unfold fC ah; rw[hsl]; omega⟩
  ·exact Or.inr ⟨lF_ (by unfold ah; omega),by unfold dS; exact eU (by omega),by unfold fC; rw[hsl]; omega⟩
 have ht:=acA (log:=log) (kn:=kn) (m:=(shM log kn).length) (by rw[hsl]; omega);have hts:(log.drop kn).take (shM log kn).length=shM log kn:=by rw[hsl]; unfold shM; rw[<-gZ,<-List.take_eq_take_min]
 rw[hts]at ht;by_cases hk0:kn=0
 ·have f1:gtI (kn:Int) 0=false:=by rw[hk0]; rfl
  have f2:aY (log.take kn)=0:=by rw[hk0,List.take_zero]; rfl
  rcases hp with⟨p1,p2⟩ | ⟨p1,p2⟩
  ·rcases hm with⟨m1,m2,m3⟩ | ⟨m1,m2,m3⟩<;>simp only[mz_,f1,f2,z0,g1,g2,g3,g4,g5,g6,g7,p2,m1,m2,m3,ht,n3,n4,n5,n6,GM,nxV,nxB,mV,dC,cZ,aQ,dY,uf_,v_ rfl,aZ rfl,nf_,show Nat.beq 3 3=true from rfl,fV]
  ·obtain⟨y1,y2,y3,y4⟩:=yl (by omega) p1;have y5:gtI (aY log) e=false:=gF_ (by omega);rcases hm with⟨m1,m2,m3⟩ | ⟨m1,m2,m3⟩<;>simp only[mz_,f1,f2,z0,g1,g2,g3,g4,g5,g6,g7,y1,y2,y3,y4,y5,iy,lW,mZ,m1,m2,m3,ht,n3,n4,n5,n6,GM,nxV,nxB,mV,dC,cZ,aQ,dY,uf_,v_ rfl,aZ rfl,nf_,show Nat.beq 3 3=true from rfl,fV]
 ·have f1:gtI (kn:Int) 0=true:=gT_ (by omega);have p1:log≠[]:=by intro h; rw[h]at hk; simp at hk; omega
  obtain⟨y1,y2,y3,y4⟩:=yl (by omega) p1;have y5:gtI (aY log) e=false:=gF_ (by omega);have f3:dJ .i64 (kn:Int) 1=((kn-1:Nat):Int):=by unfold dJ; rw[wrap64 (by omega) (by omega)]; omega
  have f4:inI ((kn-1:Nat):Int) log.length=true:=jl (by omega) (by omega);have f5:Nat.ble (Nat.add (Nat.add (atN ((kn-1:Nat):Int) 3) 0) 1) (Nat.mul log.length 3)=true:=iL (i:=kn-1) (n:=log.length) (k:=1) (by omega) (by decide);have f6:aV (ECm.all log) (Nat.add (atN ((kn-1:Nat):Int) 3) 0) = .int .i64 (aY (log.take kn)):=by
   have h:=jZ (l:=log) (i:=kn-1) (by omega);have h2:(log.take kn)≠[]:=by
    intro h;have h9:(log.take kn).length=0:=by rw[h]; rfl
    rw[fH]at h9; omega
   have h3:(log.take kn).length=kn:=by rw[fH]; omega
   have h4:aY (log.take kn)=(log[kn-1]'(by omega)).e:=by
    rw[nU h2,List.getElem_take];simp only[mz_,h3]
   rw[h4];exact h
  rcases hm with⟨m1,m2,m3⟩ | ⟨m1,m2,m3⟩<;>simp only[mz_,f1,f3,f4,f5,f6,z0,g1,g2,g3,g4,g5,g6,g7,y1,y2,y3,y4,y5,iy,lW,mZ,m1,m2,m3,ht,n3,n4,n5,n6,GM,nxV,nxB,mV,dC,cZ,aQ,dY,uf_,v_ rfl,aZ rfl,nf_,show Nat.beq 3 3=true from rfl,fV]
theorem adU{e en:Int}(he:1<=e/\e<=1048576)(hn:0<=en/\en<=1048576):CRX P 0 102 [.int .i64 e, .int .i64 en] [] (.tuple ⟨[mV ⟨3,e,0,en,[],0,0,[]⟩, .int .i64 0]⟩) []:=by
 refine cF_ aA ((abP e en).trans ?_);have g1:ltI e 1=false:=lF_ (by omega);have g2:gtI e 1048576=false:=gF_ (by omega);have g3:ltI en 0=false:=lF_ (by omega);have g4:gtI en 1048576=false:=gF_ (by omega);simp only[mz_,g1,g2,g3,g4,bg];have n3:([]:List CmM).length=0:=rfl;have n4:ECm.all ([]:List CmM)=[]:=rfl;have n5:([]:List (Int×Int)).length=0:=rfl;have n6:ESa.all ([]:List (Int×Int))=[]:=rfl;simp only[mz_,mV,dC,cZ,aQ,dY,n3,n4,n5,n6]
theorem RS{en ac mo:Int}(hm:1<=mo/\mo<=16)(hn:0<=ac/\ac<=en/\en<1048576):CRX P 0 36 [.int .i64 en, .int .i64 ac, .int .i64 mo] [] (.int .i64 (bif decide (mo<=en-ac)then 8 else 0)) []:=by
 refine co_ aA ((aeB en ac mo).trans ?_);have g1:ltI mo 1=false:=lF_ (by omega);have g2:gtI mo 16=false:=gF_ (by omega);have g3:ltI en 0=false:=lF_ (by omega);have g4:gtI en 1048576=false:=gF_ (by omega);have g5:ltI ac 0=false:=lF_ (by omega);have g6:gtI ac en=false:=gF_ (by omega);have g7:eqI en 1048576=false:=eF_ (by omega);have g8:geI (dJ .i64 en ac) mo=decide (mo<=en-ac):=by unfold geI dJ; rw[wrap64 (by omega) (by omega)]
 simp only[mz_,g1,g2,g3,g4,g5,g6,g7,g8,bg];cases decide (mo<=en-ac)<;>rfl
theorem aeY{en ac to:Int}(hn:0<=ac/\ac<=en/\en<=1048576):CRX P 0 100 [.int .i64 en, .int .i64 ac, .int .i64 to] [] (.tuple ⟨[.int .i64 (max ac (min to en)), .int .i64 0]⟩) []:=by
 refine co_ aA ((ada en ac to).trans ?_);have g3:ltI en 0=false:=lF_ (by omega);have g4:gtI en 1048576=false:=gF_ (by omega);have g5:ltI ac 0=false:=lF_ (by omega);have g6:gtI ac en=false:=gF_ (by omega);simp only[mz_,g3,g4,g5,g6,bg];by_cases h:en<to
 ·have h1:ltI en to=true:=lT_ h;by_cases h2:ac<en
  ·have h3:gtI en ac=true:=gT_ h2;simp only[mz_,h1,h3,bu];rw[show max ac (min to en)=en by omega]
  ·have h3:gtI en ac=false:=gF_ (by omega);simp only[mz_,h1,h3,bu,bg];rw[show max ac (min to en)=ac by omega]
 ·have h1:ltI en to=false:=lF_ h;by_cases h2:ac<to
  ·have h3:gtI to ac=true:=gT_ h2;simp only[mz_,h1,h3,bu,bg];rw[show max ac (min to en)=to by omega]
  ·have h3:gtI to ac=false:=gF_ (by omega);simp only[mz_,h1,h3,bg];rw[show max ac (min to en)=ac by omega]
def tells(m:MsgM):Bool:=eqI m.k 3 || (eqI m.k 1&&eqI m.ro 2)
theorem Ru{e kn:Int}{m:MsgM}(hm:m.e=e)(q:CRX P 0 48 [mV m] [] (.int .i64 0) []) :
  CRX P 0 99 [.int .i64 e, .int .i64 kn,mV m] [] (.tuple ⟨[.int .i64 (bif tells m then max (max kn 0) m.en else max kn 0), .bool (tells m), .int .i64 0]⟩) []:=by
 refine co_ (af aA (az q)) ((ae_ (ay [mV m] []) e kn m).trans ?_);have g1:ltI m.e e=false:=lF_ (by omega);have g2:gtI m.e e=false:=gF_ (by omega);simp only[me_,mz_,g1,g2,mV,dC,cZ,aQ,dY,bC,aW,bg];clear q;have k1:(gtI 0 kn=true/\max kn 0=0)\/(gtI 0 kn=false/\max kn 0=kn):=by
  by_cases h:kn<0
  ·exact Or.inl ⟨gT_ h,by omega⟩
  ·exact Or.inr ⟨gF_ h,by omega⟩
 have k2:∀ x:Int,(gtI m.en x=true/\max x m.en=m.en)\/(gtI m.en x=false/\max x m.en=x):=fun x=>by
  by_cases h:x<m.en
  ·exact Or.inl ⟨gT_ h,by omega⟩
  ·exact Or.inr ⟨gF_ h,by omega⟩
 unfold tells;rcases k1 with⟨a1,a2⟩ | ⟨a1,a2⟩
 ·rw[a2];rcases k2 0 with⟨b1,b2⟩ | ⟨b1,b2⟩<;>rw[b2]<;>cases eqI m.k 3<;>cases eqI m.k 1<;>cases eqI m.ro 2<;>simp only[me_,mz_,a1,b1,bu,bg,wG,xq,Bool.or_false,yR,x8,yJ,Bool.and_false,Bool.false_and,cond_true,cond_false]
 ·rw[a2];rcases k2 kn with⟨b1,b2⟩ | ⟨b1,b2⟩<;>rw[b2]<;>cases eqI m.k 3<;>cases eqI m.k 1<;>cases eqI m.ro 2<;>simp only[me_,mz_,a1,b1,bu,bg,wG,xq,Bool.or_false,yR,x8,yJ,Bool.and_false,Bool.false_and,cond_true,cond_false]
theorem ZF{log l:List CmM}{i:Nat}(hi:i<l.length)(hl:l.length<4194304)(hn:(log.length:Int)<l[i].n) :
  aU P E ctF 50 137 Btf Dtf (tfV log l i) []=some (.tuple ⟨exV .normal::tfV log l ((i+1:Nat):Int)⟩,ag []):=by
 obtain⟨g1,g2,a1⟩:=lH hi hl;have g4:=kW hi;have g5:leI l[i].n (ah log.length)=false:=mF_ (by unfold ah; omega);rw[YJ];simp only[mz_,g1,g2,a1,g4,g5,iL hi (dm 3),jZ hi,pR hi,qH hi,iy,mZ,tfV,aQ,dY,show Nat.beq 3 3=true from rfl,fV,aW,bu,bg]
 rfl
theorem afz{log l:List CmM}:aU P E ctF 50 137 Btf Dtf (tfV log l l.length) []=some (.tuple ⟨exV (.exit 0)::tfV log l l.length⟩,ag []):=by
 rw[YJ];simp only[mz_,kU,tfV,aQ,dY,bg]
 rfl
theorem Rk{log l:List CmM}(hl:l.length<1000)(hn:∀ c∈l,(log.length:Int)<c.n):∀ (j i:Nat),i+j=l.length->
  LRX P 137 0 Btf Dtf.head (tfV log l i) [] .normal (tfV log l l.length) []
 |0,i,h=>by
  obtain rfl:i=l.length:=by omega
  exact ls_ aA TY (e:= .exit 0) afz (by intro h; cases h)
 |j+1,i,h=>by
  have hi:i<l.length:=by omega
  exact la_ aA TY (ZF hi (by omega) (hn _ (kQ hi))) (Rk hl hn j (i+1) (by omega))
theorem agq{log:List CmM}{m:MsgM}(hl:log.length<2000)(hc:m.cs.length<1000)(hfr:m.fr=(log.length:Int)+1)(hpv:m.pv=aY log)(hn:∀ c∈m.cs,(log.length:Int)<c.n) :
  CRX P 0 137 [aQ log,mV m] [] (.bool true) []:=by
 have q1:=Rk (log:=log) hc hn m.cs.length 0 (by omega);refine co_ (dB aA (d_ (bJ Wp) q1)) ((adb (ay (tfV log m.cs (0:Nat)) []) log m).trans ?_);clear q1;have z0:((0:Nat):Int)=0:=rfl;by_cases h0:log=[]
 ·have g1:gtI m.fr 1=false:=gF_ (by rw[hfr,h0]; simp);simp only[mz_,g1,z0,tfV,aQ,dY,bC,aW,bg]
 ·have hp:=kY.2 h0;obtain⟨y1,y2,y3,y4⟩:=yl (by omega) h0;have g1:gtI m.fr 1=true:=gT_ (by omega);have g2:dJ .i64 m.fr 2=dJ .i64 (ah log.length) 1:=by
   rw[hfr]; unfold dJ ah; rw[wrap64 (by omega) (by omega),wrap64 (by omega) (by omega)]; omega
  have g3:neI (aY log) (aY log)=false:=bne_self_eq_false _;simp only[mz_,g1,g2,y2,y3,y4,g3,hpv,z0,iy,lW,mZ,tfV,aQ,dY,bC,show Nat.beq 3 3=true from rfl,fV,aW,bu,bg]
theorem Y7{log o l:List CmM}{i:Nat}(hi:i<l.length)(hl:l.length<4194304)(ho:o.length<4194300)(hn:(log.length:Int)<l[i].n) :
  aU P E (wL (ay [cmV l[i]] []) l[i]) 50 101 Btk Dtk (tkV log o l i) (tkB o)=some (.tuple ⟨exV .normal::tkV log (o++[l[i]]) l ((i+1:Nat):Int)⟩,ag (tkB (o++[l[i]]))):=by
 obtain⟨g1,g2,a1⟩:=lH hi hl;have g4:=kW hi;have g5:gtI l[i].n (ah log.length)=true:=gT_ (by unfold ah; omega);have h1:(o++[l[i]]).length=Nat.add o.length 1:=by simp
 rw[XO];simp (disch:=first|omega|(simp only[bU,bY,bZ,bT,bW,aH]<;>omega)|fail) only[mz_,g1,g2,a1,g4,g5,iL hi (dm 3),jZ hi,pR hi,qH hi,iy,zF,tkV,tkB,h1,vN,uf_,aZ rfl,aZ h1.symm,nf_]
 rfl
theorem ahw{C:List Value->List Blk->Bool}{c:CmM}{log o l:List CmM} :
  aU P E (wL C c) 50 101 Btk Dtk (tkV log o l l.length) (tkB o)=some (.tuple ⟨exV (.exit 1)::tkV log o l l.length⟩,ag (tkB o)):=by
 rw[XO];simp only[mz_,kU,tkV,tkB,uf_,aZ rfl,nf_]
 rfl
theorem TK{log l:List CmM}(hl:l.length<1000)(hc:∀ c∈l,1<=c.ops.length/\c.ops.length<=8)(hn:∀ c∈l,(log.length:Int)<c.n):∀ (j i:Nat) (o:List CmM),o.length+j<4194300->i+j=l.length->
  LRX P 101 1 Btk Dtk.head (tkV log o l i) (tkB o) .normal (tkV log (o++l.drop i) l l.length) (tkB (o++l.drop i))
 |0,i,o,h1,h=>by
  obtain rfl:i=l.length:=by omega
  rw[qc,gG];exact ls_ (af aA (fF (r:= .leaf (cmV ⟨0,0,[]⟩,[])))) SA (e:= .exit 1) (ahw (C:=fun _ _=>false) (c:=⟨0,0,[]⟩)) (by intro h; cases h)
 |j+1,i,o,h1,h=>by
  have hi:i<l.length:=by omega
  obtain⟨b1,b2⟩:=hc _ (kQ hi);have ih:=TK (log:=log) hl hc hn j (i+1) (o++[l[i]]) (by simp; omega) (by omega);have e':(o++[l[i]])++l.drop (i+1)=o++l.drop i:=by rw[fG,lu hi]; rfl
  rw[e']at ih;exact la_ (af aA (az (tY b1 (by omega)))) SA (Y7 hi (by omega) (by omega) (hn _ (kQ hi))) ih
theorem ady{e:Int}{log:List CmM}{m:MsgM}(hl:log.length<2000)(hf:fA 0 0 0 log=(0,0))(hk:m.k=2)(he:m.e=e)(hc:m.cs.length<1000)(hfr:m.fr=(log.length:Int)+1)(hpv:m.pv=aY log)(hn:∀ c∈m.cs,(log.length:Int)<c.n)
  (ho:∀ c∈m.cs,1<=c.ops.length/\c.ops.length<=8) (q2:CRX P 0 48 [mV m] [] (.int .i64 0) []) :
  CRX P 0 101 [.int .i64 e,aQ log,mV m] [] (.tuple ⟨[aQ m.cs, .int .i64 0]⟩) []:=by
 have q1:=pq (e:=0) (n:=0) (l:=log) (by omega) (fun c hc=>by have:=xH hf c hc; omega);rw[hf]at q1;have q3:=agq hl hc hfr hpv hn;have q4:=TK (log:=log) hc ho hn m.cs.length 0 [] (by show 0+_<_; omega) (by omega);rw[iQ,iY]at q4;refine co_ (af (af (af (dB aA (d_ (bJ V8) q4)) (az q3)) (az q2)) (az q1)) ((acD (ay [.int .i64 0, .int .i64 0,aQ log] []) (ay [mV m] []) (ay [aQ log,mV m] []) (ay (tkV log [] m.cs (0:Nat)) (tkB [])) e log m.cs m).trans ?_);clear q1 q2 q3 q4;have z0:((0:Nat):Int)=0:=rfl;have n3:([]:List CmM).length=0:=rfl;have n4:ECm.all ([]:List CmM)=[]:=rfl;have g1:neI m.k 2=false:=by rw[hk]; rfl
 have g2:ltI m.e e=false:=lF_ (by omega);have g3:gtI m.e e=false:=gF_ (by omega);have g4:gtI (dJ .i64 m.fr 1) (ah log.length)=false:=by rw[hfr]; unfold gtI dJ ah; rw[wrap64 (by omega) (by omega)]; exact iW (by omega)
 simp only[me_,mz_,g1,g2,g3,g4,z0,n3,n4,tkV,tkB,lsV,mV,dC,cZ,aQ,dY,uf_,v_ rfl,aZ rfl,nf_]
theorem JW{e en:Int}(he:1<=e/\e<=1048576)(hn:0<=en/\en<=1048576):CRX P 0 48 [mV ⟨3,e,0,en,[],0,0,[]⟩] [] (.int .i64 0) []:=by
 refine co_ (af (af aA (fF (r:= .leaf (.bool false,[])))) (fF (r:= .leaf (.bool false,[])))) ((Oi (fun _ _=>false) (fun _ _=>false) false false ⟨3,e,0,en,[],0,0,[]⟩).trans ?_);have g1:geI e 1=true:=hT_ (by omega);have g2:leI e 1048576=true:=mT_ (by omega);have g3:geI en 0=true:=hT_ (by omega);have g4:leI en 1048576=true:=mT_ (by omega);simp only[me_,mz_,g1,g2,g3,g4,bu]
 rfl
/-- May a hello be? -/
structure HelOk(e ro en:Int)(st:List (Int×Int)):Prop where
 he:1<=e/\e<=1048576
 hr:1<=ro/\ro<=3
 hs:scE st en=0
 hn:st.length<4194304
 hl:st≠[]->((st[st.length-1]?).getD (0,0)).1<=e
theorem afR{e ro en:Int}{st:List (Int×Int)}(h:HelOk e ro en st):CRX P 0 92 [mV ⟨1,e,ro,en,st,0,0,[]⟩] [] (.bool true) []:=by
 have q1:=Js (l:=st) (en:=en) h.hn;rw[h.hs]at q1;refine co_ (af aA (az q1)) ((afj (ay [dC st, .int .i64 en] []) 0 ⟨1,e,ro,en,st,0,0,[]⟩).trans ?_);clear q1;obtain⟨⟨e1,e2⟩,⟨r1,r2⟩,_,hn,hl⟩:=h;have g1:geI ro 1=true:=hT_ (by omega);have g2:leI ro 3=true:=mT_ (by omega);by_cases h0:st=[]
 ·subst h0;simp only[mz_,g1,g2,dC,cZ,bC,aW,bu]
  rfl
 ·obtain⟨_,f1,f2,f3⟩:=mJ h0 hn;obtain⟨f4,f5⟩:=acw h0;have hp:=kY.2 h0;have hl:=hl h0;rw[oP (by omega),sS]at hl;have f6:gtI (st[st.length-1]'(by omega)).1 e=false:=gF_ (by omega);simp only[mz_,g1,g2,f1,f2,f3,f4,f5,f6,iy,lW,dC,cZ,bC,show Nat.beq 2 2=true from rfl,fV,aW,bu,bg]
  rfl
theorem xE{e ro en:Int}{st:List (Int×Int)}(h:HelOk e ro en st):CRX P 0 48 [mV ⟨1,e,ro,en,st,0,0,[]⟩] [] (.int .i64 0) []:=by
 have q1:=afR h;refine co_ (af (af aA (fF (r:= .leaf (.bool false,[])))) (az q1)) ((Oi (ay [mV ⟨1,e,ro,en,st,0,0,[]⟩] []) (fun _ _=>false) true false ⟨1,e,ro,en,st,0,0,[]⟩).trans ?_);clear q1;have he:=h.he;have g1:geI e 1=true:=hT_ (by omega);have g2:leI e 1048576=true:=mT_ (by omega);simp only[me_,mz_,g1,g2,mV,dC,cZ,aQ,dY,bC,aW,bu]
 rfl
/-- May a ship be? -/
structure ShpOk(e fr pv:Int)(cs:List CmM):Prop where
 he:1<=e/\e<=1048576
 hf:1<=fr/\fr<=1048576
 hp:0<=pv/\pv<=e
 fp:pv=0↔fr=1
 hn:cs.length<=4
 fol:fA pv (fr-1) 0 cs=(0,0)
 hl:∀ c∈cs,c.e<=e
theorem Yd{m:MsgM}{l:List CmM}(hl:l.length<4194304)(hc:∀ c∈l,c.e<=m.e):∀ (j i:Nat),i+j=l.length->LRX P 93 0 Bsp Dsp.head (spV l i) (msB m) .normal (spV l l.length) (msB m)
 |0,i,h=>by
  obtain rfl:i=l.length:=by omega
  exact ls_ aA Tf (e:= .exit 0) ag4 (by intro h; cases h)
 |j+1,i,h=>by
  have hi:i<l.length:=by omega
  have q:=aaf (m:=m) hi hl;have hb:gtI l[i].e m.e=false:=gF_ (by have:=hc _ (kQ hi); omega);rw[hb]at q;exact la_ aA Tf q (Yd hl hc j (i+1) (by omega))
theorem ahb{e fr pv:Int}{cs:List CmM}(h:ShpOk e fr pv cs)(ho:∀ c∈cs,c.ops.length<4194304):CRX P 0 93 [mV ⟨2,e,0,0,[],fr,pv,cs⟩] [] (.bool true) []:=by
 obtain⟨⟨e1,e2⟩,⟨f1,f2⟩,⟨p1,p2⟩,fp,hn,fol,hl⟩:=h;have q1:=pq (e:=pv) (n:=fr-1) (l:=cs) (by omega) ho;rw[fol]at q1;have q2:=Yd (m:=⟨2,e,0,0,[],fr,pv,cs⟩) (l:=cs) (by omega) hl cs.length 0 (by omega);refine co_ (af (dB aA (d_ (bJ XK) q2)) (az q1)) ((adk (ay [.int .i64 pv, .int .i64 (fr-1),aQ cs] []) (ay (spV cs (0:Nat)) (msB ⟨2,e,0,0,[],fr,pv,cs⟩)) (0,0) ⟨2,e,0,0,[],fr,pv,cs⟩ (cs.length:Int)).trans ?_);clear q1 q2;have z0:((0:Nat):Int)=0:=rfl;have g1:geI fr 1=true:=hT_ (by omega);have g2:leI fr 1048576=true:=mT_ (by omega);have g3:geI pv 0=true:=hT_ (by omega);have g4:leI pv e=true:=mT_ (by omega);have g5:eQ (eqB (eqI pv 0) (eqI fr 1))=false:=by
  by_cases h:pv=0
  ·have e1:eqI pv 0=true:=eT_ h;have e2:eqI fr 1=true:=eT_ (fp.1 h);rw[e1,e2]; rfl
  ·have e1:eqI pv 0=false:=eF_ h;have e2:eqI fr 1=false:=eF_ (fun h2=>h (fp.2 h2));rw[e1,e2]; rfl
 have g6:gtI (ah cs.length) 4=false:=gF_ (by unfold ah; omega);have g7:dJ .i64 fr 1=fr-1:=by unfold dJ; exact wrap64 (by omega) (by omega)
 simp only[mz_,g1,g2,g3,g4,g5,g6,g7,z0,spV,msB,dC,cZ,ptV,aQ,dY,bC,aW,bu,bg,show eQ true=false from rfl]
 rfl
theorem uX{e fr pv:Int}{cs:List CmM}(h:ShpOk e fr pv cs)(ho:∀ c∈cs,c.ops.length<4194304):CRX P 0 48 [mV ⟨2,e,0,0,[],fr,pv,cs⟩] [] (.int .i64 0) []:=by
 have q1:=ahb h ho;refine co_ (af (af aA (az q1)) (fF (r:= .leaf (.bool false,[])))) ((Oi (fun _ _=>false) (ay [mV ⟨2,e,0,0,[],fr,pv,cs⟩] []) false true ⟨2,e,0,0,[],fr,pv,cs⟩).trans ?_);clear q1;have he:=h.he;have g1:geI e 1=true:=hT_ (by omega);have g2:leI e 1048576=true:=mT_ (by omega);simp only[me_,mz_,g1,g2,mV,dC,cZ,aQ,dY,bC,aW,bu]
 rfl
def enK(e n:Int)(t k b:Nat)(c:List Value):Bool:=cmK t k b c&&eqI (cmR e n c) 0
def enX(e n:Int)(c:List Value):List UInt8:=bF ⟨e,n,EOp.dec c⟩
theorem ag_:CallOkX P 0 51 (Zv enK enX):=⟨fun args bs t hR v bs' hev=>by
 unfold Zv at hR;split at hR
 ·rename_i e n t0 k b c;obtain rfl:=aC hR;cases hc:enK e n t0 k b c with
  |false=>rw[hc]at hev; cases hev
  |true=>
   rw[hc]at hev;unfold enK cmK at hc;simp only[bV,Ez]at hc;obtain⟨⟨hc,rfl⟩,h0⟩:=hc;obtain⟨l,h1,rfl,rfl,h2,h3⟩:=EOp.fz_of hc;have h1:t0=FZ+3:=h1;subst h1;have h4:cmE ⟨e,n,l⟩=0:=by
    unfold cmR eqI at h0;rw[h3]at h0;exact lY h0
   simp only[DT.eval,dD,dA,enX,h3]at hev;obtain⟨rfl,rfl⟩:=hev;exact JA (c:=⟨e,n,l⟩) h4
 ·cases hR⟩
theorem rq{m:MsgM}(q:CRX P 0 48 [mV m] [] (.int .i64 0) []):CtOk P (Aa au gB (ay [mV m] []) enK enX):=af (af (l_ (g:=50) (iw aA uN)) ag_) (az q)
theorem Cf:fzB 18446744073709551617 0 []=true:=by rw[<-fz1]; exact yO (l:=[]) rfl (by simp)
theorem fK(n:Nat)(h:n<=1073741824):gB (n:Int)=true:=jl (by omega) (by omega)
def nB(x:Int):List UInt8:=au x.toNat
def Bo(e en:Int):List UInt8:=au 3++(nB e++nB en)
theorem ac9{e en:Int}(he:1<=e/\e<=1048576)(hn:0<=en/\en<=1048576):CRX P 0 21 [mV ⟨3,e,0,en,[],0,0,[]⟩] [] (.tuple ⟨[ax 1 (Bo e en).length 0 (bc (Bo e en)), .int .i64 0]⟩) []:=by
 refine co_ (rq (JW he hn)) ((show aN P E _ 50 aB _ _ 0 21 [mV ⟨3,e,0,en,[],0,0,[]⟩] []=_ from ac5 au gB (ay [mV ⟨3,e,0,en,[],0,0,[]⟩] []) enK enX e en).trans ?_);have d0:=aK (n:=3);have d1:=aK (n:=e.toNat);have d2:=aK (n:=en.toNat);have u1:=fK e.toNat (by omega);have u2:=fK en.toNat (by omega);have u3:gB 3=true:=fK 3 (by omega);have n3:([]:List CmM).length=0:=rfl;have n4:ECm.all ([]:List CmM)=[]:=rfl;have n5:([]:List (Int×Int)).length=0:=rfl;have n6:ESa.all ([]:List (Int×Int))=[]:=rfl;simp (disch:=first|omega|(simp only[bU,bY,bZ,bT,bW,aH]<;>omega)|fail) only[le_,lg_,mz_,cvN (x:=e) ⟨by omega,by omega⟩,cvN (x:=en) ⟨by omega,by omega⟩,u1,u2,u3,Cf,n3,n4,n5,n6,iY,mV,dC,aQ,cZ,dY,bC,fJ,nf_];simp only[le_,lg_,mz_,Bo,nB,fG]
def tH(e ro en:Int)(st:List (Int×Int)):List UInt8:=au 1++(nB e++(nB ro++(nB en++(au st.length++st.flatMap fun s=>nB s.1++nB s.2))))
def kZ(e fr pv:Int)(cs:List CmM):List UInt8:=au 2++(nB e++(nB fr++(nB pv++(au cs.length++b_ cs))))
theorem rX{c:CmM}(h:cmE c=0):enK c.e c.n 18446744073709551619 c.ops.length 0 (EOp.all c.ops)=true:=by
 obtain⟨_,_,hb⟩:=fU.1 h;obtain⟨b1,b2,b3⟩:=dM.1 hb;unfold enK;rw[VV (by omega),X9,h]; rfl
theorem rY(c:CmM):enX c.e c.n (EOp.all c.ops)=bF c:=by unfold enX; rw[EOp.dec_all]
theorem zU(l:List UInt8):cvI .u64 (ah l.length)=(l.length:Int)\/4000000<l.length:=by
 by_cases h:4000000<l.length
 ·exact Or.inr h
 ·exact Or.inl (iG (by omega))
theorem aiO{e ro en:Int}(hk:HelOk e ro en [])(hn:0<=en/\en<=1048576):CRX P 0 21 [mV ⟨1,e,ro,en,[],0,0,[]⟩] [] (.tuple ⟨[ax 1 (tH e ro en []).length 0 (bc (tH e ro en [])), .int .i64 0]⟩) []:=by
 have he:=hk.he;have hr:=hk.hr;refine co_ (rq (xE hk)) ((show aN P E _ 50 aB _ _ 0 21 [mV ⟨1,e,ro,en,[],0,0,[]⟩] []=_ from afa au gB (ay [mV ⟨1,e,ro,en,[],0,0,[]⟩] []) enK enX e ro en).trans ?_);have d0:=aK (n:=1);have w0:gB 1=true:=fK 1 (by omega);have d1:=aK (n:=0);have w1:gB 0=true:=fK 0 (by omega);have de:=aK (n:=e.toNat);have ue:=fK e.toNat (by omega);have dro:=aK (n:=ro.toNat);have uro:=fK ro.toNat (by omega);have den:=aK (n:=en.toNat);have uen:=fK en.toNat (by omega);have n3:([]:List CmM).length=0:=rfl;have n4:ECm.all ([]:List CmM)=[]:=rfl;have n5:([]:List (Int×Int)).length=0:=rfl;have n6:ESa.all ([]:List (Int×Int))=[]:=rfl;simp (disch:=first|omega|(simp only[bU,bY,bZ,bT,bW,aH]<;>omega)|fail) only[le_,lg_,mz_,cvS (x:=ro) ⟨by omega,by omega⟩,cvN (x:=e) ⟨by omega,by omega⟩,cvN (x:=ro) ⟨by omega,by omega⟩,cvN (x:=en) ⟨by omega,by omega⟩,ue,uro,uen,w0,w1,Cf,n3,n4,n5,n6,iY,mV,dC,aQ,cZ,dY,bC,fJ,nf_];simp only[le_,lg_,mz_,tH,nB,n5,rD,xn,gG,fG]
theorem ahm{e ro en:Int}{a b:Int}(hk:HelOk e ro en [(a,b)])(hn:0<=en/\en<=1048576)(ha:0<=a/\a<=1048576)(hb:0<=b/\b<=1048576):CRX P 0 21 [mV ⟨1,e,ro,en,[(a,b)],0,0,[]⟩] [] (.tuple ⟨[ax 1 (tH e ro en [(a,b)]).length 0 (bc (tH e ro en [(a,b)])), .int .i64 0]⟩) []:=by
 have he:=hk.he;have hr:=hk.hr;refine co_ (rq (xE hk)) ((show aN P E _ 50 aB _ _ 0 21 [mV ⟨1,e,ro,en,[(a,b)],0,0,[]⟩] []=_ from acl au gB (ay [mV ⟨1,e,ro,en,[(a,b)],0,0,[]⟩] []) enK enX e ro en a b).trans ?_);have d0:=aK (n:=1);have w0:gB 1=true:=fK 1 (by omega);have d1:=aK (n:=1);have w1:gB 1=true:=fK 1 (by omega);have de:=aK (n:=e.toNat);have ue:=fK e.toNat (by omega);have dro:=aK (n:=ro.toNat);have uro:=fK ro.toNat (by omega);have den:=aK (n:=en.toNat);have uen:=fK en.toNat (by omega);have da:=aK (n:=a.toNat);have ua:=fK a.toNat (by omega);have db:=aK (n:=b.toNat);have ub:=fK b.toNat (by omega);have n3:([]:List CmM).length=0:=rfl;have n4:ECm.all ([]:List CmM)=[]:=rfl;have n5:([(a,b)]:List (Int×Int)).length=1:=rfl;have n6:ESa.all ([(a,b)]:List (Int×Int))=[.int .i64 a, .int .i64 b]:=rfl;simp (disch:=first|omega|(simp only[bU,bY,bZ,bT,bW,aH]<;>omega)|fail) only[le_,lg_,mz_,cvS (x:=ro) ⟨by omega,by omega⟩,cvN (x:=e) ⟨by omega,by omega⟩,cvN (x:=ro) ⟨by omega,by omega⟩,cvN (x:=en) ⟨by omega,by omega⟩,cvN (x:=a) ⟨by omega,by omega⟩,cvN (x:=b) ⟨by omega,by omega⟩,ue,uro,uen,ua,ub,w0,w1,Cf,n3,n4,n5,n6,iY,mV,dC,aQ,cZ,dY,bC,fJ,nf_];simp only[le_,lg_,mz_,tH,nB,n5,rD,xn,gG,fG]
theorem aiv{e ro en:Int}{a b c d:Int}(hk:HelOk e ro en [(a,b),(c,d)])(hn:0<=en/\en<=1048576)(ha:0<=a/\a<=1048576)(hb:0<=b/\b<=1048576)(hc:0<=c/\c<=1048576)(hd:0<=d/\d<=1048576):CRX P 0 21 [mV ⟨1,e,ro,en,[(a,b),(c,d)],0,0,[]⟩] [] (.tuple ⟨[ax 1 (tH e ro en [(a,b),(c,d)]).length 0 (bc (tH e ro en [(a,b),(c,d)])), .int .i64 0]⟩) []:=by
 have he:=hk.he;have hr:=hk.hr;refine co_ (rq (xE hk)) ((show aN P E _ 50 aB _ _ 0 21 [mV ⟨1,e,ro,en,[(a,b),(c,d)],0,0,[]⟩] []=_ from acg au gB (ay [mV ⟨1,e,ro,en,[(a,b),(c,d)],0,0,[]⟩] []) enK enX e ro en a b c d).trans ?_);have d0:=aK (n:=1);have w0:gB 1=true:=fK 1 (by omega);have d1:=aK (n:=2);have w1:gB 2=true:=fK 2 (by omega);have de:=aK (n:=e.toNat);have ue:=fK e.toNat (by omega);have dro:=aK (n:=ro.toNat);have uro:=fK ro.toNat (by omega);have den:=aK (n:=en.toNat);have uen:=fK en.toNat (by omega);have da:=aK (n:=a.toNat);have ua:=fK a.toNat (by omega);have db:=aK (n:=b.toNat);have ub:=fK b.toNat (by omega);have dc:=aK (n:=c.toNat);have uc:=fK c.toNat (by omega);have dd:=aK (n:=d.toNat);have ud:=fK d.toNat (by omega);have n3:([]:List CmM).length=0:=rfl;have n4:ECm.all ([]:List CmM)=[]:=rfl;have n5:([(a,b),(c,d)]:List (Int×Int)).length=2:=rfl;have n6:ESa.all ([(a,b),(c,d)]:List (Int×Int))=[.int .i64 a, .int .i64 b, .int .i64 c, .int .i64 d]:=rfl;simp (disch:=first|omega|(simp only[bU,bY,bZ,bT,bW,aH]<;>omega)|fail) only[le_,lg_,mz_,cvS (x:=ro) ⟨by omega,by omega⟩,cvN (x:=e) ⟨by omega,by omega⟩,cvN (x:=ro) ⟨by omega,by omega⟩,cvN (x:=en) ⟨by omega,by omega⟩,cvN (x:=a) ⟨by omega,by omega⟩,cvN (x:=b) ⟨by omega,by omega⟩,cvN (x:=c) ⟨by omega,by omega⟩,cvN (x:=d) ⟨by omega,by omega⟩,ue,uro,uen,ua,ub,uc,ud,w0,w1,Cf,n3,n4,n5,n6,iY,mV,dC,aQ,cZ,dY,bC,fJ,nf_];simp only[le_,lg_,mz_,tH,nB,n5,rD,xn,gG,fG]
theorem aig{e fr pv:Int}(hk:ShpOk e fr pv []):CRX P 0 21 [mV ⟨2,e,0,0,[],fr,pv,[]⟩] [] (.tuple ⟨[ax 1 (kZ e fr pv []).length 0 (bc (kZ e fr pv [])), .int .i64 0]⟩) []:=by
 have he:=hk.he;have hf:=hk.hf;have hp:=hk.hp;refine co_ (rq (uX hk (fun c hc=>by cases hc))) ((show aN P E _ 50 aB _ _ 0 21 [mV ⟨2,e,0,0,[],fr,pv,[]⟩] []=_ from abO au gB (ay [mV ⟨2,e,0,0,[],fr,pv,[]⟩] []) enK enX e fr pv).trans ?_);have d0:=aK (n:=2);have w0:gB 2=true:=fK 2 (by omega);have d1:=aK (n:=0);have w1:gB 0=true:=fK 0 (by omega);have de:=aK (n:=e.toNat);have ue:=fK e.toNat (by omega);have dfr:=aK (n:=fr.toNat);have ufr:=fK fr.toNat (by omega);have dpv:=aK (n:=pv.toNat);have upv:=fK pv.toNat (by omega);have n3:([]:List CmM).length=0:=rfl;have n4:ECm.all ([]:List CmM)=[]:=rfl;have n5:([]:List (Int×Int)).length=0:=rfl;have n6:ESa.all ([]:List (Int×Int))=[]:=rfl;simp (disch:=first|omega|(simp only[bU,bY,bZ,bT,bW,aH]<;>omega)|fail) only[le_,lg_,mz_,cvN (x:=e) ⟨by omega,by omega⟩,cvN (x:=fr) ⟨by omega,by omega⟩,cvN (x:=pv) ⟨by omega,by omega⟩,ue,ufr,upv,w0,w1,Cf,n3,n4,n5,n6,cmC,bD,iY,ql,zF,C_,mV,dC,aQ,cZ,dY,bC,fJ,nf_];simp only[le_,lg_,mz_,kZ,nB,n3,b_,frC,frM,rD,xn,gG,fG,bP,Nat.add_eq,k_]
theorem air{e fr pv:Int}{c1:CmM}(hk:ShpOk e fr pv [c1])(hc1:cmE c1=0):CRX P 0 21 [mV ⟨2,e,0,0,[],fr,pv,[c1]⟩] [] (.tuple ⟨[ax 1 (kZ e fr pv [c1]).length 0 (bc (kZ e fr pv [c1])), .int .i64 0]⟩) []:=by
 have he:=hk.he;have hf:=hk.hf;have hp:=hk.hp;have qc1:=fU.1 hc1;have bc1:=dM.1 qc1.2.2;have xc1:=kX hc1;have kc1:=rX hc1;have gc1:=rY c1;refine co_ (rq (uX hk (fun c hc=>by
  simp only[lc_,le_,lg_,mz_,jY,A8,or_false]at hc
  subst hc; omega))) ((show aN P E _ 50 aB _ _ 0 21 [mV ⟨2,e,0,0,[],fr,pv,[c1]⟩] []=_ from afe au gB (ay [mV ⟨2,e,0,0,[],fr,pv,[c1]⟩] []) enK enX e fr pv c1).trans ?_)
 have d0:=aK (n:=2);have w0:gB 2=true:=fK 2 (by omega);have d1:=aK (n:=1);have w1:gB 1=true:=fK 1 (by omega);have de:=aK (n:=e.toNat);have ue:=fK e.toNat (by omega);have dfr:=aK (n:=fr.toNat);have ufr:=fK fr.toNat (by omega);have dpv:=aK (n:=pv.toNat);have upv:=fK pv.toNat (by omega);have dc1:=aK (n:=(bF c1).length);have uc1:=fK (bF c1).length (by omega);have lc1:cvI .u64 (ah (bF c1).length)=((bF c1).length:Int):=(zU _).resolve_right (by omega);have n3:([c1]:List CmM).length=1:=rfl;have n4:ECm.all ([c1]:List CmM)=cmC c1:=rfl;have n5:([]:List (Int×Int)).length=0:=rfl;have n6:ESa.all ([]:List (Int×Int))=[]:=rfl;simp (disch:=first|omega|(simp only[bU,bY,bZ,bT,bW,aH]<;>omega)|fail) only[lc_,le_,lg_,mz_,cvN (x:=e) ⟨by omega,by omega⟩,cvN (x:=fr) ⟨by omega,by omega⟩,cvN (x:=pv) ⟨by omega,by omega⟩,ue,ufr,upv,kc1,gc1,uc1,lc1,w0,w1,Cf,n3,n4,n5,n6,cmC,bD,iY,ql,zF,C_,mV,dC,aQ,cZ,dY,bC,fJ,nf_];simp only[lc_,le_,lg_,mz_,kZ,nB,n3,b_,frC,frM,rD,xn,gG,fG,bP,Nat.add_eq,k_]
theorem aiP{e fr pv:Int}{c1 c2:CmM}(hk:ShpOk e fr pv [c1,c2])(hc1:cmE c1=0)(hc2:cmE c2=0):CRX P 0 21 [mV ⟨2,e,0,0,[],fr,pv,[c1,c2]⟩] [] (.tuple ⟨[ax 1 (kZ e fr pv [c1,c2]).length 0 (bc (kZ e fr pv [c1,c2])), .int .i64 0]⟩) []:=by
 have he:=hk.he;have hf:=hk.hf;have hp:=hk.hp;have qc1:=fU.1 hc1;have bc1:=dM.1 qc1.2.2;have xc1:=kX hc1;have kc1:=rX hc1;have gc1:=rY c1;have qc2:=fU.1 hc2;have bc2:=dM.1 qc2.2.2;have xc2:=kX hc2;have kc2:=rX hc2;have gc2:=rY c2;refine co_ (rq (uX hk (fun c hc=>by
  simp only[lc_,le_,lg_,mz_,jY,A8,or_false]at hc
  rcases hc with rfl | rfl<;>omega))) ((show aN P E _ 50 aB _ _ 0 21 [mV ⟨2,e,0,0,[],fr,pv,[c1,c2]⟩] []=_ from aeo au gB (ay [mV ⟨2,e,0,0,[],fr,pv,[c1,c2]⟩] []) enK enX e fr pv c1 c2).trans ?_)
 have d0:=aK (n:=2);have w0:gB 2=true:=fK 2 (by omega);have d1:=aK (n:=2);have w1:gB 2=true:=fK 2 (by omega);have de:=aK (n:=e.toNat);have ue:=fK e.toNat (by omega);have dfr:=aK (n:=fr.toNat);have ufr:=fK fr.toNat (by omega);have dpv:=aK (n:=pv.toNat);have upv:=fK pv.toNat (by omega);have dc1:=aK (n:=(bF c1).length);have uc1:=fK (bF c1).length (by omega);have lc1:cvI .u64 (ah (bF c1).length)=((bF c1).length:Int):=(zU _).resolve_right (by omega);have dc2:=aK (n:=(bF c2).length);have uc2:=fK (bF c2).length (by omega);have lc2:cvI .u64 (ah (bF c2).length)=((bF c2).length:Int):=(zU _).resolve_right (by omega);have n3:([c1,c2]:List CmM).length=2:=rfl;have n4:ECm.all ([c1,c2]:List CmM)=cmC c1++cmC c2:=rfl;have n5:([]:List (Int×Int)).length=0:=rfl;have n6:ESa.all ([]:List (Int×Int))=[]:=rfl;simp (disch:=first|omega|(simp only[bU,bY,bZ,bT,bW,aH]<;>omega)|fail) only[lc_,le_,lg_,mz_,cvN (x:=e) ⟨by omega,by omega⟩,cvN (x:=fr) ⟨by omega,by omega⟩,cvN (x:=pv) ⟨by omega,by omega⟩,ue,ufr,upv,kc1,gc1,uc1,lc1,kc2,gc2,uc2,lc2,w0,w1,Cf,n3,n4,n5,n6,cmC,bD,iY,ql,zF,C_,mV,dC,aQ,cZ,dY,bC,fJ,nf_];simp only[lc_,le_,lg_,mz_,kZ,nB,n3,b_,frC,frM,rD,xn,gG,fG,bP,Nat.add_eq,k_]
theorem aib{e fr pv:Int}{c1 c2 c3:CmM}(hk:ShpOk e fr pv [c1,c2,c3])(hc1:cmE c1=0)(hc2:cmE c2=0)(hc3:cmE c3=0):CRX P 0 21 [mV ⟨2,e,0,0,[],fr,pv,[c1,c2,c3]⟩] [] (.tuple ⟨[ax 1 (kZ e fr pv [c1,c2,c3]).length 0 (bc (kZ e fr pv [c1,c2,c3])), .int .i64 0]⟩) []:=by
 have he:=hk.he;have hf:=hk.hf;have hp:=hk.hp;have qc1:=fU.1 hc1;have bc1:=dM.1 qc1.2.2;have xc1:=kX hc1;have kc1:=rX hc1;have gc1:=rY c1;have qc2:=fU.1 hc2;have bc2:=dM.1 qc2.2.2;have xc2:=kX hc2;have kc2:=rX hc2;have gc2:=rY c2;have qc3:=fU.1 hc3;have bc3:=dM.1 qc3.2.2;have xc3:=kX hc3;have kc3:=rX hc3;have gc3:=rY c3;refine co_ (rq (uX hk (fun c hc=>by
  simp only[lc_,le_,lg_,mz_,jY,A8,or_false]at hc
  rcases hc with rfl | rfl | rfl<;>omega))) ((show aN P E _ 50 aB _ _ 0 21 [mV ⟨2,e,0,0,[],fr,pv,[c1,c2,c3]⟩] []=_ from acp au gB (ay [mV ⟨2,e,0,0,[],fr,pv,[c1,c2,c3]⟩] []) enK enX e fr pv c1 c2 c3).trans ?_)
 have d0:=aK (n:=2);have w0:gB 2=true:=fK 2 (by omega);have d1:=aK (n:=3);have w1:gB 3=true:=fK 3 (by omega);have de:=aK (n:=e.toNat);have ue:=fK e.toNat (by omega);have dfr:=aK (n:=fr.toNat);have ufr:=fK fr.toNat (by omega);have dpv:=aK (n:=pv.toNat);have upv:=fK pv.toNat (by omega);have dc1:=aK (n:=(bF c1).length);have uc1:=fK (bF c1).length (by omega);have lc1:cvI .u64 (ah (bF c1).length)=((bF c1).length:Int):=(zU _).resolve_right (by omega);have dc2:=aK (n:=(bF c2).length);have uc2:=fK (bF c2).length (by omega);have lc2:cvI .u64 (ah (bF c2).length)=((bF c2).length:Int):=(zU _).resolve_right (by omega);have dc3:=aK (n:=(bF c3).length);have uc3:=fK (bF c3).length (by omega);have lc3:cvI .u64 (ah (bF c3).length)=((bF c3).length:Int):=(zU _).resolve_right (by omega);have n3:([c1,c2,c3]:List CmM).length=3:=rfl;have n4:ECm.all ([c1,c2,c3]:List CmM)=cmC c1++cmC c2++cmC c3:=rfl;have n5:([]:List (Int×Int)).length=0:=rfl;have n6:ESa.all ([]:List (Int×Int))=[]:=rfl;simp (disch:=first|omega|(simp only[bU,bY,bZ,bT,bW,aH]<;>omega)|fail) only[lc_,le_,lg_,mz_,cvN (x:=e) ⟨by omega,by omega⟩,cvN (x:=fr) ⟨by omega,by omega⟩,cvN (x:=pv) ⟨by omega,by omega⟩,ue,ufr,upv,kc1,gc1,uc1,lc1,kc2,gc2,uc2,lc2,kc3,gc3,uc3,lc3,w0,w1,Cf,n3,n4,n5,n6,cmC,bD,iY,ql,zF,C_,mV,dC,aQ,cZ,dY,bC,fJ,nf_];simp only[lc_,le_,lg_,mz_,kZ,nB,n3,b_,frC,frM,rD,xn,gG,fG,bP,Nat.add_eq,k_]
theorem aih{e fr pv:Int}{c1 c2 c3 c4:CmM}(hk:ShpOk e fr pv [c1,c2,c3,c4])(hc1:cmE c1=0)(hc2:cmE c2=0)(hc3:cmE c3=0)(hc4:cmE c4=0):CRX P 0 21 [mV ⟨2,e,0,0,[],fr,pv,[c1,c2,c3,c4]⟩] [] (.tuple ⟨[ax 1 (kZ e fr pv [c1,c2,c3,c4]).length 0 (bc (kZ e fr pv [c1,c2,c3,c4])), .int .i64 0]⟩) []:=by
 have he:=hk.he;have hf:=hk.hf;have hp:=hk.hp;have qc1:=fU.1 hc1;have bc1:=dM.1 qc1.2.2;have xc1:=kX hc1;have kc1:=rX hc1;have gc1:=rY c1;have qc2:=fU.1 hc2;have bc2:=dM.1 qc2.2.2;have xc2:=kX hc2;have kc2:=rX hc2;have gc2:=rY c2;have qc3:=fU.1 hc3;have bc3:=dM.1 qc3.2.2;have xc3:=kX hc3;have kc3:=rX hc3;have gc3:=rY c3;have qc4:=fU.1 hc4;have bc4:=dM.1 qc4.2.2;have xc4:=kX hc4;have kc4:=rX hc4;have gc4:=rY c4;refine co_ (rq (uX hk (fun c hc=>by
  simp only[lc_,le_,lg_,mz_,jY,A8,or_false]at hc
  rcases hc with rfl | rfl | rfl | rfl<;>omega))) ((show aN P E _ 50 aB _ _ 0 21 [mV ⟨2,e,0,0,[],fr,pv,[c1,c2,c3,c4]⟩] []=_ from acV au gB (ay [mV ⟨2,e,0,0,[],fr,pv,[c1,c2,c3,c4]⟩] []) enK enX e fr pv c1 c2 c3 c4).trans ?_)
 have d0:=aK (n:=2);have w0:gB 2=true:=fK 2 (by omega);have d1:=aK (n:=4);have w1:gB 4=true:=fK 4 (by omega);have de:=aK (n:=e.toNat);have ue:=fK e.toNat (by omega);have dfr:=aK (n:=fr.toNat);have ufr:=fK fr.toNat (by omega);have dpv:=aK (n:=pv.toNat);have upv:=fK pv.toNat (by omega);have dc1:=aK (n:=(bF c1).length);have uc1:=fK (bF c1).length (by omega);have lc1:cvI .u64 (ah (bF c1).length)=((bF c1).length:Int):=(zU _).resolve_right (by omega);have dc2:=aK (n:=(bF c2).length);have uc2:=fK (bF c2).length (by omega);have lc2:cvI .u64 (ah (bF c2).length)=((bF c2).length:Int):=(zU _).resolve_right (by omega);have dc3:=aK (n:=(bF c3).length);have uc3:=fK (bF c3).length (by omega);have lc3:cvI .u64 (ah (bF c3).length)=((bF c3).length:Int):=(zU _).resolve_right (by omega);have dc4:=aK (n:=(bF c4).length);have uc4:=fK (bF c4).length (by omega);have lc4:cvI .u64 (ah (bF c4).length)=((bF c4).length:Int):=(zU _).resolve_right (by omega);have n3:([c1,c2,c3,c4]:List CmM).length=4:=rfl;have n4:ECm.all ([c1,c2,c3,c4]:List CmM)=cmC c1++cmC c2++cmC c3++cmC c4:=rfl;have n5:([]:List (Int×Int)).length=0:=rfl;have n6:ESa.all ([]:List (Int×Int))=[]:=rfl;simp (disch:=first|omega|(simp only[bU,bY,bZ,bT,bW,aH]<;>omega)|fail) only[lc_,le_,lg_,mz_,cvN (x:=e) ⟨by omega,by omega⟩,cvN (x:=fr) ⟨by omega,by omega⟩,cvN (x:=pv) ⟨by omega,by omega⟩,ue,ufr,upv,kc1,gc1,uc1,lc1,kc2,gc2,uc2,lc2,kc3,gc3,uc3,lc3,kc4,gc4,uc4,lc4,w0,w1,Cf,n3,n4,n5,n6,cmC,bD,iY,ql,zF,C_,mV,dC,aQ,cZ,dY,bC,fJ,nf_];simp only[lc_,le_,lg_,mz_,kZ,nB,n3,b_,frC,frM,rD,xn,gG,fG,bP,Nat.add_eq,k_]
theorem PI(C:List UInt8->Int->Bool)(X:List UInt8->Int)(R:List UInt8->List UInt8)(C1 C3 C4:List Value->List Blk->Bool)(m1 m3:MsgM)(l:List UInt8):rW P E (ag2 C X R C1 C3 C4 m1 m3) 80 rF [.val, .val, .val, .val, .val, .val, .val, .val, .val] [0,0,0,0,54,0,0,35,0] 0 [] 53 [ax 1 l.length 0 (bc l)] [] =
 (let z:=Nat.beq 0 0;let y:=Nat.beq 148 148;let x:=Bool.not false;let w:=List.map byteOf (bc l);let v:=List.map byteOf (bc (R w));let u:=X w;let t:=List.length (R v);let s:=Bool.and (Bool.and (Bool.and (fw_ t (bc (R v))) z) y) x;let r:=List.map byteOf (bc (R v));let q:=List.length (R r);let p:=List.map byteOf (bc (R r));
 let o:=Bool.and (Bool.and (Bool.and (Bool.and (fw_ q (bc (R r))) z) y) x) (C p 1048576);let n:=Bool.and (Bool.and (Bool.and (fw_ (List.length (R p)) (bc (R p))) z) y) x;let m:=List.map byteOf (bc (R p));let k:=[pt_ 0,pt_ 1,pt_ 2,io_ (X m)];let j:=io_ 0;let i:=Value.int .u8 0;let h:=Blk.cells [j,j,i,j,sl_ 3 0,j,j,sl_ 4 0] 56 true;
 let g:=Blk.cells [fb_ (List.length (R m)) 0 (bc (R m)), .bool false] 148 true;let f:=io_ u;let e:=io_ (X v);let d:=io_ (X p);let c:=Blk.cells [] 109 false;let b:=Blk.cells [] 47 false;let a:=ag [];let Z:=Bool.and s (C r 1048576);let Y:=io_ (X r);let W:=fc_ 0 0 [];let V:=fa_ 0 0 [];let U:=some (Value.tuple ⟨[.agg ⟨[j,j,i,j,W,j,j,V]⟩,io_ 5]⟩,a);
 let T:=Value.agg ⟨[f,e,i,Y,W,j,j,V]⟩;let S:=Value.agg ⟨[f,e,i,j,W,j,j,V]⟩;
 (ae (Bool.and (Bool.and (Bool.and (Bool.and (fw_ l.length (bc l)) z) y) x) (C w 3)) (ae (Bool.and (Bool.and (Bool.and (Bool.and (fw_ (List.length (R w)) (bc (R w))) z) y) x) (C v 1048576)) (aj (eqI u 1) (ae (Bool.and s (C r 3)) (ae o (ae (Bool.and n (C m 1048576)) (ae (C1 k [h,g, .cells [f,e, .int .u8 (cvI .u8 (X r)),d,sl_ 5 0,j,j,sl_ 6 0] 56 true,c,b,c,b]) (ae (C4 [me_ m1] []) (some (.tuple ⟨[me_ m1,j]⟩,a))))))) (aj (eqI u 2) (ae Z (ae o (ae (Bool.and n (C m 4)) (ae (C3 k [h,g, .cells [f,e,i,j,sl_ 5 0,Y,d,sl_ 6 0] 56 true,c,b,c,b]) (ae (C4 [me_ m3] []) (some (.tuple ⟨[me_ m3,j]⟩,a))))))) (aj (eqI u 3) (ae Z (aj (gtI (ah q) 0) U (ae (C4 [T] []) (some (.tuple ⟨[T,j]⟩,a))))) (aj (gtI (ah t) 0) U (ae (C4 [S] []) (some (.tuple ⟨[S,j]⟩,a)))))))))):=by kernel_rfl
def lrR(l:List UInt8):List UInt8:=l.drop (eX l).2.1
theorem QM{l:List UInt8}{m:Int}(hc:smC l m=true)(hl:l.length+64<=4194304):CRX P 1 97 [p0, .int .i64 m] (lrB l 0 false) (.int .i64 (smX l)) (lrB (lrR l) 0 false):=by
 refine co_ Jt ((adM smC smX smN l 0 m).trans ?_);have hN:smN l=(((eX l).2.1:Nat):Int):=rfl;have hs:=xC l;have c0:∀ n,yA 0 n=0:=fun n=>if_pos rfl;simp (disch:=first|omega|(simp only[bU,bY,bZ,bT,bW,aH]<;>omega)|fail) only[mz_,hc,hN,c0,aag,aap,OW hs,H_,lrB,lrR,uf_,nf_]
theorem rG{n:Nat}{m:Int}(r:List UInt8)(h:(n:Int)<=m)(hm:m<4611686018427387904):smC (au n++r) m=true/\smX (au n++r)=(n:Int)/\lrR (au n++r)=r:=by
 have e:=JX (n:=n) (by omega) r;refine⟨?_,?_,?_⟩
 ·unfold smC jX Gz;rw[e,jl (by omega) (by omega)];simp only[BEq.rfl,yJ];exact eU h
 ·unfold smX; rw[e]
 ·unfold lrR; rw[e]; exact List.drop_left
theorem WS:CallOkX P 1 97 (Oy smC smX lrR):=⟨fun args bs t hR v bs' hev=>by
 unfold Oy at hR;split at hR
 ·rename_i m t0 n b c bd ty;obtain rfl:=aC hR;cases hc:(fzB t0 n c&&Nat.beq b 0&&Nat.beq ty 148&&!bd&&smC (c.map byteOf) m)with
  |false=>rw[hc]at hev; cases hev
  |true=>
   rw[hc]at hev;simp only[bV]at hc;obtain⟨⟨⟨⟨hf,hb⟩,hty⟩,hbd⟩,hn⟩:=hc;obtain rfl:=dF hty;obtain rfl:=dF hb;obtain rfl:bd=false:=by cases bd with | false=>rfl | true=>cases hbd
   obtain⟨rfl,rfl,⟨l,rfl,hl⟩,h4⟩:=AV hf;rw[<-hl]at hev hn;rw[bn]at h4 ⊢;simp only[DT.eval,dD,dA]at hev;obtain⟨rfl,rfl⟩:=hev;exact QM hn h4
 ·cases hR⟩
theorem aez{c:CmM}{r:List UInt8}(h:cmE c=0)(hl:(frC c++r).length+64<=4194304):CRX P 1 98 [p0] (lrB (frC c++r) 0 false) (cmV c) (lrB r 0 false):=by
 have e0:frC c++r=au (bF c).length++(bF c++r):=by unfold frC frM; rw[fG]
 have hlen:(frC c++r).length=(au (bF c).length).length+((bF c).length+r.length):=by rw[e0,bP,bP]
 obtain⟨a1,a2,a3⟩:=rG (n:=(bF c).length) (m:=ah (frC c++r).length) (bF c++r) (by unfold ah; omega) (by unfold ah; omega);have q1:=QM (l:=frC c++r) (m:=ah (frC c++r).length) (by rw[e0]at a1 ⊢; exact a1) hl;rw[show smX (frC c++r)=((bF c).length:Int) by rw[e0]; exact a2,show lrR (frC c++r)=bF c++r by rw[e0]; exact a3]at q1;have q2:=adq (l:=bF c) (b:=0) (Yc h) (by omega);refine co_ (af (af aA (az q2)) (az q1)) ((aep (ay [p0, .int .i64 (ah (frC c++r).length)] (lrB (frC c++r) 0 false)) (ay [ax 1 (bF c).length 0 (bc (bF c))] []) (bF c).length (frC c++r) (bF c++r) c).trans ?_);clear q1 q2 a1 a2 a3;generalize hL:frC c++r=L at *;have g1:gtI ((bF c).length:Int) (ah (bF c++r).length)=false:=by unfold gtI ah; rw[bP]; exact iW (by omega)
 have g2:dS 0 ((bF c).length:Int) (bF c++r).length=true:=by unfold dS; rw[bP]; exact eU (by omega)
 have g3:dS ((bF c).length:Int) (ah (bF c++r).length) (bF c++r).length=true:=OW (by rw[bP]; omega);have g4:fC 0 ((bF c).length:Int)=(bF c).length:=by unfold fC; omega
 have g5:fC ((bF c).length:Int) (ah (bF c++r).length)=r.length:=by unfold fC ah; rw[bP]; omega
 have t1:takeC (bF c).length (aO 0 (bc (bF c++r)))=bc (bF c):=by rw[wS,iQ,List.take_left]
 have t2:takeC r.length (aO (atN ((bF c).length:Int) 1) (bc (bF c++r)))=bc r:=by
  have h1:atN ((bF c).length:Int) 1=(bF c).length:=by simp[atN]
  rw[h1,wS,List.drop_left,rC]
 have n0:neI 0 0=false:=rfl;simp only[mz_,g1,g2,g3,g4,g5,t1,t2,n0,H_,fQ,lrB,p0,cmV,bD,fJ,dY,bC,fV,aW,bg]
theorem YZ{c:CmM}{l r:List UInt8}{m:MsgM}{k:Nat}(hk:k<1000)(hs:m.st.length<4194300)(hc:m.cs.length<4194300) :
  aU P E (ak P aB 1 98 (aP (ay [p0] (lrB l 0 false)) (.leaf (cmV c,lrB r 0 false))) ctF) 50 53 Bd3 Dd3 (deV ((k+1:Nat):Int)) (deB l m)=some (.tuple ⟨exV .normal::deV (k:Int)⟩,ag (deB r { m with cs:=m.cs++[c] })):=by
 have g1:gtI ((k+1:Nat):Int) 0=true:=gT_ (by omega);have g2:dJ .i64 ((k+1:Nat):Int) 1=(k:Int):=by unfold dJ; rw[wrap64 (by omega) (by omega)]; omega
 have h1:(m.cs++[c]).length=Nat.add m.cs.length 1:=by simp
 have n3:([]:List CmM).length=0:=rfl;have n5:([]:List (Int×Int)).length=0:=rfl;rw[ag8];simp (disch:=first|omega|(simp only[bU,bY,bZ,bT,bW,aH]<;>omega)|fail) only[mz_,g1,g2,deV,deB,mgC,wO,lrB,n3,n5,h1,vN,E9,qK rfl,abE,uf_,aZ rfl,aZ h1.symm,nf_]
 rfl
theorem aiu{l:List UInt8}{m:MsgM}(hs:m.st.length<4194300)(hc:m.cs.length<4194300):aU P E ctF 50 53 Bd3 ZK (deV 0) (deB l m)=some (.tuple ⟨exV (.exit 3)::deV 0⟩,ag (deX l m)):=by
 have n3:([]:List CmM).length=0:=rfl;have n4:ECm.all ([]:List CmM)=[]:=rfl;have n5:([]:List (Int×Int)).length=0:=rfl;have n6:ESa.all ([]:List (Int×Int))=[]:=rfl;rw[acO];simp (disch:=first|omega|(simp only[bU,bY,bZ,bT,bW,aH]<;>omega)|fail) only[mz_,deV,deX,mgV,dC,cZ,wO,lrB,n3,n4,n5,n6,Iy rfl,v_ rfl,qK rfl,uf_,aZ rfl,nf_]
 rfl
theorem TR{r:List UInt8}:∀ (cs:List CmM) (m:MsgM),(∀ c∈cs,cmE c=0)->(b_ cs++r).length+64<=4194304->cs.length<1000->m.st.length<4194300->m.cs.length+cs.length<4194300->
  LRX P 53 3 Bd3 Dd3.head (deV (cs.length:Int)) (deB (b_ cs++r) m) .normal (deV 0) (deX r { m with cs:=m.cs++cs })
 |[],m,h1,h2,h3,h4,h5=>by
  rw[gG];exact LRX.stop (n:=50) (D:=ZK) (dU _) bK aA SN (e:= .exit 3) (aiu h4 (by simpa using h5)) (by intro h; cases h)
 |c::cs,m,h1,h2,h3,h4,h5=>by
  have e:b_ (c::cs)++r=frC c++(b_ cs++r):=by unfold b_; rw[rD,fG]
  have hl:(c::cs).length=cs.length+1:=rfl;rw[e]at h2 ⊢;have h2':=h2;rw[bP]at h2';have ih:=TR (r:=r) cs { m with cs:=m.cs++[c] } (fun x hx=>h1 x (ni _ hx)) (by omega) (by omega) h4 (by show(m.cs++[c]).length+_<_; rw[bP]; simp only[BD]; omega);have e2:({ ({ m with cs:=m.cs++[c] }:MsgM)with cs:=(m.cs++[c])++cs }:MsgM)={ m with cs:=m.cs++(c::cs) }:=by rw[fG]; rfl
  rw[e2]at ih;exact LRX.again (n:=50) (D:=Dd3) (dU _) bK (af aA (az (aez (h1 c (qQ ..)) h2))) SN (YZ (by omega) h4 (by omega)) ih
def jM(l:List (Int×Int)):List UInt8:=l.flatMap fun s=>au s.1.toNat++au s.2.toNat
def Z_(l:List (Int×Int)):Prop:=∀ s∈l,(0<=s.1/\s.1<=1048576)/\(0<=s.2/\s.2<=1048576)
theorem YO{a b:Int}{r:List UInt8}{m:MsgM}{k:Nat}(ha:0<=a/\a<=1048576)(hb:0<=b/\b<=1048576)(hk:k<1000)(hl:(au a.toNat++(au b.toNat++r)).length+64<=4194304)(hs:m.st.length<4194300)(hc:m.cs.length<4194300) :
  aU P E (ak P aB 1 97 (Oy smC smX lrR) ctF) 50 53 Bd1 Dd1 (deV ((k+1:Nat):Int)) (deB (au a.toNat++(au b.toNat++r)) m)=some (.tuple ⟨exV .normal::deV (k:Int)⟩,ag (deB r { m with st:=m.st++[(a,b)] })):=by
 have g1:gtI ((k+1:Nat):Int) 0=true:=gT_ (by omega);have g2:dJ .i64 ((k+1:Nat):Int) 1=(k:Int):=by unfold dJ; rw[wrap64 (by omega) (by omega)]; omega
 have h1:(m.st++[(a,b)]).length=Nat.add m.st.length 1:=by simp
 have n3:([]:List CmM).length=0:=rfl;have n5:([]:List (Int×Int)).length=0:=rfl;obtain⟨a1,a2,a3⟩:=rG (n:=a.toNat) (m:=1048576) (au b.toNat++r) (by omega) (by omega);obtain⟨b1,b2,b3⟩:=rG (n:=b.toNat) (m:=1048576) r (by omega) (by omega);rw[zy ha.1]at a2;rw[zy hb.1]at b2;have hl2:=hl;rw[bP,bP]at hl2;have z1:fzB 18446744073709551617 (au a.toNat++(au b.toNat++r)).length (bc (au a.toNat++(au b.toNat++r)))=true:=o7 rfl (by omega);have z2:fzB 18446744073709551617 (au b.toNat++r).length (bc (au b.toNat++r))=true:=o7 rfl (by rw[bP]; omega);have hm:List.append (ESa.all m.st) [.int .i64 a, .int .i64 b]=ESa.all (m.st++[(a,b)]):=by rw[ESa.all_append]; rfl
 rw[af6];generalize au a.toNat++(au b.toNat++r)=L at *;generalize au b.toNat++r=M at *;simp (disch:=first|omega|(simp only[bU,bY,bZ,bT,bW,aH]<;>omega)|fail) only[mz_,g1,g2,a1,a2,a3,b1,b2,b3,z1,z2,hm,deV,deB,mgC,wO,lrB,n3,n5,h1,E9,qK rfl,qK h1.symm,abE,nR,zK,uf_,aZ rfl,nf_]
 rfl
theorem ain{l:List UInt8}{m:MsgM}(hs:m.st.length<4194300)(hc:m.cs.length<4194300):aU P E ctF 50 53 Bd1 ZM (deV 0) (deB l m)=some (.tuple ⟨exV (.exit 1)::deV 0⟩,ag (deX l m)):=by
 have n3:([]:List CmM).length=0:=rfl;have n4:ECm.all ([]:List CmM)=[]:=rfl;have n5:([]:List (Int×Int)).length=0:=rfl;have n6:ESa.all ([]:List (Int×Int))=[]:=rfl;rw[acf];simp (disch:=first|omega|(simp only[bU,bY,bZ,bT,bW,aH]<;>omega)|fail) only[mz_,deV,deX,mgV,dC,cZ,wO,lrB,n3,n4,n5,n6,Iy rfl,v_ rfl,qK rfl,uf_,aZ rfl,nf_]
 rfl
theorem SX{r:List UInt8}:∀ (st:List (Int×Int)) (m:MsgM),Z_ st->(jM st++r).length+64<=4194304->st.length<1000->m.st.length+st.length<4194300->m.cs.length<4194300->
  LRX P 53 1 Bd1 Dd1.head (deV (st.length:Int)) (deB (jM st++r) m) .normal (deV 0) (deX r { m with st:=m.st++st })
 |[],m,h1,h2,h3,h4,h5=>by
  rw[gG];exact LRX.stop (n:=50) (D:=ZM) (dU _) bK aA Ry (e:= .exit 1) (ain (by simpa using h4) h5) (by intro h; cases h)
 |(a,b)::st,m,h1,h2,h3,h4,h5=>by
  have e:jM ((a,b)::st)++r=au a.toNat++(au b.toNat++(jM st++r)):=by unfold jM; rw[rD,fG,fG]
  have hl:((a,b)::st).length=st.length+1:=rfl;rw[e]at h2 ⊢;have h2':=h2;rw[bP,bP]at h2';obtain⟨ha,hb⟩:=h1 _ (qQ ..);have ih:=SX (r:=r) st { m with st:=m.st++[(a,b)] } (fun x hx=>h1 x (ni _ hx)) (by omega) (by omega) (by show(m.st++[(a,b)]).length+_<_; rw[bP]; simp only[BD]; omega) h5;have e2:({ ({ m with st:=m.st++[(a,b)] }:MsgM)with st:=(m.st++[(a,b)])++st }:MsgM)={ m with st:=m.st++((a,b)::st) }:=by rw[fG]; rfl
  rw[e2]at ih;exact LRX.again (n:=50) (D:=Dd1) (dU _) bK (af aA WS) Ry (YO ha hb (by omega) h2 (by omega) h5) ih
theorem JU{C1 C3 C4:List Value->List Blk->Bool}{m1 m3:MsgM}(h1:LoopOkX P 53 1 Bd1 Dd1.head (gX C1 (.leaf (.normal,deV 0,deX [] m1))))(h3:LoopOkX P 53 3 Bd3 Dd3.head (gX C3 (.leaf (.normal,deV 0,deX [] m3))))(h4:CallOkX P 0 48 (aP C4 (.leaf (.int .i64 0,[])))) :
  CtOk P (ag2 smC smX lrR C1 C3 C4 m1 m3):=af (dB (dB (af aA h4) h3) h1) WS
theorem acK{e en:Int}(he:1<=e/\e<=1048576)(hn:0<=en/\en<=1048576):CRX P 0 53 [ax 1 (Bo e en).length 0 (bc (Bo e en))] [] (.tuple ⟨[mV ⟨3,e,0,en,[],0,0,[]⟩, .int .i64 0]⟩) []:=by
 have q4:=JW he hn;refine CRX.ofF (pol:=rF) (fl:=[.val, .val, .val, .val, .val, .val, .val, .val, .val]) (ts:=[0,0,0,0,54,0,0,35,0]) (n:=80) (kb:=[]) (dU _) bK (JU (mD (bJ Ig)) (mD (bJ Io)) (az q4)) ((PI smC smX lrR (fun _ _=>false) (fun _ _=>false) (ay [mV ⟨3,e,0,en,[],0,0,[]⟩] []) wO wO (Bo e en)).trans ?_);clear q4;have d0:=aK (n:=3);have d1:=aK (n:=e.toNat);have d2:=aK (n:=en.toNat);obtain⟨a1,a2,a3⟩:=rG (n:=3) (m:=3) (au e.toNat++au en.toNat) (by omega) (by omega);obtain⟨b1,b2,b3⟩:=rG (n:=e.toNat) (m:=1048576) (au en.toNat) (by omega) (by omega);obtain⟨c1,c2,c3⟩:=rG (n:=en.toNat) (m:=1048576) [] (by omega) (by omega);rw[gG]at c1 c2 c3;rw[zy (by omega)]at b2 c2;have z1:fzB 18446744073709551617 (au 3++(au e.toNat++au en.toNat)).length (bc (au 3++(au e.toNat++au en.toNat)))=true:=o7 rfl (by rw[bP,bP]; omega);have z2:fzB 18446744073709551617 (au e.toNat++au en.toNat).length (bc (au e.toNat++au en.toNat))=true:=o7 rfl (by rw[bP]; omega);have z3:fzB 18446744073709551617 (au en.toNat).length (bc (au en.toNat))=true:=o7 rfl (by omega);unfold Bo nB;generalize au 3++(au e.toNat++au en.toNat)=L0 at *;generalize au e.toNat++au en.toNat=L1 at *;generalize au en.toNat=L2 at *;have n3:([]:List CmM).length=0:=rfl;have n4:ECm.all ([]:List CmM)=[]:=rfl;have n5:([]:List (Int×Int)).length=0:=rfl;have n6:ESa.all ([]:List (Int×Int))=[]:=rfl;have n7:([]:List UInt8).length=0:=rfl;have n8:gtI (ah 0) 0=false:=rfl;have k1:eqI 3 1=false:=rfl;have k2:eqI 3 2=false:=rfl;have k3:eqI 3 3=true:=rfl;have k4:((3:Nat):Int)=3:=rfl;rw[k4]at a2;simp only[me_,mz_,mf,a1,a2,a3,b1,b2,b3,c1,c2,c3,z1,z2,z3,nR,zK,fV,aW,bu,bg,k1,k2,k3,k4,n3,n4,n5,n6,n7,n8,mV,dC,cZ,aQ,dY,bC]
theorem ae0{e ro en:Int}{st:List (Int×Int)}(hk:HelOk e ro en st)(hn:0<=en/\en<=1048576)(hs:Z_ st)(hl:st.length<1000):CRX P 0 53 [ax 1 (tH e ro en st).length 0 (bc (tH e ro en st))] [] (.tuple ⟨[mV ⟨1,e,ro,en,st,0,0,[]⟩, .int .i64 0]⟩) []:=by
 have he:=hk.he;have hr:=hk.hr;have q4:=xE hk;have hsl:∀ l:List (Int×Int),(jM l).length<=22*l.length:=fun l=>by
  induction l with
  |nil=>exact dm _
  |cons s l ih=>
   have h1:=aK (n:=s.1.toNat);have h2:=aK (n:=s.2.toNat);have:(jM (s::l)).length=(au s.1.toNat).length+(au s.2.toNat).length+(jM l).length:=by unfold jM; rw[rD,bP,bP]
   rw[this,jH];omega
 have hsl:=hsl st;have q1:=SX (r:=[]) st ⟨1,e,ro,en,[],0,0,[]⟩ hs (by rw[gG]; omega) hl (by show 0+_<_; omega) (by show 0<_; omega);rw[gG]at q1;refine CRX.ofF (pol:=rF) (fl:=[.val, .val, .val, .val, .val, .val, .val, .val, .val]) (ts:=[0,0,0,0,54,0,0,35,0]) (n:=80) (kb:=[]) (dU _) bK (JU (d_ (bJ Ig) q1) (mD (bJ Io)) (az q4)) ((PI smC smX lrR (ay (deV (st.length:Int)) (deB (jM st) ⟨1,e,ro,en,[],0,0,[]⟩)) (fun _ _=>false) (ay [mV ⟨1,e,ro,en,st,0,0,[]⟩] []) ⟨1,e,ro,en,st,0,0,[]⟩ wO (tH e ro en st)).trans ?_);clear q1 q4;have d0:=aK (n:=1);have d1:=aK (n:=e.toNat);have d2:=aK (n:=ro.toNat);have d3:=aK (n:=en.toNat);have d4:=aK (n:=st.length);obtain⟨a1,a2,a3⟩:=rG (n:=1) (m:=3) (au e.toNat++(au ro.toNat++(au en.toNat++(au st.length++jM st)))) (by omega) (by omega);obtain⟨b1,b2,b3⟩:=rG (n:=e.toNat) (m:=1048576) (au ro.toNat++(au en.toNat++(au st.length++jM st))) (by omega) (by omega);obtain⟨c1,c2,c3⟩:=rG (n:=ro.toNat) (m:=3) (au en.toNat++(au st.length++jM st)) (by omega) (by omega);obtain⟨e1,e2,e3⟩:=rG (n:=en.toNat) (m:=1048576) (au st.length++jM st) (by omega) (by omega);obtain⟨f1,f2,f3⟩:=rG (n:=st.length) (m:=1048576) (jM st) (by omega) (by omega);rw[zy (by omega)]at b2 c2 e2;have z0:fzB 18446744073709551617 (au 1++(au e.toNat++(au ro.toNat++(au en.toNat++(au st.length++jM st))))).length (bc (au 1++(au e.toNat++(au ro.toNat++(au en.toNat++(au st.length++jM st))))))=true:=o7 rfl (by simp only[me_,mz_,bP]; omega);have z1:fzB 18446744073709551617 (au e.toNat++(au ro.toNat++(au en.toNat++(au st.length++jM st)))).length (bc (au e.toNat++(au ro.toNat++(au en.toNat++(au st.length++jM st)))))=true:=o7 rfl (by simp only[me_,mz_,bP]; omega);have z2:fzB 18446744073709551617 (au ro.toNat++(au en.toNat++(au st.length++jM st))).length (bc (au ro.toNat++(au en.toNat++(au st.length++jM st))))=true:=o7 rfl (by simp only[me_,mz_,bP]; omega);have z3:fzB 18446744073709551617 (au en.toNat++(au st.length++jM st)).length (bc (au en.toNat++(au st.length++jM st)))=true:=o7 rfl (by simp only[me_,mz_,bP]; omega);have z4:fzB 18446744073709551617 (au st.length++jM st).length (bc (au st.length++jM st))=true:=o7 rfl (by simp only[me_,mz_,bP]; omega);have hE:tH e ro en st=au 1++(au e.toNat++(au ro.toNat++(au en.toNat++(au st.length++jM st)))):=rfl;rw[hE];clear hE;generalize au 1++(au e.toNat++(au ro.toNat++(au en.toNat++(au st.length++jM st))))=L0 at *;generalize au e.toNat++(au ro.toNat++(au en.toNat++(au st.length++jM st)))=L1 at *;generalize au ro.toNat++(au en.toNat++(au st.length++jM st))=L2 at *;generalize au en.toNat++(au st.length++jM st)=L3 at *;generalize au st.length++jM st=L4 at *;generalize jM st=L5 at *;have u:cvI .u8 ro=ro:=by
  have h1:ro=1\/ro=2\/ro=3:=by omega
  rcases h1 with rfl | rfl | rfl<;>rfl
 have n3:([]:List CmM).length=0:=rfl;have n4:ECm.all ([]:List CmM)=[]:=rfl;have n5:([]:List (Int×Int)).length=0:=rfl;have n6:ESa.all ([]:List (Int×Int))=[]:=rfl;have k1:eqI 1 1=true:=rfl;have k4:((1:Nat):Int)=1:=rfl;rw[k4]at a2;simp only[me_,mz_,mf,a1,a2,a3,b1,b2,b3,c1,c2,c3,e1,e2,e3,f1,f2,f3,z0,z1,z2,z3,z4,u,nR,zK,fV,aW,bu,bg,k1,k4,n3,n4,n5,n6,deV,deB,mgC,wO,lrB,mV,dC,fJ,cZ,aQ,dY,lsV,ptV,ql,iY,bC]
theorem adC{e fr pv:Int}{cs:List CmM}(hk:ShpOk e fr pv cs)(hc:∀ c∈cs,cmE c=0):CRX P 0 53 [ax 1 (kZ e fr pv cs).length 0 (bc (kZ e fr pv cs))] [] (.tuple ⟨[mV ⟨2,e,0,0,[],fr,pv,cs⟩, .int .i64 0]⟩) []:=by
 have he:=hk.he;have hf:=hk.hf;have hp:=hk.hp;have hn:=hk.hn;have q4:=uX hk (fun c h=>by
  obtain⟨_,_,hb⟩:=fU.1 (hc c h);obtain⟨b1,b2,b3⟩:=dM.1 hb
  omega)
 have hsl:=sW cs hc;have q3:=TR (r:=[]) cs ⟨2,e,0,0,[],fr,pv,[]⟩ hc (by rw[gG]; omega) (by omega) (by show 0<_; omega) (by show 0+_<_; omega);rw[gG]at q3;refine CRX.ofF (pol:=rF) (fl:=[.val, .val, .val, .val, .val, .val, .val, .val, .val]) (ts:=[0,0,0,0,54,0,0,35,0]) (n:=80) (kb:=[]) (dU _) bK (JU (mD (bJ Ig)) (d_ (bJ Io) q3) (az q4)) ((PI smC smX lrR (fun _ _=>false) (ay (deV (cs.length:Int)) (deB (b_ cs) ⟨2,e,0,0,[],fr,pv,[]⟩)) (ay [mV ⟨2,e,0,0,[],fr,pv,cs⟩] []) wO ⟨2,e,0,0,[],fr,pv,cs⟩ (kZ e fr pv cs)).trans ?_);clear q3 q4;have d0:=aK (n:=2);have d1:=aK (n:=e.toNat);have d2:=aK (n:=fr.toNat);have d3:=aK (n:=pv.toNat);have d4:=aK (n:=cs.length);obtain⟨a1,a2,a3⟩:=rG (n:=2) (m:=3) (au e.toNat++(au fr.toNat++(au pv.toNat++(au cs.length++b_ cs)))) (by omega) (by omega);obtain⟨b1,b2,b3⟩:=rG (n:=e.toNat) (m:=1048576) (au fr.toNat++(au pv.toNat++(au cs.length++b_ cs))) (by omega) (by omega);obtain⟨c1,c2,c3⟩:=rG (n:=fr.toNat) (m:=1048576) (au pv.toNat++(au cs.length++b_ cs)) (by omega) (by omega);obtain⟨e1,e2,e3⟩:=rG (n:=pv.toNat) (m:=1048576) (au cs.length++b_ cs) (by omega) (by omega);obtain⟨f1,f2,f3⟩:=rG (n:=cs.length) (m:=4) (b_ cs) (by omega) (by omega);rw[zy (by omega)]at b2 c2 e2;have z0:fzB 18446744073709551617 (au 2++(au e.toNat++(au fr.toNat++(au pv.toNat++(au cs.length++b_ cs))))).length (bc (au 2++(au e.toNat++(au fr.toNat++(au pv.toNat++(au cs.length++b_ cs))))))=true:=o7 rfl (by simp only[me_,mz_,bP]; omega);have z1:fzB 18446744073709551617 (au e.toNat++(au fr.toNat++(au pv.toNat++(au cs.length++b_ cs)))).length (bc (au e.toNat++(au fr.toNat++(au pv.toNat++(au cs.length++b_ cs)))))=true:=o7 rfl (by simp only[me_,mz_,bP]; omega);have z2:fzB 18446744073709551617 (au fr.toNat++(au pv.toNat++(au cs.length++b_ cs))).length (bc (au fr.toNat++(au pv.toNat++(au cs.length++b_ cs))))=true:=o7 rfl (by simp only[me_,mz_,bP]; omega);have z3:fzB 18446744073709551617 (au pv.toNat++(au cs.length++b_ cs)).length (bc (au pv.toNat++(au cs.length++b_ cs)))=true:=o7 rfl (by simp only[me_,mz_,bP]; omega);have z4:fzB 18446744073709551617 (au cs.length++b_ cs).length (bc (au cs.length++b_ cs))=true:=o7 rfl (by simp only[me_,mz_,bP]; omega);have hE:kZ e fr pv cs=au 2++(au e.toNat++(au fr.toNat++(au pv.toNat++(au cs.length++b_ cs)))):=rfl;rw[hE];clear hE;generalize au 2++(au e.toNat++(au fr.toNat++(au pv.toNat++(au cs.length++b_ cs))))=L0 at *;generalize au e.toNat++(au fr.toNat++(au pv.toNat++(au cs.length++b_ cs)))=L1 at *;generalize au fr.toNat++(au pv.toNat++(au cs.length++b_ cs))=L2 at *;generalize au pv.toNat++(au cs.length++b_ cs)=L3 at *;generalize au cs.length++b_ cs=L4 at *;generalize b_ cs=L5 at *;have n3:([]:List CmM).length=0:=rfl;have n4:ECm.all ([]:List CmM)=[]:=rfl;have n5:([]:List (Int×Int)).length=0:=rfl;have n6:ESa.all ([]:List (Int×Int))=[]:=rfl;have k1:eqI 2 1=false:=rfl;have k2:eqI 2 2=true:=rfl;have k4:((2:Nat):Int)=2:=rfl;rw[k4]at a2;simp only[me_,mz_,mf,a1,a2,a3,b1,b2,b3,c1,c2,c3,e1,e2,e3,f1,f2,f3,z0,z1,z2,z3,z4,nR,zK,fV,aW,bu,bg,k1,k2,k4,n3,n4,n5,n6,deV,deB,mgC,wO,lrB,mV,dC,fJ,cZ,aQ,dY,lsV,ptV,ql,iY,bC]
/-- A node that is up. -/
structure NdM where
 nu:Int
 mo:Int
 s:StaM
 ac:Int
 kn:Int
 he:MsgM
def jb:Pol:=fun t=>match Nat.beq t 82 with
 |true=>some [.val, .val, .val, .val, .val, .val, .val, .val, .val, .val, .val, .val, .val, .val]
 |false=>rF t
def stN(k:Nat)(s:StaM):List Blk:=[.cells (lX 8 9 10 11 12 s.dk) 86 true, .cells ([ptV 1, .bool s.off]++pgC s.pg++[lsV 13 s.log.length,ptV 3,ptV 4,ptV 5, .int .i64 s.held]) 128 true,
 .cells [ptV 1, .bool s.wbr,lsV 14 s.wcs.length,lsV 15 s.wes.length] 170 true, .cells [ptV 1, .bool s.rbr,lsV 16 s.rs.length] 168 true, .cells [ptV 6,ptV 4,lsV 17 s.rest.length] 174 true, .cells [.map (some 7)] 98 true, .map s.tb.es s.tb.ck]++dkL s.dk++
 [.cells (ECm.all s.log) 47 false, .cells (ECm.all s.wcs) 47 false, .cells (EIn.all s.wes) 3 false, .cells (gI.all s.rs) 161 false, .cells (ECm.all s.rest) 47 false]
def ndB(n:NdM):List Blk:=[.cells ([.int .i64 n.nu, .int .i64 n.mo,ptV 1,ptV 2, .int .i64 n.ac, .int .i64 n.kn]++mgV n.he) 82 true]++stN 0 n.s
def nh_(u o a k:Int)(d t:Nat)(m:MsgM):Blk:=(.cells [io_ u,io_ o,pt_ d,pt_ t,io_ a,io_ k,io_ m.k,io_ m.e, .int .u8 m.ro,io_ m.en,fc_ m.st.length 0 (Enc.all ESa m.st),io_ m.fr,io_ m.pv,fa_ m.cs.length 0 (Enc.all ECm m.cs)] 82 true)
def ag9(C1 C3 C5 C6:List Value->List Blk->Bool)(r a:Int)(s2:StaM):Ct:=ak P aB 0 33 (aP C1 (.leaf (.int .i64 r,[]))) (ak P aB 0 71 (aP C3 (.leaf (.int .i64 0,[])))
 (ak P aB 0 36 (aP C5 (.leaf (.int .i64 a,[]))) (ak P aB 7 38 (aP C6 (.leaf (.int .i64 0,stB s2))) ctF)))
theorem Xn(C1 C3 C5 C6:List Value->List Blk->Bool)(r a:Int)(n:NdM)(s2:StaM)(l:List OpM):aN P E (ag9 C1 C3 C5 C6 r a s2) 50 jb [] [] 8 9 [p0,bD l] (ndB n) =
 (let z:=n.s;let y:=dn_ w0_ z.dk none;let x:=fa_ l.length 0 (Enc.all EOp l);let w:=io_ 0;let v:=nh_ n.nu n.mo n.ac n.kn 1 2 n.he;let u:=dk_ z.dk 8 9 10 11 12;let t:=sb_ z z.pg 1 13 3 4 5;let s:=wb_ z 1 14 15;let q:=rb_ z 1 16;let p:=so_ 6 4 17 z.rest.length;let o:=tb_ 7;let m:=ro_ [0,8,23,10];
 let k:=z.tb.es;let j:=z.tb.ck;let i:=ro_ [0,8,26,10];let h:=ag (v::u::t::s::q::p::o:: .map (aF true i k) j::nl_ (cz_ i w0_) z []);let g:=ah z.log.length;let f:=io_ n.ac;let e:=io_ n.mo;let d:=ro_ [0,8,38,10];let c:=io_ z.pg.ep;let b:=io_ (bM .i64 g 1);let Z:=aT (rg_ [2,1,1,1,3,5]) 58;
 let Y:=bk_ Z w0_;let X:=ro_ [0,8,68,10];
 (aj (eQ (eQ z.dk.off)) y (ae (C1 [x] []) (aj (neI r 0) (aj (eqI r 6) y (nn_ w0_ z (some (.tuple ⟨[w,io_ r]⟩,ag (v::u::t::s::q::p::o:: .map (aF true m k) j::nl_ (cz_ m w0_) z []))))) (ae (C3 [pg_ z.pg] []) (aj (eqI z.pg.ro 2) (nn_ w0_ z (some (.tuple ⟨[w,io_ 11]⟩,h))) (aj (eqI z.pg.ro 3) (nn_ w0_ z (some (.tuple ⟨[w,io_ 9]⟩,h))) (ae (C5 [io_ g,f,e] []) (ae (bz f f) (ae (bz e e) (aj (neI a 0) (aj (eqI a 6) y (nn_ w0_ z (some (.tuple ⟨[w,io_ a]⟩,ag (v::u::t::s::q::p::o:: .map (aF true d k) j::nl_ (cz_ d w0_) z []))))) (ae (bz c c) (ae (bz x x) (ns_ z (ae (C6 [pt_ 0, .iface 18446744073709551619 (.agg ⟨[.slice none 1 0,c,b,x]⟩)] (sm_ z (ro_ [2,1,1,1,3,5,49,5,48,1,54,4]))) (nn_ Y s2 (some (.tuple ⟨[b,w]⟩,ag (v::dk_ s2.dk 8 9 10 11 12::sb_ s2 s2.pg 1 13 3 4 5::wb_ s2 1 14 15::rb_ s2 1 16::so_ 6 4 17 s2.rest.length::o:: .map (aF true X (aF true Z s2.tb.es)) s2.tb.ck::nl_ (cz_ X Y) s2 []))))))))))))))))))):=by kernel_rfl
def aiB(C:List Value->List Blk->Bool)(s:StaM):Ct:=ak P aB 7 41 (aP C (.leaf (aQ s.log,stB s))) ctF
theorem aet(C:List Value->List Blk->Bool)(n:NdM):aN P E (aiB C n.s) 50 jb [.val] [35] 8 11 [p0] (ndB n) =
 (let z:=n.s;let y:=aT (rg_ [2,1,1,1,3,5]) 28;let x:=bk_ y w0_;let w:=ro_ [0,8,38,10];
 (ns_ z (ae (C [pt_ 0] (sm_ z (ro_ [2,1,1,1,3,5,19,5,18,1,24,4]))) (nn_ x z (some (fa_ z.log.length 0 (Enc.all ECm z.log),ag (nh_ n.nu n.mo n.ac n.kn 1 2 n.he::dk_ z.dk 8 9 10 11 12::sb_ z z.pg 1 13 3 4 5::wb_ z 1 14 15::rb_ z 1 16::so_ 6 4 17 z.rest.length::tb_ 7:: .map (aF true w (aF true y z.tb.es)) z.tb.ck::nl_ (cz_ w x) z []))))))):=by kernel_rfl
theorem ab8(n:NdM):aN P E ctF 50 jb [] [] 8 16 [p0] (ndB n) =
 (let z:=ro_ [0,8,20,10];
 (nn_ w0_ n.s (some (pg_ n.s.pg,ag (nh_ n.nu n.mo n.ac n.kn 1 2 n.he::dk_ n.s.dk 8 9 10 11 12::sb_ n.s n.s.pg 1 13 3 4 5::wb_ n.s 1 14 15::rb_ n.s 1 16::so_ 6 4 17 n.s.rest.length::tb_ 7:: .map (aF true z n.s.tb.es) n.s.tb.ck::nl_ (cz_ z w0_) n.s []))))):=by kernel_rfl
theorem adE(n:NdM):aN P E ctF 50 jb [] [] 8 14 [p0] (ndB n) =
 (let z:=n.s;let y:=nh_ n.nu n.mo n.ac n.kn 1 2 n.he;let x:=dk_ z.dk 8 9 10 11 12;let w:=sb_ z z.pg 1 13 3 4 5;let v:=wb_ z 1 14 15;let u:=rb_ z 1 16;let t:=so_ 6 4 17 z.rest.length;let s:=ro_ [0,8,19,10];let r:=ro_ [0,8,30,10];
 (aj (neI z.pg.ro 1) (nn_ w0_ z (some (io_ 0,ag (y::x::w::v::u::t::tb_ 7:: .map (aF true s z.tb.es) z.tb.ck::nl_ (cz_ s w0_) z [])))) (ae (bz (io_ n.ac) (io_ n.ac)) (nn_ w0_ z (some (io_ (dJ .i64 (ah z.log.length) n.ac),ag (y::x::w::v::u::t::tb_ 7:: .map (aF true r z.tb.es) z.tb.ck::nl_ (cz_ r w0_) z []))))))):=by kernel_rfl
theorem aeC(en:Int):aN P E (ak P aB 0 71 (aP (ay [pgV ⟨1,2,0,0,0,0⟩] []) (.leaf (.int .i64 0,[]))) ctF) 50 aB [] [] 0 43 [pgV ⟨1,2,0,0,0,0⟩, .int .i64 en] [] =
 (let z:=io_ 0;let y:=Value.int .u8 0;let x:=[Value.agg ⟨[io_ 1, .int .u8 2,z,y,z,z]⟩];let w:=some (Value.tuple ⟨[.agg ⟨[z,y,z,y,z,z]⟩,io_ 2]⟩,ag []);
 (ae (ay x [] x []) (aj (geI en 0) (aj (eQ (leI en 1048576)) w (some (.tuple ⟨[.agg ⟨[io_ 2, .int .u8 1,io_ en,y,z,z]⟩,z]⟩,ag []))) w))):=by kernel_rfl
theorem S9(C:List Value->List Blk->Bool)(p:PgM)(e:Int):aN P E (ak P aB 0 71 (aP C (.leaf (.int .i64 0,[]))) ctF) 50 aB [] [] 0 54 [pgV p, .int .i64 e] [] =
 (let z:=io_ 0;let y:=Value.int .u8 0;let x:=Value.bool false;let w:=ag [];let v:=some (Value.tuple ⟨[.agg ⟨[z,y,z,y,z,z]⟩,x,io_ 2]⟩,w);
 (ae (C [pg_ p] []) (aj (geI e 1) (aj (eQ (leI e 1048576)) v (aj (gtI e p.ep) (some (.tuple ⟨[.agg ⟨[io_ e, .int .u8 3,z, .int .u8 1,z,z]⟩, .bool true,z]⟩,w)) (some (.tuple ⟨[pg_ p,x,z]⟩,w)))) v))):=by kernel_rfl
def aiN(C1 C2:List Value->List Blk->Bool)(p:PgM)(s2:StaM):Ct:=ak P aB 0 43 (aP C1 (.leaf (.tuple ⟨[pgV p, .int .i64 0]⟩,[]))) (ak P aB 7 44 (aP C2 (.leaf (.int .i64 0,stB s2))) ctF)
theorem aeO(C1 C2:List Value->List Blk->Bool)(p:PgM)(n:NdM)(s2:StaM):aN P E (aiN C1 C2 p s2) 50 jb [] [] 8 12 [p0] (ndB n) =
 (let z:=io_ p.ep;let y:=bz z z;let x:=aT (rg_ [2,1,1,1,3,5]) 34;let w:=bk_ x w0_;let v:=ro_ [0,8,57,10];
 (aj (eQ (eQ n.s.dk.off)) (dn_ w0_ n.s.dk none) (ae (C1 [pg_ n.s.pg,io_ (ah n.s.log.length)] []) (ns_ n.s (ae (C2 [pt_ 0,pg_ p] (sm_ n.s (ro_ [2,1,1,1,3,5,25,5,24,1,30,4]))) (ae y (ae y (ae y (nn_ w s2 (some (.tuple ⟨[z,io_ 0]⟩,ag (nh_ n.nu n.mo (ah s2.log.length) (-1) 1 2 n.he::dk_ s2.dk 8 9 10 11 12::sb_ s2 s2.pg 1 13 3 4 5::wb_ s2 1 14 15::rb_ s2 1 16::so_ 6 4 17 s2.rest.length::tb_ 7:: .map (aF true v (aF true x s2.tb.es)) s2.tb.ck::nl_ (cz_ v w) s2 [])))))))))))):=by kernel_rfl
def RlE(C1 C2:List Value->List Blk->Bool)(b1 b2:List UInt8):iC:=fun args bs=>match args with
 |[.agg ⟨.int _ k::_⟩]=>match eqI k 1 with
  |true=>some (.ite (C1 args bs) (.leaf (.tuple ⟨[ax 1 b1.length 0 (bc b1), .int .i64 0]⟩,[])) .fail)
  |false=>some (.ite (C2 args bs) (.leaf (.tuple ⟨[ax 1 b2.length 0 (bc b2), .int .i64 0]⟩,[])) .fail)
 |_=>none
def NdM.at1(n:NdM)(e ac kn:Int):NdM:={ n with s:={ n.s with pg:=⟨e,1,ac,0,0,0⟩ },kn:=kn }
def NdM.at2(n:NdM)(e:Int):NdM:={ n with s:={ n.s with pg:=⟨e,2,0,0,0,0⟩ } }
def agH(C1 C2 C3 C4 C5:List Value->List Blk->Bool)(s:StaM)(h m:MsgM)(b1 b2:List UInt8):Ct:=ak P aB 7 41 (aP C1 (.leaf (aQ s.log,stB s))) (ak P aB 0 125 (aP C2 (.leaf (.tuple ⟨[mV h, .int .i64 0]⟩,[]))) (ak P aB 0 21 (RlE C3 C4 b1 b2) (ak P aB 0 126 (aP C5 (.leaf (.tuple ⟨[mV m, .int .i64 0]⟩,[]))) ctF)))
theorem Su(C1 C2 C3 C4 C5:List Value->List Blk->Bool)(n:NdM)(e ac kn:Int)(ro en:Int)(st:List (Int×Int))(fr pv:Int)(cs:List CmM)(b1 b2:List UInt8):aN P E (agH C1 C2 C3 C4 C5 (n.at1 e ac kn).s ⟨1,e,ro,en,st,0,0,[]⟩ ⟨2,e,0,0,[],fr,pv,cs⟩ b1 b2) 50 jb [.val, .val] [64,0] 8 39 [p0] (ndB (n.at1 e ac kn)) =
 (let z:=NdM.at1 n e ac kn;let y:=z.s;let x:=io_ y.pg.ep;let w:=y.log.length;let v:=fa_ w 0 (Enc.all ECm y.log);let u:=MsgM.mk 1 e ro en st 0 0 [];let t:=MsgM.mk 2 e 0 0 [] fr pv cs;let r:=aT (rg_ [2,1,1,1,3,5]) 34;let q:=bk_ r w0_;let p:=fb_ b1.length 0 (bc b1);let o:=nh_ z.nu z.mo z.ac z.kn 1 2 z.he;
 let m:=dk_ y.dk 8 9 10 11 12;let l:=sb_ y y.pg 1 13 3 4 5;let k:=wb_ y 1 14 15;let j:=rb_ y 1 16;let i:=so_ 6 4 17 y.rest.length;let h:=ro_ [0,8,66,10];let g:=aF true r y.tb.es;let f:=ae (C4 [.agg ⟨[io_ t.k,io_ t.e, .int .u8 t.ro,io_ t.en,fc_ 0 0 [],io_ t.fr,io_ t.pv,fa_ t.cs.length 0 (Enc.all ECm t.cs)]⟩] []) (nn_ q y (some (.tuple ⟨[.iface 18446744073709551617 (.agg ⟨[.slice none 2 0,p,fb_ b2.length 0 (bc b2)]⟩),io_ 0]⟩,ag (o::m::l::k::j::i::tb_ 7:: .map (aF true h g) y.tb.ck::nl_ (cz_ h q) y []))));
 let d:=ro_ [0,8,47,10];
 (aj (eQ (eQ y.dk.off)) (dn_ w0_ y.dk none) (ns_ y (ae (C1 [pt_ 0] (sm_ y (ro_ [2,1,1,1,3,5,25,5,24,1,30,4]))) (ae (C2 [x, .int .u8 y.pg.ro,v] []) (ae (C3 [.agg ⟨[io_ u.k,io_ u.e, .int .u8 u.ro,io_ u.en,fc_ u.st.length 0 (Enc.all ESa u.st),io_ u.fr,io_ u.pv,fa_ 0 0 []]⟩] []) (aj (geI z.kn 0) (aj (ltI (ah w) z.kn) (ae (C5 [x,v,io_ (ah w)] []) f) (ae (C5 [x,v,io_ z.kn] []) f)) (nn_ q y (some (.tuple ⟨[.iface 18446744073709551617 (.agg ⟨[.slice none 1 0,p]⟩),io_ 0]⟩,ag (o::m::l::k::j::i::tb_ 7:: .map (aF true d g) y.tb.ck::nl_ (cz_ d q) y []))))))))))):=by kernel_rfl
theorem ac8(C1 C2 C3 C4 C5:List Value->List Blk->Bool)(n:NdM)(e:Int)(ro en:Int)(st:List (Int×Int))(fr pv:Int)(cs:List CmM)(b1 b2:List UInt8):aN P E (agH C1 C2 C3 C4 C5 (n.at2 e).s ⟨1,e,ro,en,st,0,0,[]⟩ ⟨2,e,0,0,[],fr,pv,cs⟩ b1 b2) 50 jb [.val, .val] [64,0] 8 39 [p0] (ndB (n.at2 e)) =
 (let z:=NdM.at2 n e;let y:=z.s;let x:=MsgM.mk 1 e ro en st 0 0 [];let w:=aT (rg_ [2,1,1,1,3,5]) 34;let v:=bk_ w w0_;let u:=ro_ [0,8,47,10];
 (aj (eQ (eQ y.dk.off)) (dn_ w0_ y.dk none) (ns_ y (ae (C1 [pt_ 0] (sm_ y (ro_ [2,1,1,1,3,5,25,5,24,1,30,4]))) (ae (C2 [io_ y.pg.ep, .int .u8 y.pg.ro,fa_ y.log.length 0 (Enc.all ECm y.log)] []) (ae (C3 [.agg ⟨[io_ x.k,io_ x.e, .int .u8 x.ro,io_ x.en,fc_ x.st.length 0 (Enc.all ESa x.st),io_ x.fr,io_ x.pv,fa_ 0 0 []]⟩] []) (nn_ v y (some (.tuple ⟨[.iface 18446744073709551617 (.agg ⟨[.slice none 1 0,fb_ b1.length 0 (bc b1)]⟩),io_ 0]⟩,ag (nh_ z.nu z.mo z.ac z.kn 1 2 z.he::dk_ y.dk 8 9 10 11 12::sb_ y y.pg 1 13 3 4 5::wb_ y 1 14 15::rb_ y 1 16::so_ 6 4 17 y.rest.length::tb_ 7:: .map (aF true u (aF true w y.tb.es)) y.tb.ck::nl_ (cz_ u v) y [])))))))))):=by kernel_rfl
def ndG(n:NdM)(ot:TbM)(orest:List CmM):List Blk:=[.cells ([.int .i64 n.nu, .int .i64 n.mo,ptV 1,ptV 2, .int .i64 n.ac, .int .i64 n.kn]++mgV n.he) 82 true,
 .cells (lX 11 12 13 14 15 n.s.dk) 86 true,
 .cells ([ptV 1, .bool n.s.off]++pgC n.s.pg++[lsV 16 n.s.log.length,ptV 3,ptV 4,ptV 8, .int .i64 n.s.held]) 128 true,
 .cells [ptV 1, .bool n.s.wbr,lsV 17 n.s.wcs.length,lsV 18 n.s.wes.length] 170 true,
 .cells [ptV 1, .bool n.s.rbr,lsV 19 n.s.rs.length] 168 true,
 .cells [ptV 6,ptV 4,lsV 21 orest.length] 174 true,
 .cells [.map (some 7)] 98 true,
 .map ot.es ot.ck,
 .cells [ptV 9,ptV 4,lsV 20 n.s.rest.length] 174 true,
 .cells [.map (some 10)] 98 true,
 .map n.s.tb.es n.s.tb.ck]++dkL n.s.dk++[.cells (ECm.all n.s.log) 47 false, .cells (ECm.all n.s.wcs) 47 false, .cells (EIn.all n.s.wes) 3 false, .cells (gI.all n.s.rs) 161 false, .cells (ECm.all n.s.rest) 47 false]++
 [.cells (ECm.all orest) 47 false]
def aX(x y:NdM):List Blk:=[.cells ([.int .i64 x.nu, .int .i64 x.mo,ptV 1,ptV 2, .int .i64 x.ac, .int .i64 x.kn]++mgV x.he) 82 true,
 .cells (lX 16 17 18 19 20 x.s.dk) 86 true,
 .cells ([ptV 1, .bool x.s.off]++pgC x.s.pg++[lsV 21 x.s.log.length,ptV 3,ptV 4,ptV 5, .int .i64 x.s.held]) 128 true,
 .cells [ptV 1, .bool x.s.wbr,lsV 22 x.s.wcs.length,lsV 23 x.s.wes.length] 170 true,
 .cells [ptV 1, .bool x.s.rbr,lsV 24 x.s.rs.length] 168 true,
 .cells [ptV 6,ptV 4,lsV 25 x.s.rest.length] 174 true,
 .cells [.map (some 7)] 98 true,
 .map x.s.tb.es x.s.tb.ck,
 .cells ([.int .i64 y.nu, .int .i64 y.mo,ptV 9,ptV 10, .int .i64 y.ac, .int .i64 y.kn]++mgV y.he) 82 true,
 .cells (lX 26 27 28 29 30 y.s.dk) 86 true,
 .cells ([ptV 9, .bool y.s.off]++pgC y.s.pg++[lsV 31 y.s.log.length,ptV 11,ptV 12,ptV 13, .int .i64 y.s.held]) 128 true,
 .cells [ptV 9, .bool y.s.wbr,lsV 32 y.s.wcs.length,lsV 33 y.s.wes.length] 170 true,
 .cells [ptV 9, .bool y.s.rbr,lsV 34 y.s.rs.length] 168 true,
 .cells [ptV 14,ptV 12,lsV 35 y.s.rest.length] 174 true,
 .cells [.map (some 15)] 98 true,
 .map y.s.tb.es y.s.tb.ck]++dkL x.s.dk++[.cells (ECm.all x.s.log) 47 false, .cells (ECm.all x.s.wcs) 47 false, .cells (EIn.all x.s.wes) 3 false, .cells (gI.all x.s.rs) 161 false, .cells (ECm.all x.s.rest) 47 false]++
 dkL y.s.dk++[.cells (ECm.all y.s.log) 47 false, .cells (ECm.all y.s.wcs) 47 false, .cells (EIn.all y.s.wes) 3 false, .cells (gI.all y.s.rs) 161 false, .cells (ECm.all y.s.rest) 47 false]
def jS(x y:NdM)(ot:TbM)(orest:List CmM):List Blk:=[.cells ([.int .i64 x.nu, .int .i64 x.mo,ptV 1,ptV 2, .int .i64 x.ac, .int .i64 x.kn]++mgV x.he) 82 true,
 .cells (lX 19 20 21 22 23 x.s.dk) 86 true,
 .cells ([ptV 1, .bool x.s.off]++pgC x.s.pg++[lsV 24 x.s.log.length,ptV 3,ptV 4,ptV 16, .int .i64 x.s.held]) 128 true,
 .cells [ptV 1, .bool x.s.wbr,lsV 25 x.s.wcs.length,lsV 26 x.s.wes.length] 170 true,
 .cells [ptV 1, .bool x.s.rbr,lsV 27 x.s.rs.length] 168 true,
 .cells [ptV 6,ptV 4,lsV 39 orest.length] 174 true,
 .cells [.map (some 7)] 98 true,
 .map ot.es ot.ck,
 .cells ([.int .i64 y.nu, .int .i64 y.mo,ptV 9,ptV 10, .int .i64 y.ac, .int .i64 y.kn]++mgV y.he) 82 true,
 .cells (lX 29 30 31 32 33 y.s.dk) 86 true,
 .cells ([ptV 9, .bool y.s.off]++pgC y.s.pg++[lsV 34 y.s.log.length,ptV 11,ptV 12,ptV 13, .int .i64 y.s.held]) 128 true,
 .cells [ptV 9, .bool y.s.wbr,lsV 35 y.s.wcs.length,lsV 36 y.s.wes.length] 170 true,
 .cells [ptV 9, .bool y.s.rbr,lsV 37 y.s.rs.length] 168 true,
 .cells [ptV 14,ptV 12,lsV 38 y.s.rest.length] 174 true,
 .cells [.map (some 15)] 98 true,
 .map y.s.tb.es y.s.tb.ck,
 .cells [ptV 17,ptV 4,lsV 28 x.s.rest.length] 174 true,
 .cells [.map (some 18)] 98 true,
 .map x.s.tb.es x.s.tb.ck]++dkL x.s.dk++[.cells (ECm.all x.s.log) 47 false, .cells (ECm.all x.s.wcs) 47 false, .cells (EIn.all x.s.wes) 3 false, .cells (gI.all x.s.rs) 161 false, .cells (ECm.all x.s.rest) 47 false]++
 dkL y.s.dk++[.cells (ECm.all y.s.log) 47 false, .cells (ECm.all y.s.wcs) 47 false, .cells (EIn.all y.s.wes) 3 false, .cells (gI.all y.s.rs) 161 false, .cells (ECm.all y.s.rest) 47 false]++
 [.cells (ECm.all orest) 47 false]
def ltK(k:Int)(r:List UInt8):Value:=ax 1 (r.length+1) 0 (.int .u8 k::bc r)
def RcK(C1 C2 C3:List Value->List Blk->Bool)(B1 B2 B3:List Blk)(v2:Value):iC:=fun args bs=>match args with
 |[_, .iface _ (.agg ⟨_:: .int _ k::_⟩)]=>match eqI k 1,eqI k 2 with
  |true,_=>some (.ite (C1 args bs) (.leaf (.tuple ⟨[ax 1 0 0 [], .int .i64 0]⟩,B1)) .fail)
  |false,true=>some (.ite (C2 args bs) (.leaf (.tuple ⟨[v2, .int .i64 0]⟩,B2)) .fail)
  |false,false=>some (.ite (C3 args bs) (.leaf (.tuple ⟨[ax 1 0 0 [], .int .i64 0]⟩,B3)) .fail)
 |_=>none
def Uw(C0 C1 C2 C3:List Value->List Blk->Bool)(l:Value)(B0 B1 B2 B3:List Blk)(v2:Value):Ct:=ak P jb 8 39 (aP C0 (.leaf (.tuple ⟨[l, .int .i64 0]⟩,B0))) (ak P jb 8 22 (RcK C1 C2 C3 B1 B2 B3 v2) ctF)
theorem agd(C0 C1 C2 C3:List Value->List Blk->Bool)(x y x2 y2:NdM)(r1:List UInt8):aN P E (Uw C0 C1 C2 C3 (ax 1 1 0 [ltK 1 r1]) (ndB x2) (ndB y2) [] [] (ax 1 0 0 [])) 50 jb [] [] 16 10 [ptV 0,ptV 8] (aX x y) =
 (let z:=tb_ 7;let w:=ro_ [0,8,36,10];let v:=Value.int .u8 1::bc r1;let u:=ro_ [8,8,56,10];let t:=aT (rg_ [0,8]) 46;let s:=bk_ t w0_;let r:=x2.s;let q:=aT (rg_ [8,8]) 66;let p:=bk_ q w0_;let o:=y2.s;let n:=ro_ [0,16,76,20];
 (nn_ w0_ x.s (ae (C0 [pt_ 0] (nh_ x.nu x.mo x.ac x.kn 1 2 x.he::dk_ x.s.dk 8 9 10 11 12::sb_ x.s x.s.pg 1 13 3 4 5::wb_ x.s 1 14 15::rb_ x.s 1 16::so_ 6 4 17 x.s.rest.length::z:: .map (aF true w x.s.tb.es) x.s.tb.ck::nl_ (cz_ w w0_) x.s [])) (nn_ w0_ y.s (ae (C1 [pt_ 0,fb_ (zN (fb_ (HAdd.hAdd r1.length 1) 0 v)) 0 v] (nh_ y.nu y.mo y.ac y.kn 1 2 y.he::dk_ y.s.dk 8 9 10 11 12::sb_ y.s y.s.pg 1 13 3 4 5::wb_ y.s 1 14 15::rb_ y.s 1 16::so_ 6 4 17 y.s.rest.length::z:: .map (aF true u y.s.tb.es) y.s.tb.ck::nl_ (cz_ u w0_) y.s [])) (nn_ s r (nn_ p o (some (.bool true,ag (nh_ x2.nu x2.mo x2.ac x2.kn 1 2 x2.he::dk_ r.dk 16 17 18 19 20::sb_ r r.pg 1 21 3 4 5::wb_ r 1 22 23::rb_ r 1 24::so_ 6 4 25 r.rest.length::z:: .map (aF true n (aF true t r.tb.es)) r.tb.ck::nh_ y2.nu y2.mo y2.ac y2.kn 9 10 y2.he::dk_ o.dk 26 27 28 29 30::sb_ o o.pg 9 31 11 12 13::wb_ o 9 32 33::rb_ o 9 34::so_ 14 12 35 o.rest.length::tb_ 15:: .map (aF true n (aF true q o.tb.es)) o.tb.ck::nl_ (cz_ n s) r (nl_ (cz_ n p) o []))))))))))):=by kernel_rfl
theorem agL(C0 C1 C2 C3:List Value->List Blk->Bool)(x y x2 y2:NdM)(ot:TbM)(orest:List CmM)(r1:List UInt8):rP P E (Uw C0 C1 C2 C3 (ax 1 1 0 [ltK 1 r1]) (ndG x2 ot orest) (ndB y2) [] [] (ax 1 0 0 [])) 50 jb [] [] 16 [] 10 [ptV 0,ptV 8] (aX x y) =
 (let z:=tb_ 7;let w:=ro_ [0,8,36,10];let v:=Value.int .u8 1::bc r1;let u:=ro_ [8,8,60,10];let t:=aT (rg_ [0,8]) 46;let s:=bk_ t w0_;let r:=x2.s;let q:=aT (rg_ [8,8]) 70;let p:=bk_ q w0_;let o:=y2.s;let n:=orest.length;let m:=aG true t (Enc.all ECm orest);let l:=ro_ [0,16,46,3,80,21];
 (nn_ w0_ x.s (ae (C0 [pt_ 0] (nh_ x.nu x.mo x.ac x.kn 1 2 x.he::dk_ x.s.dk 8 9 10 11 12::sb_ x.s x.s.pg 1 13 3 4 5::wb_ x.s 1 14 15::rb_ x.s 1 16::so_ 6 4 17 x.s.rest.length::z:: .map (aF true w x.s.tb.es) x.s.tb.ck::nl_ (cz_ w w0_) x.s [])) (nn_ w0_ y.s (ae (C1 [pt_ 0,fb_ (zN (fb_ (HAdd.hAdd r1.length 1) 0 v)) 0 v] (nh_ y.nu y.mo y.ac y.kn 1 2 y.he::dk_ y.s.dk 8 9 10 11 12::sb_ y.s y.s.pg 1 13 3 4 5::wb_ y.s 1 14 15::rb_ y.s 1 16::so_ 6 4 17 y.s.rest.length::z:: .map (aF true u y.s.tb.es) y.s.tb.ck::nl_ (cz_ u w0_) y.s [])) (nn_ s r (nn_ p o (nb_ n 3 m (some (.bool true,ag (nh_ x2.nu x2.mo x2.ac x2.kn 1 2 x2.he::dk_ r.dk 19 20 21 22 23::sb_ r r.pg 1 24 3 4 16::wb_ r 1 25 26::rb_ r 1 27::so_ 6 4 39 n::z:: .map (aF true l (aF true t ot.es)) ot.ck::nh_ y2.nu y2.mo y2.ac y2.kn 9 10 y2.he::dk_ o.dk 29 30 31 32 33::sb_ o o.pg 9 34 11 12 13::wb_ o 9 35 36::rb_ o 9 37::so_ 14 12 38 o.rest.length::tb_ 15:: .map (aF true l (aF true q o.tb.es)) o.tb.ck::so_ 17 4 28 r.rest.length::tb_ 18:: .map (aF true l (aF true t r.tb.es)) r.tb.ck::nl_ (cz_ l s) r (nl_ (cz_ l p) o [lb_ l n 3 m 47])))))))))))):=by kernel_rfl
theorem afA(C0 C1 C2 C3:List Value->List Blk->Bool)(x y:NdM)(r1 r2:List UInt8):aN P E (Uw C0 C1 C2 C3 (ax 1 2 0 [ltK 1 r1,ltK 2 r2]) (ndB x) (ndB y) (ndB y) [] (ax 1 0 0 [])) 50 jb [] [] 16 10 [ptV 0,ptV 8] (aX x y) =
 (let z:=x.s;let w:=pt_ 0;let v:=nh_ x.nu x.mo x.ac x.kn 1 2 x.he;let u:=z.rest.length;let t:=tb_ 7;let s:=ro_ [0,8,36,10];let r:=y.s;let q:=Value.int .u8 1::bc r1;let p:=nh_ y.nu y.mo y.ac y.kn 1 2 y.he;let o:=dk_ r.dk 8 9 10 11 12;let n:=sb_ r r.pg 1 13 3 4 5;let m:=wb_ r 1 14 15;let l:=rb_ r 1 16;
 let k:=r.rest.length;let j:=so_ 6 4 17 k;let i:=ro_ [8,8,56,10];let h:=r.tb.es;let g:=r.tb.ck;let f:=rg_ [8,8];let e:=aT f 66;let d:=bk_ e w0_;let c:=Value.int .u8 2::bc r2;let b:=ro_ [8,8,76,10];let a:=aT (rg_ [0,8]) 46;let Z:=bk_ a w0_;let Y:=aT f 86;let X:=bk_ Y w0_;
 let W:=ro_ [0,16,96,20];
 (nn_ w0_ z (ae (C0 [w] (v::dk_ z.dk 8 9 10 11 12::sb_ z z.pg 1 13 3 4 5::wb_ z 1 14 15::rb_ z 1 16::so_ 6 4 17 u::t:: .map (aF true s z.tb.es) z.tb.ck::nl_ (cz_ s w0_) z [])) (nn_ w0_ r (ae (C1 [w,fb_ (zN (fb_ (HAdd.hAdd r1.length 1) 0 q)) 0 q] (p::o::n::m::l::j::t:: .map (aF true i h) g::nl_ (cz_ i w0_) r [])) (nn_ d r (ae (C2 [w,fb_ (zN (fb_ (HAdd.hAdd r2.length 1) 0 c)) 0 c] (p::o::n::m::l::j::t:: .map (aF true b (aF true e h)) g::nl_ (cz_ b d) r [])) (nn_ Z z (nn_ X r (some (.bool true,ag (v::dk_ z.dk 16 17 18 19 20::sb_ z z.pg 1 21 3 4 5::wb_ z 1 22 23::rb_ z 1 24::so_ 6 4 25 u::t:: .map (aF true W (aF true a z.tb.es)) z.tb.ck::nh_ y.nu y.mo y.ac y.kn 9 10 y.he::dk_ r.dk 26 27 28 29 30::sb_ r r.pg 9 31 11 12 13::wb_ r 9 32 33::rb_ r 9 34::so_ 14 12 35 k::tb_ 15:: .map (aF true W (aF true Y h)) g::nl_ (cz_ W Z) z (nl_ (cz_ W X) r []))))))))))))):=by kernel_rfl
theorem af5(C0 C1 C2 C3:List Value->List Blk->Bool)(x y x2 y2:NdM)(r1 r2 r3:List UInt8):aN P E (Uw C0 C1 C2 C3 (ax 1 2 0 [ltK 1 r1,ltK 2 r2]) (ndB x) (ndB y) (ndB y2) (ndB x2) (ax 1 1 0 [ltK 3 r3])) 50 jb [] [] 16 10 [ptV 0,ptV 8] (aX x y) =
 (let z:=x.s;let w:=pt_ 0;let v:=nh_ x.nu x.mo x.ac x.kn 1 2 x.he;let u:=dk_ z.dk 8 9 10 11 12;let t:=sb_ z z.pg 1 13 3 4 5;let s:=wb_ z 1 14 15;let r:=rb_ z 1 16;let q:=so_ 6 4 17 z.rest.length;let p:=tb_ 7;let o:=ro_ [0,8,36,10];let n:=y.s;let m:=Value.int .u8 1::bc r1;let l:=nh_ y.nu y.mo y.ac y.kn 1 2 y.he;
 let k:=dk_ n.dk 8 9 10 11 12;let j:=sb_ n n.pg 1 13 3 4 5;let i:=wb_ n 1 14 15;let h:=rb_ n 1 16;let g:=so_ 6 4 17 n.rest.length;let f:=ro_ [8,8,56,10];let e:=rg_ [8,8];let d:=aT e 66;let c:=bk_ d w0_;let b:=Value.int .u8 2::bc r2;let a:=ro_ [8,8,76,10];let Z:=rg_ [0,8];let Y:=aT Z 46;
 let X:=bk_ Y w0_;let W:=Value.int .u8 3::bc r3;let V:=ro_ [0,8,96,10];let U:=aT Z 106;let T:=bk_ U w0_;let S:=x2.s;let R:=aT e 86;let Q:=bk_ R w0_;let O:=y2.s;let N:=ro_ [0,16,116,20];
 (nn_ w0_ z (ae (C0 [w] (v::u::t::s::r::q::p:: .map (aF true o z.tb.es) z.tb.ck::nl_ (cz_ o w0_) z [])) (nn_ w0_ n (ae (C1 [w,fb_ (zN (fb_ (HAdd.hAdd r1.length 1) 0 m)) 0 m] (l::k::j::i::h::g::p:: .map (aF true f n.tb.es) n.tb.ck::nl_ (cz_ f w0_) n [])) (nn_ c n (ae (C2 [w,fb_ (zN (fb_ (HAdd.hAdd r2.length 1) 0 b)) 0 b] (l::k::j::i::h::g::p:: .map (aF true a (aF true d n.tb.es)) n.tb.ck::nl_ (cz_ a c) n [])) (nn_ X z (ae (C3 [w,fb_ (zN (fb_ (HAdd.hAdd r3.length 1) 0 W)) 0 W] (v::u::t::s::r::q::p:: .map (aF true V (aF true Y z.tb.es)) z.tb.ck::nl_ (cz_ V X) z [])) (nn_ T S (nn_ Q O (some (.bool true,ag (nh_ x2.nu x2.mo x2.ac x2.kn 1 2 x2.he::dk_ S.dk 16 17 18 19 20::sb_ S S.pg 1 21 3 4 5::wb_ S 1 22 23::rb_ S 1 24::so_ 6 4 25 S.rest.length::p:: .map (aF true N (aF true U S.tb.es)) S.tb.ck::nh_ y2.nu y2.mo y2.ac y2.kn 9 10 y2.he::dk_ O.dk 26 27 28 29 30::sb_ O O.pg 9 31 11 12 13::wb_ O 9 32 33::rb_ O 9 34::so_ 14 12 35 O.rest.length::tb_ 15:: .map (aF true N (aF true R O.tb.es)) O.tb.ck::nl_ (cz_ N T) S (nl_ (cz_ N Q) O []))))))))))))))):=by kernel_rfl
def ndD(n:NdM):List Blk:=[.cells (lX 8 9 10 11 12 n.s.dk) 86 true,
 .cells ([.int .i64 n.nu, .int .i64 n.mo,ptV 0,ptV 2, .int .i64 n.ac, .int .i64 n.kn]++mgV n.he) 82 true,
 .cells ([ptV 0, .bool n.s.off]++pgC n.s.pg++[lsV 13 n.s.log.length,ptV 3,ptV 4,ptV 5, .int .i64 n.s.held]) 128 true,
 .cells [ptV 0, .bool n.s.wbr,lsV 14 n.s.wcs.length,lsV 15 n.s.wes.length] 170 true,
 .cells [ptV 0, .bool n.s.rbr,lsV 16 n.s.rs.length] 168 true,
 .cells [ptV 6,ptV 4,lsV 17 n.s.rest.length] 174 true,
 .cells [.map (some 7)] 98 true,
 .map n.s.tb.es n.s.tb.ck]++dkL n.s.dk++[.cells (ECm.all n.s.log) 47 false, .cells (ECm.all n.s.wcs) 47 false, .cells (EIn.all n.s.wes) 3 false, .cells (gI.all n.s.rs) 161 false, .cells (ECm.all n.s.rest) 47 false]
theorem Y5:Dz P uP 4000 aB [] [] 1 [] 67 [p0, .int .i64 1] qY =
 (let z:=io_ 0;let y:=Value.bool false;let x:=pt_ 0;let w:=Blk.cells [] 5 false;let v:=Blk.cells [] 47 false;
 (some (Value.tuple ⟨[pt_ 1,z]⟩,ag [.cells [.bool true,y,y,z,z,sl_ 7 0,sl_ 8 0,sl_ 9 0,sl_ 10 0,sl_ 11 0] 86 true, .cells [x,y,io_ 1, .int .u8 2,z, .int .u8 0,z,z,sl_ 12 0,pt_ 2,pt_ 3,pt_ 4,z] 128 true, .cells [x,y,sl_ 13 0,sl_ 14 0] 170 true, .cells [x,y,sl_ 15 0] 168 true,so_ 5 3 16 0,tb_ 6, .map [] 0,w,w,w,w, .cells [] 163 false,v,v, .cells [] 3 false, .cells [] 161 false,v]))):=by kernel_rfl
def wK:StaM:=⟨false,⟨1,2,0,0,0,0⟩,[],0,dkN,false,[],[],false,[],tb0,[]⟩
theorem aaF:CRX P 1 67 [p0, .int .i64 1] qY (.tuple ⟨[ptV 1, .int .i64 0]⟩) (stD wK):=
 CRX.ofE (pol:=aB) (fl:=[]) (ts:=[]) (n:=4000) (kb:=[]) bK (q_ P) (Y5.trans rfl)
def afX(C:List Value->List Blk->Bool)(s:StaM):Ct:=ak P (fun _=>none) 1 67 (aP C (.leaf (.tuple ⟨[ptV 1, .int .i64 0]⟩,stD s))) ctF
theorem ac6(C:List Value->List Blk->Bool)(mo:Int):aN P E (afX C kK) 50 jb [] [] 1 7 [.int .i64 0, .int .i64 mo,p0] qY =
 (let z:=Value.bool true;let y:=Value.bool false;let x:=io_ 0;let w:=Blk.cells [] 5 false;let v:=Blk.cells [] 163 false;let u:=some (Value.tuple ⟨[.pointer none,io_ 2]⟩,ag [.cells [z,y,y,x,x,sl_ 1 0,sl_ 2 0,sl_ 3 0,sl_ 4 0,sl_ 5 0] 86 true,w,w,w,w,v]);let t:=pt_ 0;let s:=Value.slice none 0 0;
 let r:=Value.int .u8 0;let q:=Blk.cells [] 47 false;
 (aj (ltI mo 1) u (aj (gtI mo 16) u (ae (C [t,x] [.cells [z,y,y,x,x,s,s,s,s,s] 86 true]) (some (.tuple ⟨[pt_ 1,x]⟩,ag [.cells [z, .bool kK.dk.off, .bool kK.dk.fused,x,x,sl_ 8 0,sl_ 9 0,sl_ 10 0,sl_ 11 0,sl_ 12 0] 86 true, .cells [x,io_ mo,t,pt_ 2,x,io_ (-1),x,x,r,x,fc_ 0 0 [],x,x,fa_ 0 0 []] 82 true, .cells [t, .bool kK.off,io_ 1, .int .u8 1,x,r,x,x,sl_ 13 0,pt_ 3,pt_ 4,pt_ 5,x] 128 true, .cells [t, .bool kK.wbr,sl_ 14 0,sl_ 15 0] 170 true, .cells [t, .bool kK.rbr,sl_ 16 0] 168 true,so_ 6 4 17 0,tb_ 7, .map [] 0,w,w,w,w,v,q,q, .cells [] 3 false, .cells [] 161 false,q])))))):=by kernel_rfl
theorem afg(C:List Value->List Blk->Bool)(mo:Int):aN P E (afX C wK) 50 jb [] [] 1 7 [.int .i64 1, .int .i64 mo,p0] qY =
 (let z:=Value.bool true;let y:=Value.bool false;let x:=io_ 0;let w:=Blk.cells [] 5 false;let v:=Blk.cells [] 163 false;let u:=some (Value.tuple ⟨[.pointer none,io_ 2]⟩,ag [.cells [z,y,y,x,x,sl_ 1 0,sl_ 2 0,sl_ 3 0,sl_ 4 0,sl_ 5 0] 86 true,w,w,w,w,v]);let t:=pt_ 0;let s:=io_ 1;
 let r:=Value.slice none 0 0;let q:=Value.int .u8 0;let p:=Blk.cells [] 47 false;
 (aj (ltI mo 1) u (aj (gtI mo 16) u (ae (C [t,s] [.cells [z,y,y,x,x,r,r,r,r,r] 86 true]) (some (.tuple ⟨[pt_ 1,x]⟩,ag [.cells [z, .bool wK.dk.off, .bool wK.dk.fused,x,x,sl_ 8 0,sl_ 9 0,sl_ 10 0,sl_ 11 0,sl_ 12 0] 86 true, .cells [s,io_ mo,t,pt_ 2,x,io_ (-1),x,x,q,x,fc_ 0 0 [],x,x,fa_ 0 0 []] 82 true, .cells [t, .bool wK.off,s, .int .u8 2,x,q,x,x,sl_ 13 0,pt_ 3,pt_ 4,pt_ 5,x] 128 true, .cells [t, .bool wK.wbr,sl_ 14 0,sl_ 15 0] 170 true, .cells [t, .bool wK.rbr,sl_ 16 0] 168 true,so_ 6 4 17 0,tb_ 7, .map [] 0,w,w,w,w,v,p,p, .cells [] 3 false, .cells [] 161 false,p])))))):=by kernel_rfl
def NdM.at3(n:NdM)(ph f kn:Int):NdM:={ n with s:=n.s.at2 ph f,kn:=kn }
def aie(C1 C2:List Value->List Blk->Bool)(m:MsgM)(p:PgM)(more:Bool):Ct:=ak P rF 0 53 (aP C1 (.leaf (.tuple ⟨[mV m, .int .i64 0]⟩,[]))) (ak P aB 0 54 (aP C2 (.leaf (.tuple ⟨[pgV p, .bool more, .int .i64 0]⟩,[]))) ctF)
def aid(C1 C2 C3 C4:List Value->List Blk->Bool)(m:MsgM)(p:PgM)(kn2 ac2:Int)(ok:Bool):Ct:=ak P aB 0 53 (aP C1 (.leaf (.tuple ⟨[mV m, .int .i64 0]⟩,[]))) (ak P aB 0 54 (aP C2 (.leaf (.tuple ⟨[pgV p, .bool false, .int .i64 0]⟩,[]))) (ak P rF 0 99 (aP C3 (.leaf (.tuple ⟨[.int .i64 kn2, .bool ok, .int .i64 0]⟩,[]))) (ak P aB 0 100 (aP C4 (.leaf (.tuple ⟨[.int .i64 ac2, .int .i64 0]⟩,[]))) ctF)))
theorem OG(C1 C2 C3 C4:List Value->List Blk->Bool)(n:NdM)(e ac kn:Int)(m:MsgM)(kn2 ac2:Int)(ok:Bool)(b:List UInt8):aN P E (aid C1 C2 C3 C4 m (n.at1 e ac kn).s.pg kn2 ac2 ok) 50 jb [.val, .val] [64,0] 8 22 [p0,ax 1 b.length 0 (bc b)] (ndB (n.at1 e ac kn)) =
 (let z:=NdM.at1 n e ac kn;let y:=z.s;let x:=io_ m.e;let w:=Value.tuple ⟨[fb_ 0 0 [],io_ 0]⟩;let v:=nh_ z.nu z.mo z.ac z.kn 1 2 z.he;let u:=dk_ y.dk 8 9 10 11 12;let t:=sb_ y y.pg 1 13 3 4 5;let r:=wb_ y 1 14 15;let q:=rb_ y 1 16;let p:=so_ 6 4 17 y.rest.length;let o:=tb_ 7;let l:=ro_ [0,8,32,10];
 let k:=y.tb.es;let j:=y.tb.ck;let i:=io_ z.ac;let h:=ro_ [0,8,79,10];let g:=ro_ [0,8,64,10];
 (aj (eQ (eQ y.dk.off)) (dn_ w0_ y.dk none) (ae (C1 [fb_ b.length 0 (bc b)] []) (ae (bz x x) (aj (ltI m.e y.pg.ep) (nn_ w0_ y (some (w,ag (v::u::t::r::q::p::o:: .map (aF true l k) j::nl_ (cz_ l w0_) y [])))) (ae (C2 [pg_ y.pg,x] []) (ae (bz x x) (ae (C3 [io_ y.pg.ep,io_ z.kn,me_ m] []) (aj ok (ae (C4 [io_ (ah y.log.length),i,io_ kn2] []) (ae (bz i i) (nn_ w0_ y (some (w,ag (nh_ z.nu z.mo ac2 kn2 1 2 z.he::u::t::r::q::p::o:: .map (aF true h k) j::nl_ (cz_ h w0_) y [])))))) (nn_ w0_ y (some (w,ag (v::u::t::r::q::p::o:: .map (aF true g k) j::nl_ (cz_ g w0_) y []))))))))))))):=by kernel_rfl
theorem af0(C1 C2:List Value->List Blk->Bool)(n:NdM)(e e2 ro en:Int)(st:List (Int×Int))(b:List UInt8):aN P E (aie C1 C2 ⟨1,e2,ro,en,st,0,0,[]⟩ (n.at2 e).s.pg false) 50 jb [.val, .val] [64,0] 8 22 [p0,ax 1 b.length 0 (bc b)] (ndB (n.at2 e)) =
 (let z:=NdM.at2 n e;let y:=z.s;let x:=MsgM.e (MsgM.mk 1 e2 ro en st 0 0 []);let w:=io_ x;let v:=Value.tuple ⟨[fb_ 0 0 [],io_ 0]⟩;let u:=nh_ z.nu z.mo z.ac z.kn 1 2 z.he;let t:=dk_ y.dk 8 9 10 11 12;let r:=sb_ y y.pg 1 13 3 4 5;let q:=wb_ y 1 14 15;let p:=rb_ y 1 16;let o:=so_ 6 4 17 y.rest.length;
 let m:=ro_ [0,8,32,10];let l:=ro_ [0,8,49,10];
 (aj (eQ (eQ y.dk.off)) (dn_ w0_ y.dk none) (ae (C1 [fb_ b.length 0 (bc b)] []) (ae (bz w w) (aj (ltI x y.pg.ep) (nn_ w0_ y (some (v,ag (u::t::r::q::p::o::tb_ 7:: .map (aF true m y.tb.es) y.tb.ck::nl_ (cz_ m w0_) y [])))) (ae (C2 [pg_ y.pg,w] []) (ae (bz w w) (nn_ w0_ y (some (v,ag (u::t::r::q::p::o::tb_ 7:: .map (aF true l y.tb.es) y.tb.ck::nl_ (cz_ l w0_) y []))))))))))):=by kernel_rfl
def ail(C1 C2 C5 C6 C7 C8 C9:List Value->List Blk->Bool)(m a:MsgM)(p:PgM)(s s2:StaM)(b2:List UInt8):Ct:=ak P aB 0 53 (aP C1 (.leaf (.tuple ⟨[mV m, .int .i64 0]⟩,[]))) (ak P aB 0 54 (aP C2 (.leaf (.tuple ⟨[pgV p, .bool false, .int .i64 0]⟩,[]))) (ak P aB 7 41 (aP C5 (.leaf (aQ s.log,stB s))) (ak P rF 0 101 (aP C6 (.leaf (.tuple ⟨[aQ m.cs, .int .i64 0]⟩,[])))
 (ak P aB 7 38 (aP C7 (.leaf (.int .i64 0,stB s2))) (ak P aB 0 102 (aP C8 (.leaf (.tuple ⟨[mV a, .int .i64 0]⟩,[]))) (ak P rF 0 21 (aP C9 (.leaf (.tuple ⟨[ax 1 b2.length 0 (bc b2), .int .i64 0]⟩,[]))) ctF))))))
theorem agv(C1 C2 C5 C6 C7 C8 C9:List Value->List Blk->Bool)(n:NdM)(e e2:Int)(fr pv:Int)(cs:List CmM)(a:MsgM)(s2:StaM)(b b2:List UInt8):aN P E (ail C1 C2 C5 C6 C7 C8 C9 ⟨2,e2,0,0,[],fr,pv,cs⟩ a (n.at2 e).s.pg (n.at2 e).s s2 b2) 50 jb [.val, .val] [64,0] 8 22 [p0,ax 1 b.length 0 (bc b)] (ndB (n.at2 e)) =
 (let z:=NdM.at2 n e;let y:=z.s;let x:=MsgM.mk 2 e2 0 0 [] fr pv cs;let w:=io_ x.e;let v:=nh_ z.nu z.mo z.ac z.kn 1 2 z.he;let u:=ro_ [0,8,32,10];let t:=io_ y.pg.ep;let r:=fa_ x.cs.length 0 (Enc.all ECm x.cs);let q:=Value.agg ⟨[io_ x.k,w, .int .u8 x.ro,io_ x.en,fc_ 0 0 [],io_ x.fr,io_ x.pv,r]⟩;
 let p:=rg_ [2,1,1,1,3,5];let o:=aT p 70;let m:=aT p 90;let l:=bk_ m w0_;let k:=ro_ [0,8,112,10];
 (aj (eQ (eQ y.dk.off)) (dn_ w0_ y.dk none) (ae (C1 [fb_ b.length 0 (bc b)] []) (ae (bz w w) (aj (ltI x.e y.pg.ep) (nn_ w0_ y (some (.tuple ⟨[fb_ 0 0 [],io_ 0]⟩,ag (v::dk_ y.dk 8 9 10 11 12::sb_ y y.pg 1 13 3 4 5::wb_ y 1 14 15::rb_ y 1 16::so_ 6 4 17 y.rest.length::tb_ 7:: .map (aF true u y.tb.es) y.tb.ck::nl_ (cz_ u w0_) y [])))) (ae (C2 [pg_ y.pg,w] []) (ae (bz w w) (ns_ y (ae (C5 [pt_ 0] (sm_ y (ro_ [2,1,1,1,3,5,61,5,60,1,66,4]))) (ae (C6 [t,fa_ y.log.length 0 (Enc.all ECm y.log),q] []) (ae (bz t t) (ae (bz q q) (nw_ y o (ae (C7 [pt_ 0,r] (sw_ y (ro_ [2,1,1,1,3,5,81,5,80,1,86,4]) o)) (ae (C8 [t,io_ (ah s2.log.length)] []) (ae (bz t t) (ae (C9 [me_ a] []) (nn_ l s2 (some (.tuple ⟨[.iface 18446744073709551617 (.agg ⟨[.slice none 1 0,fb_ b2.length 0 (bc b2)]⟩),io_ 0]⟩,ag (v::dk_ s2.dk 8 9 10 11 12::sb_ s2 s2.pg 1 13 3 4 5::wb_ s2 1 14 15::rb_ s2 1 16::so_ 6 4 17 s2.rest.length::tb_ 7:: .map (aF true k (aF true m s2.tb.es)) s2.tb.ck::nl_ (cz_ k l) s2 []))))))))))))))))))))):=by kernel_rfl
def ah7(C1 C2 C3:List Value->List Blk->Bool)(m:MsgM)(p:PgM):Ct:=ak P aB 0 53 (aP C1 (.leaf (.tuple ⟨[mV m, .int .i64 0]⟩,[]))) (ak P aB 0 54 (aP C2 (.leaf (.tuple ⟨[pgV p, .bool false, .int .i64 0]⟩,[]))) (ak P rF 0 103 (aP C3 (.leaf (.bool true,[]))) ctF))
theorem agc(C1 C2 C3:List Value->List Blk->Bool)(n:NdM)(ph f kn e2 ro en:Int)(st:List (Int×Int))(b:List UInt8):aN P E (ah7 C1 C2 C3 ⟨1,e2,ro,en,st,0,0,[]⟩ (n.at3 ph f kn).s.pg) 50 jb [.val, .val] [64,0] 8 22 [p0,ax 1 b.length 0 (bc b)] (ndB (n.at3 ph f kn)) =
 (let z:=NdM.at3 n ph f kn;let y:=z.s;let x:=MsgM.mk 1 e2 ro en st 0 0 [];let w:=io_ x.e;let v:=Value.tuple ⟨[fb_ 0 0 [],io_ 0]⟩;let u:=dk_ y.dk 8 9 10 11 12;let t:=sb_ y y.pg 1 13 3 4 5;let r:=wb_ y 1 14 15;let q:=rb_ y 1 16;let p:=so_ 6 4 17 y.rest.length;let o:=ro_ [0,8,32,10];let m:=Value.int .u8 x.ro;
 let l:=fc_ x.st.length 0 (Enc.all ESa x.st);let k:=fa_ 0 0 [];let j:=ro_ [0,8,49,10];
 (aj (eQ (eQ y.dk.off)) (dn_ w0_ y.dk none) (ae (C1 [fb_ b.length 0 (bc b)] []) (ae (bz w w) (aj (ltI x.e y.pg.ep) (nn_ w0_ y (some (v,ag (nh_ z.nu z.mo z.ac z.kn 1 2 z.he::u::t::r::q::p::tb_ 7:: .map (aF true o y.tb.es) y.tb.ck::nl_ (cz_ o w0_) y [])))) (ae (C2 [pg_ y.pg,w] []) (ae (bz w w) (ae (C3 [pg_ y.pg, .agg ⟨[io_ x.k,w,m,io_ x.en,l,io_ x.fr,io_ x.pv,k]⟩] []) (nn_ w0_ y (some (v,ag (.cells [io_ z.nu,io_ z.mo,pt_ 1,pt_ 2,io_ z.ac,io_ z.kn,io_ x.k,w,m,io_ x.en,l,io_ x.fr,io_ x.pv,k] 82 true::u::t::r::q::p::tb_ 7:: .map (aF true j y.tb.es) y.tb.ck::nl_ (cz_ j w0_) y [])))))))))))):=by kernel_rfl
def ait(C1 C2 C3 C4:List Value->List Blk->Bool)(m:MsgM)(p:PgM)(s2:StaM):Ct:=ak P aB 0 53 (aP C1 (.leaf (.tuple ⟨[mV m, .int .i64 0]⟩,[]))) (ak P aB 0 54 (aP C2 (.leaf (.tuple ⟨[pgV p, .bool true, .int .i64 0]⟩,[]))) (ak P rF 0 103 (aP C3 (.leaf (.bool true,[]))) (ak P aB 7 44 (aP C4 (.leaf (.int .i64 0,stB s2))) ctF)))
theorem agA(C1 C2 C3 C4:List Value->List Blk->Bool)(n:NdM)(e ac kn:Int)(e2 ro en:Int)(st:List (Int×Int))(s2:StaM)(b:List UInt8):aN P E (ait C1 C2 C3 C4 ⟨1,e2,ro,en,st,0,0,[]⟩ ⟨2,3,0,1,0,0⟩ (s2.at2 1 0)) 50 jb [.val, .val] [64,0] 8 22 [p0,ax 1 b.length 0 (bc b)] (ndB (n.at1 e ac kn)) =
 (let z:=NdM.at1 n e ac kn;let y:=z.s;let x:=MsgM.mk 1 e2 ro en st 0 0 [];let w:=io_ x.e;let v:=io_ 0;let u:=Value.tuple ⟨[fb_ 0 0 [],v]⟩;let t:=ro_ [0,8,32,10];let s:=StaM.at2 s2 1 0;let r:=Value.int .u8 x.ro;let q:=fc_ x.st.length 0 (Enc.all ESa x.st);let p:=fa_ 0 0 [];let o:=aT (rg_ [2,1,1,1,3,5]) 56;
 let m:=bk_ o w0_;let l:=ro_ [0,8,69,10];
 (aj (eQ (eQ y.dk.off)) (dn_ w0_ y.dk none) (ae (C1 [fb_ b.length 0 (bc b)] []) (ae (bz w w) (aj (ltI x.e y.pg.ep) (nn_ w0_ y (some (u,ag (nh_ z.nu z.mo z.ac z.kn 1 2 z.he::dk_ y.dk 8 9 10 11 12::sb_ y y.pg 1 13 3 4 5::wb_ y 1 14 15::rb_ y 1 16::so_ 6 4 17 y.rest.length::tb_ 7:: .map (aF true t y.tb.es) y.tb.ck::nl_ (cz_ t w0_) y [])))) (ae (C2 [pg_ y.pg,w] []) (ae (bz w w) (ns_ y (ae (C4 [pt_ 0, .agg ⟨[io_ 2, .int .u8 3,v, .int .u8 1,v,v]⟩] (sm_ y (ro_ [2,1,1,1,3,5,47,5,46,1,52,4]))) (ae (C3 [pg_ s.pg, .agg ⟨[io_ x.k,w,r,io_ x.en,q,io_ x.fr,io_ x.pv,p]⟩] []) (nn_ m s (some (u,ag (.cells [io_ z.nu,io_ z.mo,pt_ 1,pt_ 2,v,io_ (-1),io_ x.k,w,r,io_ x.en,q,io_ x.fr,io_ x.pv,p] 82 true::dk_ s.dk 8 9 10 11 12::sb_ s s.pg 1 13 3 4 5::wb_ s 1 14 15::rb_ s 1 16::so_ 6 4 17 s.rest.length::tb_ 7:: .map (aF true l (aF true o s.tb.es)) s.tb.ck::nl_ (cz_ l m) s [])))))))))))))):=by kernel_rfl
end Go.VS.Tryz
end

noncomputable section
namespace Go.VS

section
variable{P:Program}{ct:Ct}
def WA(P:Program)(D:HeadX):Ex->Trie Value->List Deferred->St->Res:=fun e s d st=>match d with
 |[]=>DT.run (mO P 60 D.fl D.ts (D.L.map (nP s)) st fun vs1 ps st1=>uI P D.pol 200 (List.append ps (upL D.N 0)) [] st1 fun st2=>
  oZ (kz st2) 1000 (List.append vs1 (Df (upL D.N 0))) [] [] fun X L=>match jm 0 ((List.append (upL D.N 0) (geL D.N X)).append L) (fun i=>dW (path i) st2.heap) ((List.append (upL D.N 0) (geL D.N X)).append L)with
  |some ms=> .leaf (vs1.map (eP true (bQ 0 ((List.append (upL D.N 0) (geL D.N X)).append L))),ms)
  |none=> .fail) fun r=>some (.tuple ⟨exV e::r.1⟩,ag r.2)
 |_=>none
def oD(P:Program)(E:Eng)(ct:Ct)(n:Nat)(fid:Nat)(B:Code)(D:HeadX)(vs:List Value)(bs:List Blk):Res:=
 qW P E ct n (xu P E ct n n) fid D.nt none B (mkS D.nt D.L vs) [] (ag bs) (WA P D)
theorem DC{E:Eng}(hE:EngOk P ct E)(hN:noNum P=true)(hct:CtOk P ct){n fid id:Nat}{B:Code}{D:HeadX}(hocc:Occ P fid (.block id (.loop B))){vs vs1:List Value}{bs bs1:List Blk}{e:Ex}
  (h:oD P E ct n fid B D vs bs=some (.tuple ⟨exV e::vs1⟩,ag bs1)) (K:Prot) (β:Env) (w:World) (fr:Frame) (cs:List Frame) (k:List Item) (hid:∀ i,¬K.id i) (ht:fr.todo = .code B::k) (hfid:fr.fn=fid) (hf:FrR β (D.head.fr vs) fr) (hr:Rel P K β (ag bs) w) :
  AQ D.head.N P K β fr cs w e k (D.head.fr vs1) (ag bs1)/\D.head.N<=bs1.length:=by
 unfold oD at h;obtain⟨m,e1,s1,d1,st1,h1,h2⟩:=ku hE (nT hE n n) n fid D.nt none B _ _ _ _ _ h;unfold WA at h2;split at h2
 ·obtain⟨r,hc,h2⟩:=DT.run_spec h2;obtain⟨vs2,ps,st2,f1,f2,f3⟩:=jG _ _ _ _ _ _ hc;obtain⟨st3,g1,g2⟩:=jV _ _ _ _ _ f1;obtain⟨X0,L,hX⟩:=lI (kz st3) 1000 (List.append vs2 (Df (upL D.N 0))) [] [] fun X L=>match jm 0 ((List.append (upL D.N 0) (geL D.N X)).append L) (fun i=>dW (path i) st3.heap) ((List.append (upL D.N 0) (geL D.N X)).append L)with
   |some ms=>DT.leaf (vs2.map (eP true (bQ 0 ((List.append (upL D.N 0) (geL D.N X)).append L))),ms)
   |none=> .fail
  rw[hX]at g1;have hup:upTo D.N (upL D.N 0++geL D.N X0) 0=true:=yL D.N 0 _;generalize hY:upL D.N 0++geL D.N X0=X at hup;have hY':List.append (upL D.N 0) (geL D.N X0)=X:=hY;rw[hY']at g1;split at g1
  ·rename_i ms hm;have hm:jm 0 (X++L) (fun i=>dW (path i) st3.heap) (X++L)=some ms:=hm;simp only[DT.eval,dD]at g1;subst g1;simp only[dD,dA,Value.tuple.injEq,Array.mk.injEq,je]at h2;obtain⟨⟨he,rfl⟩,hst⟩:=h2;obtain rfl:=EX he;obtain⟨m1,m2,m3⟩:=jr hm;simp only[dL]at m2 m3;obtain⟨β1,fr1,w1,a1,a2,a3,a4,a5,a6,a7,a8,a9⟩:=(ja hN hct m K).code fid B _ _ _ _ _ h1 (hocc.sub (.block (.loop (.refl _)))) β w fr cs k ht hfid hf hr;obtain⟨β2,c1,c2,c3⟩:=f3 K β1 w1 _ a3 (Bj a5.slots D.L);obtain⟨β3,d1,d2⟩:=g2 K β2 w1 c2;have hmid:=lC (N:=0) (src:=X++L) d2 (fun i hi=>(hid i hi).elim) (ig _) m1 m2;have hren:=qE (X++L) β3;have hms:(ag ms).next=bs1.length:=by rw[hst]; rfl
   have hmsl:ms.length=bs1.length:=hms;refine⟨⟨iR 0 (X++L) β3,fr1,w1,a1,(((a2.trans c1).trans d1).leN _).trans (vk hup),?_,a4,⟨Ak a5.slots.1 ?_,by have:=a5.defers; unfold nZ at this; rw[this]; rfl,by have:=a5.round; exact this,a5.mode⟩,a6,a7,a8,a9⟩,?_⟩
   ·rw[<-hst,m3]; exact hmid
   ·exact(c3.mono d1).mapr fun v _ x hx=>gU hren v x hx
   ·rw[<-hmsl,m3,n_,bP];have:=(qJ _ _ _ hup).1;show D.N<=_;omega
  ·cases g1
 ·cases h2
theorem LRX.againG{E:Eng}(hE:EngOk P ct E)(hN:noNum P=true)(hct:CtOk P ct){n fid id:Nat}{B:Code}{D:HeadX}(hocc:Occ P fid (.block id (.loop B))){vs vs1 vs':List Value}{bs bs1 bs':List Blk}{e:Ex}
  (h:oD P E ct n fid B D vs bs=some (.tuple ⟨exV .normal::vs1⟩,ag bs1)) (hl:LRX P fid id B D.head vs1 bs1 e vs' bs'):LRX P fid id B D.head vs bs e vs' bs':=by
 intro K β w fr cs k hid ht hfid hf hr;obtain⟨⟨β1,fr1,w1,a1,a2,a3,a4,a5,a6,a7,a8,a9⟩,_⟩:=DC hE hN hct hocc h K β w fr cs _ hid ht hfid hf hr;have a9:fr1.todo = .inLoop B:: .inBlock id::k:=a9;have hs:=yN (P:=P) (cs:=cs) (w:=w1) a5.mode a9;obtain⟨⟨β2,fr2,w2,b1,b2,b3,b4,b5,b6,b7,b8,b9⟩,hb⟩:=hl K β1 w1 { fr1 with todo:= .code B:: .inLoop B:: .inBlock id::k } cs k hid rfl (a7.trans hfid) ⟨a5.slots,a5.defers,a5.round,a5.mode⟩ a3;exact⟨⟨β2,fr2,w2,a1.trans (.head hs b1),a2.trans b2,b3,a4.trans b4,b5,b6.trans a6,b7.trans a7,b8.trans a8,b9⟩,hb⟩
theorem LRX.stopG{E:Eng}(hE:EngOk P ct E)(hN:noNum P=true)(hct:CtOk P ct){n fid id:Nat}{B:Code}{D:HeadX}(hocc:Occ P fid (.block id (.loop B))){vs vs1:List Value}{bs bs1:List Blk}{e:Ex}
  (h:oD P E ct n fid B D vs bs=some (.tuple ⟨exV e::vs1⟩,ag bs1)) (he:e≠ .normal):LRX P fid id B D.head vs bs (kP id e) vs1 bs1:=by
 intro K β w fr cs k hid ht hfid hf hr;obtain⟨⟨β1,fr1,w1,a1,a2,a3,a4,a5,a6,a7,a8,a9⟩,hb⟩:=DC hE hN hct hocc h K β w fr cs _ hid ht hfid hf hr;refine⟨?_,hb⟩;have a9:=a9.under he (fun i e=>by cases e);cases e with
 |normal=>exact absurd rfl he
 |ret=>exact⟨β1,fr1,w1,a1,a2,a3,a4,a5,a6,a7,a8,a9⟩
 |exit i=>
  obtain⟨k2,h1,h2⟩:=a9;cases hb:Nat.beq i id with
  |true=>
   have hx2:kP id (.exit i) = .normal:=by simp only[kP,hb]
   rw[hx2];have:=dF hb;subst this;have hx:exitTo i k2=some k:=by rw[h2]; simp[exitTo]
   exact⟨β1,{ fr1 with todo:=k },w1,a1.trans (.one (s_exit a5.mode h1 hx)),a2,a3,a4,a5.todo k,a6,a7,a8,rfl⟩
  |false=>
   have hx2:kP id (.exit i) = .exit i:=by simp only[kP,hb]
   rw[hx2];have:=pV hb;refine⟨β1,fr1,w1,a1,a2,a3,a4,a5,a6,a7,a8,k2,h1,?_⟩;rw[h2];have:(id == i)=false:=by simp; exact fun ee=>this ee.symm
   simp[exitTo,this]
end
end Go.VS
end

noncomputable section
namespace Go.VS.Tryz
open Go.VS
set_option maxRecDepth 1000000
def ELo:Enc (List OpM) where
 sz:=1
 f o:=[ax 3 o.length 0 (EOp.all o)]
 len _:=rfl
 pos:=by decide
 inj a b h:=by
  simp only[je,jd]at h;exact EOp.all_inj _ _ (ww h)
 nr c:=by simp only[gq,jQ,BN,fV]
def fzLo(l:List (List OpM)):Value:=ax 1 l.length 0 (ELo.all l)
def NdM.nm(n:NdM)(k:Int):NdM:={ n with nu:=k }
def RpK(C1 C2:List Value->List Blk->Bool)(B1 B2:List Blk):iC:=fun args bs=>match bs with
 | .cells (.int _ nu::_) _ _::_=>match eqI nu 0 with
  |true=>some (.ite (C1 args bs) (.leaf (.bool true,B1)) .fail)
  |false=>some (.ite (C2 args bs) (.leaf (.bool true,B2)) .fail)
 |_=>none
def Dl0:HeadX:=⟨16,165,[1,8,10,12,13],[.val, .val, .val, .val, .val],[22,0,0,0,0],jb⟩
def Bl0:Code:=(di P 3 0).getD .skip
theorem OZ:di P 3 0=some Bl0:=by kernel_rfl
theorem JI:Occ P 3 (.block 0 (.loop Bl0)):=dN OZ
def l0V(l:List (List OpM))(sp i:Int):List Value:=[fzLo l,ptV 0,ptV 8, .int .i64 sp, .int .i64 i]
def PQ(C0 C1 C2:List Value->List Blk->Bool)(v:Value)(B0 B1 B2:List Blk):Ct:=ak P jb 8 9 (aP C0 (.leaf (v,B0))) (ak P jb 16 10 (RpK C1 C2 B1 B2) ctF)
theorem OL(C0 C1 C2:List Value->List Blk->Bool)(v:Value)(l:List (List OpM))(sp i:Int)(x y x1 y2 x2 y3 x3:NdM):aU P E (PQ C0 C1 C2 v (ndB x1) (aX x3 y3) (aX (y2.nm 1) (x2.nm 0))) 50 3 Bl0 Dl0 (l0V l sp i) (aX x (y.nm 1)) =
 (let z:=Enc.all ELo l;let w:=aV z (atN i 1);let u:=x.s;let t:=pt_ 0;let s:=nh_ x.nu x.mo x.ac x.kn 1 2 x.he;let r:=u.rest.length;let q:=tb_ 7;let p:=ro_ [0,8,36,10];let o:=NdM.nm y 1;let n:=o.s;let m:=aT (rg_ [0,8]) 46;let k:=bk_ m w0_;let j:=x1.s;let h:=pt_ 8;let g:=n.rest.length;
 let f:=ro_ [8,8,0,8,56,20];let e:=n.tb.es;let d:=n.tb.ck;let c:=j.rest.length;let b:=tb_ 15;let a:=aF true m j.tb.es;let Z:=aT (rg_ [8,8,0,8]) 76;let Y:=bk_ Z w0_;let X:=NdM.nm x2 0;let W:=NdM.nm y2 1;let V:=ro_ [0,16,96,20];let U:=aT (rg_ [0,16]) 116;let T:=bk_ U w0_;
 let S:=x3.s;let R:=y3.s;let Q:=fb_ l.length 0 z;let O:=Value.tuple ⟨[io_ 0,Q,t,h,io_ sp,io_ (bM .i64 i 1)]⟩;let N:=ro_ [0,16,136,20];let M:=ro_ [0,16,56,20];let L:=nh_ o.nu o.mo o.ac o.kn 9 10 o.he;let K:=dk_ n.dk 26 27 28 29 30;let J:=sb_ n n.pg 9 31 11 12 13;let I:=wb_ n 9 32 33;
 let H:=rb_ n 9 34;let G:=so_ 14 12 35 g;let F:=ro_ [0,16,36,20];let D:=cz_ F w0_;
 (aj (ltI i sp) (ae (Bool.and (Nat.beq 1 1) (inI i l.length)) (ae (Bool.and (Nat.ble (Nat.add (atN i 1) 1) z.length) (gm (.slice 3) w)) (nn_ w0_ u (ae (C0 [t,fa_ (zN w) (zB w) (zC w)] (s::dk_ u.dk 8 9 10 11 12::sb_ u u.pg 1 13 3 4 5::wb_ u 1 14 15::rb_ u 1 16::so_ 6 4 17 r::q:: .map (aF true p u.tb.es) u.tb.ck::nl_ (cz_ p w0_) u [])) (aj (eqI (uU i 3) 0) (nn_ w0_ n (nn_ k j (ae (C2 [t,h] (nh_ o.nu o.mo o.ac o.kn 1 2 o.he::dk_ n.dk 16 17 18 19 20::sb_ n n.pg 1 21 3 4 5::wb_ n 1 22 23::rb_ n 1 24::so_ 6 4 25 g::q:: .map (aF true f e) d::nh_ x1.nu x1.mo x1.ac x1.kn 9 10 x1.he::dk_ j.dk 26 27 28 29 30::sb_ j j.pg 9 31 11 12 13::wb_ j 9 32 33::rb_ j 9 34::so_ 14 12 35 c::b:: .map (aF true f a) j.tb.ck::nl_ (cz_ f w0_) n (nl_ (cz_ f k) j []))) (nn_ Y X.s (nn_ Y W.s (ae (C1 [t,h] (nh_ X.nu X.mo X.ac X.kn 1 2 X.he::dk_ X.s.dk 16 17 18 19 20::sb_ X.s X.s.pg 1 21 3 4 5::wb_ X.s 1 22 23::rb_ X.s 1 24::so_ 6 4 25 X.s.rest.length::q:: .map (aF true V (aF true Z X.s.tb.es)) X.s.tb.ck::nh_ W.nu W.mo W.ac W.kn 9 10 W.he::dk_ W.s.dk 26 27 28 29 30::sb_ W.s W.s.pg 9 31 11 12 13::wb_ W.s 9 32 33::rb_ W.s 9 34::so_ 14 12 35 W.s.rest.length::b:: .map (aF true V (aF true Z W.s.tb.es)) W.s.tb.ck::nl_ (cz_ V Y) X.s (nl_ (cz_ V Y) W.s []))) (nn_ T S (nn_ T R (some (O,ag (nh_ x3.nu x3.mo x3.ac x3.kn 1 2 x3.he::dk_ S.dk 16 17 18 19 20::sb_ S S.pg 1 21 3 4 5::wb_ S 1 22 23::rb_ S 1 24::so_ 6 4 25 S.rest.length::q:: .map (aF true N (aF true U S.tb.es)) S.tb.ck::nh_ y3.nu y3.mo y3.ac y3.kn 9 10 y3.he::dk_ R.dk 26 27 28 29 30::sb_ R R.pg 9 31 11 12 13::wb_ R 9 32 33::rb_ R 9 34::so_ 14 12 35 R.rest.length::b:: .map (aF true N (aF true U R.tb.es)) R.tb.ck::nl_ (cz_ N T) S (nl_ (cz_ N T) R [])))))))))))) (nn_ k j (nn_ w0_ n (some (O,ag (nh_ x1.nu x1.mo x1.ac x1.kn 1 2 x1.he::dk_ j.dk 16 17 18 19 20::sb_ j j.pg 1 21 3 4 5::wb_ j 1 22 23::rb_ j 1 24::so_ 6 4 25 c::q:: .map (aF true M a) j.tb.ck::L::K::J::I::H::G::b:: .map (aF true M e) d::nl_ (cz_ M k) j (nl_ (cz_ M w0_) n []))))))))))) (nn_ w0_ u (nn_ w0_ n (some (.tuple ⟨[io_ 1,Q,t,h,io_ sp,io_ i]⟩,ag (s::dk_ u.dk 16 17 18 19 20::sb_ u u.pg 1 21 3 4 5::wb_ u 1 22 23::rb_ u 1 24::so_ 6 4 25 r::q:: .map (aF true F u.tb.es) u.tb.ck::L::K::J::I::H::G::b:: .map (aF true F e) d::nl_ D u (nl_ D n [])))))))):=by kernel_rfl
def Dl2:HeadX:=⟨16,165,[1,8,10,14,16],[.val, .val, .val, .val, .val],[22,0,0,0,0],jb⟩
def Bl2:Code:=(di P 3 2).getD .skip
theorem Nw:di P 3 2=some Bl2:=by kernel_rfl
theorem TS:Occ P 3 (.block 2 (.loop Bl2)):=dN Nw
theorem WH(C0:List Value->List Blk->Bool)(v:Value)(l:List (List OpM))(sp i:Int)(x y y1:NdM):aU P E (ak P jb 8 9 (aP C0 (.leaf (v,ndB y1))) ctF) 50 3 Bl2 Dl2 (l0V l sp i) (aX x y) =
 (let z:=l.length;let w:=Enc.all ELo l;let u:=aV w (atN i 1);let t:=y.s;let s:=pt_ 0;let r:=t.rest.length;let q:=tb_ 7;let p:=ro_ [8,8,36,10];let o:=x.s;let n:=aT (rg_ [8,8]) 46;let m:=bk_ n w0_;let k:=y1.s;let j:=fb_ z 0 w;let h:=nh_ x.nu x.mo x.ac x.kn 1 2 x.he;let g:=dk_ o.dk 16 17 18 19 20;
 let f:=sb_ o o.pg 1 21 3 4 5;let e:=wb_ o 1 22 23;let d:=rb_ o 1 24;let c:=so_ 6 4 25 o.rest.length;let b:=ro_ [0,16,56,20];let a:=ro_ [0,16,36,20];let Z:=cz_ a w0_;
 (aj (ltI i (ah z)) (ae (Bool.and (Nat.beq 1 1) (inI i z)) (ae (Bool.and (Nat.ble (Nat.add (atN i 1) 1) w.length) (gm (.slice 3) u)) (nn_ w0_ t (ae (C0 [s,fa_ (zN u) (zB u) (zC u)] (nh_ y.nu y.mo y.ac y.kn 1 2 y.he::dk_ t.dk 8 9 10 11 12::sb_ t t.pg 1 13 3 4 5::wb_ t 1 14 15::rb_ t 1 16::so_ 6 4 17 r::q:: .map (aF true p t.tb.es) t.tb.ck::nl_ (cz_ p w0_) t [])) (nn_ w0_ o (nn_ m k (some (.tuple ⟨[io_ 0,j,s,pt_ 8,io_ sp,io_ (bM .i64 i 1)]⟩,ag (h::g::f::e::d::c::q:: .map (aF true b o.tb.es) o.tb.ck::nh_ y1.nu y1.mo y1.ac y1.kn 9 10 y1.he::dk_ k.dk 26 27 28 29 30::sb_ k k.pg 9 31 11 12 13::wb_ k 9 32 33::rb_ k 9 34::so_ 14 12 35 k.rest.length::tb_ 15:: .map (aF true b (aF true n k.tb.es)) k.tb.ck::nl_ (cz_ b w0_) o (nl_ (cz_ b m) k [])))))))))) (nn_ w0_ o (nn_ w0_ t (some (.tuple ⟨[io_ 3,j,s,pt_ 8,io_ sp,io_ i]⟩,ag (h::g::f::e::d::c::q:: .map (aF true a o.tb.es) o.tb.ck::nh_ y.nu y.mo y.ac y.kn 9 10 y.he::dk_ t.dk 26 27 28 29 30::sb_ t t.pg 9 31 11 12 13::wb_ t 9 32 33::rb_ t 9 34::so_ 14 12 35 r::tb_ 15:: .map (aF true a t.tb.es) t.tb.ck::nl_ Z o (nl_ Z t [])))))))):=by kernel_rfl
def Dl4:HeadX:=⟨16,165,[8,10,14,17],[.val, .val, .val, .val],[0,0,0,0],jb⟩
def Bl4:Code:=(di P 3 4).getD .skip
theorem O4:di P 3 4=some Bl4:=by kernel_rfl
theorem uZ:Occ P 3 (.block 4 (.loop Bl4)):=dN O4
def l4V(sh i:Int):List Value:=[ptV 0,ptV 8, .int .i64 sh, .int .i64 i]
def BA(C1 C2:List Value->List Blk->Bool)(B1 B2:List Blk):Ct:=ak P jb 16 10 (RpK C1 C2 B1 B2) ctF
theorem afi(C1 C2:List Value->List Blk->Bool)(sh i:Int)(x y x1 y1 x2 y2:NdM):oD P E (BA C1 C2 (aX x1 (y1.nm 1)) (aX y2 x2)) 50 3 Bl4 Dl4 (l4V sh i) (aX (x.nm 0) y) =
 (let z:=NdM.nm x 0;let w:=z.s;let v:=y.s;let u:=pt_ 0;let t:=pt_ 8;let s:=tb_ 7;let r:=ro_ [0,16,36,20];let q:=tb_ 15;let p:=cz_ r w0_;let o:=nh_ z.nu z.mo z.ac z.kn 1 2 z.he::dk_ w.dk 16 17 18 19 20::sb_ w w.pg 1 21 3 4 5::wb_ w 1 22 23::rb_ w 1 24::so_ 6 4 25 w.rest.length::s::Blk.map (aF true r w.tb.es) w.tb.ck::nh_ y.nu y.mo y.ac y.kn 9 10 y.he::dk_ v.dk 26 27 28 29 30::sb_ v v.pg 9 31 11 12 13::wb_ v 9 32 33::rb_ v 9 34::so_ 14 12 35 v.rest.length::q::Blk.map (aF true r v.tb.es) v.tb.ck::nl_ p w (nl_ p v []);
 let n:=aT (rg_ [0,16]) 56;let m:=bk_ n w0_;let l:=NdM.nm y1 1;let k:=x1.s;let j:=ro_ [8,8,0,8,76,20];let h:=aT (rg_ [8,8,0,8]) 96;let g:=bk_ h w0_;let f:=x2.s;let e:=y2.s;let d:=ro_ [0,16,116,20];
 (aj (ltI i 60) (nn_ w0_ w (nn_ w0_ v (ae (C1 [u,t] o) (nn_ m l.s (nn_ m k (ae (C2 [u,t] (nh_ l.nu l.mo l.ac l.kn 1 2 l.he::dk_ l.s.dk 16 17 18 19 20::sb_ l.s l.s.pg 1 21 3 4 5::wb_ l.s 1 22 23::rb_ l.s 1 24::so_ 6 4 25 l.s.rest.length::s:: .map (aF true j (aF true n l.s.tb.es)) l.s.tb.ck::nh_ x1.nu x1.mo x1.ac x1.kn 9 10 x1.he::dk_ k.dk 26 27 28 29 30::sb_ k k.pg 9 31 11 12 13::wb_ k 9 32 33::rb_ k 9 34::so_ 14 12 35 k.rest.length::q:: .map (aF true j (aF true n k.tb.es)) k.tb.ck::nl_ (cz_ j m) l.s (nl_ (cz_ j m) k []))) (nn_ g f (nn_ g e (some (.tuple ⟨[io_ 0,u,t,io_ sh,io_ (bM .i64 i 1)]⟩,ag (nh_ x2.nu x2.mo x2.ac x2.kn 1 2 x2.he::dk_ f.dk 16 17 18 19 20::sb_ f f.pg 1 21 3 4 5::wb_ f 1 22 23::rb_ f 1 24::so_ 6 4 25 f.rest.length::s:: .map (aF true d (aF true h f.tb.es)) f.tb.ck::nh_ y2.nu y2.mo y2.ac y2.kn 9 10 y2.he::dk_ e.dk 26 27 28 29 30::sb_ e e.pg 9 31 11 12 13::wb_ e 9 32 33::rb_ e 9 34::so_ 14 12 35 e.rest.length::q:: .map (aF true d (aF true h e.tb.es)) e.tb.ck::nl_ (cz_ d g) f (nl_ (cz_ d g) e [])))))))))))) (nn_ w0_ w (nn_ w0_ v (some (.tuple ⟨[io_ 5,u,t,io_ sh,io_ i]⟩,ag o)))))):=by kernel_rfl
theorem aed(C1 C2:List Value->List Blk->Bool)(sh i:Int)(x y x1 y1 x2 y2:NdM)(ot:TbM)(orest:List CmM):oD P E (BA C1 C2 (jS x1 (y1.nm 1) ot orest) (aX y2 x2)) 50 3 Bl4 Dl4 (l4V sh i) (aX (x.nm 0) y) =
 (let z:=NdM.nm x 0;let w:=z.s;let v:=y.s;let u:=pt_ 0;let t:=pt_ 8;let s:=tb_ 7;let r:=ro_ [0,16,36,20];let q:=tb_ 15;let p:=cz_ r w0_;let o:=nh_ z.nu z.mo z.ac z.kn 1 2 z.he::dk_ w.dk 16 17 18 19 20::sb_ w w.pg 1 21 3 4 5::wb_ w 1 22 23::rb_ w 1 24::so_ 6 4 25 w.rest.length::s::Blk.map (aF true r w.tb.es) w.tb.ck::nh_ y.nu y.mo y.ac y.kn 9 10 y.he::dk_ v.dk 26 27 28 29 30::sb_ v v.pg 9 31 11 12 13::wb_ v 9 32 33::rb_ v 9 34::so_ 14 12 35 v.rest.length::q::Blk.map (aF true r v.tb.es) v.tb.ck::nl_ p w (nl_ p v []);
 let n:=aT (rg_ [0,16]) 56;let m:=bk_ n w0_;let l:=NdM.nm y1 1;let k:=x1.s;let j:=ro_ [8,8,0,5,56,3,80,20];let h:=aT (rg_ [8,8,0,5,56,3]) 100;let g:=bk_ h w0_;let f:=x2.s;let e:=y2.s;let d:=orest.length;let c:=aG true n (Enc.all ECm orest);let b:=ro_ [0,16,56,3,120,21];
 (aj (ltI i 60) (nn_ w0_ w (nn_ w0_ v (ae (C1 [u,t] o) (nn_ m l.s (nn_ m k (ae (C2 [u,t] (nh_ l.nu l.mo l.ac l.kn 1 2 l.he::dk_ l.s.dk 16 17 18 19 20::sb_ l.s l.s.pg 1 21 3 4 5::wb_ l.s 1 22 23::rb_ l.s 1 24::so_ 6 4 25 l.s.rest.length::s:: .map (aF true j (aF true n l.s.tb.es)) l.s.tb.ck::nh_ x1.nu x1.mo x1.ac x1.kn 9 10 x1.he::dk_ k.dk 26 27 28 29 30::sb_ k k.pg 9 31 11 12 13::wb_ k 9 32 33::rb_ k 9 34::so_ 14 12 35 k.rest.length::q:: .map (aF true j (aF true n k.tb.es)) k.tb.ck::nl_ (cz_ j m) l.s (nl_ (cz_ j m) k []))) (nn_ g f (nn_ g e (nb_ d 3 c (some (.tuple ⟨[io_ 0,u,t,io_ sh,io_ (bM .i64 i 1)]⟩,ag (nh_ x2.nu x2.mo x2.ac x2.kn 1 2 x2.he::dk_ f.dk 19 20 21 22 23::sb_ f f.pg 1 24 3 4 16::wb_ f 1 25 26::rb_ f 1 27::so_ 6 4 39 d::s:: .map (aF true b (aF true n ot.es)) ot.ck::nh_ y2.nu y2.mo y2.ac y2.kn 9 10 y2.he::dk_ e.dk 29 30 31 32 33::sb_ e e.pg 9 34 11 12 13::wb_ e 9 35 36::rb_ e 9 37::so_ 14 12 38 e.rest.length::q:: .map (aF true b (aF true h e.tb.es)) e.tb.ck::so_ 17 4 28 f.rest.length::tb_ 18:: .map (aF true b (aF true h f.tb.es)) f.tb.ck::nl_ (cz_ b g) f (nl_ (cz_ b g) e [lb_ b d 3 c 47]))))))))))))) (nn_ w0_ w (nn_ w0_ v (some (.tuple ⟨[io_ 5,u,t,io_ sh,io_ i]⟩,ag o)))))):=by kernel_rfl
theorem RU(C1 C2:List Value->List Blk->Bool)(sh i:Int)(x y x1 y1 x2 y2:NdM)(ot:TbM)(orest:List CmM):oD P E (BA C1 C2 (aX x1 (y1.nm 1)) (aX y2 x2)) 50 3 Bl4 Dl4 (l4V sh i) (jS (x.nm 0) y ot orest) =
 (let z:=NdM.nm x 0;let w:=z.s;let v:=y.s;let u:=pt_ 0;let t:=pt_ 8;let s:=nh_ z.nu z.mo z.ac z.kn 1 2 z.he;let r:=w.rest.length;let q:=tb_ 7;let p:=ro_ [0,5,16,3,8,8,40,20];let o:=nh_ y.nu y.mo y.ac y.kn 9 10 y.he;let n:=v.rest.length;let m:=tb_ 15;let l:=cz_ p w0_;let k:=aT (rg_ [0,5,16,3,8,8]) 60;
 let j:=bk_ k w0_;let h:=NdM.nm y1 1;let g:=x1.s;let f:=ro_ [8,8,0,5,16,3,80,20];let e:=aT (rg_ [8,8,0,5,16,3]) 100;let d:=bk_ e w0_;let c:=x2.s;let b:=y2.s;let a:=orest.length;let Z:=Enc.all ECm orest;let Y:=so_ 6 4 39 a;let X:=ro_ [0,19,120,21];let W:=ro_ [0,19,40,21];
 let V:=cz_ W w0_;
 (aj (ltI i 60) (nn_ w0_ w (nn_ w0_ v (ae (C1 [u,t] (s::dk_ w.dk 16 17 18 19 20::sb_ w w.pg 1 21 3 4 5::wb_ w 1 22 23::rb_ w 1 24::so_ 6 4 25 r::q:: .map (aF true p w.tb.es) w.tb.ck::o::dk_ v.dk 26 27 28 29 30::sb_ v v.pg 9 31 11 12 13::wb_ v 9 32 33::rb_ v 9 34::so_ 14 12 35 n::m:: .map (aF true p v.tb.es) v.tb.ck::nl_ l w (nl_ l v []))) (nn_ j h.s (nn_ j g (ae (C2 [u,t] (nh_ h.nu h.mo h.ac h.kn 1 2 h.he::dk_ h.s.dk 16 17 18 19 20::sb_ h.s h.s.pg 1 21 3 4 5::wb_ h.s 1 22 23::rb_ h.s 1 24::so_ 6 4 25 h.s.rest.length::q:: .map (aF true f (aF true k h.s.tb.es)) h.s.tb.ck::nh_ x1.nu x1.mo x1.ac x1.kn 9 10 x1.he::dk_ g.dk 26 27 28 29 30::sb_ g g.pg 9 31 11 12 13::wb_ g 9 32 33::rb_ g 9 34::so_ 14 12 35 g.rest.length::m:: .map (aF true f (aF true k g.tb.es)) g.tb.ck::nl_ (cz_ f j) h.s (nl_ (cz_ f j) g []))) (nn_ d c (nn_ d b (nb_ a 3 Z (some (.tuple ⟨[io_ 0,u,t,io_ sh,io_ (bM .i64 i 1)]⟩,ag (nh_ x2.nu x2.mo x2.ac x2.kn 1 2 x2.he::dk_ c.dk 19 20 21 22 23::sb_ c c.pg 1 24 3 4 16::wb_ c 1 25 26::rb_ c 1 27::Y::q:: .map (aF true X ot.es) ot.ck::nh_ y2.nu y2.mo y2.ac y2.kn 9 10 y2.he::dk_ b.dk 29 30 31 32 33::sb_ b b.pg 9 34 11 12 13::wb_ b 9 35 36::rb_ b 9 37::so_ 14 12 38 b.rest.length::m:: .map (aF true X (aF true e b.tb.es)) b.tb.ck::so_ 17 4 28 c.rest.length::tb_ 18:: .map (aF true X (aF true e c.tb.es)) c.tb.ck::nl_ (cz_ X d) c (nl_ (cz_ X d) b [lb_ X a 3 Z 47]))))))))))))) (nn_ w0_ w (nn_ w0_ v (nb_ a 3 Z (some (.tuple ⟨[io_ 5,u,t,io_ sh,io_ i]⟩,ag (s::dk_ w.dk 19 20 21 22 23::sb_ w w.pg 1 24 3 4 16::wb_ w 1 25 26::rb_ w 1 27::Y::q:: .map (aF true W ot.es) ot.ck::o::dk_ v.dk 29 30 31 32 33::sb_ v v.pg 9 34 11 12 13::wb_ v 9 35 36::rb_ v 9 37::so_ 14 12 38 n::m:: .map (aF true W v.tb.es) v.tb.ck::so_ 17 4 28 r::tb_ 18:: .map (aF true W w.tb.es) w.tb.ck::nl_ V w (nl_ V v [lb_ W a 3 Z 47]))))))))):=by kernel_rfl
def Dl6:HeadX:=⟨0,165,[14,19,20],[.val, .val, .val],[0,35,0],aB⟩
def Bl6:Code:=(di P 3 6).getD .skip
theorem N7:di P 3 6=some Bl6:=by kernel_rfl
theorem Q4:Occ P 3 (.block 6 (.loop Bl6)):=dN N7
def l6V(sh:Int)(y:List CmM)(i:Int):List Value:=[.int .i64 sh,aQ y, .int .i64 i]
theorem XE(sh i:Int)(y:List CmM):aU P E ctF 50 3 Bl6 Dl6 (l6V sh y i) [] =
 (let z:=y.length;let x:=Bool.and (Nat.beq 3 3) (inI i z);let w:=Nat.add (atN i 3) 1;let v:=Enc.all ECm y;let u:=Eta.int .i64;let t:=bM .i64 i 1;let s:=io_ sh;let r:=fa_ z 0 v;let q:=ag [];let p:=some (Value.tuple ⟨[io_ (-1),s,r,io_ i]⟩,q);let o:=Nat.add (atN i 3) 0;
 (aj (ltI i (ah z)) (ae x (ae (Bool.and (Nat.ble (Nat.add w 1) v.length) (gm u (aV v w))) (aj (neI (asI (aV v w)) t) p (ae x (ae (Bool.and (Nat.ble (Nat.add o 1) v.length) (gm u (aV v o))) (aj (eQ (eqB (eqI (asI (aV v o)) 1) (ltI i sh))) p (some (.tuple ⟨[io_ 0,s,r,io_ t]⟩,q)))))))) (some (.tuple ⟨[io_ 7,s,r,io_ i]⟩,q)))):=by kernel_rfl
def aaL:lT
 |[]=>some (.leaf (.bool true,[]))
 |_=>none
def ND(C:List Value->List Blk->Bool)(f:Int->Int->Int):iC:=fun args bs=>match args with
 |[.int _ x, .int _ n]=>some (.ite (C args bs) (.leaf (.int .i64 (f x n),[])) .fail)
 |_=>none
def Vf(C0 C1:List Value->List Blk->Bool)(n0 n1:NdM):iC:=fun args bs=>match args with
 | .int _ nu::_=>match eqI nu 0 with
  |true=>some (.ite (C0 args bs) (.leaf (.tuple ⟨[ptV 1, .int .i64 0]⟩,ndD n0)) .fail)
  |false=>some (.ite (C1 args bs) (.leaf (.tuple ⟨[ptV 1, .int .i64 0]⟩,ndD n1)) .fail)
 |_=>none
def UU(C1 C2 C3:List Value->List Blk->Bool)(v1 v2 v3:List CmM):iC:=fun args bs=>match bs with
 |_::_:: .cells (_::_:: .int _ ep:: .int _ ro::_) _ _::_=>match eqI ep 1,eqI ro 2 with
  |true,_=>some (.ite (C1 args bs) (.leaf (aQ v1,bs)) .fail)
  |false,true=>some (.ite (C2 args bs) (.leaf (aQ v2,bs)) .fail)
  |false,false=>some (.ite (C3 args bs) (.leaf (aQ v3,bs)) .fail)
 |_=>none
def aa8(C1 C2 C3 C4 C5 C6 C7 C8 C9 C10 L0 L2 L4 L6:List Value->List Blk->Bool)(f:Int->Int->Int)(l:List (List OpM))(v1 v2 v3:List CmM)(n0 n1 x1 y1 y2 y3 x4 y4:NdM)(ot:TbM)(orest:List CmM)(sp sh ac kn:Int):Ct:=
 jy P 5 aaL (ak P aB 0 6 (ND C1 f) (ak P (fun _=>none) 1 7 (Vf C2 C3 n0 n1) (ak P jb 8 11 (UU C4 C5 C6 v1 v2 v3)
 (ak P jb 8 12 (aP C7 (.leaf (.tuple ⟨[.int .i64 2, .int .i64 0]⟩,ndB y2))) (ak P aB 0 13 (aP C8 (.leaf (.bool true,[]))) (ak P jb 8 14 (aP C9 (.leaf (.int .i64 0,ndB (y4.at1 2 ac kn)))) (ak P jb 8 16 (aP C10 (.leaf (pgV ⟨2,2,0,0,0,0⟩,ndB (x4.at2 2))))
 (dX P 3 0 Dl0 (gX L0 (.leaf (.normal,l0V l sp sp,aX x1 (y1.at2 1)))) (dX P 3 2 Dl2 (gX L2 (.leaf (.normal,l0V l sh (ah l.length),aX x1 y3))) (dX P 3 4 Dl4 (gX L4 (.leaf (.normal,l4V sh 60,jS (x4.at2 2) (y4.at1 2 ac kn) ot orest)))
 (dX P 3 6 Dl6 (gX L6 (.leaf (.normal,l6V sh v3 (ah v3.length),[]))) ctF)))))))))))
theorem QZ(C1 C2 C3 C4 C5 C6 C7 C8 C9 C10 L0 L2 L4 L6:List Value->List Blk->Bool)(f:Int->Int->Int)(l:List (List OpM))(v1 v2 v3:List CmM)(n0 n1 x1 y1 y2 y3 x4 y4:NdM)(ot:TbM)(orest:List CmM)(sp sh ac kn le av:Int):aN P E (aa8 C1 C2 C3 C4 C5 C6 C7 C8 C9 C10 L0 L2 L4 L6 f l v1 v2 v3 n0 n1 x1 y1 y2 y3 x4 y4 ot orest sp sh ac kn) 50 jb [] [] 0 3 [.int .i64 le,fzLo l, .int .i64 av] [] =
 (let z:=ah l.length;let y:=Value.bool true;let x:=some (y,ag []);let w:=io_ 0;let v:=io_ (bM .i64 1 (f le 16));let u:=pt_ 0;let t:=Value.bool false;let s:=Value.slice none 0 0;let r:=[Blk.cells [y,t,t,w,w,s,s,s,s,s] 86 true];let q:=bM .i64 z 1;let p:=aT [0] 1;let o:=bk_ p w0_;
 let n:=n0.s;let m:=aT [18] 19;let k:=bk_ m w0_;let j:=n1.s;let i:=fb_ l.length 0 (Enc.all ELo l);let h:=pt_ 8;let g:=tb_ 7;let e:=ro_ [1,1,0,1,2,6,19,1,18,1,20,6,36,20];let d:=tb_ 15;let c:=rg_ [1,1,0,1,2,6,19,1,18,1,20,6];let b:=aT c 56;let a:=bk_ b w0_;let Z:=NdM.at2 y1 1;
 let Y:=Z.s;let X:=nh_ Z.nu Z.mo Z.ac Z.kn 1 2 Z.he;let W:=dk_ Y.dk 8 9 10 11 12;let V:=sb_ Y Y.pg 1 13 3 4 5;let U:=wb_ Y 1 14 15;let T:=rb_ Y 1 16;let S:=so_ 6 4 17 Y.rest.length;let R:=ro_ [19,1,18,1,20,6,76,10];let Q:=aF true R (aF true b Y.tb.es);let O:=rg_ [19,1,18,1,20,6];
 let N:=aT O 86;let M:=bk_ N (cz_ R a);let L:=ro_ [19,1,18,1,20,6,96,10];let K:=x1.s;let J:=aT O 106;let I:=bk_ J w0_;let H:=y2.s;let G:=nh_ x1.nu x1.mo x1.ac x1.kn 1 2 x1.he;let F:=dk_ K.dk 16 17 18 19 20;let D:=sb_ K K.pg 1 21 3 4 5;let C:=wb_ K 1 22 23;let B:=rb_ K 1 24;let A:=so_ 6 4 25 K.rest.length;
 let z0:=ro_ [1,1,0,1,2,6,19,1,18,1,20,6,116,20];let y0:=aT c 136;let x0:=bk_ y0 w0_;let w0:=y3.s;let v0:=ro_ [1,1,0,1,2,6,19,1,18,1,20,6,156,20];let u0:=cz_ v0 x0;let t0:=aT c 176;let s0:=bk_ t0 w0_;let r0:=NdM.at2 x4 2;let q0:=r0.s;let p0:=nh_ r0.nu r0.mo r0.ac r0.kn 1 2 r0.he;
 let o0:=dk_ q0.dk 8 9 10 11 12;let m0:=sb_ q0 q0.pg 1 13 3 4 5;let l0:=wb_ q0 1 14 15;let k0:=rb_ q0 1 16;let j0:=so_ 6 4 17 q0.rest.length;let i0:=ro_ [1,1,0,1,2,3,176,3,200,10];let h0:=aF true i0 (aF true t0 q0.tb.es);let g0:=cz_ i0 s0;let f0:=NdM.at1 y4 2 ac kn;let e0:=f0.s;
 let d0:=nh_ f0.nu f0.mo f0.ac f0.kn 1 2 f0.he;let c0:=dk_ e0.dk 8 9 10 11 12;let b0:=sb_ e0 e0.pg 1 13 3 4 5;let a0:=wb_ e0 1 14 15;let Z0:=rb_ e0 1 16;let Y0:=so_ 6 4 17 e0.rest.length;let X0:=ro_ [19,1,18,1,20,6,220,10];let W0:=aF true X0 (aF true t0 e0.tb.es);let V0:=cz_ X0 s0;
 let U0:=fa_ v3.length 0 (Enc.all ECm v3);let T0:=aT O 230;let S0:=bk_ T0 V0;let R0:=ro_ [19,1,18,1,20,6,240,10];let Q0:=aT [1,0,2,3,4,176,177,178] 210;let P0:=bk_ Q0 g0;let O0:=ro_ [1,1,0,1,2,3,176,3,260,10];
 (aj (gtI z 40) x (ae (C1 [io_ le,io_ 16] []) (ae (C2 [w,v,u] r) (ae (C3 [io_ 1,v,u] r) (ae (C1 [io_ av,io_ q] []) (nn_ o n (nn_ k j (ae (L0 [i,u,h,io_ (f av q),w] (nh_ n0.nu n0.mo n0.ac n0.kn 1 2 n0.he::dk_ n.dk 16 17 18 19 20::sb_ n n.pg 1 21 3 4 5::wb_ n 1 22 23::rb_ n 1 24::so_ 6 4 25 n.rest.length::g:: .map (aF true e (aF true p n.tb.es)) n.tb.ck::nh_ n1.nu n1.mo n1.ac n1.kn 9 10 n1.he::dk_ j.dk 26 27 28 29 30::sb_ j j.pg 9 31 11 12 13::wb_ j 9 32 33::rb_ j 9 34::so_ 14 12 35 j.rest.length::d:: .map (aF true e (aF true m j.tb.es)) j.tb.ck::nl_ (cz_ e o) n (nl_ (cz_ e k) j []))) (nn_ a Y (ae (C4 [u] (X::W::V::U::T::S::g:: .map Q Y.tb.ck::nl_ (cz_ R a) Y [])) (nn_ M Y (ae (C7 [u] (X::W::V::U::T::S::g:: .map (aF true L (aF true N Q)) Y.tb.ck::nl_ (cz_ L M) Y [])) (nn_ a K (nn_ I H (ae (L2 [i,u,h,io_ (ah v1.length),io_ sp] (G::F::D::C::B::A::g:: .map (aF true z0 (aF true b K.tb.es)) K.tb.ck::nh_ y2.nu y2.mo y2.ac y2.kn 9 10 y2.he::dk_ H.dk 26 27 28 29 30::sb_ H H.pg 9 31 11 12 13::wb_ H 9 32 33::rb_ H 9 34::so_ 14 12 35 H.rest.length::d:: .map (aF true z0 (aF true J H.tb.es)) H.tb.ck::nl_ (cz_ z0 a) K (nl_ (cz_ z0 I) H []))) (nn_ x0 K (nn_ x0 w0 (ae (L4 [u,h,io_ sh,w] (G::F::D::C::B::A::g:: .map (aF true v0 (aF true y0 K.tb.es)) K.tb.ck::nh_ y3.nu y3.mo y3.ac y3.kn 9 10 y3.he::dk_ w0.dk 26 27 28 29 30::sb_ w0 w0.pg 9 31 11 12 13::wb_ w0 9 32 33::rb_ w0 9 34::so_ 14 12 35 w0.rest.length::d:: .map (aF true v0 (aF true y0 w0.tb.es)) w0.tb.ck::nl_ u0 K (nl_ u0 w0 []))) (nn_ s0 q0 (ae (C5 [u] (p0::o0::m0::l0::k0::j0::g:: .map h0 q0.tb.ck::nl_ g0 q0 [])) (nn_ s0 e0 (ae (C6 [u] (d0::c0::b0::a0::Z0::Y0::g:: .map W0 e0.tb.ck::nl_ V0 e0 [])) (ae (C8 [fa_ v2.length 0 (Enc.all ECm v2),U0] []) (nn_ S0 e0 (ae (C9 [u] (d0::c0::b0::a0::Z0::Y0::g:: .map (aF true R0 (aF true T0 W0)) e0.tb.ck::nl_ (cz_ R0 S0) e0 [])) (nn_ P0 q0 (ae (C10 [u] (p0::o0::m0::l0::k0::j0::g:: .map (aF true O0 (aF true Q0 h0)) q0.tb.ck::nl_ (cz_ O0 P0) q0 [])) (ae (L6 [io_ sh,U0,w] []) x))))))))))))))))))))))))))))):=by kernel_rfl
/-- A node on a quiet state whose log is one,behind no runs. -/
structure NdQ(n:NdM)(k:Nat):Prop where
 q:StQ n.s k
 mo:1<=n.mo/\n.mo<=16
 rs:n.s.rs=[]
 fol:fA 0 0 0 n.s.log=(0,0)
 len:n.s.log.length<=60
 d1:n.s.dk.d1.length<=3000000
 pg:pgE n.s.pg=0
theorem NdQ.mono{n:NdM}{k K:Nat}(h:NdQ n K)(hk:k<=K):NdQ n k:=⟨h.q.mono hk,h.mo,h.rs,h.fol,h.len,h.d1,h.pg⟩
theorem aew(l:List OpM):iJ l=0\/(neI (iJ l) 0=true/\eqI (iJ l) 6=false):=by
 unfold iJ;cases l with
 |nil=>right; exact⟨rfl,rfl⟩
 |cons o l=>
  cases decide (8<(o::l).length)<;>cases (o::l).all okO<;>first | exact Or.inl rfl | exact Or.inr ⟨rfl,rfl⟩
theorem Pi{l:List OpM}:CRX P 0 33 [bD l] [] (.int .i64 (iJ l)) []:=by
 by_cases h:l.length<4194304
 ·have q:=Ji h;rwa [y7]at q
 ·have e1:eqI (ah l.length) 0=false:=eF_ (by unfold ah; omega);have e2:gtI (ah l.length) 8=true:=gT_ (by unfold ah; omega);have e3:iJ l=3:=by
   cases l with
   |nil=>exact absurd (by decide) h
   |cons o l=>unfold iJ; rw[eU (show 8<(o::l).length by omega)]
  rw[e3];refine co_ (dB aA (mD (bJ M_))) ((Rl (fun _ _=>false) true 0 (.bool true) 0 0 0 l.length 0 (EOp.all l)).trans ?_);simp only[e1,e2,bu,bg]
def NdM.com(n:NdM)(l:List OpM):CmM:=⟨n.s.pg.ep,(n.s.log.length:Int)+1,l⟩
def NdM.room(n:NdM)(l:List OpM):Bool:=eqI (iJ l) 0&&!decide (n.mo<=(n.s.log.length:Int)-n.ac)
theorem Jn{n:NdM}{l:List OpM}(hb:iJ l=0)(hp:1<=n.s.pg.ep/\n.s.pg.ep<=1048576)(he:aY n.s.log<=n.s.pg.ep)(hl:n.s.log.length<=1000):Fol n.s.log [n.com l]:=by
 refine⟨yQ ⟨?_,?_,?_,rfl⟩⟩
 ·exact fU.2 ⟨hp,by show 1<=(n.s.log.length:Int)+1/\(n.s.log.length:Int)+1<=1048576; omega,hb⟩
 ·show(n.s.log.length:Int)+1-1=n.s.log.length; omega
 ·exact he
theorem abw{n:NdM}{l:List OpM}(hn:NdQ n 100000)(hro:n.s.pg.ro=1)(hac:0<=n.ac/\n.ac<=n.s.log.length)(hr:n.room l=false) :
  ∃ v,CRX P 8 9 [p0,bD l] (ndB n) v (ndB n):=by
 have q1:=Pi (l:=l);have q3:=nG n.s.pg;rw[hn.pg]at q3;have q5:=RS (en:=(n.s.log.length:Int)) (ac:=n.ac) (mo:=n.mo) hn.mo ⟨hac.1,hac.2,by have:=hn.len; omega⟩;have q:∃ v,aN P E (ag9 (ay [bD l] []) (ay [pgV n.s.pg] []) (ay [.int .i64 (n.s.log.length:Int), .int .i64 n.ac, .int .i64 n.mo] []) (fun _ _=>false) (iJ l) (bif decide (n.mo<=(n.s.log.length:Int)-n.ac)then 8 else 0) n.s) 50 jb [] [] 8 9 [p0,bD l] (ndB n)=some (v,ag (ndB n)):=by
  rw[Xn];have hdo:=hn.q.dk.off;have ht:=hn.q.sr.tb.ren;have e0:ah n.s.log.length=(n.s.log.length:Int):=rfl;have z1:neI 8 0=true:=rfl;have z2:eqI 8 6=false:=rfl;have r1:eqI n.s.pg.ro 2=false:=by rw[hro]; rfl
  have r2:eqI n.s.pg.ro 3=false:=by rw[hro]; rfl
  unfold NdM.room at hr;rcases aew l with hb | ⟨hb,hb2⟩
  ·rw[hb]at hr ⊢;have hd:decide (n.mo<=(n.s.log.length:Int)-n.ac)=true:=by
    cases h:decide (n.mo<=(n.s.log.length:Int)-n.ac)with
    |true=>rfl
    |false=>rw[h]at hr; cases hr
   have z0:neI 0 0=false:=rfl;rw[hd];simp (disch:=first|omega|(simp only[bU,bY,bZ,bT,bW,aH]<;>omega)|fail) only[nh_,pg_,mz_,hdo,ht,e0,z0,z1,z2,r1,r2,cond_true,pgV,pgC,ndB,stN,mgV,dC,cZ,uf_,bf rfl,nf_];exact⟨_,rfl⟩
  ·simp (disch:=first|omega|(simp only[bU,bY,bZ,bT,bW,aH]<;>omega)|fail) only[nh_,pg_,mz_,hdo,ht,hb,hb2,pgV,pgC,ndB,stN,mgV,dC,cZ,uf_,bf rfl,nf_];exact⟨_,rfl⟩
 obtain⟨v,q⟩:=q;exact⟨v,co_ (af (af (af (af aA fF) (az q5)) (az q3)) (az q1)) q⟩
theorem X_{n:NdM}{l:List OpM}(hn:NdQ n 200000)(hro:n.s.pg.ro=1)(hph:n.s.pg.ph=0)(hpa:n.s.pg.ac<=n.s.log.length)(hep:1<=n.s.pg.ep/\n.s.pg.ep<=1048576)(hle:aY n.s.log<=n.s.pg.ep)(hac:0<=n.ac/\n.ac<=n.s.log.length)(hr:n.room l=true) :
  ∃ v k,k<=17/\CRX P 8 9 [p0,bD l] (ndB n) v (ndB { n with s:=n.s.added k [n.com l] }):=by
 have q1:=Pi (l:=l);have q3:=nG n.s.pg;rw[hn.pg]at q3;have q5:=RS (en:=(n.s.log.length:Int)) (ac:=n.ac) (mo:=n.mo) hn.mo ⟨hac.1,hac.2,by have:=hn.len; omega⟩;unfold NdM.room at hr;rw[bV]at hr;have hb:iJ l=0:=by have:=hr.1; unfold eqI at this; exact lY this
 have hd:decide (n.mo<=(n.s.log.length:Int)-n.ac)=false:=by have:=hr.2; cases h:decide (n.mo<=(n.s.log.length:Int)-n.ac)with
  |false=>rfl
  |true=>rw[h]at this; cases this
 rw[hb]at q1;rw[hd]at q5;have hf:=Jn (n:=n) (l:=l) hb hep hle (by have:=hn.len; omega);have hso:kD n.s.held n.s.pg ((n.s.log.length:Int)+([n.com l].length:Int)) (aY [n.com l]) (fP n.s.rs)=true:=by
  have hr0:fP n.s.rs=0:=by rw[hn.rs]; rfl
  have e1:aY [n.com l]=n.s.pg.ep:=rfl;have e2:(([n.com l].length:Nat):Int)=1:=rfl;rw[hr0,e1,e2];unfold kD;have f1:leI 0 ((n.s.log.length:Int)+1)=true:=mT_ (by omega);have f2:leI n.s.pg.ep n.s.pg.ep=true:=mT_ (by omega);have f3:leI n.s.pg.ac ((n.s.log.length:Int)+1)=true:=mT_ (by omega);rw[f1,f2,f3,hro,hph]
  rfl
 obtain⟨k,k1,q6⟩:=YC (s:=n.s) (l:=[n.com l]) (hn.q.mono (by omega)) hf (by simp) (by show 1<=1000; decide) (by have:=hn.len; omega) (by have h1:=sW n.s.log (mr hn.fol); have:=hn.len; omega) hso;have hlen:=hn.len;refine⟨.tuple ⟨[.int .i64 ((n.s.log.length:Int)+1), .int .i64 0]⟩,k,by simpa using k1,?_⟩;refine co_ (af (af (af (af aA (az q6)) (az q5)) (az q3)) (az q1)) ((Xn (ay [bD l] []) (ay [pgV n.s.pg] []) (ay [.int .i64 (n.s.log.length:Int), .int .i64 n.ac, .int .i64 n.mo] []) (ay [p0,aQ [n.com l]] (stB n.s)) 0 (bif false then 8 else 0) n (n.s.added k [n.com l]) l).trans ?_);clear q1 q3 q5 q6;have hdo:=hn.q.dk.off;have ht:=hn.q.sr.tb.ren;have ht2:∀ ρ,aF true ρ (n.s.added k [n.com l]).tb.es=(n.s.added k [n.com l]).tb.es:=(hn.q.sr.tb.log [n.com l]).ren;have e0:ah n.s.log.length=(n.s.log.length:Int):=rfl;have z0:neI 0 0=false:=rfl;have r1:eqI n.s.pg.ro 2=false:=by rw[hro]; rfl
 have r2:eqI n.s.pg.ro 3=false:=by rw[hro]; rfl
 have a1:bM .i64 (n.s.log.length:Int) 1=(n.s.log.length:Int)+1:=by unfold bM; exact wrap64 (by omega) (by omega)
 have c1:[n.com l].length=1:=rfl;have c2:ECm.all [n.com l]=[.int .i64 n.s.pg.ep, .int .i64 ((n.s.log.length:Int)+1),bD l]:=rfl;generalize n.s.added k [n.com l]=s2 at ht2;simp (disch:=first|omega|(simp only[bU,bY,bZ,bT,bW,aH]<;>omega)|fail) only[nh_,pg_,mz_,hdo,ht,ht2,e0,z0,r1,r2,a1,c1,c2,cond_false,pgV,pgC,ndB,stN,stB,mgV,dC,cZ,uf_,bf rfl,nf_]
theorem aeQ(C:List Value->List Blk->Bool):aN P E (JM C) 50 aB [] [] 0 182 [ax 2 0 0 [], .int .i64 0,ax 2 0 0 [], .int .i64 0] [] =
 (let z:=io_ 0;let y:=C [fc_ 0 0 [],z] [];
 (ae y (ae y (some (.tuple ⟨[z,z]⟩,ag []))))):=by kernel_rfl
theorem ad5(C:List Value->List Blk->Bool)(n:Int):aN P E (JM C) 50 aB [] [] 0 182 [ax 2 1 0 [.int .i64 1, .int .i64 1], .int .i64 n,ax 2 0 0 [], .int .i64 0] [] =
 (let z:=io_ 0;
 (ae (C [.iface 18446744073709551618 (.agg ⟨[.slice none 1 0,io_ 1,io_ 1]⟩),io_ n] []) (ae (C [fc_ 0 0 [],z] []) (some (.tuple ⟨[z,z]⟩,ag []))))):=by kernel_rfl
theorem abS(C:List Value->List Blk->Bool)(m:Int):aN P E (JM C) 50 aB [] [] 0 182 [ax 2 0 0 [], .int .i64 0,ax 2 1 0 [.int .i64 2, .int .i64 1], .int .i64 m] [] =
 (let z:=io_ 0;
 (ae (C [fc_ 0 0 [],z] []) (ae (C [.iface 18446744073709551618 (.agg ⟨[.slice none 1 0,io_ 2,io_ 1]⟩),io_ m] []) (some (.tuple ⟨[z,z]⟩,ag []))))):=by kernel_rfl
theorem ab4(C:List Value->List Blk->Bool)(n m:Int):aN P E (JM C) 50 aB [] [] 0 182 [ax 2 1 0 [.int .i64 1, .int .i64 1], .int .i64 n,ax 2 1 0 [.int .i64 2, .int .i64 1], .int .i64 m] [] =
 (let z:=Value.slice none 1 0;let y:=io_ 1;
 (ae (C [.iface 18446744073709551618 (.agg ⟨[z,y,y]⟩),io_ n] []) (ae (C [.iface 18446744073709551618 (.agg ⟨[z,io_ 2,y]⟩),io_ m] []) (some (.tuple ⟨[io_ 0,io_ 0]⟩,ag []))))):=by kernel_rfl
theorem aco(C:List Value->List Blk->Bool)(n m:Int):aN P E (JM C) 50 aB [] [] 0 182 [ax 2 1 0 [.int .i64 1, .int .i64 1], .int .i64 n,ax 2 1 0 [.int .i64 1, .int .i64 1], .int .i64 m] [] =
 (let z:=Value.iface 18446744073709551618 (.agg ⟨[.slice none 1 0,io_ 1,io_ 1]⟩);let y:=io_ 0;let x:=ag [];let w:=some (Value.tuple ⟨[y,y]⟩,x);
 (ae (C [z,io_ n] []) (ae (C [z,io_ m] []) (aj (ltI m n) (aj (leI 1 m) (some (.tuple ⟨[io_ m,y]⟩,x)) w) (aj (leI 1 n) (some (.tuple ⟨[io_ n,y]⟩,x)) w))))):=by kernel_rfl
theorem acm(C1 C2:List Value->List Blk->Bool)(p:PgM)(m:MsgM):aN P E (ak P aB 0 71 (aP C1 (.leaf (.int .i64 0,[]))) (ak P aB 0 48 (aP C2 (.leaf (.int .i64 0,[]))) ctF)) 50 aB [] [] 0 103 [pgV p,mV m] [] =
 (let z:=some (Value.bool false,ag []);
 (ae (C1 [pg_ p] []) (aj (eqI p.ro 3) (ae (C2 [me_ m] []) (aj (eqI m.k 1) (aj (eqI m.e p.ep) (some (.bool (eqI m.ro 1),ag [])) z) z)) z))):=by kernel_rfl
end Go.VS.Tryz
end
