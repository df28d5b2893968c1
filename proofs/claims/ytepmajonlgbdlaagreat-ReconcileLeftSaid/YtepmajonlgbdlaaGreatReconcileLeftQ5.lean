/- Texts of the proof, merged: Dq1, Dq2, Wl4, Rs4, Rs5, Rs6, Rs7, Rs8, Rs9, VsG, VsK, Rs8b, Rs8c, Ra1, Ra2, Ra3, Ra4, Rc1, Rc2, Rc3, Rc4, Rc5, VsF, Rd1, Rd2, Rd3, Rg1, Rg2, Rg3, Lt1, Rq1, Rq2, VsE, Re1, Re2, Re3, Rp1, Rq0, Lt2, Rq3, Rq4, Rq5, Fd1, Fp1, Fd3, Fd2. No conditions. -/
import Derived.Test.YtepmajonlgbdlaaGreatReconcileLeftQ4
set_option linter.unusedSimpArgs false
set_option linter.unusedVariables false
noncomputable section
namespace Go.VS.Tryz
open Go.VS
set_option maxRecDepth 1000000
def pnd(f:Int)(cs:List (List UInt8)):List StM:=cs.map fun b=>⟨0,f,b,0⟩
theorem abj(f:Int)(a b:List (List UInt8)):pnd f (a++b)=pnd f a++pnd f b:=List.map_append
theorem Gf(f:Int)(a:List (List UInt8)):(pnd f a).length=a.length:=List.length_map ..
theorem GV{m:DkM}(hf:m.fused=false):jk m=some { m with steps:=m.steps+1 }:=by unfold jk; rw[hf]
theorem IE(f:Int):∀ (k:Nat) (m:DkM) (b:List UInt8),b.length<=64*k->m.fused=false->∃ cs:List (List UInt8),cs.flatten=b/\cs.length<=k/\wrM k m f b=({ m with steps:=m.steps+(cs.length:Int),pend:=m.pend++pnd f cs },[],true)
 |0,m,b,hl,hf=>by
  obtain rfl:b=[]:=List.length_eq_zero_iff.1 (by omega);exact⟨[],rfl,Nat.le_refl _,by simp[wrM,pnd]⟩
 |k+1,m,b,hl,hf=>by
  cases b with
  |nil=>exact⟨[],rfl,Nat.zero_le _,by simp[wrM,pnd]⟩
  |cons x t=>
   have hb:jk m=some { m with steps:=m.steps+1 }:=by unfold jk; rw[hf]
   obtain⟨cs,h1,h2,h3⟩:=IE f k { m with steps:=m.steps+1,pend:=m.pend++[stW f (x::t)] } ((x::t).drop 64) (by rw[List.length_drop]; omega) hf;refine⟨(x::t).take 64::cs,by rw[List.flatten_cons,h1,List.take_append_drop],by simpa using h2,?_⟩;unfold wrM;rw[hb];simp only;rw[h3];have e:m.steps+1+(cs.length:Int)=m.steps+((cs.length+1:Nat):Int):=by omega
   simp only[List.length_cons,e,List.append_assoc]
   rfl
theorem Em{m:DkM}{f:Int}(b:List UInt8)(h0:m.off=false)(hf:m.fused=false)(h:0<=f/\f<4):∃ cs:List (List UInt8),cs.flatten=b/\cs.length<=nG b.length/\writeM ⟨m,f,b⟩=(0,{ m with steps:=m.steps+(cs.length:Int),pend:=m.pend++pnd f cs }):=by
 obtain⟨cs,h1,h2,h3⟩:=IE f (nG b.length) m b (by unfold nG; omega) hf;refine⟨cs,h1,h2,?_⟩;have e:wrW (WcS.w ⟨m,f,b⟩)=({ m with steps:=m.steps+(cs.length:Int),pend:=m.pend++pnd f cs },[],true):=h3;have g1:geI f 0=true:=by unfold geI; exact decide_eq_true h.1
 have g2:ltI f 4=true:=by unfold ltI; exact decide_eq_true h.2
 unfold writeM;simp only[h0,g1,g2,e]
theorem f4{f:Int}(h:0<=f/\f<4):f=0\/f=1\/f=2\/f=3:=by omega
theorem GM{m:DkM}{f:Int}{d:List UInt8}:fH (setF m f d) f=d:=by
 unfold fH setF;cases eqI f 0<;>cases eqI f 1<;>cases eqI f 2<;>rfl
theorem SB{m:DkM}{f:Int}{d e:List UInt8}:setF (setF m f d) f e=setF m f e:=by
 unfold setF;cases eqI f 0<;>cases eqI f 1<;>cases eqI f 2<;>rfl
theorem Ur{m:DkM}{f:Int}:setF m f (fH m f)=m:=by
 unfold fH setF;cases eqI f 0<;>cases eqI f 1<;>cases eqI f 2<;>rfl
theorem TZ{f:Int}(h:0<=f/\f<4):∀ (cs:List (List UInt8)) (m:DkM),(fH m f).length+cs.flatten.length<=4194304->o9 m (pnd f cs)
 |[],_,_=>trivial
 |c::cs,m,hl=>by
  rw[List.flatten_cons,List.length_append]at hl;refine⟨⟨h,⟨Int.le_refl 0,?_⟩,?_⟩,TZ h cs _ ?_⟩
  ·intro h1; cases h1
  ·show(fH m f).length+c.length<=_; omega
  ·have e:fH (fK m ⟨0,f,c,0⟩) f=fH m f++c:=GM;rw[e,List.length_append]; omega
theorem NG{f:Int}:∀ (cs:List (List UInt8)) (m:DkM),lK m (pnd f cs)=setF m f (fH m f++cs.flatten)
 |[],m=>by rw[List.flatten_nil,List.append_nil,Ur]; rfl
 |c::cs,m=>by
  have e:fH (fK m ⟨0,f,c,0⟩) f=fH m f++c:=GM;have ih:=NG (f:=f) cs (fK m ⟨0,f,c,0⟩);rw[e]at ih;show lK (fK m ⟨0,f,c,0⟩) (pnd f cs)=_;rw[ih,List.flatten_cons,List.append_assoc];exact SB
theorem uO{m:DkM}{f s:Int}{p:List StM}:fH { m with steps:=s,pend:=p } f=fH m f:=by
 unfold fH;cases eqI f 0<;>cases eqI f 1<;>cases eqI f 2<;>rfl
theorem F8{m:DkM}{f s:Int}{p q:List StM}{d:List UInt8}:{ setF { m with steps:=s,pend:=p } f d with pend:=q }={ setF m f d with steps:=s,pend:=q }:=by
 unfold setF;cases eqI f 0<;>cases eqI f 1<;>cases eqI f 2<;>rfl
theorem GK{m:DkM}{f:Int}{cs:List (List UInt8)}(h0:m.off=false)(hf:m.fused=false)(h:0<=f/\f<4)(hp:m.pend=pnd f cs) :
  kZ m=(0,{ setF m f (fH m f++cs.flatten)with steps:=m.steps+1,pend:=[] }):=by
 have hb:jk m=some { m with steps:=m.steps+1 }:=by unfold jk; rw[hf]
 unfold kZ;rw[h0,hb];simp only;unfold oq;simp only;rw[List.take_length,List.drop_length,hp,NG];have e:fH { m with steps:=m.steps+1,pend:=pnd f cs } f=fH m f:=uO;rw[e];have:=F8 (m:=m) (f:=f) (s:=m.steps+1) (p:=pnd f cs) (q:=[]) (d:=fH m f++cs.flatten);exact congrArg (Prod.mk 0) this
theorem O6{m:DkM}{f:Int}{cs:List (List UInt8)}(hf:m.fused=false)(h:0<=f/\f<4)(hp:m.pend=pnd f cs)(ho:DkOk m)(hl:(fH m f).length+cs.flatten.length<=4194304):kSy.ok m:=by
 refine⟨ho,fun m' hm=>?_⟩;rw[GV hf]at hm;obtain rfl:=Option.some.inj hm;show o9 { m with steps:=m.steps+1 } m.pend;rw[hp];refine TZ h cs _ ?_;have e:fH { m with steps:=m.steps+1,pend:=pnd f cs } f=fH m f:=uO;rw[e]; exact hl
theorem Hz{m:DkM}{f:Int}(hp:m.pend=[]):pI m f=fH m f:=by unfold pI qX; rw[hp]; rfl
theorem WO{m:DkM}{f l:Int}(h0:m.off=false)(hf:m.fused=false)(hp:m.pend=[])(hl:0<=l/\l<=(fH m f).length) :
  yA m f l=(0,{ m with steps:=m.steps+1,pend:=[⟨1,f,[],l⟩] }):=by
 have hb:jk m=some { m with steps:=m.steps+1 }:=by unfold jk; rw[hf]
 have g1:ltI l 0=false:=by unfold ltI; exact decide_eq_false (by omega)
 have g2:gtI l (ak (pI m f).length)=false:=by rw[Hz hp]; unfold gtI ak; exact decide_eq_false (by omega)
 unfold yA;simp only[h0,g1,g2,hb,hp,List.nil_append]
theorem Qv{m:DkM}{f l:Int}(h0:m.off=false)(hf:m.fused=false)(hp:m.pend=[⟨1,f,[],l⟩]) :
  kZ m=(0,{ setF m f ((fH m f).take l.toNat)with steps:=m.steps+1,pend:=[] }):=by
 have hb:jk m=some { m with steps:=m.steps+1 }:=by unfold jk; rw[hf]
 unfold kZ;rw[h0,hb];simp only;unfold oq;simp only;rw[List.take_length,List.drop_length,hp];have e:fH { m with steps:=m.steps+1,pend:=[⟨1,f,[],l⟩] } f=fH m f:=uO;have e2:lK { m with steps:=m.steps+1,pend:=[⟨1,f,[],l⟩] } [⟨1,f,[],l⟩]=setF { m with steps:=m.steps+1,pend:=[⟨1,f,[],l⟩] } f ((fH m f).take l.toNat):=by
  show setF _ f (jr (fH _ f) _)=_;rw[e]
  rfl
 rw[e2];have:=F8 (m:=m) (f:=f) (s:=m.steps+1) (p:=[⟨1,f,[],l⟩]) (q:=[]) (d:=(fH m f).take l.toNat);exact congrArg (Prod.mk 0) this
theorem Y7{m:DkM}{f l:Int}(hf:m.fused=false)(h:0<=f/\f<4)(hp:m.pend=[⟨1,f,[],l⟩])(ho:DkOk m)(hl:0<=l/\l<=(fH m f).length)(hs:(fH m f).length<=4194304):kSy.ok m:=by
 refine⟨ho,fun m' hm=>?_⟩;rw[GV hf]at hm;obtain rfl:=Option.some.inj hm;show o9 { m with steps:=m.steps+1 } m.pend;have e:fH { m with steps:=m.steps+1,pend:=[⟨1,f,[],l⟩] } f=fH m f:=uO;rw[hp];refine⟨⟨h,⟨hl.1,fun _ _=>?_⟩,?_⟩,trivial⟩
 ·show l.toNat<=(fH _ f).length;rw[e]; omega
 ·show(fH _ f).length+0<=_;rw[e]; omega
def frC(c:CmM):List UInt8:=frM (gp c)
def eX(l:List CmM):List UInt8:=l.flatMap frC
theorem sJ(a b:List CmM):eX (a++b)=eX a++eX b:=List.flatMap_append
theorem J9(c:CmM):eX [c]=frC c:=by simp[eX]
theorem Ar{c:CmM}(h:cmE c=0):(frC c).length<=1035:=by
 have hl:=yh h;unfold frC frM;rw[List.length_append];have:=eY (n:=(gp c).length);omega
theorem x_:∀ (l:List CmM),(∀ c∈l,cmE c=0)->(eX l).length<=1035*l.length
 |[],_=>Nat.le_refl _
 |c::l,h=>by
  have h1:=Ar (h c (List.mem_cons_self ..));have h2:=x_ l fun x hx=>h x (List.mem_cons_of_mem _ hx);have e:eX (c::l)=frC c++eX l:=rfl;rw[e,List.length_append,List.length_cons];omega
def gB(l:List CmM):List Int:=(List.range l.length).map fun i=>((eX (l.take (i+1))).length:Int)
theorem tX(l:List CmM):(gB l).length=l.length:=by unfold gB; simp
theorem Hm(l:List CmM)(c:CmM):gB (l++[c])=gB l++[((eX (l++[c])).length:Int)]:=by
 unfold gB;rw[List.length_append,List.length_singleton,List.range_succ,List.map_append,List.map_singleton];congr 1
 ·refine List.map_congr_left fun i hi=>?_;have:i<l.length:=List.mem_range.1 hi;rw[List.take_append_of_le_length (by omega)]
 ·rw[List.take_of_length_le (by simp)]
theorem UM(l:List Int)(x:Int):mG (l++[x])=x:=by unfold mG; simp
theorem xX(l:List CmM):mG (gB l)=((eX l).length:Int):=by
 rcases List.eq_nil_or_concat l with rfl | ⟨t,c,rfl⟩
 ·rfl
 ·rw[List.concat_eq_append,Hm,UM]
theorem P9(l:List CmM)(k:Nat):(gB l).take k=gB (l.take k):=by
 unfold gB;rw[<-List.map_take,List.take_range,List.length_take];refine List.map_congr_left fun i hi=>?_;have:i<min k l.length:=List.mem_range.1 hi;rw[List.take_take,Nat.min_eq_left (by omega)]
theorem tK(l:List CmM)(c:CmM):dL (l++[c])=c.e:=by unfold dL; simp
theorem lL{e n:Int}{i:Nat}{c:CmM}{l:List CmM}(h:fD e n i (c::l)=(0,0)):cmE c=0/\c.n-1=n/\e<=c.e/\fD c.e c.n (i+1) l=(0,0):=by
 unfold fD at h;cases h1:eqI (cmE c) 0 with
 |false=>
  rw[h1]at h;have:cmE c=0:=congrArg Prod.fst h;rw[this]at h1;cases h1
 |true=>
  rw[h1]at h;cases h2:neI (c.n-1) n || ltI c.e e with
  |true=>rw[h2]at h; cases congrArg Prod.fst h
  |false=>
   rw[h2]at h;rw[Bool.or_eq_false_iff]at h2;refine⟨by simpa [eqI]using h1,by simpa [neI]using h2.1,by simpa [ltI]using h2.2,h⟩
theorem yP{e n:Int}{i:Nat}{c:CmM}{l:List CmM}(h:cmE c=0/\c.n-1=n/\e<=c.e/\fD c.e c.n (i+1) l=(0,0)):fD e n i (c::l)=(0,0):=by
 obtain⟨h1,h2,h3,h4⟩:=h;have e1:eqI (cmE c) 0=true:=by rw[h1]; rfl
 have e2:(neI (c.n-1) n || ltI c.e e)=false:=by
  rw[Bool.or_eq_false_iff];exact⟨by unfold neI; simp[h2],by unfold ltI; exact decide_eq_false (by omega)⟩
 unfold fD;rw[e1,e2];exact h4
theorem Js:∀ {l:List CmM} {e n:Int} {i:Nat} (j:Nat),fD e n i l=(0,0)->fD e n j l=(0,0)
 |[],_,_,_,_,_=>rfl
 |c::l,e,n,i,j,h=>by
  obtain⟨h1,h2,h3,h4⟩:=lL h;exact yP ⟨h1,h2,h3,Js (j+1) h4⟩
/-- Behind a list that stands,what follows it. -/
structure Fol(L l:List CmM):Prop where
 f:fD (dL L) (L.length:Int) 0 l=(0,0)
theorem Fol.cons{L l:List CmM}{c:CmM}(h:Fol L (c::l)):cmE c=0/\c.n-1=(L.length:Int)/\dL L<=c.e/\Fol (L++[c]) l:=by
 obtain⟨h1,h2,h3,h4⟩:=lL h.f;refine⟨h1,h2,h3,⟨?_⟩⟩;have e:((L++[c]).length:Int)=c.n:=by simp; omega
 rw[tK,e];exact Js 0 h4
theorem Fol.one{L l:List CmM}{c:CmM}(h:Fol L (c::l)):fD (dL L) (L.length:Int) 0 [c]=(0,0):=by
 obtain⟨h1,h2,h3,_⟩:=lL h.f;exact yP ⟨h1,h2,h3,rfl⟩
theorem Fol.all{L l:List CmM}(h:Fol L l):∀ c∈l,cmE c=0:=by
 induction l generalizing L with
 |nil=>intro c hc; cases hc
 |cons c l ih=>
  obtain⟨h1,_,_,h4⟩:=h.cons;intro x hx;rcases List.mem_cons.1 hx with rfl | hx
  ·exact h1
  ·exact ih h4 x hx
def ku(d:DkM)(cs:List (List UInt8))(l:List CmM):WalM:=⟨{ d with steps:=d.steps+(cs.length:Int),pend:=pnd 0 cs },false,l,gB l⟩
theorem adl{d:DkM}{cs:List (List UInt8)}{L l:List CmM}{c:CmM}(h0:d.off=false)(hf:d.fused=false)(h:Fol L (c::l))(hu:0<=d.fuse/\d.fuse<9223372036854775808)
  (hs:0<=d.steps/\d.steps+cs.length+20<4611686018427387904) (hc:cs.length+20<4194304) (hL:L.length<4194300) (hb:(eX L).length<4611686018427387904) :
  ∃ cs',cs'.flatten=cs.flatten++frC c/\cs'.length<=cs.length+17/\CRX P 2 73 [p0,cmV c] (cZ (ku d cs L)) (.int .i64 0) (cZ (ku d cs' (L++[c]))):=by
 obtain⟨h1,h2,h3,_⟩:=h.cons;obtain⟨c1,k1,k2,k3⟩:=Em (m:=(ku d cs L).dk) (f:=0) (frC c) h0 hf (by omega);have hfl:=Ar h1;refine⟨cs++c1,by rw[List.flatten_append,k1],by rw[List.length_append]; unfold nG at k2; omega,?_⟩;have hd:oO (ku d cs L).dk 20:=by
  refine⟨by show 0<=d.steps+(cs.length:Int); omega,by show d.steps+(cs.length:Int)+((20:Nat):Int)<_; omega,hu.1,hu.2,by show(pnd 0 cs).length+20<_; rw[Gf]; exact hc⟩
 have hq:=aay (w:=ku d cs L) (c:=c) h0 rfl h1 h.one hd hL (by show(gB L).length<_; rw[tX]; exact hL) (by show 0<=mG (gB L)/\mG (gB L)<_; rw[xX]; omega);have e:Ku (ku d cs L) c=(0,ku d (cs++c1) (L++[c])):=by
  have k3':writeM ⟨(ku d cs L).dk,0,frM (gp c)⟩=_:=k3;unfold Ku;rw[k3'];have e1:mG (gB L)+((frC c).length:Int)=((eX (L++[c])).length:Int):=by rw[xX,sJ,J9,List.length_append]; omega
  have e2:(d.steps+(cs.length:Int))+(c1.length:Int)=d.steps+((cs++c1).length:Int):=by rw[List.length_append]; omega
  have e3:(ku d cs L).es++[mG (ku d cs L).es+((frM (gp c)).length:Int)]=gB (L++[c]):=by
   rw[Hm,<-e1]; rfl
  simp only[show eqI 0 0=true from rfl,e3];show((0:Int),(⟨{ d with steps:=(d.steps+(cs.length:Int))+(c1.length:Int),pend:=pnd 0 cs++pnd 0 c1 },false,L++[c],gB (L++[c])⟩:WalM))=_;rw[e2,<-abj]
  rfl
 rw[e]at hq;exact hq
def yf(d:DkM)(k:Nat)(b:List UInt8)(l:List CmM):WalM:=⟨{ d with steps:=d.steps+(k:Int)+1,d0:=d.d0++b,pend:=[] },false,l,gB l⟩
theorem adw{d:DkM}{cs:List (List UInt8)}{L:List CmM}(h0:d.off=false)(hf:d.fused=false)(hu:0<=d.fuse/\d.fuse<9223372036854775808)
  (hs:0<=d.steps/\d.steps+cs.length+20<4611686018427387904) (hc:cs.length<4194304) (hb:d.d0.length+cs.flatten.length<=4194304) :
  CRX P 2 74 [p0] (cZ (ku d cs L)) (.int .i64 0) (cZ (yf d cs.length cs.flatten L)):=by
 have hk:kSy.ok (ku d cs L).dk:=O6 (f:=0) (cs:=cs) hf (by omega) rfl ⟨by show 0<=d.steps+_; omega,by show d.steps+_<_; omega,hu.1,hu.2,by show(pnd 0 cs).length<_; rw[Gf]; exact hc⟩ hb;have q:=Nh (w:=ku d cs L) h0 rfl hk;have e:Dj (ku d cs L)=(0,yf d cs.length cs.flatten L):=by
  unfold Dj;rw[GK (m:=(ku d cs L).dk) (f:=0) (cs:=cs) h0 hf (by omega) rfl]
  rfl
 rw[e]at q;exact q
/-- What the log's disk may be. -/
structure DkC(d:DkM)(k:Nat):Prop where
 off:d.off=false
 fused:d.fused=false
 fuse:0<=d.fuse/\d.fuse<9223372036854775808
 steps:0<=d.steps/\d.steps+k<4611686018427387904
theorem xw(l:List CmM)(n:Nat):takeC (Nat.mul n 3) (aU 0 (ECm.all l))=ECm.all (l.take n):=ECm.all_take n l
theorem FW(l:List Int)(n:Nat):takeC (Nat.mul n 1) (aU 0 (EIn.all l))=EIn.all (l.take n):=EIn.all_take n l
theorem NE(l:List Int)(n:Nat):takeC n (aU 0 (EIn.all l))=EIn.all (l.take n):=by
 have h:=FW l n;rw[show Nat.mul n 1=n from Nat.mul_one n]at h;exact h
theorem RV(l:List Int):(EIn.all l).length=l.length:=by rw[EIn.all_length]; exact Nat.mul_one _
theorem o6{n k:Nat}(h:n<=k):eF 0 (n:Int) k=true:=by unfold eF; exact decide_eq_true (by omega)
theorem aaH{d:DkM}{cs:List CmM}{n:Nat}(hd:DkC d 100000)(hp:d.pend=[])(hn:n<=cs.length)(hl:cs.length<4000)(h0:d.d0=eX cs)(h1:(eX cs).length<=3000000) :
  CRX P 2 174 [p0, .int .i64 (n:Int)] (cZ ⟨d,false,cs,gB cs⟩) (.int .i64 0) (cZ ⟨{ d with steps:=d.steps+1,pend:=[⟨1,0,[],((eX (cs.take n)).length:Int)⟩] },false,cs.take n,gB (cs.take n)⟩):=by
 have hst:=hd.steps;have hle:(eX (cs.take n)).length<=(eX cs).length:=by
  have e:eX cs=eX (cs.take n)++eX (cs.drop n):=by rw[<-sJ,List.take_append_drop]
  rw[e,List.length_append]; omega
 have q1:CRX P 1 155 [p0, .int .i64 0, .int .i64 ((eX (cs.take n)).length:Int)] (aN d) (.int .i64 (yA d 0 ((eX (cs.take n)).length:Int)).1) (aN (yA d 0 ((eX (cs.take n)).length:Int)).2):=ab_.at (s:=⟨d,0,((eX (cs.take n)).length:Int)⟩) ⟨⟨by show 0<=(0:Int)/\(0:Int)<4; omega,by show d.d0.length<=_; rw[h0]; omega,by show d.pend.length<_; rw[hp]; decide,by show Bg 0 (fH d 0) d.pend; rw[hp]; trivial⟩,
  ⟨hst.1,by show d.steps<_; omega,hd.fuse.1,hd.fuse.2,by show d.pend.length<_; rw[hp]; decide⟩⟩ rfl
 rw[WO (m:=d) (f:=0) hd.off hd.fused hp ⟨by omega,by show _<=((d.d0.length:Nat):Int); rw[h0]; omega⟩]at q1;have q:=Z_ tC zL (aV [p0, .int .i64 0, .int .i64 ((eX (cs.take n)).length:Int)] (aN d)) 0 d { d with steps:=d.steps+1,pend:=[⟨1,0,[],((eX (cs.take n)).length:Int)⟩] } cs (gB cs) n;rw[D6 hd.off]at q;refine CRX.of (pol:=au) (fl:=[]) (ts:=[]) (n:=50) (bf _) aA (ah (pol:=au) (iG aW Us) (aZ q1)) (q.trans ?_);clear q q1;have hoff:=hd.off;have g1:gtI ((n:Nat):Int) (ak cs.length)=false:=by unfold gtI ak; exact decide_eq_false (by omega)
 have g1':ltI ((n:Nat):Int) 0=false:=by unfold ltI; exact decide_eq_false (by omega)
 have g2:eF 0 ((n:Nat):Int) n=true:=o6 (Nat.le_refl n);have g3:eF 0 ((n:Nat):Int) cs.length=true:=o6 hn;have g4:Nat.div (Nat.sub (Nat.mul cs.length 3) 0) 3=cs.length:=by show(cs.length*3-0) / 3=_; omega
 have g5:Nat.div (Nat.sub cs.length 0) 1=cs.length:=by show(cs.length-0) / 1=_; omega
 have g6:fZ 0 ((n:Nat):Int)=n:=by unfold fZ; omega
 have g7:Nat.ble (Nat.succ n) 18446744073709551616=true:=Nat.ble_eq_true_of_le (by omega);have g8:Nat.beq n 18446744073709551616=false:=by
  cases h:Nat.beq n 18446744073709551616 with
  |false=>rfl
  |true=>have:=Nat.eq_of_beq_eq_true h; omega
 have g9:Nat.ble 18446744073709551616 n=false:=by
  cases h:Nat.ble 18446744073709551616 n with
  |false=>rfl
  |true=>have:=Nat.le_of_ble_eq_true h; omega
 have b1:Nat.ble n n=true:=Nat.ble_eq_true_of_le (Nat.le_refl n);have b2:Nat.ble n cs.length=true:=Nat.ble_eq_true_of_le hn;have b3:Nat.ble (Nat.mul n 3) (Nat.mul cs.length 3)=true:=Nat.ble_eq_true_of_le (Nat.mul_le_mul_right 3 hn);have t1:(gB cs).length=cs.length:=tX cs;have t2:(gB cs).take n=gB (cs.take n):=P9 cs n;have t3:(cs.take n).length=n:=by rw[List.length_take]; omega
 have t4:(gB (cs.take n)).length=n:=by rw[tX,t3]
 have k1:tC 18446744073709551617 n 0 (EIn.all (gB (cs.take n)))=true:=by
  have:=Oa (l:=gB (cs.take n)) (by rw[t4]; omega);rw[t4]at this; exact this
 have k2:zL (EIn.all (gB (cs.take n)))=((eX (cs.take n)).length:Int):=by rw[NU,xX]
 have z1:neI 0 0=false:=rfl;cases hz:Nat.ble 1 cs.length with
 |true=>
  simp (disch:=first | omega | (simp only[List.length_append,List.length_drop,List.length_take,List.length_singleton,Nat.add_eq,bJ]<;>omega) | fail) only[dk_,lb_,nb_,pt_,sl_,hoff,hz,g1,g1',g2,g3,g4,g5,g6,g7,g8,g9,b1,b2,b3,t1,t2,t3,t4,k1,k2,z1,JP,xw,FW,NE,RV,show Nat.ble 1 1=true from rfl,cZ,dP,lsV,ptV,p0,aN,dkC,bn,fzCms,cmV,di,bG,az,dG,dn,dR,dE,dF,dD,dw,dC,dB,dQ,dA,aB,aK,aP,Enc.all_ren,aQ,bH,bz,bu,bg,ax,aX,bD,Int.toNat_natCast,aY,aO,bF,bU,dH,bP,bW,dK,Bool.and_self,aG,aF,ay]
 |false=>
  have hcs:cs=[]:=by
   cases cs with
   |nil=>rfl
   |cons c l=>exfalso; rw[show Nat.ble 1 (c::l).length=true from Nat.ble_eq_true_of_le (by simp)]at hz; cases hz
  subst hcs;have hn0:n=0:=by simpa using hn
  subst hn0;have k3:tC 18446744073709551617 0 0 []=true:=k1;have k4:zL []=((eX ([]:List CmM)).length:Int):=k2;have e1:([]:List CmM).length=0:=rfl;have e2:gB []=[]:=rfl;have e3:(EIn.all ([]:List Int))=[]:=rfl;have e4:(ECm.all ([]:List CmM))=[]:=rfl;have e5:([]:List Int).length=0:=rfl;have e6:([]:List Value).length=0:=rfl;have e7:takeC 0 (aU 0 [])=[]:=rfl;have e8:List.take 0 ([]:List CmM)=[]:=rfl;rw[e1]at g1 g3 g4 g5 b2 b3 hz;simp (disch:=first | omega | (simp only[List.length_append,List.length_drop,List.length_take,List.length_singleton,Nat.add_eq,bJ]<;>omega) | fail) only[dk_,lb_,nb_,pt_,sl_,hoff,hz,g1,g1',g2,g3,g4,g5,g6,g7,g8,g9,b1,b2,b3,e1,e2,e3,e4,e5,e6,e7,e8,t3,k3,k4,z1,JP,xw,FW,NE,RV,show Nat.ble 1 1=true from rfl,cZ,dP,lsV,ptV,p0,aN,dkC,bn,fzCms,cmV,di,bG,az,dG,dn,dR,dE,dF,dD,dw,dC,dB,dQ,dA,aB,aK,aP,Enc.all_ren,aQ,bH,bz,bu,bg,ax,aX,bD,Int.toNat_natCast,aY,aO,bF,bU,dH,bP,bW,dK,Bool.and_self,aG,aF,ay]
  rfl
theorem Vy{d:DkM}{cs:List CmM}{n:Nat}(hd:DkC d 100000)(h0:d.d0=eX cs)(h1:(eX cs).length<=3000000) :
  CRX P 2 74 [p0] (cZ ⟨{ d with steps:=d.steps+1,pend:=[⟨1,0,[],((eX (cs.take n)).length:Int)⟩] },false,cs.take n,gB (cs.take n)⟩) (.int .i64 0)
   (cZ ⟨{ d with steps:=d.steps+1+1,d0:=eX (cs.take n),pend:=[] },false,cs.take n,gB (cs.take n)⟩):=by
 have hst:=hd.steps;have hle:(eX (cs.take n)).length<=(eX cs).length:=by
  have e:eX cs=eX (cs.take n)++eX (cs.drop n):=by rw[<-sJ,List.take_append_drop]
  rw[e,List.length_append]; omega
 have ht:(eX cs).take (eX (cs.take n)).length=eX (cs.take n):=by
  have e:eX cs=eX (cs.take n)++eX (cs.drop n):=by rw[<-sJ,List.take_append_drop]
  rw[e,List.take_left' rfl]
 have hg:fH { d with steps:=d.steps+1,pend:=[⟨1,0,[],((eX (cs.take n)).length:Int)⟩] } 0=eX cs:=h0;have hk:kSy.ok { d with steps:=d.steps+1,pend:=[⟨1,0,[],((eX (cs.take n)).length:Int)⟩] }:=Y7 (f:=0) (l:=((eX (cs.take n)).length:Int)) hd.fused (by omega) rfl
  ⟨by show 0<=d.steps+1; omega,by show d.steps+1<_; omega,hd.fuse.1,hd.fuse.2,by show 1<4194304; decide⟩ (by rw[hg]; omega) (by rw[hg]; omega)
 have q:=Nh (w:=⟨{ d with steps:=d.steps+1,pend:=[⟨1,0,[],((eX (cs.take n)).length:Int)⟩] },false,cs.take n,gB (cs.take n)⟩) hd.off rfl hk;have e:Dj ⟨{ d with steps:=d.steps+1,pend:=[⟨1,0,[],((eX (cs.take n)).length:Int)⟩] },false,cs.take n,gB (cs.take n)⟩=(0,⟨{ d with steps:=d.steps+1+1,d0:=eX (cs.take n),pend:=[] },false,cs.take n,gB (cs.take n)⟩):=by
  unfold Dj;rw[Qv (m:={ d with steps:=d.steps+1,pend:=[⟨1,0,[],((eX (cs.take n)).length:Int)⟩] }) (f:=0) (l:=((eX (cs.take n)).length:Int)) hd.off hd.fused rfl,hg];simp only[Int.toNat_natCast,ht]
  rfl
 rw[e]at q;exact q
def kW(held:Int)(p:PgM)(en ep ru:Int):Bool:=
 leI ru en&&leI ep p.ep&&leI p.ac en&&(bif eqI p.ro 3 then ltI ep p.ep else true)&&
 (bif eqI p.ph 4 then eqI p.fo en else true)&&(bif eqI p.ph 4 || (eqI p.ph 2 || eqI p.ph 3)then leI ru p.fo&&leI p.fo en&&leI p.ba held else true)
theorem F9{s:StaM}(ht:gZ s.tb){p:PgM}{en ep ru:Int}:CRX P 7 63 [p0,pgV p, .int .i64 en, .int .i64 ep, .int .i64 ru] (stB s) (.bool (kW s.held p en ep ru)) (stB s):=by
 obtain⟨S,hS⟩:∃ S,S=ag (stB s):=⟨_,rfl⟩
 refine CRX.of (pol:=au) (fl:=[]) (ts:=[]) (n:=50) (bf _) aA aW ((aau s p en ep ru).trans ?_);rw[<-hS];unfold stB pgC at hS;simp only[ns_,sm_,cZ,rnB,srB,tbB,dkL,List.cons_append,List.nil_append,List.append_assoc,dN,aT,dP,lsV,ptV,p0,aN,dkC,bn,fzCms,cmV,di,bG,az,dG,dn,dR,dE,dF,dD,dw,dC,dB,dQ,dA,aB,aK,aP,Enc.all_ren]at hS;simp only[ns_,sm_,ht.ren,pgC,cZ,rnB,srB,tbB,dkL,List.cons_append,List.nil_append,List.append_assoc,dN,aT,dP,lsV,ptV,p0,aN,dkC,bn,fzCms,cmV,di,bG,az,dG,dn,dR,dE,dF,dD,dw,dC,dB,dQ,dA,aB,aK,aP,Enc.all_ren,aB rfl,aK rfl,aP rfl,aT rfl,aQ,bH,bz,bu,bg,ax,aX,bD,Int.toNat_natCast,aY,aO,bF,bU,dH,bP,bW,dK,Bool.and_self,aG,aF,ay];rw[<-hS];clear hS;unfold kW;generalize eqI p.ro 3=a1;generalize leI p.ac en=a2;generalize eqI p.ph 4=a3;generalize ltI ep p.ep=a4;generalize eqI p.fo en=a5;generalize leI ru p.fo=a6;generalize leI p.fo en=a7;generalize leI p.ba s.held=a8;generalize eqI p.ph 2=a9;generalize eqI p.ph 3=b1;generalize leI ru en=b2;generalize leI ep p.ep=b3;cases b2<;>cases b3<;>cases a2<;>cases a1<;>cases a4<;>cases a3<;>cases a5<;>first | rfl | (cases a9<;>cases b1<;>cases a6<;>cases a7<;>rfl)
theorem Jq(l:List CmM){i:Nat}(h:i<l.length):eX (l.drop i)=frC l[i]++eX (l.drop (i+1)):=by rw[List.drop_eq_getElem_cons h]; rfl
theorem gm{N:Nat}{g:FuncId}{r:DT (Value×List Blk)}:CallOkX P N g (bI (fun _ _=>false) r):=by
 refine⟨fun args bs t hR v' bs' hev=>?_⟩;unfold bI at hR;obtain rfl:=Option.some.inj hR;cases hev
theorem KQ{s:StaM}(hs:s.off=false)(ht:gZ s.tb){l' l:List CmM}(hl:l.length<=1000){d:DkM}(hd:DkC d 100000):∀ (k i:Nat) (cs:List (List UInt8)) (L:List CmM),i+k=l.length->Fol L (l.drop i)->cs.length<=17*i->(L.length+k<4194300)->((eX L).length+1035*k<4611686018427387904)->
  ∃ cs',cs'.flatten=cs.flatten++eX (l.drop i)/\cs'.length<=17*l.length/\LRX P 27 0 Ba1 Da1.head (a1V l' l 0 i) (stB (s.setW (ku d cs L))) .normal (a1V l' l 0 l.length) (stB (s.setW (ku d cs' (L++l.drop i))))
 |0,i,cs,L,h1,h2,h3,h4,h5=>by
  obtain rfl:i=l.length:=by omega
  refine⟨cs,?_⟩;rw[List.drop_length];refine⟨by simp[eX],h3,?_⟩;rw[List.append_nil];exact LRX.stop (n:=50) (bf _) aA (ah (pol:=au) aW (gm (r:= .leaf (.int .i64 0,cZ (ku d cs L))))) OW (e:= .exit 0) (acp (s:=s.setW (ku d cs L)) (w:=ku d cs L) (r:=0) (C:=fun _ _=>false) ht) (by intro h; cases h)
 |k+1,i,cs,L,h1,h2,h3,h4,h5=>by
  have hi:i<l.length:=by omega
  rw[List.drop_eq_getElem_cons hi]at h2;obtain⟨g1,_,_,g4⟩:=h2.cons;have hst:=hd.steps;obtain⟨c1,k1,k2,k3⟩:=adl (cs:=cs) (L:=L) hd.off hd.fused h2 hd.fuse (by omega) (by omega) (by omega) (by omega);have hf:=Ar g1;obtain⟨c2,m1,m2,m3⟩:=KQ hs ht hl hd k (i+1) c1 (L++[l[i]]) (by omega) g4 (by omega) (by rw[List.length_append,List.length_singleton]; omega) (by rw[sJ,J9,List.length_append]; omega);refine⟨c2,?_⟩;rw[Jq l hi,m1,k1,List.append_assoc,List.drop_eq_getElem_cons hi];refine⟨rfl,m2,?_⟩;rw[List.append_assoc]at m3;exact LRX.again (n:=50) (bf _) aA (ah (pol:=au) aW (aZ k3)) OW (Xo (s:=s.setW (ku d cs L)) hs ht hi (by omega) k3) m3
def StaM.plus(s:StaM)(c:CmM):StaM:={ s with log:=s.log++[c],tb:=tbM s.tb c.ops,rest:=s.rest++[c] }
def tbL(t:TbM)(l:List CmM):TbM:=l.foldl (fun t c=>tbM t c.ops) t
theorem VI(s:StaM):∀ l:List CmM,l.foldl StaM.plus s={ s with log:=s.log++l,tb:=tbL s.tb l,rest:=s.rest++l }:=by
 intro l
 induction l generalizing s with
 |nil=>simp[tbL]
 |cons c l ih=>rw[List.foldl_cons,ih]; simp[StaM.plus,tbL]
theorem gZ.log{t:TbM}(h:gZ t)(l:List CmM):gZ (tbL t l):=by
 induction l generalizing t with
 |nil=>exact h
 |cons c l ih=>exact ih (h.all c.ops)
/-- The store goes with the log. -/
structure StR(s:StaM):Prop where
 tb:gZ s.tb
 n:(s.log.length:Int)=h_ s.rs+s.rest.length
 e:s.rest=[]\/dL s.rest=dL s.log
 r:s.rs.length<4194304
 r0:0<=h_ s.rs
theorem StR.plus{s:StaM}(h:StR s)(c:CmM):StR (s.plus c):=by
 obtain⟨h1,h2,h3,h4,h5⟩:=h;refine⟨h1.all c.ops,?_,Or.inr ?_,h4,h5⟩
 ·show((s.log++[c]).length:Int)=h_ s.rs+((s.rest++[c]).length:Int);simp; omega
 ·show dL (s.rest++[c])=dL (s.log++[c]);rw[tK,tK]
theorem adu{s:StaM}(h:StR s){c:CmM}{l:List CmM}(hf:Fol s.log (c::l))(hl:s.log.length<4194300):CRX P 5 75 [p0,cmV c] (srB s.sr) (.int .i64 0) (srB ⟨tbM s.tb c.ops,s.rn,s.rest++[c]⟩):=by
 obtain⟨h1,h2,h3,h4,h5⟩:=h;obtain⟨f1,f2,f3,_⟩:=hf.cons;have h3':s.rest=[]\/dL s.rest<=c.e:=by
  rcases h3 with h3 | h3
  ·exact Or.inl h3
  ·exact Or.inr (by omega)
 exact acS (s:=s.sr) h1 f1 (by show c.n-1=h_ s.rs+(s.rest.length:Int); omega) h3' h4 (by show s.rest.length<_; omega) h5
theorem JA{l:List CmM}(hl:l.length<=1000):∀ (k i:Nat) (s:StaM),StR s->i+k=l.length->Fol s.log (l.drop i)->(s.log.length+k<4194300)->
  LRX P 27 2 Ba2 Da2.head (a2V l i) (stB s) .normal (a2V l l.length) (stB ((l.drop i).foldl StaM.plus s))
 |0,i,s,hs,h1,h2,h3=>by
  obtain rfl:i=l.length:=by omega
  rw[List.drop_length];exact LRX.stop (n:=50) (bf _) aA (ah (pol:=au) (ah (pol:=au) aW (gm (r:= .leaf (.int .i64 0,srB s.sr)))) (gm (r:= .leaf (cmV ⟨0,0,[]⟩,[])))) Ox (e:= .exit 2) (acZ (C1:=fun _ _=>false) (C2:=fun _ _=>false) (c:=⟨0,0,[]⟩) (sr:=s.sr) hs.tb) (by intro h; cases h)
 |k+1,i,s,hs,h1,h2,h3=>by
  have hi:i<l.length:=by omega
  rw[List.drop_eq_getElem_cons hi]at h2 ⊢;obtain⟨g1,_,_,g4⟩:=h2.cons;obtain⟨_,_,hb⟩:=jf.1 g1;obtain⟨b1,b2,b3⟩:=gq.1 hb;have q1:=uK (c:=l[i]) b1 (by omega);have q2:=adu hs h2 (by omega);have ih:=JA hl k (i+1) (s.plus l[i]) (hs.plus _) (by omega) g4 (by show(s.log++[l[i]]).length+k<_; simp; omega);have q:=V_ (s:=s) hs.tb hi (by omega) (by omega) (sr:=⟨tbM s.tb l[i].ops,s.rn,s.rest++[l[i]]⟩) (hs.tb.all _);exact LRX.again (n:=50) (bf _) aA (ah (pol:=au) (ah (pol:=au) aW (aZ q2)) (aZ q1)) Ox q ih
/-- A state on a disk without a fuse,all durable. -/
structure StQ(s:StaM)(k:Nat):Prop where
 off:s.off=false
 dk:DkC s.dk k
 pend:s.dk.pend=[]
 wbr:s.wbr=false
 wcs:s.wcs=s.log
 wes:s.wes=gB s.log
 sr:StR s
 d0:s.dk.d0=eX s.log
theorem xA{s:StaM}(h:s.off=false)(h2:s.dk.off=false):okS s=s:=by
 obtain⟨off,pg,log,held,dk,wbr,wcs,wes,rbr,rs,tb,rest⟩:=s;simp only at h h2;subst h;unfold okS;simp only[D6 h2]
theorem XB{s:StaM}{k:Nat}(h:StQ s k):ku s.dk [] s.log=s.wal:=by
 obtain⟨⟨off,pg,log,held,⟨d1,d2,d3,d4,d5,d6,d7,d8,d9⟩,wbr,wcs,wes,rbr,rs,tb,rest⟩,h2⟩:∃ t,t=s:=⟨s,rfl⟩
 subst h2;obtain⟨h1,h2,h3,h4,h5,h6,h7,h8⟩:=h;simp only at h3 h4 h5 h6;subst h3 h4 h5 h6;unfold ku StaM.wal;simp[pnd]
theorem Tq(s:StaM):s.setW s.wal=s:=rfl
def StaM.added(s:StaM)(k:Nat)(l:List CmM):StaM:={ s with log:=s.log++l,dk:={ s.dk with steps:=s.dk.steps+(k:Int)+1,d0:=s.dk.d0++eX l,pend:=[] },wbr:=false,wcs:=s.log++l,wes:=gB (s.log++l),tb:=tbL s.tb l,rest:=s.rest++l }
theorem kG(a b c d e f:Int):bZ (.agg ⟨[.int .i64 a, .int .u8 b, .int .i64 c, .int .u8 d, .int .i64 e, .int .i64 f]⟩) (.agg ⟨[.int .i64 a, .int .u8 b, .int .i64 c, .int .u8 d, .int .i64 e, .int .i64 f]⟩)=true:=Xg rfl
theorem nz{l:List CmM}(h:l≠[]):dL l=(l[l.length-1]'(by have:=List.length_pos_iff.2 h; omega)).e:=by unfold dL; rw[last_at l h]; rfl
theorem acI{s:StaM}{l:List CmM}(hs:StQ s 100000)(hf:Fol s.log l)(hne:l≠[])(hl:l.length<=1000)(hg:s.log.length<4000)(hb2:(eX s.log).length<=3000000)(hso:kW s.held s.pg ((s.log.length:Int)+(l.length:Int)) (dL l) (h_ s.rs)=true) :
  ∃ k,k<=17*l.length/\CRX P 7 27 [p0,fzCms l] (stB s) (.int .i64 0) (stB (s.added k l)):=by
 have hb:=x_ l hf.all;obtain⟨cs,k1,k2,q4⟩:=KQ (l':=l) hs.off hs.sr.tb hl hs.dk l.length 0 [] s.log (by omega) hf (Nat.zero_le _) (by omega) (by omega);rw[XB hs,Tq]at q4;have hst:=hs.dk.steps;have hfl:cs.flatten.length<=1035*l.length:=by rw[k1]; simpa using hb
 have q5:=adw (d:=s.dk) (cs:=cs) (L:=s.log++l) hs.dk.off hs.dk.fused hs.dk.fuse (by omega) (by omega) (by have:=congrArg List.length hs.d0; omega);have hr2:StR (s.setW (yf s.dk cs.length cs.flatten (s.log++l))):=⟨hs.sr.tb,hs.sr.n,hs.sr.e,hs.sr.r,hs.sr.r0⟩
 have q6:=JA hl l.length 0 (s.setW (yf s.dk cs.length cs.flatten (s.log++l))) hr2 (by omega) hf (by show s.log.length+l.length<_; omega);have q1:=mX (e:=dL s.log) (n:=(s.log.length:Int)) (l:=l) (by omega) (by
  intro x hx;obtain⟨_,_,hb⟩:=jf.1 (hf.all x hx);obtain⟨b1,b2,b3⟩:=gq.1 hb
  omega)
 rw[hf.f]at q1;have q2:=xq (r:=s.rn) hs.sr.r;have q3:=F9 (s:=s) hs.sr.tb (p:=s.pg) (en:=(s.log.length:Int)+(l.length:Int)) (ep:=dL l) (ru:=h_ s.rs);rw[hso]at q3;rw[List.drop_zero]at k1 q4 q6;rw[List.flatten_nil,List.nil_append]at k1;refine⟨cs.length,k2,?_⟩;have q:=NK (fun _ _=>false) (aV [.int .i64 (dL s.log), .int .i64 (s.log.length:Int),fzCms l] []) (aV [p0] (rnB s.rn)) (aV [p0,pgV s.pg, .int .i64 ((s.log.length:Int)+(l.length:Int)), .int .i64 (dL l), .int .i64 (h_ s.rs)] (stB s))
  (aV (a1V l l 0 (0:Nat)) (stB s)) (aV [p0] (cZ (ku s.dk cs (s.log++l)))) (aV (a2V l (0:Nat)) (stB (s.setW (yf s.dk cs.length cs.flatten (s.log++l)))))
  0 (h_ s.rs) 0 l.length l.length s (s.setW (ku s.dk cs (s.log++l))) (l.foldl StaM.plus (s.setW (yf s.dk cs.length cs.flatten (s.log++l)))) (yf s.dk cs.length cs.flatten (s.log++l)) l
 rw[xA hs.off hs.dk.off]at q;refine CRX.of (pol:=au) (fl:=[]) (ts:=[]) (n:=50) (bf _) aA (ah (pol:=au) (ah (pol:=au) (ah (pol:=au) (eu (ah (pol:=au) (eu aW (fU (d_ Jf) q6)) (aZ q5)) (fU (d_ Jh) q4)) (aZ q3)) (aZ q2)) (aZ q1)) (q.trans ?_);clear q q1 q2 q3 q4 q5 q6;rw[VI];have hoff:=hs.off;have hdo:=hs.dk.off;have ht:=hs.sr.tb.ren;have ht2:=(hs.sr.tb.log l).ren;have g0:eqI (ak l.length) 0=false:=(kz hne (by omega)).1;obtain⟨_,_,l1,l2⟩:=kz hne (by omega);have hp:=List.length_pos_iff.2 hne;have l4:bT (ECm.all l) (Nat.add (atN ((l.length-1:Nat):Int) 3) 0) = .int .i64 (l[l.length-1]'(by have:=List.length_pos_iff.2 hne; omega)).e:=k_ (l:=l) (i:=l.length-1) (by have:=List.length_pos_iff.2 hne; omega);have l5:=mD (n:=l.length) (k:=1) hp (by decide);have l6:=nz hne;have e0:ak s.log.length=(s.log.length:Int):=rfl;have a1:dI .i64 (s.log.length:Int) (ak l.length)=(s.log.length:Int)+(l.length:Int):=by unfold dI ak; rw[wrap64 (by omega) (by omega)]
 have z0:((0:Nat):Int)=0:=rfl;have z1:neI 0 0=false:=rfl;have z2:eqI 0 6=false:=rfl;by_cases h0:s.log=[]
 ·have e1:dL s.log=0:=by rw[h0]; rfl
  have e2:(s.log.length:Int)=0:=by rw[h0]; rfl
  have e3:eqI (s.log.length:Int) 0=true:=by rw[e2]; rfl
  simp (disch:=first | omega | (simp only[List.length_append,List.length_drop,List.length_take,List.length_singleton,Nat.add_eq,bJ]<;>omega) | fail) only[dk_,fa_,lb_,nb_,ns_,nw_,pg_,pt_,sl_,sm_,sw_,hoff,hdo,ht,ht2,g0,l1,l2,l4,l5,l6,e0,a1,e1,e3,k1,z0,z1,z2,StaM.added,zF,kG,a1V,a2V,pgV,iI,kF,StaM.wal,StaM.rn,StaM.setW,stB,pgC,yf,ku,cZ,rnB,srB,tbB,dkL,List.cons_append,List.nil_append,List.append_assoc,dN,aT,dP,lsV,ptV,p0,aN,dkC,bn,fzCms,cmV,di,bG,az,dG,dn,dR,dE,dF,dD,dw,dC,dB,dQ,dA,aB,aK,aP,Enc.all_ren,aB rfl,aK rfl,aP rfl,aT rfl,aQ,bH,bz,bu,bg,ax,aX,bD,Int.toNat_natCast,aY,aO,bF,bU,dH,bP,bW,dK,Bool.and_self,aG,aF,ay]
 ·obtain⟨m0,_,m1,m2⟩:=kz h0 (by omega);have mp:=List.length_pos_iff.2 h0;have m4:=k_ (l:=s.log) (i:=s.log.length-1) (by omega);have m5:=mD (n:=s.log.length) (k:=1) mp (by decide);have m6:=nz h0;rw[e0]at m0 m1;simp (disch:=first | omega | (simp only[List.length_append,List.length_drop,List.length_take,List.length_singleton,Nat.add_eq,bJ]<;>omega) | fail) only[dk_,fa_,lb_,nb_,ns_,nw_,pg_,pt_,sl_,sm_,sw_,hoff,hdo,ht,ht2,g0,l1,l2,l4,l5,l6,e0,a1,m0,m1,m2,m4,m5,m6,k1,z0,z1,z2,StaM.added,zF,kG,a1V,a2V,pgV,iI,kF,StaM.wal,StaM.rn,StaM.setW,stB,pgC,yf,ku,cZ,rnB,srB,tbB,dkL,List.cons_append,List.nil_append,List.append_assoc,dN,aT,dP,lsV,ptV,p0,aN,dkC,bn,fzCms,cmV,di,bG,az,dG,dn,dR,dE,dF,dD,dw,dC,dB,dQ,dA,aB,aK,aP,Enc.all_ren,aB rfl,aK rfl,aP rfl,aT rfl,aQ,bH,bz,bu,bg,ax,aX,bD,Int.toNat_natCast,aY,aO,bF,bU,dH,bP,bW,dK,Bool.and_self,aG,aF,ay]
def Bso:Code:=(dZ P 121 0).getD .skip
theorem Td:dZ P 121 0=some Bso:=by kernel_rfl
theorem O5:Occ P 121 (.block 0 (.loop Bso)):=fM Td
def Wi(C1 C2:List Value->List Blk->Bool)(tb:TbM)(c:CmM):Ct:=aC P au 0 56 (bI C1 (.leaf (cmV c,[]))) (aC P au 2 39 (bI C2 (.leaf (.int .i64 0,tbB tb))) ctF)
def ad4:Pol:=fun t=>match Nat.beq t 114 with
 |true=>some [.val, .val, .val, .val, .val, .val, .val, .val, .keep, .val, .val, .val, .val]
 |false=>au t
def Dlg:HeadX:=⟨7,24,[0,3,11,12,13],[.val, .own, .keep, .val, .val],[0,22,0,0,0],ad4⟩
def Blg:Code:=(dZ P 20 0).getD .skip
theorem Ui:dZ P 20 0=some Blg:=by kernel_rfl
theorem Pe:Occ P 20 (.block 0 (.loop Blg)):=fM Ui
def lgV(o:List CmM)(n:Nat)(i:Int):List Value:=[p0,lsV 17 o.length,lsV 12 n, .int .i64 (ak n), .int .i64 i]
def lgB(s:StaM)(o:List CmM):List Blk:=stB s++[.cells (ECm.all o) 35 false]
def GG(C1:List Value->List Blk->Bool)(c:CmM):Ct:=aC P au 0 56 (bI C1 (.leaf (cmV c,[]))) ctF
theorem RG(C1:List Value->List Blk->Bool)(c:CmM)(s:StaM)(o:List CmM)(n:Nat)(i:Int):bV P E (GG C1 c) 50 20 Blg Dlg (lgV o n i) (lgB s o) =
 (let z0:=Nat.add 0 (atN i 3);let y0:=Enc.all ECm s.log;let x0:=Eta.int .i64;let w0:=Nat.add z0 1;let v0:=bT y0 (Nat.add w0 1);let u0:=o.length;let t0:=Nat.add u0 1;let s0:=Enc.all ECm o;let r0:=List.append (jC 0 s0) [.int .i64 c.e, .int .i64 c.n,fa_ c.ops.length 0 (Enc.all EOp c.ops)];let q0:=s.dk;
 let p0:=q0.d0.length;let o0:=bc q0.d0;let n0:=q0.d1.length;let m0:=bc q0.d1;let l0:=q0.d2.length;let k0:=bc q0.d2;let j0:=q0.d3.length;let i0:=bc q0.d3;let h0:=q0.pend.length;let g0:=Enc.all ESt q0.pend;let f0:=s.wcs.length;let e0:=Enc.all ECm s.wcs;let d0:=s.wes.length;let c0:=Enc.all EIn s.wes;
 let b0:=s.rs.length;let a0:=Enc.all iC s.rs;let Z0:=s.rest.length;let Y0:=Enc.all ECm s.rest;let X0:=Value.int .i64 (ak n);let W0:=pt_ 1;let V0:=s.pg;let U0:=Blk.cells [W0, .bool s.off, .int .i64 V0.ep, .int .u8 V0.ro, .int .i64 V0.ac, .int .u8 V0.ph, .int .i64 V0.fo, .int .i64 V0.ba,sl_ 12 s.log.length,pt_ 2,pt_ 3,pt_ 4, .int .i64 s.held] 114 true;
 let T0:=dk_ q0 7 8 9 10 11;let S0:=Blk.cells [W0, .bool s.wbr,sl_ 13 f0,sl_ 14 d0] 182 true;let R0:=Blk.cells [W0, .bool s.rbr,sl_ 15 b0] 173 true;let Q0:=Blk.cells [pt_ 5,pt_ 3,sl_ 16 Z0] 185 true;let P0:=Blk.cells [.map (some 6)] 141 true;let O0:=aH 0 [0,1,2,3,4,5,6,22,23,24,25,26,12,27,28,29,30,21];
 let N0:=aH 0 [0,1,2,3,4,5,6,19,20,21,22,23,12,24,25,26,27,18];
 (aj (ltI i (ak n)) (ae (inI i n) (ae (Bool.and (Nat.ble (Nat.add z0 3) y0.length) (jw [x0,x0, .slice 3] y0 z0)) (ae (C1 [.agg ⟨[.int .i64 (asI (bT y0 z0)), .int .i64 (asI (bT y0 w0)),fa_ (zN v0) (zB v0) (zC v0)]⟩] []) (ae (Nat.ble t0 4194304) (ae (Nat.beq (Nat.add 0 (Nat.mul u0 3)) s0.length) (nb_ t0 3 r0 (nb_ p0 1 o0 (nb_ n0 1 m0 (nb_ l0 1 k0 (nb_ j0 1 i0 (nb_ h0 4 g0 (nb_ f0 3 e0 (nb_ d0 1 c0 (nb_ b0 3 a0 (nb_ Z0 3 Y0 (some (.tuple ⟨[.int .i64 0,pt_ 0,sl_ 17 t0,sl_ 12 n,X0, .int .i64 (dI .i64 i 1)]⟩,ag [U0,T0,S0,R0,Q0,P0, .map (eP true O0 s.tb.es) s.tb.ck,lb_ O0 p0 1 o0 5,lb_ O0 n0 1 m0 5,lb_ O0 l0 1 k0 5,lb_ O0 j0 1 i0 5,lb_ O0 h0 4 g0 132, .cells (af true O0 y0) 35 false,lb_ O0 f0 3 e0 35,lb_ O0 d0 1 c0 3,lb_ O0 b0 3 a0 136,lb_ O0 Z0 3 Y0 35,lb_ O0 t0 3 r0 35]))))))))))))))))) (nb_ u0 3 s0 (nb_ p0 1 o0 (nb_ n0 1 m0 (nb_ l0 1 k0 (nb_ j0 1 i0 (nb_ h0 4 g0 (nb_ f0 3 e0 (nb_ d0 1 c0 (nb_ b0 3 a0 (nb_ Z0 3 Y0 (some (.tuple ⟨[.int .i64 1,pt_ 0,sl_ 17 u0,sl_ 12 n,X0, .int .i64 i]⟩,ag [U0,T0,S0,R0,Q0,P0, .map (eP true N0 s.tb.es) s.tb.ck,lb_ N0 p0 1 o0 5,lb_ N0 n0 1 m0 5,lb_ N0 l0 1 k0 5,lb_ N0 j0 1 i0 5,lb_ N0 h0 4 g0 132, .cells (af true N0 y0) 35 false,lb_ N0 f0 3 e0 35,lb_ N0 d0 1 c0 3,lb_ N0 b0 3 a0 136,lb_ N0 Z0 3 Y0 35,lb_ N0 u0 3 s0 35])))))))))))))):=by kernel_rfl
def ad1(C:List Value->List Blk->Bool)(s:StaM)(l:List CmM):Ct:=fP P 20 0 Dlg (jd C (.leaf (.normal,lgV l l.length (ak l.length),lgB s l))) ctF
theorem aaj(C:List Value->List Blk->Bool)(s:StaM):bM P E (ad1 C s s.log) 50 au [.val] [22] 7 20 [p0] (stB s) =
 (let z0:=s.dk;let y0:=z0.d0.length;let x0:=z0.d1.length;let w0:=z0.d2.length;let v0:=z0.d3.length;let u0:=z0.pend.length;let t0:=Enc.all ESt z0.pend;let s0:=s.wcs.length;let r0:=Enc.all ECm s.wcs;let q0:=s.wes.length;let o0:=Enc.all EIn s.wes;let n0:=s.rs.length;let m0:=Enc.all iC s.rs;
 let l0:=s.rest.length;let k0:=Enc.all ECm s.rest;let j0:=s.log.length;let i0:=sl_ 12 j0;let h0:=pt_ 1;let g0:=s.pg;let f0:=aH 0 [0,1,2,3,4,5,6,18,19,20,21,22,12,23,24,25,26,17];let e0:=Enc.all ECm s.log;let d0:=bC [0,1,2,3,4,5,6] 27;let c0:=af true d0 e0;
 (nb_ y0 1 (bc z0.d0) (nb_ x0 1 (bc z0.d1) (nb_ w0 1 (bc z0.d2) (nb_ v0 1 (bc z0.d3) (nb_ u0 4 t0 (nb_ s0 3 r0 (nb_ q0 1 o0 (nb_ n0 3 m0 (nb_ l0 3 k0 (ae (C [pt_ 0,sl_ 17 0,i0, .int .i64 (ak j0), .int .i64 0] [.cells [h0, .bool s.off, .int .i64 g0.ep, .int .u8 g0.ro, .int .i64 g0.ac, .int .u8 g0.ph, .int .i64 g0.fo, .int .i64 g0.ba,i0,pt_ 2,pt_ 3,pt_ 4, .int .i64 s.held] 114 true,dk_ z0 7 8 9 10 11, .cells [h0, .bool s.wbr,sl_ 13 s0,sl_ 14 q0] 182 true, .cells [h0, .bool s.rbr,sl_ 15 n0] 173 true, .cells [pt_ 5,pt_ 3,sl_ 16 l0] 185 true, .cells [.map (some 6)] 141 true, .map (eP true f0 s.tb.es) s.tb.ck,lb_ f0 y0 1 (bc z0.d0) 5,lb_ f0 x0 1 (bc z0.d1) 5,lb_ f0 w0 1 (bc z0.d2) 5,lb_ f0 v0 1 (bc z0.d3) 5,lb_ f0 u0 4 t0 132, .cells (af true f0 e0) 35 false,lb_ f0 s0 3 r0 35,lb_ f0 q0 1 o0 3,lb_ f0 n0 3 m0 136,lb_ f0 l0 3 k0 35, .cells [] 35 false]) (ae (gV P 0 j0 18446744073709551616 c0 35) (nw_ s d0 (some (fa_ j0 0 (takeC (Nat.mul j0 3) (aU 0 c0)),ag (sw_ s (aH 0 [0,1,2,3,4,5,6,39,40,41,42,43,38,44,45,46,47]) d0)))))))))))))))):=by kernel_rfl
def adf(C1 C2 C3 C4 C5 C6:List Value->List Blk->Bool)(ru r1 r2:Int)(s:StaM)(x f:List UInt8)(d1 d2:DkM):Ct:=
 aC P au 0 68 (bI C1 (.leaf (.tuple ⟨[aJ 1 x.length 0 (bc x), .int .i64 0]⟩,[]))) (aC P au 2 65 (bI C2 (.leaf (.int .i64 ru,rnB s.rn)))
 (aC P au 7 63 (bI C3 (.leaf (.bool true,stB s))) (aC P au 0 69 (bI C4 (.leaf (.tuple ⟨[aJ 1 f.length 0 (bc f), .int .i64 0]⟩,[])))
 (aC P au 1 71 (bI C5 (.leaf (.int .i64 r1,aN d1))) (aC P au 1 72 (bI C6 (.leaf (.int .i64 r2,aN d2))) ctF)))))
theorem Zr(C1 C2 C3 C4 C5 C6:List Value->List Blk->Bool)(ru:Int)(s:StaM)(x f:List UInt8)(d1 d2:DkM)(p:PgM):bM P E (adf C1 C2 C3 C4 C5 C6 ru 0 0 (okS s) x f d1 d2) 50 au [] [] 7 26 [p0,pgV p] (stB (okS s)) =
 (let z0:=pg_ p;let y0:=okS s;let x0:=y0.log.length;let w0:=ak x0;let v0:=y0.rs.length;let u0:=Enc.all iC y0.rs;let t0:=y0.dk;let s0:=t0.d0.length;let r0:=bc t0.d0;let q0:=t0.d1.length;let o0:=bc t0.d1;let n0:=t0.d2.length;let m0:=bc t0.d2;let l0:=t0.d3.length;let k0:=bc t0.d3;let j0:=t0.pend.length;
 let i0:=Enc.all ESt t0.pend;let h0:=pt_ 0;let g0:=pt_ 1;let f0:=Value.bool y0.rbr;let e0:=Blk.cells [g0,f0,sl_ 7 v0] 173 true;let d0:=dk_ t0 2 3 4 5 6;let c0:=aH 0 [3,1,35,36,37,38,39,34];let b0:=Enc.all ECm y0.log;let a0:=y0.rn.dk;let Z0:=a0.d0.length;let Y0:=bC [3,1] 40;let X0:=af true Y0 (bc a0.d0);
 let W0:=a0.d1.length;let V0:=af true Y0 (bc a0.d1);let U0:=a0.d2.length;let T0:=af true Y0 (bc a0.d2);let S0:=a0.d3.length;let R0:=af true Y0 (bc a0.d3);let Q0:=a0.pend.length;let P0:=Enc.all ESt a0.pend;let O0:=af true Y0 P0;let N0:=y0.wcs.length;let M0:=Enc.all ECm y0.wcs;let L0:=y0.wes.length;
 let K0:=Enc.all EIn y0.wes;let J0:=y0.rn.rs.length;let I0:=Enc.all iC y0.rn.rs;let H0:=af true Y0 I0;let G0:=y0.rest.length;let F0:=Enc.all ECm y0.rest;let E0:=Value.int .i64 w0;let D0:=Value.int .i64 0;let C0:=Value.int .i64 ru;let B0:=y0.pg;let A0:=sl_ 12 x0;let z1:=pt_ 3;let y1:=Value.int .i64 y0.held;
 let x1:=Blk.cells [g0, .bool y0.off, .int .i64 B0.ep, .int .u8 B0.ro, .int .i64 B0.ac, .int .u8 B0.ph, .int .i64 B0.fo, .int .i64 B0.ba,A0,pt_ 2,z1,pt_ 4,y1] 114 true;let w1:=dk_ a0 7 8 9 10 11;let v1:=Blk.cells [g0, .bool y0.wbr,sl_ 13 N0,sl_ 14 L0] 182 true;let u1:=Blk.cells [g0, .bool y0.rn.br,sl_ 15 J0] 173 true;
 let t1:=Blk.cells [pt_ 5,z1,sl_ 16 G0] 185 true;let s1:=Blk.cells [.map (some 6)] 141 true;let r1:=aH 0 [0,1,2,3,4,5,6,47,48,49,50,51,46,52,53,54,55];let q1:=y0.tb.es;let p1:=y0.tb.ck;let o1:=bZ z0 z0;let n1:=bZ A0 A0;let m1:=bZ E0 E0;let l1:=C4 [.iface 18446744073709551617 (.agg ⟨[.slice none 0 0]⟩),fb_ x.length 0 (bc x)] [];
 let k1:=[0,1,2,3,4,5,6];let j1:=bC k1 56;let i1:=af true j1 r0;let h1:=af true j1 o0;let g1:=af true j1 m0;let f1:=af true j1 k0;let e1:=af true j1 i0;let c1:=[h0,Value.int .i64 1,fb_ f.length 0 (bc f)];let b1:=dk_ t0 1 2 3 4 5;let a1:=aH 0 [1,66,67,68,69,70];let Z1:=d1.d0.length;
 let Y1:=bC [1] 71;let X1:=af true Y1 (bc d1.d0);let W1:=d1.d1.length;let V1:=af true Y1 (bc d1.d1);let U1:=d1.d2.length;let T1:=af true Y1 (bc d1.d2);let S1:=d1.d3.length;let R1:=af true Y1 (bc d1.d3);let Q1:=d1.pend.length;let P1:=Enc.all ESt d1.pend;let O1:=af true Y1 P1;let N1:=dk_ d1 1 2 3 4 5;
 let M1:=aH 0 [1,76,77,78,79,80];let L1:=af true j1 b0;let K1:=d2.d0.length;let J1:=bC [1] 81;let I1:=af true J1 (bc d2.d0);let H1:=d2.d1.length;let G1:=af true J1 (bc d2.d1);let F1:=d2.d2.length;let E1:=af true J1 (bc d2.d2);let D1:=d2.d3.length;let B1:=af true J1 (bc d2.d3);
 let A1:=d2.pend.length;let z2:=Enc.all ESt d2.pend;let y2:=af true J1 z2;let x2:=af true j1 M0;let w2:=af true j1 K0;let v2:=af true j1 u0;let u2:=af true j1 F0;let t2:=Blk.cells [g0, .bool (eqI 0 6), .int .i64 p.ep, .int .u8 p.ro, .int .i64 p.ac, .int .u8 p.ph, .int .i64 p.fo, .int .i64 p.ba,A0,pt_ 2,z1,pt_ 4,y1] 114 true;
 let s2:=dk_ d2 7 8 9 10 11;let r2:=Blk.cells [g0,f0,sl_ 15 v0] 173 true;let q2:=aH 0 [0,1,2,3,4,5,6,87,88,89,90,91,86,92,93,94,95];let p2:=eU .i64 w0 1;let o2:=Nat.add 0 (atN p2 3);let n2:=bT b0 o2;let m2:=aH 0 [3,1,49,50,51,52,53,48];let l2:=bC [3,1] 54;let k2:=af true l2 (bc a0.d0);
 let j2:=af true l2 (bc a0.d1);let i2:=af true l2 (bc a0.d2);let h2:=af true l2 (bc a0.d3);let g2:=af true l2 P0;let f2:=af true l2 I0;let e2:=aH 0 [0,1,2,3,4,5,6,61,62,63,64,65,60,66,67,68,69];let c2:=bC k1 70;let b2:=af true c2 r0;let a2:=af true c2 o0;let Z2:=af true c2 m0;
 let Y2:=af true c2 k0;let X2:=af true c2 i0;let W2:=aH 0 [1,80,81,82,83,84];let V2:=bC [1] 85;let U2:=af true V2 (bc d1.d0);let T2:=af true V2 (bc d1.d1);let S2:=af true V2 (bc d1.d2);let R2:=af true V2 (bc d1.d3);let Q2:=af true V2 P1;let P2:=aH 0 [1,90,91,92,93,94];
 let O2:=af true c2 b0;let N2:=bC [1] 95;let M2:=af true N2 (bc d2.d0);let L2:=af true N2 (bc d2.d1);let K2:=af true N2 (bc d2.d2);let J2:=af true N2 (bc d2.d3);let I2:=af true N2 z2;let H2:=af true c2 M0;let G2:=af true c2 K0;let F2:=af true c2 u0;let E2:=af true c2 F0;
 let D2:=aH 0 [0,1,2,3,4,5,6,101,102,103,104,105,100,106,107,108,109];
 (ae (C1 [z0] []) (aj (eqI w0 0) (nb_ v0 3 u0 (nb_ s0 1 r0 (nb_ q0 1 o0 (nb_ n0 1 m0 (nb_ l0 1 k0 (nb_ j0 4 i0 (ae (C2 [h0] [e0,d0,lb_ c0 s0 1 r0 5,lb_ c0 q0 1 o0 5,lb_ c0 n0 1 m0 5,lb_ c0 l0 1 k0 5,lb_ c0 j0 4 i0 132,lb_ c0 v0 3 u0 136]) (nb_ x0 3 b0 (nb_ Z0 1 X0 (nb_ W0 1 V0 (nb_ U0 1 T0 (nb_ S0 1 R0 (nb_ Q0 4 O0 (nb_ N0 3 M0 (nb_ L0 1 K0 (nb_ J0 3 H0 (nb_ G0 3 F0 (ae (C3 [h0,z0,E0,D0,C0] [x1,w1,v1,u1,t1,s1, .map (eP true r1 q1) p1,lb_ r1 Z0 1 X0 5,lb_ r1 W0 1 V0 5,lb_ r1 U0 1 T0 5,lb_ r1 S0 1 R0 5,lb_ r1 Q0 4 O0 132,lb_ r1 x0 3 b0 35,lb_ r1 N0 3 M0 35,lb_ r1 L0 1 K0 3,lb_ r1 J0 3 H0 136,lb_ r1 G0 3 F0 35]) (ae o1 (ae o1 (ae n1 (ae n1 (ae m1 (ae m1 (ae l1 (nb_ s0 1 i1 (nb_ q0 1 h1 (nb_ n0 1 g1 (nb_ l0 1 f1 (nb_ j0 4 e1 (ae (C5 c1 [b1,lb_ a1 s0 1 i1 5,lb_ a1 q0 1 h1 5,lb_ a1 n0 1 g1 5,lb_ a1 l0 1 f1 5,lb_ a1 j0 4 e1 132]) (nb_ Z1 1 X1 (nb_ W1 1 V1 (nb_ U1 1 T1 (nb_ S1 1 R1 (nb_ Q1 4 O1 (ae (C6 [h0] [N1,lb_ M1 Z1 1 X1 5,lb_ M1 W1 1 V1 5,lb_ M1 U1 1 T1 5,lb_ M1 S1 1 R1 5,lb_ M1 Q1 4 O1 132]) (nb_ x0 3 L1 (nb_ K1 1 I1 (nb_ H1 1 G1 (nb_ F1 1 E1 (nb_ D1 1 B1 (nb_ A1 4 y2 (nb_ N0 3 x2 (nb_ L0 1 w2 (nb_ v0 3 v2 (nb_ G0 3 u2 (some (D0,ag [t2,s2,v1,r2,t1,s1, .map (eP true q2 (eP true j1 q1)) p1,lb_ q2 K1 1 I1 5,lb_ q2 H1 1 G1 5,lb_ q2 F1 1 E1 5,lb_ q2 D1 1 B1 5,lb_ q2 A1 4 y2 132,lb_ q2 x0 3 L1 35,lb_ q2 N0 3 x2 35,lb_ q2 L0 1 w2 3,lb_ q2 v0 3 v2 136,lb_ q2 G0 3 u2 35]))))))))))))))))))))))))))))))))))))))))))))))))) (ae (inI p2 x0) (ae (Bool.and (Nat.ble (Nat.add o2 1) b0.length) (ig (.int .i64) n2)) (nb_ v0 3 u0 (nb_ s0 1 r0 (nb_ q0 1 o0 (nb_ n0 1 m0 (nb_ l0 1 k0 (nb_ j0 4 i0 (ae (C2 [h0] [e0,d0,lb_ m2 s0 1 r0 5,lb_ m2 q0 1 o0 5,lb_ m2 n0 1 m0 5,lb_ m2 l0 1 k0 5,lb_ m2 j0 4 i0 132,lb_ m2 v0 3 u0 136]) (nb_ x0 3 b0 (nb_ Z0 1 k2 (nb_ W0 1 j2 (nb_ U0 1 i2 (nb_ S0 1 h2 (nb_ Q0 4 g2 (nb_ N0 3 M0 (nb_ L0 1 K0 (nb_ J0 3 f2 (nb_ G0 3 F0 (ae (C3 [h0,z0,E0, .int .i64 (asI n2),C0] [x1,w1,v1,u1,t1,s1, .map (eP true e2 q1) p1,lb_ e2 Z0 1 k2 5,lb_ e2 W0 1 j2 5,lb_ e2 U0 1 i2 5,lb_ e2 S0 1 h2 5,lb_ e2 Q0 4 g2 132,lb_ e2 x0 3 b0 35,lb_ e2 N0 3 M0 35,lb_ e2 L0 1 K0 3,lb_ e2 J0 3 f2 136,lb_ e2 G0 3 F0 35]) (ae o1 (ae o1 (ae n1 (ae n1 (ae m1 (ae m1 (ae l1 (nb_ s0 1 b2 (nb_ q0 1 a2 (nb_ n0 1 Z2 (nb_ l0 1 Y2 (nb_ j0 4 X2 (ae (C5 c1 [b1,lb_ W2 s0 1 b2 5,lb_ W2 q0 1 a2 5,lb_ W2 n0 1 Z2 5,lb_ W2 l0 1 Y2 5,lb_ W2 j0 4 X2 132]) (nb_ Z1 1 U2 (nb_ W1 1 T2 (nb_ U1 1 S2 (nb_ S1 1 R2 (nb_ Q1 4 Q2 (ae (C6 [h0] [N1,lb_ P2 Z1 1 U2 5,lb_ P2 W1 1 T2 5,lb_ P2 U1 1 S2 5,lb_ P2 S1 1 R2 5,lb_ P2 Q1 4 Q2 132]) (nb_ x0 3 O2 (nb_ K1 1 M2 (nb_ H1 1 L2 (nb_ F1 1 K2 (nb_ D1 1 J2 (nb_ A1 4 I2 (nb_ N0 3 H2 (nb_ L0 1 G2 (nb_ v0 3 F2 (nb_ G0 3 E2 (some (D0,ag [t2,s2,v1,r2,t1,s1, .map (eP true D2 (eP true c2 q1)) p1,lb_ D2 K1 1 M2 5,lb_ D2 H1 1 L2 5,lb_ D2 F1 1 K2 5,lb_ D2 D1 1 J2 5,lb_ D2 A1 4 I2 132,lb_ D2 x0 3 O2 35,lb_ D2 N0 3 H2 35,lb_ D2 L0 1 G2 3,lb_ D2 v0 3 F2 136,lb_ D2 G0 3 E2 35])))))))))))))))))))))))))))))))))))))))))))))))))))))):=by kernel_rfl
theorem Wj{s:StaM}(ht:gZ s.tb){o:List CmM}{i:Nat}(hi:i<s.log.length)(hl:s.log.length<4194304)(ho:o.length<4194300) :
  bV P E (GG (aV [cmV s.log[i]] []) s.log[i]) 50 20 Blg Dlg (lgV o s.log.length i) (lgB s o)=some (.tuple ⟨exV .normal::lgV (o++[s.log[i]]) s.log.length ((i+1:Nat):Int)⟩,ag (lgB s (o++[s.log[i]]))):=by
 obtain⟨g1,g2,a1⟩:=nU hi hl;have g4:=ni hi;have h1:(o++[s.log[i]]).length=Nat.add o.length 1:=by simp
 rw[RG];simp (disch:=first | omega | (simp only[List.length_append,List.length_drop,List.length_take,List.length_singleton,Nat.add_eq,bJ]<;>omega) | fail) only[dk_,fa_,lb_,nb_,pt_,sl_,ht.ren,g1,g2,a1,g4,lw hi (Nat.le_refl 3),k_ hi,vP hi,uh hi,iI,(zF _ _ _).1,(zF _ _ _).2.1,(zF _ _ _).2.2,lgV,lgB,stB,pgC,h1,wE,cZ,rnB,srB,tbB,dkL,List.cons_append,List.nil_append,List.append_assoc,dN,aT,dP,lsV,ptV,p0,aN,dkC,bn,fzCms,cmV,di,bG,az,dG,dn,dR,dE,dF,dD,dw,dC,dB,dQ,dA,aB,aK,aP,Enc.all_ren,aB rfl,aB h1.symm,aK rfl,aP rfl,aT rfl,aQ,bH,bz,bu,bg,ax,aX,bD,Int.toNat_natCast,aY,aO,bF,bU,dH,bP,bW,dK,Bool.and_self,aG,aF,ay]
 rfl
theorem abZ{s:StaM}{C:List Value->List Blk->Bool}{c:CmM}(ht:gZ s.tb){o:List CmM} :
  bV P E (GG C c) 50 20 Blg Dlg (lgV o s.log.length s.log.length) (lgB s o)=some (.tuple ⟨exV (.exit 0)::lgV o s.log.length s.log.length⟩,ag (lgB s o)):=by
 rw[RG];simp only[dk_,fa_,lb_,nb_,pt_,sl_,lZ,ht.ren,lgV,lgB,stB,pgC,cZ,rnB,srB,tbB,dkL,List.cons_append,List.nil_append,List.append_assoc,dN,aT,dP,lsV,ptV,p0,aN,dkC,bn,fzCms,cmV,di,bG,az,dG,dn,dR,dE,dF,dD,dw,dC,dB,dQ,dA,aB,aK,aP,Enc.all_ren,aB rfl,aK rfl,aP rfl,aT rfl,aQ,bH,bz,bu,bg,ax,aX,bD,Int.toNat_natCast,aY,aO,bF,bU,dH,bP,bW,dK,Bool.and_self,aG,aF,ay]
 rfl
theorem Pg{s:StaM}(ht:gZ s.tb)(hl:s.log.length<4194300)(hc:∀ c∈s.log,1<=c.ops.length/\c.ops.length<=4194304):∀ (k i:Nat),i+k=s.log.length->
  LRX P 20 0 Blg Dlg.head (lgV (s.log.take i) s.log.length i) (lgB s (s.log.take i)) .normal (lgV s.log s.log.length s.log.length) (lgB s s.log)
 |0,i,h=>by
  obtain rfl:i=s.log.length:=by omega
  rw[List.take_length];exact LRX.stop (n:=50) (bf _) aA (ah (pol:=au) aW (gm (r:= .leaf (cmV ⟨0,0,[]⟩,[])))) Pe (e:= .exit 0) (abZ (C:=fun _ _=>false) (c:=⟨0,0,[]⟩) ht) (by intro h; cases h)
 |k+1,i,h=>by
  have hi:i<s.log.length:=by omega
  obtain⟨b1,b2⟩:=hc _ (List.getElem_mem hi);have q:=Wj (o:=s.log.take i) ht hi (by omega) (by rw[List.length_take]; omega);have e:s.log.take i++[s.log[i]]=s.log.take (i+1):=by rw[List.take_succ_eq_append_getElem hi]
  rw[e]at q;exact LRX.again (n:=50) (bf _) aA (ah (pol:=au) aW (aZ (uK b1 b2))) Pe q (Pg ht hl hc k (i+1) (by omega))
theorem Eo{s:StaM}(ht:gZ s.tb)(hl:s.log.length<4194300)(hc:∀ c∈s.log,1<=c.ops.length/\c.ops.length<=4194304):CRX P 7 20 [p0] (stB s) (fzCms s.log) (stB s):=by
 have q1:=Pg ht hl hc s.log.length 0 (by omega);refine CRX.of (pol:=au) (fl:=[.val]) (ts:=[22]) (n:=50) (bf _) aA (eu aW (fU (d_ Ui) q1)) ((aaj (aV (lgV (s.log.take 0) s.log.length (0:Nat)) (lgB s (s.log.take 0))) s).trans ?_);clear q1;have z0:((0:Nat):Int)=0:=rfl;have e0:(ECm.all ([]:List CmM))=[]:=rfl;have e1:([]:List CmM).length=0:=rfl;simp (disch:=first | omega | (simp only[List.length_append,List.length_drop,List.length_take,List.length_singleton,Nat.add_eq,bJ]<;>omega) | fail) only[dk_,fa_,lb_,nb_,nw_,pt_,sl_,sw_,ht.ren,z0,e0,e1,List.take_zero,KR rfl,lgV,lgB,stB,pgC,cZ,rnB,srB,tbB,dkL,List.cons_append,List.nil_append,List.append_assoc,dN,aT,dP,lsV,ptV,p0,aN,dkC,bn,fzCms,cmV,di,bG,az,dG,dn,dR,dE,dF,dD,dw,dC,dB,dQ,dA,aB,aK,aP,Enc.all_ren,aB rfl,aK rfl,aP rfl,aT rfl,aQ,bH,bz,bu,bg,ax,aX,bD,Int.toNat_natCast,aY,aO,bF,bU,dH,bP,bW,dK,Bool.and_self,aG,aF,ay]
def tb0:TbM:=⟨[],0⟩
theorem tq:gZ tb0:=by intro e he; cases he
def StaM.paged(s:StaM)(k:Nat)(p:PgM):StaM:={ s with pg:=p,dk:={ s.dk with d1:=s.dk.d1++frM (kH p),steps:=s.dk.steps+(k:Int)+1,pend:=[] } }
theorem u_(p:PgM):(frM (kH p)).length<=77:=by
 have h:=GL p;unfold frM;rw[List.length_append];have:=eY (n:=(kH p).length);omega
theorem Jr{d:DkM}{f:Int}(b:List UInt8)(hd:DkC d 100000)(hp:d.pend=[])(h:0<=f/\f<4)(hb:b.length<=500000)(hl:(fH d f).length<=3000000) :
  ∃ k,k<=nG b.length/\CRX P 1 71 [p0, .int .i64 f,aJ 1 b.length 0 (bc b)] (aN d) (.int .i64 0) (aN { d with steps:=d.steps+(k:Int),pend:=(writeM ⟨d,f,b⟩).2.pend })/\
   CRX P 1 72 [p0] (aN { d with steps:=d.steps+(k:Int),pend:=(writeM ⟨d,f,b⟩).2.pend }) (.int .i64 0) (aN { setF d f (fH d f++b)with steps:=d.steps+(k:Int)+1,pend:=[] }):=by
 obtain⟨cs,k1,k2,k3⟩:=Em (m:=d) (f:=f) b hd.off hd.fused h;have hst:=hd.steps;have hr:nG b.length<=7813:=by unfold nG; omega
 have q1:=Jg.at (s:=⟨d,f,b⟩) ⟨by show b.length<=_; omega,by
  show oO d (nG b.length)
  exact⟨hst.1,by have:=hst.2; omega,hd.fuse.1,hd.fuse.2,by rw[hp]; show 0+_<_; omega⟩⟩ rfl
 rw[k3]at q1;have hk:kSy.ok { d with steps:=d.steps+(cs.length:Int),pend:=pnd f cs }:=O6 (f:=f) (cs:=cs) hd.fused h rfl ⟨by show 0<=d.steps+_; omega,by show d.steps+_<_; omega,hd.fuse.1,hd.fuse.2,by show(pnd f cs).length<_; rw[Gf]; omega⟩ (by
  have e:fH { d with steps:=d.steps+(cs.length:Int),pend:=pnd f cs } f=fH d f:=uO
  rw[e,k1]; omega)
 have q2:=NL.at hk rfl;rw[GK (m:={ d with steps:=d.steps+(cs.length:Int),pend:=pnd f cs }) (f:=f) (cs:=cs) hd.off hd.fused h rfl]at q2;have e:fH { d with steps:=d.steps+(cs.length:Int),pend:=pnd f cs } f=fH d f:=uO;rw[e,k1]at q2;have e2:(writeM ⟨d,f,b⟩).2.pend=pnd f cs:=by rw[k3,hp]; rfl
 refine⟨cs.length,k2,?_,?_⟩
 ·rw[e2];rw[hp]at q1;exact q1
 ·rw[e2];have e3:=F8 (m:=d) (f:=f) (s:=d.steps+(cs.length:Int)) (p:=pnd f cs) (q:=[]) (d:=fH d f++b);have e4:({ setF { d with steps:=d.steps+(cs.length:Int),pend:=pnd f cs } f (fH d f++b)with steps:=d.steps+(cs.length:Int)+1,pend:=[] }:DkM)={ setF d f (fH d f++b)with steps:=d.steps+(cs.length:Int)+1,pend:=[] }:=by
   have:=congrArg (fun m:DkM=>{ m with steps:=d.steps+(cs.length:Int)+1 }) e3;exact this
  rw[<-e4];exact q2
theorem xe{s:StaM}{p:PgM}(hs:StQ s 100000)(hp:pgE p=0)(hg:s.log.length<4000)(h1:s.dk.d1.length<=3000000)(hso:kW s.held p (s.log.length:Int) (dL s.log) (h_ s.rs)=true) :
  ∃ k,k<=2/\CRX P 7 26 [p0,pgV p] (stB s) (.int .i64 0) (stB (s.paged k p)):=by
 have hfl:=u_ p;obtain⟨k,k2,q5,q6⟩:=Jr (d:=s.dk) (f:=1) (frM (kH p)) hs.dk hs.pend (by omega) (by omega) h1;refine⟨k,by unfold nG at k2; omega,?_⟩;have q1:=ZE hp;have q2:=xq (r:=s.rn) hs.sr.r;have q3:=F9 (s:=s) hs.sr.tb (p:=p) (en:=(s.log.length:Int)) (ep:=dL s.log) (ru:=h_ s.rs);rw[hso]at q3;have q4:=Fg (r:=kH p) (by have:=GL p; omega);generalize hw:(writeM ⟨s.dk,1,frM (kH p)⟩).2.pend=W at q5 q6;clear hw;have q:=Zr (aV [pgV p] []) (aV [p0] (rnB s.rn)) (aV [p0,pgV p, .int .i64 (s.log.length:Int), .int .i64 (dL s.log), .int .i64 (h_ s.rs)] (stB s)) (aV [aJ 1 0 0 [],aJ 1 (kH p).length 0 (bc (kH p))] [])
  (aV [p0, .int .i64 1,aJ 1 (frM (kH p)).length 0 (bc (frM (kH p)))] (aN s.dk)) (aV [p0] (aN { s.dk with steps:=s.dk.steps+(k:Int),pend:=W })) (h_ s.rs) s (kH p) (frM (kH p)) { s.dk with steps:=s.dk.steps+(k:Int),pend:=W } { setF s.dk 1 (fH s.dk 1++frM (kH p))with steps:=s.dk.steps+(k:Int)+1,pend:=[] } p
 rw[xA hs.off hs.dk.off]at q;refine CRX.of (pol:=au) (fl:=[]) (ts:=[]) (n:=50) (bf _) aA (ah (pol:=au) (ah (pol:=au) (ah (pol:=au) (ah (pol:=au) (ah (pol:=au) (ah (pol:=au) aW (aZ q6)) (aZ q5)) (aZ q4)) (aZ q3)) (aZ q2)) (aZ q1)) (q.trans ?_);clear q q1 q2 q3 q4 q5 q6;have hoff:=hs.off;have hdo:=hs.dk.off;have ht:=hs.sr.tb.ren;have e0:ak s.log.length=(s.log.length:Int):=rfl;have z1:neI 0 0=false:=rfl;have z2:eqI 0 6=false:=rfl;have z3:eqI 0 0=true:=rfl;have f1:∀ d:List UInt8,setF s.dk 1 d={ s.dk with d1:=d }:=fun _=>rfl;have f2:fH s.dk 1=s.dk.d1:=rfl;by_cases h0:s.log=[]
 ·have e1:dL s.log=0:=by rw[h0]; rfl
  have e2:(s.log.length:Int)=0:=by rw[h0]; rfl
  have e3:eqI (s.log.length:Int) 0=true:=by rw[e2]; rfl
  simp (disch:=first | omega | (simp only[List.length_append,List.length_drop,List.length_take,List.length_singleton,Nat.add_eq,bJ]<;>omega) | fail) only[dk_,fb_,lb_,nb_,pg_,pt_,sl_,hoff,hdo,ht,e0,e1,e3,z1,z2,z3,f1,f2,StaM.paged,zF,kG,pgV,iI,kF,StaM.wal,StaM.rn,StaM.setW,stB,pgC,cZ,rnB,srB,tbB,dkL,List.cons_append,List.nil_append,List.append_assoc,dN,aT,dP,lsV,ptV,p0,aN,dkC,bn,fzCms,cmV,di,bG,az,dG,dn,dR,dE,dF,dD,dw,dC,dB,dQ,dA,aB,aK,aP,Enc.all_ren,aB rfl,aK rfl,aP rfl,aT rfl,aQ,bH,bz,bu,bg,ax,aX,bD,Int.toNat_natCast,aY,aO,bF,bU,dH,bP,bW,dK,Bool.and_self,aG,aF,ay]
 ·obtain⟨m0,_,m1,m2⟩:=kz h0 (by omega);have mp:=List.length_pos_iff.2 h0;have m4:=k_ (l:=s.log) (i:=s.log.length-1) (by omega);have m4':bT (ECm.all s.log) (Nat.add (atN ((s.log.length-1:Nat):Int) 3) 0) = .int .i64 (s.log[s.log.length-1]'(by omega)).e:=m4;have m5:=mD (n:=s.log.length) (k:=1) mp (by decide);have m6:=nz h0;rw[e0]at m0 m1;simp (disch:=first | omega | (simp only[List.length_append,List.length_drop,List.length_take,List.length_singleton,Nat.add_eq,bJ]<;>omega) | fail) only[dk_,fb_,lb_,nb_,pg_,pt_,sl_,hoff,hdo,ht,e0,m0,m1,m2,m4,m4',m5,m6,z1,z2,z3,f1,f2,StaM.paged,zF,kG,pgV,iI,kF,StaM.wal,StaM.rn,StaM.setW,stB,pgC,cZ,rnB,srB,tbB,dkL,List.cons_append,List.nil_append,List.append_assoc,dN,aT,dP,lsV,ptV,p0,aN,dkC,bn,fzCms,cmV,di,bG,az,dG,dn,dR,dE,dF,dD,dw,dC,dB,dQ,dA,aB,aK,aP,Enc.all_ren,aB rfl,aK rfl,aP rfl,aT rfl,aQ,bH,bz,bu,bg,ax,aX,bD,Int.toNat_natCast,aY,aO,bF,bU,dH,bP,bW,dK,Bool.and_self,aG,aF,ay]
end Go.VS.Tryz
end

noncomputable section
namespace Go.VS

section
variable{P:Program}{ct:Ct}
def upL(n:Nat):Nat->List Nat:=@Nat.rec (fun _=>Nat->List Nat) (fun _=>[]) (fun _ ih i=>i::ih (Nat.succ i)) n
def geL(n:Nat)(l:List Nat):List Nat:=@List.rec Nat (fun _=>List Nat) [] (fun b _ ih=>match Nat.ble n b with
 |true=>b::ih
 |false=>ih) l
def zl(l:List Nat):List Value:=@List.rec Nat (fun _=>List Value) [] (fun b _ ih=> .pointer (some ⟨b,0,none⟩)::ih) l
theorem vI:∀ (n i:Nat) (Z:List Nat),upTo n (upL n i++Z) i=true
 |0,_,_=>rfl
 |n+1,i,Z=>by
  have h:upL (n+1) i=i::upL n (i+1):=rfl;rw[h];show(match Nat.beq i i with | true=>upTo n (upL n (i+1)++Z) (i+1) | false=>false)=true;rw[Nat.beq_refl];exact vI n (i+1) Z
def xC(P:Program)(E:Eng)(ct:Ct)(n:Nat)(pol:Pol)(fl:List Fl)(ts:List TypeId)(N:Nat)(g:FuncId)(args:List Value)(bs:List Blk):Res:=
 (oJ P E ct n n).call g args (ag bs) fun v st=>DT.run (lG P 60 fl ts (ng v) st fun vs1 ps st1=>qQ P pol 200 (List.append (yx args) (List.append ps (upL N 0))) [] st1 fun st2=>
  nP (jP st2) 1000 (List.append args (List.append vs1 (zl (upL N 0)))) [] [] fun X L=>match Nat.beq vs1.length (ng v).length,i_ 0 ((List.append (upL N 0) (geL N X)).append L) (fun i=>eG (path i) st2.heap) ((List.append (upL N 0) (geL N X)).append L)with
  |true,some ms=> .leaf (sN v (vs1.map (fE true (aH 0 ((List.append (upL N 0) (geL N X)).append L)))),ms)
  |_,_=> .fail) fun r=>some (r.1,ag r.2)
theorem CRX.ofG{E:Eng}(hE:EngOk P ct E)(hN:noNum P=true)(hct:CtOk P ct){n:Nat}{pol:Pol}{fl:List Fl}{ts:List TypeId}{N:Nat}{g:FuncId}{args:List Value}{bs:List Blk}{v:Value}{bs':List Blk}(h:xC P E ct n pol fl ts N g args bs=some (v,ag bs')):CRX P N g args bs v bs':=by
 intro K β w args' cs hid ha hr;unfold xC at h;obtain⟨m,v1,st1,h1,h2⟩:=(jO hE n n).call _ _ _ _ _ h;obtain⟨β1,fr,w1,v',a1,a2,a3,a4,a5,a6⟩:=(iy hN hct m K).call g args (ag bs) v1 st1 h1 β w args' .normal cs (Or.inl rfl) ha hr;obtain⟨r,hc,h2⟩:=DT.run_spec h2;obtain⟨vs1,ps,st2,f1,f2,f3⟩:=jv _ _ _ _ _ _ hc;obtain⟨st3,g1,g2⟩:=jH _ _ _ _ _ f1;obtain⟨X0,L,hX⟩:=kR (jP st3) 1000 (List.append args (List.append vs1 (zl (upL N 0)))) [] [] fun X L=>match Nat.beq vs1.length (ng v1).length,i_ 0 ((List.append (upL N 0) (geL N X)).append L) (fun i=>eG (path i) st3.heap) ((List.append (upL N 0) (geL N X)).append L)with
  |true,some ms=>DT.leaf (sN v1 (vs1.map (fE true (aH 0 ((List.append (upL N 0) (geL N X)).append L)))),ms)
  |_,_=> .fail
 rw[hX]at g1;have hup:upTo N (upL N 0++geL N X0) 0=true:=vI N 0 _;generalize hY:upL N 0++geL N X0=X at hup;have hY':List.append (upL N 0) (geL N X0)=X:=hY;rw[hY']at g1;split at g1
 ·rename_i ms hvl hm;have hm:i_ 0 (X++L) (fun i=>eG (path i) st3.heap) (X++L)=some ms:=hm;simp only[DT.eval,Option.some.injEq]at g1;subst g1;simp only[Option.some.injEq,Prod.mk.injEq]at h2;obtain⟨rfl,hst⟩:=h2;obtain⟨m1,m2,m3⟩:=iW hm;simp only[dU]at m2 m3;have hvl:=Nat.eq_of_beq_eq_true hvl;obtain⟨xs,x1,x2⟩:=uZ a5;obtain⟨β2,c1,c2,c3⟩:=f3 K β1 w1 xs a3 x1;obtain⟨β3,d1,d2⟩:=g2 K β2 w1 c2;have hmid:=jq (N:=0) (src:=X++L) d2 (fun i hi=>(hid i hi).elim) (Nat.zero_le _) m1 m2;have hren:=o5 (X++L) β3;have hmsl:ms.length=bs'.length:=by have:=congrArg St.next hst; exact this
  refine⟨⟨iE 0 (X++L) β3,fr,w1,v',a1,(((a2.trans c1).trans d1).leN _).trans (rP hup),?_,a4,?_,a6⟩,?_⟩
  ·rw[<-hst,m3]; exact hmid
  ·refine x2 _ _ (by rw[List.length_map]; exact hvl) ((c3.mono d1).mapr fun v _ x hx=>gU hren v x hx)
  ·rw[<-hmsl,m3,List.length_map,List.length_append];have:=(oU _ _ _ hup).1;omega
 ·cases g1
end
section
variable{P:Program}{ct:Ct}
def kbF(kb:List Bool):List Value->List Nat:=@List.rec Bool (fun _=>List Value->List Nat) (fun _=>[]) (fun f _ ih vs=>match vs with
 |[]=>[]
 |v::vs=>match f with
  |true=>match v with
   | .slice (some a) _ _=>a.block::ih vs
   |_=>ih vs
  |false=>ih vs) kb
structure HeadK where
 N:Nat
 nt:Nat
 L:List Tmp
 fl:List Fl
 ts:List TypeId
 pol:Pol
 kb:List Bool
def HeadK.head(D:HeadK):Head:=⟨D.N,D.nt,D.L,[]⟩
def xM{α:Type}(P:Program)(D:HeadK)(s:Trie Value)(st:St)(k:List Nat->List Nat->St->List Value->List Blk->DT α):DT α:=
 lG P 60 D.fl D.ts (D.L.map (mP s)) st fun vs1 ps st1=>qQ P D.pol 200 ps [] st1 fun st2=>
  nP (jP st2) 1000 vs1 (kbF D.kb vs1) [] fun X L=>match Nat.beq X.length D.N,i_ 0 (X.append L) (fun i=>eG (path i) st2.heap) (X.append L)with
  |true,some ms=>k X L st2 (vs1.map (fE true (aH 0 (X.append L)))) ms
  |_,_=> .fail
theorem yG{α:Type}{r:α}{D:HeadK}{s:Trie Value}{st:St}{k:List Nat->List Nat->St->List Value->List Blk->DT α}(h:(xM P D s st k).eval=some r) :
  ∃ X L st2 vs1 ms,(k X L st2 (vs1.map (fE true (aH 0 (X++L)))) ms).eval=some r/\X.length=D.N/\i_ 0 (X++L) (fun i=>st2.heap.get i) (X++L)=some ms/\
   ∀ (K:Prot) (β:Env) (w:World) (n:Nat) (tmps:Array Value),Rel P K β st w->iZ β s n tmps->∃ β1,β.le β1/\Rel P K β1 st2 w/\VRL β1 vs1 (D.L.map fun t=>tmps.getD t undef):=by
 unfold xM at h;obtain⟨vs1,ps,st1,h1,h3,h4⟩:=jv _ _ _ _ _ _ h;obtain⟨st2,k1,k2⟩:=jH _ _ _ _ _ h1;obtain⟨X,L,hX⟩:=kR (jP st2) 1000 vs1 (kbF D.kb vs1) [] fun X L=>match Nat.beq X.length D.N,i_ 0 (X.append L) (fun i=>eG (path i) st2.heap) (X.append L)with
  |true,some ms=>k X L st2 (vs1.map (fE true (aH 0 (X.append L)))) ms
  |_,_=> .fail
 rw[hX]at k1;split at k1
 ·rename_i ms hn hm;refine⟨X,L,st2,vs1,ms,k1,Nat.eq_of_beq_eq_true hn,by simp only[dU]at hm; exact hm,fun K β w n tmps hr hs=>?_⟩;obtain⟨β1,a1,a2,a3⟩:=h4 K β w _ hr (Eb hs D.L);obtain⟨β2,b1,b2⟩:=k2 K β1 w a2;exact⟨β2,a1.trans b1,b2,a3.mono b1⟩
 ·cases k1
def U5(P:Program)(D:HeadK):Ex->Trie Value->List Deferred->St->Res:=fun e s d st=>match d with
 |[]=>DT.run (xM P D s st fun X _ _ vs ms=>match upTo D.N X 0 with
  |true=> .leaf (vs,ms)
  |false=> .fail) fun r=>some (.tuple ⟨exV e::r.1⟩,ag r.2)
 |_=>none
def sK(P:Program)(E:Eng)(ct:Ct)(n:Nat)(fid:Nat)(B:Code)(D:HeadK)(vs:List Value)(bs:List Blk):Res:=
 qj P E ct n (oJ P E ct n n) fid D.nt none B (mkS D.nt D.L vs) [] (ag bs) (U5 P D)
theorem zO{E:Eng}(hE:EngOk P ct E)(hN:noNum P=true)(hct:CtOk P ct){n fid id:Nat}{B:Code}{D:HeadK}(hocc:Occ P fid (.block id (.loop B))){vs vs1:List Value}{bs bs1:List Blk}{e:Ex}
  (h:sK P E ct n fid B D vs bs=some (.tuple ⟨exV e::vs1⟩,ag bs1)) (K:Prot) (β:Env) (w:World) (fr:Frame) (cs:List Frame) (k:List Item) (hid:∀ i,¬K.id i) (ht:fr.todo = .code B::k) (hfid:fr.fn=fid) (hf:FrR β (D.head.fr vs) fr) (hr:Rel P K β (ag bs) w) :
  Aj D.head.N P K β fr cs w e k (D.head.fr vs1) (ag bs1)/\D.head.N<=bs1.length:=by
 unfold sK at h;obtain⟨m,e1,s1,d1,st1,h1,h2⟩:=kC hE (jO hE n n) n fid D.nt none B _ _ _ _ _ h;unfold U5 at h2;split at h2
 ·obtain⟨r,hc,h2⟩:=DT.run_spec h2;obtain⟨X,L,st2,vs2,ms,hc1,hlen,hm,hc2⟩:=yG hc;split at hc1
  ·rename_i hup;simp only[DT.eval,Option.some.injEq]at hc1;subst hc1;simp only[Option.some.injEq,Prod.mk.injEq,Value.tuple.injEq,Array.mk.injEq,List.cons.injEq]at h2;obtain⟨⟨he,rfl⟩,hst⟩:=h2;obtain rfl:=Gm he;obtain⟨β1,fr1,w1,a1,a2,a3,a4,a5,a6,a7,a8,a9⟩:=(iy hN hct m K).code fid B _ _ _ _ _ h1 (hocc.sub (.block (.loop (.refl _)))) β w fr cs k ht hfid hf hr;obtain⟨β2,b1,b2,b3⟩:=hc2 K β1 w1 _ _ a3 a5.slots;obtain⟨m1,m2,m3⟩:=iW hm;have hmid:=jq (N:=0) (src:=X++L) b2 (fun i hi=>(hid i hi).elim) (Nat.zero_le _) m1 m2;have hren:=o5 (X++L) β2;have hms:(ag ms).next=bs1.length:=by rw[hst]; rfl
   have hmsl:ms.length=bs1.length:=hms;refine⟨⟨iE 0 (X++L) β2,fr1,w1,a1,(a2.trans b1 |>.leN _).trans (rP hup),?_,a4,⟨Be a5.slots.1 ?_,by have:=a5.defers; unfold nR at this; rw[this]; rfl,by have:=a5.round; exact this,a5.mode⟩,a6,a7,a8,a9⟩,?_⟩
   ·rw[<-hst,m3]; exact hmid
   ·exact b3.mapr fun v _ x hx=>gU hren v x hx
   ·rw[<-hmsl,m3,List.length_map,List.length_append];show D.N<=_;omega
  ·cases hc1
 ·cases h2
theorem LRX.againK{E:Eng}(hE:EngOk P ct E)(hN:noNum P=true)(hct:CtOk P ct){n fid id:Nat}{B:Code}{D:HeadK}(hocc:Occ P fid (.block id (.loop B))){vs vs1 vs':List Value}{bs bs1 bs':List Blk}{e:Ex}
  (h:sK P E ct n fid B D vs bs=some (.tuple ⟨exV .normal::vs1⟩,ag bs1)) (hl:LRX P fid id B D.head vs1 bs1 e vs' bs'):LRX P fid id B D.head vs bs e vs' bs':=by
 intro K β w fr cs k hid ht hfid hf hr;obtain⟨⟨β1,fr1,w1,a1,a2,a3,a4,a5,a6,a7,a8,a9⟩,_⟩:=zO hE hN hct hocc h K β w fr cs _ hid ht hfid hf hr;have a9:fr1.todo = .inLoop B:: .inBlock id::k:=a9;have hs:=yj (P:=P) (cs:=cs) (w:=w1) a5.mode a9;obtain⟨⟨β2,fr2,w2,b1,b2,b3,b4,b5,b6,b7,b8,b9⟩,hb⟩:=hl K β1 w1 { fr1 with todo:= .code B:: .inLoop B:: .inBlock id::k } cs k hid rfl (a7.trans hfid) ⟨a5.slots,a5.defers,a5.round,a5.mode⟩ a3;exact⟨⟨β2,fr2,w2,a1.trans (.head hs b1),a2.trans b2,b3,a4.trans b4,b5,b6.trans a6,b7.trans a7,b8.trans a8,b9⟩,hb⟩
theorem LRX.stopK{E:Eng}(hE:EngOk P ct E)(hN:noNum P=true)(hct:CtOk P ct){n fid id:Nat}{B:Code}{D:HeadK}(hocc:Occ P fid (.block id (.loop B))){vs vs1:List Value}{bs bs1:List Blk}{e:Ex}
  (h:sK P E ct n fid B D vs bs=some (.tuple ⟨exV e::vs1⟩,ag bs1)) (he:e≠ .normal):LRX P fid id B D.head vs bs (mJ id e) vs1 bs1:=by
 intro K β w fr cs k hid ht hfid hf hr;obtain⟨⟨β1,fr1,w1,a1,a2,a3,a4,a5,a6,a7,a8,a9⟩,hb⟩:=zO hE hN hct hocc h K β w fr cs _ hid ht hfid hf hr;refine⟨?_,hb⟩;have a9:=a9.under he (fun i e=>by cases e);cases e with
 |normal=>exact absurd rfl he
 |ret=>exact⟨β1,fr1,w1,a1,a2,a3,a4,a5,a6,a7,a8,a9⟩
 |exit i=>
  obtain⟨k2,h1,h2⟩:=a9;cases hb:Nat.beq i id with
  |true=>
   have hx2:mJ id (.exit i) = .normal:=by simp only[mJ,hb]
   rw[hx2];have:=Nat.eq_of_beq_eq_true hb;subst this;have hx:exitTo i k2=some k:=by rw[h2]; simp[exitTo]
   exact⟨β1,{ fr1 with todo:=k },w1,a1.trans (.one (s_exit a5.mode h1 hx)),a2,a3,a4,a5.todo k,a6,a7,a8,rfl⟩
  |false=>
   have hx2:mJ id (.exit i) = .exit i:=by simp only[mJ,hb]
   rw[hx2];have:=Nat.ne_of_beq_eq_false hb;refine⟨β1,fr1,w1,a1,a2,a3,a4,a5,a6,a7,a8,k2,h1,?_⟩;rw[h2];have:(id == i)=false:=by simp; exact fun ee=>this ee.symm
   simp[exitTo,this]
def NW(P:Program)(D:HeadK)(R:kU)(f:Fr)(st:St):Option (DT (Ex×Trie Value×St)):=
 match f.defers,f.roundOf,Nat.beq f.ntmps D.nt with
 |[],none,true=>some (xM P D f.slots st fun X L st2 vs ms=>match R vs ms with
  |some t=>t.map fun x=>(x.1,mkS D.nt D.L (x.2.1.map (fE true (bC X st2.next))),pX X L st2 x.2.2)
  |none=> .fail)
 |_,_,_=>none
def Cj(P:Program)(fid id:Nat)(D:HeadK)(R:kU)(ct:Ct):Ct where
 call:=ct.call
 loop:=fun fid' id' f st=>match and (Nat.beq fid' fid) (Nat.beq id' id)with
  |true=>NW P D R f st
  |false=>ct.loop fid' id' f st
 op:=ct.op
theorem LD{fid id:Nat}{B:Code}{D:HeadK}{R:kU}(hct:CtOk P ct)(h:LoopOkX P fid id B D.head R):CtOk P (Cj P fid id D R ct) where
 opc:=hct.opc
 op:=hct.op
 call:=hct.call
 loop:=by
  intro K fid' id' c f st e s' st' hl hocc β w fr cs k ht hfid hf hr;simp only[Cj]at hl;split at hl
  ·rename_i hb;simp only[Bool.and_eq_true]at hb;obtain rfl:=Nat.eq_of_beq_eq_true hb.1;obtain rfl:=Nat.eq_of_beq_eq_true hb.2;obtain rfl:=h.occ c hocc;unfold NW at hl;split at hl
   ·rename_i hd hro hnt;have hnt:=Nat.eq_of_beq_eq_true hnt;simp only[Option.bind_some]at hl;obtain⟨X,L,st2,vs1,ms,hk,hXN,hm,hrel⟩:=yG hl;split at hk
    ·rename_i t hR;obtain⟨⟨e1,vs2,bs2⟩,hev,heq⟩:=DT.map_eval hk;simp only[Prod.mk.injEq]at heq;obtain⟨rfl,rfl,rfl⟩:=heq;obtain⟨β0,b1,b2,b3⟩:=hrel K β w _ _ hr hf.slots;obtain⟨m1,m2,m3⟩:=iW hm;obtain⟨K',k1,k2,k3,k4⟩:=wF b2 m1 m2;have hslots:iZ (iE 0 (X++L) β0) (mkS D.nt D.L (vs1.map (fE true (aH 0 (X++L))))) D.nt fr.tmps:=
      Be (by rw[hf.slots.1]; exact hnt) (b3.mapr fun v _ x hx=>gU (o5 (X++L) β0) v x hx)
     have s1:=AA (P:=P) (cs:=cs) (w:=w) hf.mode ht;have s2:=D_ (P:=P) (fr:={ fr with todo:= .code (.loop B):: .inBlock id'::k }) (cs:=cs) (w:=w) hf.mode rfl;have hdf:fr.defers=[]:=by have:=hf.defers; rw[hd]at this; exact this
     have hrf:fr.roundOf=none:=by have:=hf.round; rw[hro]at this; exact this
     obtain⟨⟨β1,fr1,w1,a1,a2,a3,a4,a5,a6,a7,a8,a9⟩,a10⟩:=h.run _ _ t hR _ _ _ hev K' (iE 0 (X++L) β0) w { fr with todo:= .code B:: .inLoop B:: .inBlock id'::k } cs k k2 rfl hfid ⟨hslots,hdf,hrf,hf.mode⟩ (by rw[m3]; exact k3);have a2:leN X.length (iE 0 (X++L) β0) β1:=by rw[hXN]; exact a2
     have a10:X.length<=bs2.length:=by rw[hXN]; exact a10
     obtain⟨c1,c2,c3⟩:=k4 β1 bs2 w1 a2 a10 a3 a4;refine⟨_,fr1,w1, .head s1 (.head s2 a1),b1.trans c1,c2,a4.mono k1,⟨⟨by rw[a5.slots.1]; exact hnt.symm,fun i=>?_⟩,?_,?_,a5.mode⟩,a6,a7,a8,a9⟩
     ·show VR _ (((mkS D.nt D.L (vs2.map (fE true (bC X st2.next)))).get i).getD undef) _;rw[Gj rfl zh];exact gU c3 _ _ (a5.slots.2 i)
     ·show nR _ f.defers _;rw[hd]; exact a5.defers
     ·show oN _ f.roundOf _;rw[hro]; exact a5.round
    ·cases hk
   ·cases hl
  ·exact hct.loop K fid' id' c f st e s' st' hl hocc β w fr cs k ht hfid hf hr
def Nk(P:Program)(pol:Pol)(N:Nat)(g:FuncId)(kb:List Bool)(R:jb)(args:List Value)(st:St):DT (Value×St):=
 qQ P pol 200 (yx args) [] st fun st2=>nP (jP st2) 1000 args (kbF kb args) [] fun X L=>match Nat.beq X.length N,i_ 0 (X.append L) (fun i=>eG (path i) st2.heap) (X.append L)with
  |true,some ms=>match R (args.map (fE true (aH 0 (X.append L)))) ms with
   |some t=>t.map fun x=>(fE true (bC X st2.next) x.1,pX X L st2 x.2)
   |none=> .fail
  |_,_=> .fail
def CE(P:Program)(pol:Pol)(N:Nat)(g:FuncId)(kb:List Bool)(R:jb)(ct:Ct):Ct where
 call:=fun g' args st=>match Nat.beq g' g with
  |true=>some (Nk P pol N g kb R args st)
  |false=>ct.call g' args st
 loop:=ct.loop
 op:=ct.op
theorem Md{pol:Pol}{N:Nat}{g:FuncId}{kb:List Bool}{R:jb}(hct:CtOk P ct)(h:CallOkX P N g R):CtOk P (CE P pol N g kb R ct) where
 opc:=hct.opc
 op:=hct.op
 loop:=hct.loop
 call:=by
  intro K g' args st v st' hl β w args' cs ha hr;simp only[CE]at hl;split at hl
  ·rename_i hb;obtain rfl:=Nat.eq_of_beq_eq_true hb;simp only[Nk,Option.bind_some]at hl;obtain⟨st2,k1,h2⟩:=jH _ _ _ _ _ hl;obtain⟨X,L,hX⟩:=kR (jP st2) 1000 args (kbF kb args) [] fun X L=>match Nat.beq X.length N,i_ 0 (X.append L) (fun i=>eG (path i) st2.heap) (X.append L)with
    |true,some ms=>match R (args.map (fE true (aH 0 (X.append L)))) ms with
     |some t=>t.map fun(x:Value×List Blk)=>(fE true (bC X st2.next) x.1,pX X L st2 x.2)
     |none=> .fail
    |_,_=> .fail
   rw[hX]at k1;split at k1
   ·rename_i ms hn hm;have hm:i_ 0 (X++L) (fun i=>eG (path i) st2.heap) (X++L)=some ms:=hm;have hXN:=Nat.eq_of_beq_eq_true hn;split at k1
    ·rename_i t hR;obtain⟨⟨v1,bs1⟩,hev,heq⟩:=DT.map_eval k1;simp only[Prod.mk.injEq]at heq;obtain⟨rfl,rfl⟩:=heq;obtain⟨β2,b1,b2⟩:=h2 K β w hr;have b3:=ha.mono b1;obtain⟨m1,m2,m3⟩:=iW hm;simp only[dU]at m2 m3;obtain⟨K',q1,q2,q3,q4⟩:=wF b2 m1 m2;have ha':VRL (iE 0 (X++L) β2) (args.map (fE true (aH 0 (X++L)))) args'.toList:=b3.mapr fun v _ x hx=>gU (o5 _ _) v x hx;obtain⟨⟨β3,fr,w1,v',d1,d2,d3,d4,d5,d6⟩,d7⟩:=h.run _ _ t hR v1 bs1 hev K' _ w args' cs q2 ha' (by rw[m3]; exact q3);obtain⟨c1,c2,c3⟩:=q4 β3 bs1 w1 (by rw[hXN]; exact d2) (by rw[hXN]; exact d7) d3 d4;exact⟨_,fr,w1,v',d1,b1.trans c1,c2,d4.mono q1,gU c3 _ _ d5,d6⟩
    ·cases k1
   ·cases k1
  ·exact hct.call K g' args st v st' hl β w args' cs ha hr
def Jp(P:Program)(E:Eng)(ct:Ct)(n:Nat)(pol:Pol)(fl:List Fl)(ts:List TypeId)(N:Nat)(kb:List Bool)(g:FuncId)(args:List Value)(bs:List Blk):Res:=
 (oJ P E ct n n).call g args (ag bs) fun v st=>DT.run (lG P 60 fl ts (ng v) st fun vs1 ps st1=>qQ P pol 200 (List.append (yx args) (List.append ps (upL N 0))) [] st1 fun st2=>
  nP (jP st2) 1000 (List.append args (List.append vs1 (zl (upL N 0)))) (kbF kb args) [] fun X L=>match Nat.beq vs1.length (ng v).length,i_ 0 ((List.append (upL N 0) (geL N X)).append L) (fun i=>eG (path i) st2.heap) ((List.append (upL N 0) (geL N X)).append L)with
  |true,some ms=> .leaf (sN v (vs1.map (fE true (aH 0 ((List.append (upL N 0) (geL N X)).append L)))),ms)
  |_,_=> .fail) fun r=>some (r.1,ag r.2)
theorem CRX.ofK{E:Eng}(hE:EngOk P ct E)(hN:noNum P=true)(hct:CtOk P ct){n:Nat}{pol:Pol}{fl:List Fl}{ts:List TypeId}{N:Nat}{kb:List Bool}{g:FuncId}{args:List Value}{bs:List Blk}{v:Value}{bs':List Blk}(h:Jp P E ct n pol fl ts N kb g args bs=some (v,ag bs')):CRX P N g args bs v bs':=by
 intro K β w args' cs hid ha hr;unfold Jp at h;obtain⟨m,v1,st1,h1,h2⟩:=(jO hE n n).call _ _ _ _ _ h;obtain⟨β1,fr,w1,v',a1,a2,a3,a4,a5,a6⟩:=(iy hN hct m K).call g args (ag bs) v1 st1 h1 β w args' .normal cs (Or.inl rfl) ha hr;obtain⟨r,hc,h2⟩:=DT.run_spec h2;obtain⟨vs1,ps,st2,f1,f2,f3⟩:=jv _ _ _ _ _ _ hc;obtain⟨st3,g1,g2⟩:=jH _ _ _ _ _ f1;obtain⟨X0,L,hX⟩:=kR (jP st3) 1000 (List.append args (List.append vs1 (zl (upL N 0)))) (kbF kb args) [] fun X L=>match Nat.beq vs1.length (ng v1).length,i_ 0 ((List.append (upL N 0) (geL N X)).append L) (fun i=>eG (path i) st3.heap) ((List.append (upL N 0) (geL N X)).append L)with
  |true,some ms=>DT.leaf (sN v1 (vs1.map (fE true (aH 0 ((List.append (upL N 0) (geL N X)).append L)))),ms)
  |_,_=> .fail
 rw[hX]at g1;have hup:upTo N (upL N 0++geL N X0) 0=true:=vI N 0 _;generalize hY:upL N 0++geL N X0=X at hup;have hY':List.append (upL N 0) (geL N X0)=X:=hY;rw[hY']at g1;split at g1
 ·rename_i ms hvl hm;have hm:i_ 0 (X++L) (fun i=>eG (path i) st3.heap) (X++L)=some ms:=hm;simp only[DT.eval,Option.some.injEq]at g1;subst g1;simp only[Option.some.injEq,Prod.mk.injEq]at h2;obtain⟨rfl,hst⟩:=h2;obtain⟨m1,m2,m3⟩:=iW hm;simp only[dU]at m2 m3;have hvl:=Nat.eq_of_beq_eq_true hvl;obtain⟨xs,x1,x2⟩:=uZ a5;obtain⟨β2,c1,c2,c3⟩:=f3 K β1 w1 xs a3 x1;obtain⟨β3,d1,d2⟩:=g2 K β2 w1 c2;have hmid:=jq (N:=0) (src:=X++L) d2 (fun i hi=>(hid i hi).elim) (Nat.zero_le _) m1 m2;have hren:=o5 (X++L) β3;have hmsl:ms.length=bs'.length:=by have:=congrArg St.next hst; exact this
  refine⟨⟨iE 0 (X++L) β3,fr,w1,v',a1,(((a2.trans c1).trans d1).leN _).trans (rP hup),?_,a4,?_,a6⟩,?_⟩
  ·rw[<-hst,m3]; exact hmid
  ·refine x2 _ _ (by rw[List.length_map]; exact hvl) ((c3.mono d1).mapr fun v _ x hx=>gU hren v x hx)
  ·rw[<-hmsl,m3,List.length_map,List.length_append];have:=(oU _ _ _ hup).1;omega
 ·cases g1
theorem CR.ofK0{g:FuncId}{args:List Value}{v:Value}{bs:List Blk}{N:Nat}(h:CRX P N g args [] v bs):CR P g args v bs:=by
 intro w args' cs obs hG ha;obtain⟨⟨β',fr,w',v',h1,h2,h3,h4,h5,h6⟩,_⟩:=h (K0 w obs) (envOf w) w args' cs (fun _ h=>h) ha (qJ w obs hG);refine⟨β',fr,w',v',h1,fun i l hi=>?_,h3,h4,h5,h6⟩;cases i with
 |ofNat i=>cases hi
 |negSucc k=>exact h2 _ _ (by show Int.negSucc k<(N:Int); omega) hi
theorem CallOkR.ofK0{g:FuncId}{N:Nat}{R:jb}(h:CallOkX P N g R):CallOkR P g (fun args=>R args []):=⟨fun args t hR v bs hev=>CR.ofK0 (h.run args [] t hR v bs hev)⟩
end
end Go.VS
end

noncomputable section
namespace Go.VS.Tryz
open Go.VS
set_option maxRecDepth 1000000
def Dsk:HeadK:=⟨6,37,[4,5,7,26,27,28],[.val, .val, .val, .keep, .val, .val],[],au,[false,false,false,true,false,false]⟩
def srK(lg:List CmM)(s:SrM):List Blk:=[.cells (ECm.all lg) 35 false, .cells [ptV 2,ptV 4,lsV 12 s.rest.length] 185 true, .cells [.map (some 3)] 141 true, .map s.tb.es s.tb.ck, .cells [ptV 5, .bool s.rn.br,lsV 11 s.rn.rs.length] 173 true, .cells (dP 6 7 8 9 10 s.rn.dk) 108 true]++dkL s.rn.dk++[.cells (iC.all s.rn.rs) 136 false, .cells (ECm.all s.rest) 35 false]
def slK(b k m:Nat):Value:= .slice (some ⟨b,Nat.mul k 3,none⟩) m 18446744073709551616
def skV(k m:Nat)(i:Int):List Value:=[.pointer none, .int .i64 0,ptV 1,slK 0 k m, .int .i64 (ak m), .int .i64 i]
theorem Sm(C1 C2:List Value->List Blk->Bool)(tb:TbM)(c:CmM)(lg:List CmM)(s:SrM)(k m:Nat)(i:Int):sK P E (Wi C1 C2 tb c) 50 121 Bso Dsk (skV k m i) (srK lg s) =
 (let z0:=Nat.mul k 3;let y0:=Nat.add z0 (atN i 3);let x0:=Enc.all ECm lg;let w0:=Eta.int .i64;let v0:=Nat.add y0 1;let u0:=bT x0 (Nat.add v0 1);let t0:=fa_ (zN u0) (zB u0) (zC u0);let s0:=s.rest.length;let r0:=Nat.add s0 1;let q0:=Enc.all ECm s.rest;let p0:=sl_ 12 s0;let o0:=List.append (jC 0 q0) [.int .i64 c.e, .int .i64 c.n,fa_ c.ops.length 0 (Enc.all EOp c.ops)];
 let n0:=s.rn.rs.length;let m0:=Enc.all iC s.rn.rs;let l0:=s.rn.dk;let k0:=l0.d0.length;let j0:=bc l0.d0;let i0:=l0.d1.length;let h0:=bc l0.d1;let g0:=l0.d2.length;let f0:=bc l0.d2;let e0:=l0.d3.length;let d0:=bc l0.d3;let c0:=l0.pend.length;let b0:=Enc.all ESt l0.pend;let a0:=Value.int .i64 0;
 let Z0:=Value.pointer none;let Y0:=Value.slice (some ⟨0,Go.Addr.off ⟨0,z0,none⟩,none⟩) m 18446744073709551616;let X0:=Value.int .i64 (ak m);let W0:=aH 0 [0,1,2,3,4,5,37,38,39,40,41,36,35];let V0:=Blk.cells [.map (some 3)] 141 true;let U0:=Blk.cells [pt_ 5, .bool s.rn.br,sl_ 11 n0] 173 true;
 let T0:=dk_ l0 6 7 8 9 10;let S0:=aH 0 [0,1,2,3,4,5,15,16,17,18,19,14,13];
 (aj (ltI i (ak m)) (ae (inI i m) (ae (Bool.and (Nat.ble (Nat.add y0 3) x0.length) (jw [w0,w0, .slice 3] x0 y0)) (ae (C1 [.agg ⟨[.int .i64 (asI (bT x0 y0)), .int .i64 (asI (bT x0 v0)),t0]⟩] []) (ae (Nat.ble r0 4194304) (ae (Nat.beq (Nat.add 0 (Nat.mul s0 3)) q0.length) (ae (bZ p0 p0) (ae (C2 [pt_ 0,t0] [.cells [.map (some 1)] 141 true, .map (eP true (aH 0 [2,3]) s.tb.es) s.tb.ck]) (nb_ r0 3 o0 (nb_ n0 3 m0 (nb_ k0 1 j0 (nb_ i0 1 h0 (nb_ g0 1 f0 (nb_ e0 1 d0 (nb_ c0 4 b0 (some (.tuple ⟨[a0,Z0,a0,pt_ 1,Y0,X0, .int .i64 (dI .i64 i 1)]⟩,ag [.cells (af true W0 x0) 35 false, .cells [pt_ 2,pt_ 4,sl_ 12 r0] 185 true,V0, .map (eP true W0 (eP true (bC [2,3] 35) tb.es)) tb.ck,U0,T0,lb_ W0 k0 1 j0 5,lb_ W0 i0 1 h0 5,lb_ W0 g0 1 f0 5,lb_ W0 e0 1 d0 5,lb_ W0 c0 4 b0 132,lb_ W0 n0 3 m0 136,lb_ W0 r0 3 o0 35])))))))))))))))) (nb_ s0 3 q0 (nb_ n0 3 m0 (nb_ k0 1 j0 (nb_ i0 1 h0 (nb_ g0 1 f0 (nb_ e0 1 d0 (nb_ c0 4 b0 (some (.tuple ⟨[.int .i64 1,Z0,a0,pt_ 1,Y0,X0, .int .i64 i]⟩,ag [.cells (af true S0 x0) 35 false, .cells [pt_ 2,pt_ 4,p0] 185 true,V0, .map (eP true S0 s.tb.es) s.tb.ck,U0,T0,lb_ S0 k0 1 j0 5,lb_ S0 i0 1 h0 5,lb_ S0 g0 1 f0 5,lb_ S0 e0 1 d0 5,lb_ S0 c0 4 b0 132,lb_ S0 n0 3 m0 136,lb_ S0 s0 3 q0 35]))))))))))):=by kernel_rfl
def rnK(lg:List CmM)(r:RnM):List Blk:=[.cells (ECm.all lg) 35 false, .cells [ptV 2, .bool r.br,lsV 8 r.rs.length] 173 true, .cells (dP 3 4 5 6 7 r.dk) 108 true]++dkL r.dk++[.cells (iC.all r.rs) 136 false]
def adF(C1 C2 C3:List Value->List Blk->Bool)(ru:Int)(r:RnM)(lg:List CmM)(s:SrM)(k m:Nat):Ct:=aC P au 2 65 (bI C1 (.leaf (.int .i64 ru,rnB r))) (jh P 9 (fun args=>bI C2 (.leaf (ui (0,0),[])) args []) (Cj P 121 0 Dsk (jd C3 (.leaf (.normal,skV k m (ak m),srK lg s))) ctF))
theorem YL(C1 C2 C3:List Value->List Blk->Bool)(ru:Int)(r:RnM)(lg:List CmM)(s:SrM)(k m:Nat):Jp P E (adF C1 C2 C3 ru r lg s k m) 50 au [] [] 3 [false,true] 121 [ptV 1,slK 0 k m] (rnK lg r) =
 (let z0:=r.rs.length;let y0:=Enc.all iC r.rs;let x0:=r.dk;let w0:=x0.d0.length;let v0:=bc x0.d0;let u0:=x0.d1.length;let t0:=bc x0.d1;let s0:=x0.d2.length;let r0:=bc x0.d2;let q0:=x0.d3.length;let p0:=bc x0.d3;let o0:=x0.pend.length;let n0:=Enc.all ESt x0.pend;let m0:=pt_ 1;let l0:=Value.bool r.br;
 let k0:=aH 0 [1,2,10,11,12,13,14,9];let j0:=Go.Addr.off ⟨0,Nat.mul k 3,none⟩;let i0:=Nat.mul m 3;let h0:=Enc.all ECm lg;let g0:=takeC i0 (aU j0 h0);let f0:=bC [1,2] 15;let e0:=af true f0 y0;let d0:=af true f0 v0;let c0:=af true f0 t0;let b0:=af true f0 r0;let a0:=af true f0 p0;
 let Z0:=af true f0 n0;let Y0:=Value.int .i64 0;let X0:=aH 0 [0,24,23,22,1,2,27,28,29,30,31,26,25];let W0:=s.rn.rs.length;let V0:=bC [0,24,23,22,1,2] 32;let U0:=af true V0 (Enc.all iC s.rn.rs);let T0:=s.rn.dk;let S0:=T0.d0.length;let R0:=af true V0 (bc T0.d0);let Q0:=T0.d1.length;
 let P0:=af true V0 (bc T0.d1);let O0:=T0.d2.length;let N0:=af true V0 (bc T0.d2);let M0:=T0.d3.length;let L0:=af true V0 (bc T0.d3);let K0:=T0.pend.length;let J0:=af true V0 (Enc.all ESt T0.pend);let I0:=s.rest.length;let H0:=af true V0 (Enc.all ECm s.rest);let G0:=aH 0 [0,1,2,24,23,22,40,41,42,43,44,39,45];
 (nb_ z0 3 y0 (nb_ w0 1 v0 (nb_ u0 1 t0 (nb_ s0 1 r0 (nb_ q0 1 p0 (nb_ o0 4 n0 (ae (C1 [pt_ 0] [.cells [m0,l0,sl_ 7 z0] 173 true,dk_ x0 2 3 4 5 6,lb_ k0 w0 1 v0 5,lb_ k0 u0 1 t0 5,lb_ k0 s0 1 r0 5,lb_ k0 q0 1 p0 5,lb_ k0 o0 4 n0 132,lb_ k0 z0 3 y0 136]) (ae (Bool.and (Nat.ble (Nat.add j0 i0) h0.length) (Nat.ble 1 3)) (ae (gy g0) (ae (C2 [.int .i64 1, .int .i64 ru,fa_ m 0 g0] []) (nb_ z0 3 e0 (nb_ w0 1 d0 (nb_ u0 1 c0 (nb_ s0 1 b0 (nb_ q0 1 a0 (nb_ o0 4 Z0 (ae (C3 [.pointer none,Y0,m0, .slice (some ⟨0,j0,none⟩) m 18446744073709551616, .int .i64 (ak m),Y0] [.cells (af true X0 h0) 35 false, .cells [pt_ 2,pt_ 4,sl_ 12 0] 185 true, .cells [.map (some 3)] 141 true, .map [] 0, .cells [pt_ 5,l0,sl_ 11 z0] 173 true,dk_ x0 6 7 8 9 10,lb_ X0 w0 1 d0 5,lb_ X0 u0 1 c0 5,lb_ X0 s0 1 b0 5,lb_ X0 q0 1 a0 5,lb_ X0 o0 4 Z0 132,lb_ X0 z0 3 e0 136, .cells [] 35 false]) (nb_ W0 3 U0 (nb_ S0 1 R0 (nb_ Q0 1 P0 (nb_ O0 1 N0 (nb_ M0 1 L0 (nb_ K0 4 J0 (nb_ I0 3 H0 (some (.tuple ⟨[pt_ 3,Y0]⟩,ag [.cells (af true G0 (af true V0 h0)) 35 false, .cells [pt_ 2, .bool s.rn.br,sl_ 11 W0] 173 true,dk_ T0 6 7 8 9 10, .cells [pt_ 4,m0,sl_ 12 I0] 185 true, .cells [.map (some 5)] 141 true, .map (eP true G0 (eP true V0 s.tb.es)) s.tb.ck,lb_ G0 S0 1 R0 5,lb_ G0 Q0 1 P0 5,lb_ G0 O0 1 N0 5,lb_ G0 M0 1 L0 5,lb_ G0 K0 4 J0 132,lb_ G0 W0 3 U0 136,lb_ G0 I0 3 H0 35]))))))))))))))))))))))))))):=by kernel_rfl
theorem atK(k i:Nat):Nat.add (Nat.mul k 3) (atN (i:Int) 3)=atN ((k+i:Nat):Int) 3:=by
 show k*3+(i:Int).toNat*3=((k+i:Nat):Int).toNat*3;omega
theorem VQ{s:SrM}(ht:gZ s.tb){lg:List CmM}{k m i:Nat}(hi:i<m)(hm:k+m=lg.length)(hl:lg.length<4194304)(hg:s.rest.length<4194300) :
  sK P E (Wi (aV [cmV (lg[k+i]'(by omega))] []) (aV [p0,bn (lg[k+i]'(by omega)).ops] (tbB s.tb)) (tbM s.tb (lg[k+i]'(by omega)).ops) (lg[k+i]'(by omega))) 50 121 Bso Dsk (skV k m i) (srK lg s)=some (.tuple ⟨exV .normal::skV k m ((i+1:Nat):Int)⟩,ag (srK lg ⟨tbM s.tb (lg[k+i]'(by omega)).ops,s.rn,s.rest++[lg[k+i]'(by omega)]⟩)):=by
 obtain⟨g1,g2,a1⟩:=nU hi (by omega);have hk:k+i<lg.length:=by omega
 have g4:=ni hk;have h1:(s.rest++[lg[k+i]]).length=Nat.add s.rest.length 1:=by simp
 have ht2:=(ht.all lg[k+i].ops).ren;rw[Sm];simp (disch:=first | omega | (simp only[List.length_append,List.length_drop,List.length_take,List.length_singleton,Nat.add_eq,bJ]<;>omega) | fail) only[dk_,fa_,lb_,nb_,pt_,sl_,ht.ren,ht2,atK,g1,g2,a1,g4,lw hk (Nat.le_refl 3),k_ hk,vP hk,uh hk,iI,(zF _ _ _).1,(zF _ _ _).2.1,(zF _ _ _).2.2,h1,wE,skV,slK,srK,cZ,rnB,srB,tbB,dkL,List.cons_append,List.nil_append,List.append_assoc,dN,aT,dP,lsV,ptV,p0,aN,dkC,bn,fzCms,cmV,di,bG,az,dG,dn,dR,dE,dF,dD,dw,dC,dB,dQ,dA,aB,aK,aP,Enc.all_ren,aB rfl,aB h1.symm,aK rfl,aP rfl,aT rfl,aQ,bH,bz,bu,bg,ax,aX,bD,Int.toNat_natCast,aY,aO,bF,bU,dH,bP,bW,dK,Bool.and_self,aG,aF,ay]
 rfl
theorem abv{C1 C2:List Value->List Blk->Bool}{tb:TbM}{c:CmM}{s:SrM}(ht:gZ s.tb){lg:List CmM}{k m:Nat}:sK P E (Wi C1 C2 tb c) 50 121 Bso Dsk (skV k m m) (srK lg s)=some (.tuple ⟨exV (.exit 0)::skV k m m⟩,ag (srK lg s)):=by
 rw[Sm];simp only[dk_,fa_,lb_,nb_,pt_,sl_,lZ,ht.ren,skV,slK,srK,cZ,rnB,srB,tbB,dkL,List.cons_append,List.nil_append,List.append_assoc,dN,aT,dP,lsV,ptV,p0,aN,dkC,bn,fzCms,cmV,di,bG,az,dG,dn,dR,dE,dF,dD,dw,dC,dB,dQ,dA,aB,aK,aP,Enc.all_ren,aB rfl,aK rfl,aP rfl,aT rfl,aQ,bH,bz,bu,bg,ax,aX,bD,Int.toNat_natCast,aY,aO,bF,bU,dH,bP,bW,dK,Bool.and_self,aG,aF,ay]
 rfl
theorem NV{lg:List CmM}{k m:Nat}(hm:k+m=lg.length)(hl:lg.length<4194300)(hc:∀ c∈lg,cmE c=0):∀ (j i:Nat) (s:SrM),gZ s.tb->s.rest.length+j<4194300->i+j=m->
  LRX P 121 0 Bso Dsk.head (skV k m i) (srK lg s) .normal (skV k m m) (srK lg ⟨tbL s.tb (lg.drop (k+i)),s.rn,s.rest++lg.drop (k+i)⟩)
 |0,i,s,ht,h3,h=>by
  obtain rfl:i=m:=by omega
  rw[hm,List.drop_length,List.append_nil];exact LRX.stopK (n:=50) (bf _) aA (ah (pol:=au) (ah (pol:=au) aW (gm (r:= .leaf (.int .i64 0,tbB s.tb)))) (gm (r:= .leaf (cmV ⟨0,0,[]⟩,[])))) O5 (e:= .exit 0) (abv (C1:=fun _ _=>false) (C2:=fun _ _=>false) (tb:=s.tb) (c:=⟨0,0,[]⟩) ht) (by intro h; cases h)
 |j+1,i,s,ht,h3,h=>by
  have hk:k+i<lg.length:=by omega
  obtain⟨_,_,hb⟩:=jf.1 (hc _ (List.getElem_mem hk));obtain⟨b1,b2,b3⟩:=gq.1 hb;have ih:=NV hm hl hc j (i+1) ⟨tbM s.tb lg[k+i].ops,s.rn,s.rest++[lg[k+i]]⟩ (ht.all _) (by show(s.rest++[lg[k+i]]).length+j<_; simp; omega) (by omega);have e:(⟨tbL (tbM s.tb lg[k+i].ops) (lg.drop (k+(i+1))),s.rn,(s.rest++[lg[k+i]])++lg.drop (k+(i+1))⟩:SrM)=⟨tbL s.tb (lg.drop (k+i)),s.rn,s.rest++lg.drop (k+i)⟩:=by
   rw[List.drop_eq_getElem_cons hk,List.append_assoc]; rfl
  rw[<-e];exact LRX.againK (n:=50) (bf _) aA (ah (pol:=au) (ah (pol:=au) aW (aZ (SH ht hb))) (aZ (uK (c:=lg[k+i]) b1 (by omega)))) O5 (VQ ht (by omega) hm (by omega) (by omega)) ih
def skB(lg:List CmM)(s:SrM):List Blk:=[.cells (ECm.all lg) 35 false, .cells [ptV 2, .bool s.rn.br,lsV 11 s.rn.rs.length] 173 true, .cells (dP 6 7 8 9 10 s.rn.dk) 108 true, .cells [ptV 4,ptV 1,lsV 12 s.rest.length] 185 true, .cells [.map (some 5)] 141 true, .map s.tb.es s.tb.ck]++dkL s.rn.dk++[.cells (iC.all s.rn.rs) 136 false, .cells (ECm.all s.rest) 35 false]
theorem Zo(l:List CmM):gy (ECm.all l)=true:=ECm.all_nr l
theorem DR{lg:List CmM}{k m:Nat}(hm:k+m=lg.length):takeC (Nat.mul m 3) (aU (Nat.mul k 3) (ECm.all lg))=ECm.all (lg.drop k):=by
 have h1:aU (Nat.mul k 3) (ECm.all lg)=ECm.all (lg.drop k):=ECm.all_drop k lg;rw[h1];have h2:takeC (Nat.mul m 3) (ECm.all (lg.drop k))=ECm.all ((lg.drop k).take m):=ECm.all_take m _;rw[h2,List.take_of_length_le (by rw[List.length_drop]; omega)]
theorem acs{r:RnM}{lg:List CmM}{k m:Nat}(hm:k+m=lg.length)(hr:r.rs.length<4194304)(hl:lg.length<4000)(hf:fD 1 (h_ r.rs) 0 (lg.drop k)=(0,0))(hc:∀ c∈lg,cmE c=0) :
  CRX P 3 121 [ptV 1,slK 0 k m] (rnK lg r) (.tuple ⟨[ptV 3, .int .i64 0]⟩) (skB lg ⟨tbL tb0 (lg.drop k),r,lg.drop k⟩):=by
 have hlen:(lg.drop k).length=m:=by rw[List.length_drop]; omega
 have q1:=xq hr;have q2:=mX (e:=1) (n:=h_ r.rs) (l:=lg.drop k) (by omega) (by
  intro x hx;obtain⟨_,_,hb⟩:=jf.1 (hc x (List.mem_of_mem_drop hx));obtain⟨b1,b2,b3⟩:=gq.1 hb
  omega)
 rw[hf]at q2;have q3:=NV hm (by omega) hc m 0 ⟨tb0,r,[]⟩ tq (by show 0+m<_; omega) (by omega);rw[List.nil_append,Nat.add_zero]at q3;refine CRX.ofK (pol:=au) (fl:=[]) (ts:=[]) (n:=50) (kb:=[false,true]) (bf _) aA (ah (pol:=au) (iG (LD aW (fU (d_ Td) q3)) (CallOkR.ofK0 (aZ q2))) (aZ q1)) ((YL (aV [p0] (rnB r)) (aV [.int .i64 1, .int .i64 (h_ r.rs),fzCms (lg.drop k)] []) (aV (skV k m (0:Nat)) (srK lg ⟨tb0,r,[]⟩)) (h_ r.rs) r lg ⟨tbL tb0 (lg.drop k),r,lg.drop k⟩ k m).trans ?_);clear q1 q2 q3;have z0:((0:Nat):Int)=0:=rfl;have e0:(ECm.all ([]:List CmM))=[]:=rfl;have e1:([]:List CmM).length=0:=rfl;have ht2:=(tq.log (lg.drop k)).ren;have e2:tb0.es=[]:=rfl;have e3:tb0.ck=0:=rfl;have b1:Nat.ble (Nat.add (Nat.mul k 3) (Nat.mul m 3)) (Nat.mul lg.length 3)=true:=Nat.ble_eq_true_of_le (by show k*3+m*3<=lg.length*3; omega);simp (disch:=first | omega | (simp only[List.length_append,List.length_drop,List.length_take,List.length_singleton,Nat.add_eq,bJ]<;>omega) | fail) only[dk_,fa_,lb_,nb_,pt_,sl_,ht2,z0,e0,e1,e2,e3,hlen,b1,show Nat.ble 1 3=true from rfl,Zo,DR hm,skV,slK,srK,skB,rnK,cZ,rnB,srB,tbB,dkL,List.cons_append,List.nil_append,List.append_assoc,dN,aT,dP,lsV,ptV,p0,aN,dkC,bn,fzCms,cmV,di,bG,az,dG,dn,dR,dE,dF,dD,dw,dC,dB,dQ,dA,aB,aK,aP,Enc.all_ren,aB hlen.symm,aK rfl,aP rfl,aT rfl,aQ,bH,bz,bu,bg,ax,aX,bD,Int.toNat_natCast,aY,aO,bF,bU,dH,bP,bW,dK,Bool.and_self,aG,aF,ay]
def ada(C4:List Value->List Blk->Bool)(lg:List CmM)(sr:SrM):Ct:=CE P au 3 121 [false,true] (bI C4 (.leaf (.tuple ⟨[ptV 3, .int .i64 0]⟩,skB lg sr))) ctF
theorem aaO(C4:List Value->List Blk->Bool)(s:StaM)(sr:SrM):xC P E (ada C4 s.log sr) 50 au [] [] 7 66 [p0] (stB s) =
 (let z0:=s.rs.length;let y0:=s.log.length;let x0:=ak y0;let w0:=Enc.all ECm s.log;let v0:=Nat.div (Nat.sub w0.length 0) 3;let u0:=Enc.all iC s.rs;let t0:=s.dk;let s0:=t0.d0.length;let r0:=bc t0.d0;let q0:=t0.d1.length;let o0:=bc t0.d1;let n0:=t0.d2.length;let m0:=bc t0.d2;let l0:=t0.d3.length;
 let k0:=bc t0.d3;let j0:=t0.pend.length;let i0:=Enc.all ESt t0.pend;let h0:=pt_ 1;let g0:=aH 0 [12,3,1,38,39,40,41,42,37];let f0:=Blk.cells [pt_ 2, .bool s.rbr,sl_ 8 z0] 173 true;let e0:=dk_ t0 3 4 5 6 7;let d0:=[Blk.cells (af true g0 w0) 35 false,f0,e0,lb_ g0 s0 1 r0 5,lb_ g0 q0 1 o0 5,lb_ g0 n0 1 m0 5,lb_ g0 l0 1 k0 5,lb_ g0 j0 4 i0 132,lb_ g0 z0 3 u0 136];
 let c0:=sl_ 12 y0;let b0:=bZ c0 c0;let a0:=bC [12,3,1] 43;let Z0:=af true a0 w0;let Y0:=sr.rn.dk;let X0:=Y0.d0.length;let W0:=af true a0 (bc Y0.d0);let V0:=Y0.d1.length;let U0:=af true a0 (bc Y0.d1);let T0:=Y0.d2.length;let S0:=af true a0 (bc Y0.d2);let R0:=Y0.d3.length;let Q0:=af true a0 (bc Y0.d3);
 let P0:=Y0.pend.length;let O0:=Enc.all ESt Y0.pend;let N0:=af true a0 O0;let M0:=s.wcs.length;let L0:=Enc.all ECm s.wcs;let K0:=s.wes.length;let J0:=Enc.all EIn s.wes;let I0:=sr.rn.rs.length;let H0:=Enc.all iC sr.rn.rs;let G0:=af true a0 H0;let F0:=sr.rest.length;let E0:=Enc.all ECm sr.rest;
 let D0:=af true a0 E0;let C0:=s.rest.length;let B0:=Enc.all ECm s.rest;let A0:=Value.int .i64 0;let z1:=s.pg;let y1:=pt_ 3;let x1:=Blk.cells [h0, .bool s.off, .int .i64 z1.ep, .int .u8 z1.ro, .int .i64 z1.ac, .int .u8 z1.ph, .int .i64 z1.fo, .int .i64 z1.ba,sl_ 15 y0,pt_ 2,y1,pt_ 7, .int .i64 s.held] 114 true;
 let w1:=dk_ Y0 10 11 12 13 14;let v1:=Blk.cells [h0, .bool s.wbr,sl_ 16 M0,sl_ 17 K0] 182 true;let u1:=Blk.cells [h0, .bool sr.rn.br,sl_ 18 I0] 173 true;let t1:=Blk.cells [pt_ 5,y1,sl_ 20 C0] 185 true;let s1:=Blk.cells [.map (some 6)] 141 true;let r1:=aH 0 [0,1,2,3,4,5,6,43,44,45,54,55,56,57,58,53,59,60,61,62,63];
 let q1:=Blk.cells [pt_ 8,y1,sl_ 19 F0] 185 true;let p1:=Blk.cells [.map (some 9)] 141 true;let o1:=ae b0 (nb_ y0 3 Z0 (nb_ X0 1 W0 (nb_ V0 1 U0 (nb_ T0 1 S0 (nb_ R0 1 Q0 (nb_ P0 4 N0 (nb_ M0 3 L0 (nb_ K0 1 J0 (nb_ I0 3 G0 (nb_ F0 3 D0 (nb_ C0 3 B0 (some (A0,ag [x1,w1,v1,u1,t1,s1, .map (eP true r1 s.tb.es) s.tb.ck,q1,p1, .map (eP true r1 (eP true a0 sr.tb.es)) sr.tb.ck,lb_ r1 X0 1 W0 5,lb_ r1 V0 1 U0 5,lb_ r1 T0 1 S0 5,lb_ r1 R0 1 Q0 5,lb_ r1 P0 4 N0 132,lb_ r1 y0 3 Z0 35,lb_ r1 M0 3 L0 35,lb_ r1 K0 1 J0 3,lb_ r1 I0 3 G0 136,lb_ r1 F0 3 D0 35,lb_ r1 C0 3 B0 35])))))))))))));
 let n1:=[h0,sl_ 0 0];let m1:=eU .i64 (ak z0) 1;let l1:=Nat.add (Nat.add 0 (atN m1 3)) 1;let k1:=bT u0 l1;let j1:=asI k1;let i1:=Int.toNat j1;let h1:=aH 0 [12,3,1,52,53,54,55,56,51];let g1:=[Blk.cells (af true h1 w0) 35 false,f0,e0,lb_ h1 s0 1 r0 5,lb_ h1 q0 1 o0 5,lb_ h1 n0 1 m0 5,lb_ h1 l0 1 k0 5,lb_ h1 j0 4 i0 132,lb_ h1 z0 3 u0 136];
 let f1:=bC [12,3,1] 57;let e1:=af true f1 w0;let d1:=af true f1 (bc Y0.d0);let c1:=af true f1 (bc Y0.d1);let b1:=af true f1 (bc Y0.d2);let a1:=af true f1 (bc Y0.d3);let Z1:=af true f1 O0;let Y1:=af true f1 H0;let X1:=af true f1 E0;let W1:=aH 0 [0,1,2,3,4,5,6,57,58,59,68,69,70,71,72,67,73,74,75,76,77];
 let V1:=ae b0 (nb_ y0 3 e1 (nb_ X0 1 d1 (nb_ V0 1 c1 (nb_ T0 1 b1 (nb_ R0 1 a1 (nb_ P0 4 Z1 (nb_ M0 3 L0 (nb_ K0 1 J0 (nb_ I0 3 Y1 (nb_ F0 3 X1 (nb_ C0 3 B0 (some (A0,ag [x1,w1,v1,u1,t1,s1, .map (eP true W1 s.tb.es) s.tb.ck,q1,p1, .map (eP true W1 (eP true f1 sr.tb.es)) sr.tb.ck,lb_ W1 X0 1 d1 5,lb_ W1 V0 1 c1 5,lb_ W1 T0 1 b1 5,lb_ W1 R0 1 a1 5,lb_ W1 P0 4 Z1 132,lb_ W1 y0 3 e1 35,lb_ W1 M0 3 L0 35,lb_ W1 K0 1 J0 3,lb_ W1 I0 3 Y1 136,lb_ W1 F0 3 X1 35,lb_ W1 C0 3 B0 35])))))))))))));
 (aj (eqI (ak z0) 0) (ae (eF 0 x0 v0) (aj (Nat.ble 1 v0) (nb_ z0 3 u0 (nb_ s0 1 r0 (nb_ q0 1 o0 (nb_ n0 1 m0 (nb_ l0 1 k0 (nb_ j0 4 i0 (ae (C4 [h0,sl_ 0 (fZ 0 x0)] d0) o1))))))) (nb_ z0 3 u0 (nb_ s0 1 r0 (nb_ q0 1 o0 (nb_ n0 1 m0 (nb_ l0 1 k0 (nb_ j0 4 i0 (ae (C4 n1 d0) o1))))))))) (ae (inI m1 z0) (ae (Bool.and (Nat.ble (Nat.add l1 1) u0.length) (ig (.int .i64) k1)) (ae (eF j1 x0 v0) (aj (Nat.ble (Nat.add i1 1) v0) (nb_ z0 3 u0 (nb_ s0 1 r0 (nb_ q0 1 o0 (nb_ n0 1 m0 (nb_ l0 1 k0 (nb_ j0 4 i0 (ae (C4 [h0, .slice (some ⟨0,Go.Addr.off (Aa ⟨12,0,none⟩ (atN j1 3)),none⟩) (fZ j1 x0) 18446744073709551616] g1) V1))))))) (aj (Nat.beq i1 0) (nb_ z0 3 u0 (nb_ s0 1 r0 (nb_ q0 1 o0 (nb_ n0 1 m0 (nb_ l0 1 k0 (nb_ j0 4 i0 (ae (C4 n1 g1) V1))))))) (nb_ z0 3 u0 (nb_ s0 1 r0 (nb_ q0 1 o0 (nb_ n0 1 m0 (nb_ l0 1 k0 (nb_ j0 4 i0 (ae (C4 [h0, .slice (some ⟨0,0,none⟩) 0 (Nat.add 18446744073709551616 i1)] g1) V1)))))))))))))):=by kernel_rfl
def stG(s:StaM)(ot:TbM)(orest:List CmM):List Blk:=[.cells ([ptV 1, .bool s.off]++pgC s.pg++[lsV 15 s.log.length,ptV 2,ptV 3,ptV 7, .int .i64 s.held]) 114 true, .cells (dP 10 11 12 13 14 s.dk) 108 true,
 .cells [ptV 1, .bool s.wbr,lsV 16 s.wcs.length,lsV 17 s.wes.length] 182 true, .cells [ptV 1, .bool s.rbr,lsV 18 s.rs.length] 173 true, .cells [ptV 5,ptV 3,lsV 20 orest.length] 185 true, .cells [.map (some 6)] 141 true, .map ot.es ot.ck,
 .cells [ptV 8,ptV 3,lsV 19 s.rest.length] 185 true, .cells [.map (some 9)] 141 true, .map s.tb.es s.tb.ck]++dkL s.dk++
 [.cells (ECm.all s.log) 35 false, .cells (ECm.all s.wcs) 35 false, .cells (EIn.all s.wes) 3 false, .cells (iC.all s.rs) 136 false, .cells (ECm.all s.rest) 35 false, .cells (ECm.all orest) 35 false]
theorem Zc{s:StaM}(ht:gZ s.tb)(hrs:s.rs=[])(hl:s.log.length<4000)(hf:fD 1 0 0 s.log=(0,0))(hc:∀ c∈s.log,cmE c=0) :
  CRX P 7 66 [p0] (stB s) (.int .i64 0) (stG { s with tb:=tbL tb0 s.log,rest:=s.log } s.tb s.rest):=by
 have hr0:h_ s.rs=0:=by rw[hrs]; rfl
 have q1:=acs (r:=s.rn) (lg:=s.log) (k:=0) (m:=s.log.length) (by omega) (by show s.rs.length<_; rw[hrs]; decide) hl (by show fD 1 (h_ s.rs) 0 _=_; rw[hr0]; exact hf) hc;rw[List.drop_zero]at q1;refine CRX.ofG (pol:=au) (fl:=[]) (ts:=[]) (n:=50) (bf _) aA (Md aW (aZ q1)) ((aaO (aV [ptV 1,slK 0 0 s.log.length] (rnK s.log s.rn)) s ⟨tbL tb0 s.log,s.rn,s.log⟩).trans ?_);clear q1;have ht1:=ht.ren;have ht2:=(tq.log s.log).ren;have hrl:s.rs.length=0:=by rw[hrs]; rfl
 have g0:eqI (ak 0) 0=true:=rfl;have g1:Nat.div (Nat.sub (Nat.mul s.log.length 3) 0) 3=s.log.length:=by show(s.log.length*3-0) / 3=_; omega
 have g2:eF 0 (ak s.log.length) s.log.length=true:=o6 (Nat.le_refl _);have g3:fZ 0 (ak s.log.length)=s.log.length:=QR _;have m0:Nat.mul 0 3=0:=rfl;cases hz:Nat.ble 1 s.log.length with
 |true=>
  simp (disch:=first | omega | (simp only[List.length_append,List.length_drop,List.length_take,List.length_singleton,Nat.add_eq,bJ]<;>omega) | fail) only[dk_,lb_,nb_,pt_,sl_,ht1,ht2,hrl,hz,g0,g1,g2,g3,m0,DR,pgC,stB,stG,slK,rnK,skB,StaM.rn,dn,cZ,rnB,srB,tbB,dkL,List.cons_append,List.nil_append,List.append_assoc,dN,aT,dP,lsV,ptV,p0,aN,dkC,bn,fzCms,cmV,di,bG,az,dG,dn,dR,dE,dF,dD,dw,dC,dB,dQ,dA,aB,aK,aP,Enc.all_ren,aB rfl,aK rfl,aP rfl,aT rfl,aT hrl.symm,aQ,bH,bz,bu,bg,ax,aX,bD,Int.toNat_natCast,aY,aO,bF,bU,dH,bP,bW,dK,Bool.and_self,aG,aF,ay]
 |false=>
  have hn:s.log.length=0:=by
   cases h:s.log.length with
   |zero=>rfl
   |succ j=>exfalso; rw[h,Nat.ble_eq_true_of_le (by omega)]at hz; cases hz
  have hlg:s.log=[]:=List.length_eq_zero_iff.1 hn;have n0:Nat.div (Nat.sub 0 0) 3=0:=rfl;have n1:eF 0 (ak 0) 0=true:=rfl;have n2:fZ 0 (ak 0)=0:=rfl;have n3:Nat.ble 1 0=false:=rfl;simp (disch:=first | omega | (simp only[List.length_append,List.length_drop,List.length_take,List.length_singleton,Nat.add_eq,bJ]<;>omega) | fail) only[dk_,lb_,nb_,pt_,sl_,n0,n1,n2,n3,ht1,ht2,hrl,hz,hn,g0,g1,g2,g3,m0,DR,pgC,stB,stG,slK,rnK,skB,StaM.rn,dn,cZ,rnB,srB,tbB,dkL,List.cons_append,List.nil_append,List.append_assoc,dN,aT,dP,lsV,ptV,p0,aN,dkC,bn,fzCms,cmV,di,bG,az,dG,dn,dR,dE,dF,dD,dw,dC,dB,dQ,dA,aB,aK,aP,Enc.all_ren,aB rfl,aB hn.symm,aK rfl,aP rfl,aT rfl,aT hrl.symm,aQ,bH,bz,bu,bg,ax,aX,bD,Int.toNat_natCast,aY,aO,bF,bU,dH,bP,bW,dK,Bool.and_self,aG,aF,ay]
def adE(C0 C1 C2 C3 C4:List Value->List Blk->Bool)(ru:Int)(s:StaM)(w1 w2:WalM)(s2:StaM)(ot:TbM)(orest:List CmM):Ct:=
 aC P au 2 65 (bI C0 (.leaf (.int .i64 ru,rnB s.rn))) (aC P au 7 63 (bI C1 (.leaf (.bool true,stB s))) (aC P au 2 174 (bI C2 (.leaf (.int .i64 0,cZ w1))) (aC P au 2 74 (bI C3 (.leaf (.int .i64 0,cZ w2)))
 (aC P au 7 66 (bI C4 (.leaf (.int .i64 0,stG s2 ot orest))) ctF))))
theorem YO(C0 C1 C2 C3 C4:List Value->List Blk->Bool)(ru:Int)(s:StaM)(w1 w2:WalM)(s2:StaM)(ot:TbM)(orest:List CmM)(n:Nat):xC P E (adE C0 C1 C2 C3 C4 ru (okS s) w1 w2 s2 ot orest) 50 au [] [] 7 148 [p0, .int .i64 (n:Int)] (stB (okS s)) =
 (let z0:=okS s;let y0:=z0.rs.length;let x0:=Enc.all iC z0.rs;let w0:=z0.dk;let v0:=w0.d0.length;let u0:=bc w0.d0;let t0:=w0.d1.length;let s0:=bc w0.d1;let r0:=w0.d2.length;let q0:=bc w0.d2;let o0:=w0.d3.length;let n0:=bc w0.d3;let m0:=w0.pend.length;let l0:=Enc.all ESt w0.pend;let k0:=pt_ 0;
 let j0:=[k0];let i0:=pt_ 1;let h0:=Value.bool z0.rbr;let g0:=dk_ w0 2 3 4 5 6;let f0:=aH 0 [3,1,18,19,20,21,22,17];let e0:=Nat.cast n;let d0:=z0.log.length;let c0:=Enc.all ECm z0.log;let b0:=z0.rn.dk;let a0:=b0.d0.length;let Z0:=bC [3,1] 23;let Y0:=af true Z0 (bc b0.d0);let X0:=b0.d1.length;
 let W0:=af true Z0 (bc b0.d1);let V0:=b0.d2.length;let U0:=af true Z0 (bc b0.d2);let T0:=b0.d3.length;let S0:=af true Z0 (bc b0.d3);let R0:=b0.pend.length;let Q0:=Enc.all ESt b0.pend;let P0:=af true Z0 Q0;let O0:=z0.wcs.length;let N0:=Enc.all ECm z0.wcs;let M0:=z0.wes.length;let L0:=Enc.all EIn z0.wes;
 let K0:=z0.rn.rs.length;let J0:=Enc.all iC z0.rn.rs;let I0:=af true Z0 J0;let H0:=z0.rest.length;let G0:=Enc.all ECm z0.rest;let F0:=z0.pg;let E0:=Value.int .i64 F0.ep;let D0:=Value.int .u8 F0.ro;let B0:=Value.int .i64 F0.ac;let A0:=Value.int .u8 F0.ph;let z1:=Value.int .i64 F0.fo;let y1:=Value.int .i64 F0.ba;
 let x1:=pt_ 2;let v1:=pt_ 3;let u1:=pt_ 4;let t1:=Value.int .i64 z0.held;let s1:=Blk.cells [i0, .bool z0.off,E0,D0,B0,A0,z1,y1,sl_ 12 d0,x1,v1,u1,t1] 114 true;let r1:=dk_ b0 7 8 9 10 11;let q1:=Value.bool z0.wbr;let p1:=Blk.cells [i0,q1,sl_ 13 O0,sl_ 14 M0] 182 true;let o1:=Value.bool z0.rn.br;
 let n1:=Blk.cells [i0,o1,sl_ 15 K0] 173 true;let m1:=Blk.cells [pt_ 5,v1,sl_ 16 H0] 185 true;let l1:=Blk.cells [.map (some 6)] 141 true;let k1:=aH 0 [0,1,2,3,4,5,6,30,31,32,33,34,29,35,36,37,38];let j1:=z0.tb.es;let i1:=z0.tb.ck;let h1:=nb_ d0 3 c0 (nb_ a0 1 Y0 (nb_ X0 1 W0 (nb_ V0 1 U0 (nb_ T0 1 S0 (nb_ R0 4 P0 (nb_ O0 3 N0 (nb_ M0 1 L0 (nb_ K0 3 I0 (nb_ H0 3 G0 (some (.int .i64 2,ag [s1,r1,p1,n1,m1,l1, .map (eP true k1 j1) i1,lb_ k1 a0 1 Y0 5,lb_ k1 X0 1 W0 5,lb_ k1 V0 1 U0 5,lb_ k1 T0 1 S0 5,lb_ k1 R0 4 P0 132,lb_ k1 d0 3 c0 35,lb_ k1 O0 3 N0 35,lb_ k1 M0 1 L0 3,lb_ k1 K0 3 I0 136,lb_ k1 H0 3 G0 35])))))))))));
 let g1:=eU .i64 e0 1;let f1:=Nat.add 0 (atN g1 3);let e1:=bT c0 f1;let d1:=aH 0 [3,1,44,45,46,47,48,43];let c1:=C0 j0 [.cells [i0,o1,sl_ 7 K0] 173 true,dk_ b0 2 3 4 5 6,lb_ d1 a0 1 Y0 5,lb_ d1 X0 1 W0 5,lb_ d1 V0 1 U0 5,lb_ d1 T0 1 S0 5,lb_ d1 R0 4 P0 132,lb_ d1 K0 3 I0 136];
 let b1:=bC [3,1] 49;let a1:=af true b1 (bc b0.d0);let Z1:=af true b1 (bc b0.d1);let Y1:=af true b1 (bc b0.d2);let X1:=af true b1 (bc b0.d3);let W1:=af true b1 Q0;let V1:=af true b1 J0;let U1:=pg_ F0;let T1:=Value.int .i64 e0;let S1:=Value.int .i64 ru;let R1:=aH 0 [0,1,2,3,4,5,6,56,57,58,59,60,55,61,62,63,64];
 let Q1:=[s1,r1,p1,n1,m1,l1,Blk.map (eP true R1 j1) i1,lb_ R1 a0 1 a1 5,lb_ R1 X0 1 Z1 5,lb_ R1 V0 1 Y1 5,lb_ R1 T0 1 X1 5,lb_ R1 R0 4 W1 132,lb_ R1 d0 3 c0 35,lb_ R1 O0 3 N0 35,lb_ R1 M0 1 L0 3,lb_ R1 K0 3 V1 136,lb_ R1 H0 3 G0 35];let P1:=[0,1,2,3,4,5,6];let O1:=bC P1 65;
 let N1:=af true O1 N0;let M1:=af true O1 L0;let L1:=af true O1 u0;let K1:=af true O1 s0;let J1:=af true O1 q0;let I1:=af true O1 n0;let H1:=af true O1 l0;let G1:=aH 0 [2,1,77,78,79,80,81,75,76];let F1:=w1.cs.length;let E1:=bC [2,1] 82;let D1:=af true E1 (Enc.all ECm w1.cs);
 let B1:=w1.es.length;let A1:=af true E1 (Enc.all EIn w1.es);let z2:=w1.dk;let y2:=z2.d0.length;let x2:=af true E1 (bc z2.d0);let v2:=z2.d1.length;let u2:=af true E1 (bc z2.d1);let t2:=z2.d2.length;let r2:=af true E1 (bc z2.d2);let q2:=z2.d3.length;let p2:=af true E1 (bc z2.d3);let o2:=z2.pend.length;
 let n2:=af true E1 (Enc.all ESt z2.pend);let m2:=aH 0 [2,1,91,92,93,94,95,89,90];let l2:=Int.toNat e0;let k2:=af true O1 c0;let j2:=w2.dk;let i2:=j2.d0.length;let h2:=bC [2,1] 96;let g2:=af true h2 (bc j2.d0);let f2:=j2.d1.length;let e2:=af true h2 (bc j2.d1);let d2:=j2.d2.length;
 let c2:=af true h2 (bc j2.d2);let b2:=j2.d3.length;let a2:=af true h2 (bc j2.d3);let Z2:=j2.pend.length;let Y2:=af true h2 (Enc.all ESt j2.pend);let X2:=w2.cs.length;let W2:=af true h2 (Enc.all ECm w2.cs);let V2:=w2.es.length;let U2:=af true h2 (Enc.all EIn w2.es);let T2:=af true O1 x0;
 let S2:=af true O1 G0;let R2:=Value.bool (eqI 0 6);let Q2:=dk_ j2 7 8 9 10 11;let P2:=Blk.cells [i0, .bool w2.br,sl_ 13 X2,sl_ 14 V2] 182 true;let O2:=Blk.cells [i0,h0,sl_ 15 y0] 173 true;let N2:=aH 0 [0,1,2,3,4,5,6,104,105,106,107,108,103,109,110,111,112];let M2:=eP true O1 j1;
 let L2:=Blk.map (eP true N2 M2) i1;let K2:=lb_ N2 i2 1 g2 5;let J2:=lb_ N2 f2 1 e2 5;let I2:=lb_ N2 d2 1 c2 5;let H2:=lb_ N2 b2 1 a2 5;let G2:=lb_ N2 Z2 4 Y2 132;let F2:=lb_ N2 X2 3 W2 35;let E2:=lb_ N2 V2 1 U2 3;let D2:=lb_ N2 y0 3 T2 136;let B2:=lb_ N2 H0 3 S2 35;let A2:=bC P1 113;let z3:=orest.length;
 let y3:=Enc.all ECm orest;let x3:=Value.int .i64 0;let w3:=nw_ s2 A2 (nb_ z3 3 (af true A2 y3) (some (x3,ag (gw_ s2 ot orest (aH 0 [0,1,2,3,4,5,6,113,114,115,128,129,130,131,132,127,133,134,135,136,137]) A2))));let v3:=nb_ i2 1 g2 (nb_ f2 1 e2 (nb_ d2 1 c2 (nb_ b2 1 a2 (nb_ Z2 4 Y2 (nb_ X2 3 W2 (nb_ V2 1 U2 (nb_ y0 3 T2 (nb_ H0 3 S2 (ae (C4 j0 [.cells [i0,R2,E0,D0,B0,A0,z1,y1,sl_ 12 l2,x1,v1,u1,t1] 114 true,Q2,P2,O2,m1,l1,L2,K2,J2,I2,H2,G2,lb_ N2 l2 3 k2 35,F2,E2,D2,B2]) w3)))))))));
 let u3:=aH 0 [0,1,2,3,4,5,6,103,104,105,106,107,70,108,109,110,111];let t3:=bC P1 112;let s3:=ae (bZ U1 U1) (nb_ O0 3 N1 (nb_ M0 1 M1 (nb_ v0 1 L1 (nb_ t0 1 K1 (nb_ r0 1 J1 (nb_ o0 1 I1 (nb_ m0 4 H1 (ae (C2 [k0,T1] [.cells [i0,q1,sl_ 7 O0,sl_ 8 M0] 182 true,g0,lb_ G1 v0 1 L1 5,lb_ G1 t0 1 K1 5,lb_ G1 r0 1 J1 5,lb_ G1 o0 1 I1 5,lb_ G1 m0 4 H1 132,lb_ G1 O0 3 N1 35,lb_ G1 M0 1 M1 3]) (nb_ F1 3 D1 (nb_ B1 1 A1 (nb_ y2 1 x2 (nb_ v2 1 u2 (nb_ t2 1 r2 (nb_ q2 1 p2 (nb_ o2 4 n2 (ae (C3 j0 [.cells [i0, .bool w1.br,sl_ 7 F1,sl_ 8 B1] 182 true,dk_ z2 2 3 4 5 6,lb_ m2 y2 1 x2 5,lb_ m2 v2 1 u2 5,lb_ m2 t2 1 r2 5,lb_ m2 q2 1 p2 5,lb_ m2 o2 4 n2 132,lb_ m2 F1 3 D1 35,lb_ m2 B1 1 A1 3]) (ae (Bool.and (eF 0 e0 l2) (Bool.and (eF 0 e0 (Nat.div (Nat.sub k2.length 0) 3)) (Nat.ble (Nat.succ l2) 18446744073709551616))) (aj (Nat.beq l2 18446744073709551616) (nb_ l2 3 k2 v3) (aj (Nat.ble 18446744073709551616 l2) (nb_ i2 1 g2 (nb_ f2 1 e2 (nb_ d2 1 c2 (nb_ b2 1 a2 (nb_ Z2 4 Y2 (nb_ X2 3 W2 (nb_ V2 1 U2 (nb_ y0 3 T2 (nb_ H0 3 S2 (ae (C4 j0 [.cells [i0,R2,E0,D0,B0,A0,z1,y1,sl_ 12 0,x1,v1,u1,t1] 114 true,Q2,P2,O2,m1,l1,L2,K2,J2,I2,H2,G2, .cells [] 35 false,F2,E2,D2,B2]) w3)))))))))) (aj (Bool.and (Nat.ble l2 l2) (Nat.ble (Nat.add 0 (Nat.mul l2 3)) k2.length)) v3 (nb_ i2 1 g2 (nb_ f2 1 e2 (nb_ d2 1 c2 (nb_ b2 1 a2 (nb_ Z2 4 Y2 (nb_ X2 3 W2 (nb_ V2 1 U2 (nb_ y0 3 T2 (nb_ H0 3 S2 (ae (C4 j0 [.cells [i0,R2,E0,D0,B0,A0,z1,y1, .slice (some ⟨12,0,none⟩) l2 l2,x1,v1,u1,t1] 114 true,Q2,P2,O2,m1,l1, .map (eP true u3 M2) i1,lb_ u3 i2 1 g2 5,lb_ u3 f2 1 e2 5,lb_ u3 d2 1 c2 5,lb_ u3 b2 1 a2 5,lb_ u3 Z2 4 Y2 132, .cells (af true u3 k2) 35 false,lb_ u3 X2 3 W2 35,lb_ u3 V2 1 U2 3,lb_ u3 y0 3 T2 136,lb_ u3 H0 3 S2 35]) (nw_ s2 t3 (nb_ z3 3 (af true t3 y3) (some (x3,ag (gw_ s2 ot orest (aH 0 [0,1,2,3,4,5,6,112,113,114,127,128,129,130,131,126,132,133,134,135,136]) t3)))))))))))))))))))))))))))))))))));
 (nb_ y0 3 x0 (nb_ v0 1 u0 (nb_ t0 1 s0 (nb_ r0 1 q0 (nb_ o0 1 n0 (nb_ m0 4 l0 (ae (C0 j0 [.cells [i0,h0,sl_ 7 y0] 173 true,g0,lb_ f0 v0 1 u0 5,lb_ f0 t0 1 s0 5,lb_ f0 r0 1 q0 5,lb_ f0 o0 1 n0 5,lb_ f0 m0 4 l0 132,lb_ f0 y0 3 x0 136]) (aj (ltI e0 ru) h1 (aj (gtI e0 (ak d0)) h1 (aj (gtI e0 0) (ae (inI g1 d0) (ae (Bool.and (Nat.ble (Nat.add f1 1) c0.length) (ig (.int .i64) e1)) (nb_ K0 3 I0 (nb_ a0 1 Y0 (nb_ X0 1 W0 (nb_ V0 1 U0 (nb_ T0 1 S0 (nb_ R0 4 P0 (ae c1 (nb_ d0 3 c0 (nb_ a0 1 a1 (nb_ X0 1 Z1 (nb_ V0 1 Y1 (nb_ T0 1 X1 (nb_ R0 4 W1 (nb_ O0 3 N0 (nb_ M0 1 L0 (nb_ K0 3 V1 (nb_ H0 3 G0 (ae (C1 [k0,U1,T1, .int .i64 (asI e1),S1] Q1) s3)))))))))))))))))))) (nb_ K0 3 I0 (nb_ a0 1 Y0 (nb_ X0 1 W0 (nb_ V0 1 U0 (nb_ T0 1 S0 (nb_ R0 4 P0 (ae c1 (nb_ d0 3 c0 (nb_ a0 1 a1 (nb_ X0 1 Z1 (nb_ V0 1 Y1 (nb_ T0 1 X1 (nb_ R0 4 W1 (nb_ O0 3 N0 (nb_ M0 1 L0 (nb_ K0 3 V1 (nb_ H0 3 G0 (ae (C1 [k0,U1,T1,x3,S1] Q1) s3))))))))))))))))))))))))))))):=by kernel_rfl
def StaM.shut(s:StaM)(n:Nat):StaM:={ s with log:=s.log.take n,dk:={ s.dk with steps:=s.dk.steps+1+1,d0:=eX (s.log.take n),pend:=[] },wbr:=false,wcs:=s.log.take n,wes:=gB (s.log.take n) }
def StaM.short(s:StaM)(n:Nat):StaM:={ s.shut n with tb:=tbL tb0 (s.log.take n),rest:=s.log.take n }
theorem Qb{l:List CmM}{n:Nat}(h0:0<n)(hn:n<=l.length):dL (l.take n)=(l[n-1]'(by omega)).e:=by
 have hne:l.take n≠[]:=by
  intro h;have:=congrArg List.length h;rw[List.length_take,List.length_nil]at this;omega
 have hlen:(l.take n).length=n:=by rw[List.length_take]; omega
 rw[nz hne];simp only[hlen,List.getElem_take]
theorem Dc:∀ {l:List CmM} {e x:Int} {i:Nat} (n:Nat),fD e x i l=(0,0)->fD e x i (l.take n)=(0,0)
 |[],_,_,_,n,_=>by rw[List.take_nil]; rfl
 |c::l,e,x,i,0,h=>rfl
 |c::l,e,x,i,n+1,h=>by
  obtain⟨h1,h2,h3,h4⟩:=lL h;rw[List.take_succ_cons];exact yP ⟨h1,h2,h3,Dc n h4⟩
theorem abg:∀ {l:List CmM} {x:Int} {i:Nat},fD 0 x i l=(0,0)->fD 1 x i l=(0,0)
 |[],_,_,_=>rfl
 |c::l,x,i,h=>by
  obtain⟨h1,h2,h3,h4⟩:=lL h;exact yP ⟨h1,h2,(jf.1 h1).1.1,h4⟩
theorem ac6{s:StaM}{n:Nat}(hs:StQ s 100000)(hrs:s.rs=[])(hf:fD 0 0 0 s.log=(0,0))(hn:n<=s.log.length)(hg:s.log.length<4000)(h1:(eX s.log).length<=3000000)(hso:kW s.held s.pg (n:Int) (dL (s.log.take n)) 0=true) :
  CRX P 7 148 [p0, .int .i64 (n:Int)] (stB s) (.int .i64 0) (stG (s.short n) s.tb s.rest):=by
 have hall:∀ c∈s.log,cmE c=0:=Fol.all (L:=[]) ⟨hf⟩;have hr0:h_ s.rs=0:=by rw[hrs]; rfl
 have q0:=xq (r:=s.rn) hs.sr.r;have hr0':h_ s.rn.rs=0:=hr0;rw[hr0']at q0;have q1:=F9 (s:=s) hs.sr.tb (p:=s.pg) (en:=(n:Int)) (ep:=dL (s.log.take n)) (ru:=0);rw[hso]at q1;have q2:=aaH (d:=s.dk) (cs:=s.log) (n:=n) hs.dk hs.pend hn hg hs.d0 h1;have q3:=Vy (d:=s.dk) (cs:=s.log) (n:=n) hs.dk hs.d0 h1;have q4:=Zc (s:=s.shut n) hs.sr.tb hrs (by show(s.log.take n).length<_; rw[List.length_take]; omega) (abg (Dc n hf)) fun c hc=>hall c (List.mem_of_mem_take hc);have q:=YO (aV [p0] (rnB s.rn)) (aV [p0,pgV s.pg, .int .i64 (n:Int), .int .i64 (dL (s.log.take n)), .int .i64 0] (stB s)) (aV [p0, .int .i64 (n:Int)] (cZ ⟨s.dk,false,s.log,gB s.log⟩))
  (aV [p0] (cZ ⟨{ s.dk with steps:=s.dk.steps+1,pend:=[⟨1,0,[],((eX (s.log.take n)).length:Int)⟩] },false,s.log.take n,gB (s.log.take n)⟩)) (aV [p0] (stB (s.shut n))) 0 s ⟨{ s.dk with steps:=s.dk.steps+1,pend:=[⟨1,0,[],((eX (s.log.take n)).length:Int)⟩] },false,s.log.take n,gB (s.log.take n)⟩
  ⟨{ s.dk with steps:=s.dk.steps+1+1,d0:=eX (s.log.take n),pend:=[] },false,s.log.take n,gB (s.log.take n)⟩ (s.short n) s.tb s.rest n
 rw[xA hs.off hs.dk.off]at q;refine CRX.ofG (pol:=au) (fl:=[]) (ts:=[]) (n:=50) (bf _) aA (ah (pol:=au) (ah (pol:=au) (ah (pol:=au) (ah (pol:=au) (ah (pol:=au) aW (aZ q4)) (aZ q3)) (aZ q2)) (aZ q1)) (aZ q0)) (q.trans ?_);clear q q0 q1 q2 q3 q4;have hoff:=hs.off;have hdo:=hs.dk.off;have hwb:=hs.wbr;have hwc:=hs.wcs;have hwe:=hs.wes;have ht:=hs.sr.tb.ren;have ht2:=(tq.log (s.log.take n)).ren;have c1:ltI ((n:Nat):Int) 0=false:=by unfold ltI; exact decide_eq_false (by omega)
 have c2:gtI ((n:Nat):Int) (ak s.log.length)=false:=by unfold gtI ak; exact decide_eq_false (by omega)
 have g2:eF 0 ((n:Nat):Int) n=true:=o6 (Nat.le_refl n);have g3:eF 0 ((n:Nat):Int) s.log.length=true:=o6 hn;have g4:Nat.div (Nat.sub (Nat.mul s.log.length 3) 0) 3=s.log.length:=by show(s.log.length*3-0) / 3=_; omega
 have g6:fZ 0 ((n:Nat):Int)=n:=by unfold fZ; omega
 have g7:Nat.ble (Nat.succ n) 18446744073709551616=true:=Nat.ble_eq_true_of_le (by omega);have g8:Nat.beq n 18446744073709551616=false:=by
  cases h:Nat.beq n 18446744073709551616 with
  |false=>rfl
  |true=>have:=Nat.eq_of_beq_eq_true h; omega
 have g9:Nat.ble 18446744073709551616 n=false:=by
  cases h:Nat.ble 18446744073709551616 n with
  |false=>rfl
  |true=>have:=Nat.le_of_ble_eq_true h; omega
 have b1:Nat.ble n n=true:=Nat.ble_eq_true_of_le (Nat.le_refl n);have b2:Nat.ble n s.log.length=true:=Nat.ble_eq_true_of_le hn;have b3:Nat.ble (Nat.mul n 3) (Nat.mul s.log.length 3)=true:=Nat.ble_eq_true_of_le (Nat.mul_le_mul_right 3 hn);have t3:(s.log.take n).length=n:=by rw[List.length_take]; omega
 have t1:(gB s.log).length=s.log.length:=tX _;have t4:(gB (s.log.take n)).length=n:=by rw[tX,t3]
 have z1:neI 0 0=false:=rfl;have z2:eqI 0 6=false:=rfl;have z3:eqI 0 0=true:=rfl;by_cases h0:n=0
 ·subst h0;have c3:gtI (((0:Nat)):Int) 0=false:=rfl;have e1:dL (s.log.take 0)=0:=rfl;simp (disch:=first | omega | (simp only[List.length_append,List.length_drop,List.length_take,List.length_singleton,Nat.add_eq,bJ]<;>omega) | fail) only[dk_,gw_,lb_,nb_,nw_,pg_,pt_,sl_,hoff,hdo,hwb,hwc,hwe,ht,ht2,c1,c2,c3,e1,g2,g3,g4,g6,g7,g8,g9,b1,b2,b3,t1,t3,t4,z1,z2,z3,xw,zF,kG,dn,pgV,iI,kF,StaM.wal,StaM.rn,StaM.shut,StaM.short,stB,stG,pgC,cZ,rnB,srB,tbB,dkL,List.cons_append,List.nil_append,List.append_assoc,dN,aT,dP,lsV,ptV,p0,aN,dkC,bn,fzCms,cmV,di,bG,az,dG,dn,dR,dE,dF,dD,dw,dC,dB,dQ,dA,aB,aK,aP,Enc.all_ren,aB rfl,aK rfl,aP rfl,aT rfl,aB t3.symm,aK t4.symm,aQ,bH,bz,bu,bg,ax,aX,bD,Int.toNat_natCast,aY,aO,bF,bU,dH,bP,bW,dK,Bool.and_self,aG,aF,ay]
 ·have c3:gtI ((n:Nat):Int) 0=true:=by unfold gtI; exact decide_eq_true (by omega)
  have m1:eU .i64 ((n:Nat):Int) 1=((n-1:Nat):Int):=by unfold eU; rw[wrap64 (by omega) (by omega)]; omega
  have m2:inI ((n-1:Nat):Int) s.log.length=true:=jF (by omega) (by omega);have m4:=k_ (l:=s.log) (i:=n-1) (by omega);have m4':bT (ECm.all s.log) (Nat.add (atN ((n-1:Nat):Int) 3) 0) = .int .i64 (s.log[n-1]'(by omega)).e:=m4;have m5:Nat.ble (Nat.add (atN ((n-1:Nat):Int) 3) 1) (Nat.mul s.log.length 3)=true:=lw (by omega) (by decide);have e1:=Qb (l:=s.log) (n:=n) (by omega) hn;simp (disch:=first | omega | (simp only[List.length_append,List.length_drop,List.length_take,List.length_singleton,Nat.add_eq,bJ]<;>omega) | fail) only[dk_,gw_,lb_,nb_,nw_,pg_,pt_,sl_,hoff,hdo,hwb,hwc,hwe,ht,ht2,c1,c2,c3,e1,m1,m2,m4,m4',m5,g2,g3,g4,g6,g7,g8,g9,b1,b2,b3,t1,t3,t4,z1,z2,z3,xw,zF,kG,dn,pgV,iI,kF,StaM.wal,StaM.rn,StaM.shut,StaM.short,stB,stG,pgC,cZ,rnB,srB,tbB,dkL,List.cons_append,List.nil_append,List.append_assoc,dN,aT,dP,lsV,ptV,p0,aN,dkC,bn,fzCms,cmV,di,bG,az,dG,dn,dR,dE,dF,dD,dw,dC,dB,dQ,dA,aB,aK,aP,Enc.all_ren,aB rfl,aK rfl,aP rfl,aT rfl,aB t3.symm,aK t4.symm,aQ,bH,bz,bu,bg,ax,aX,bD,Int.toNat_natCast,aY,aO,bF,bU,dH,bP,bW,dK,Bool.and_self,aG,aF,ay]
theorem DkC.mono{d:DkM}{k K:Nat}(h:DkC d K)(hk:k<=K):DkC d k:=⟨h.off,h.fused,h.fuse,h.steps.1,by have:=h.steps.2; omega⟩
theorem StQ.mono{s:StaM}{k K:Nat}(h:StQ s K)(hk:k<=K):StQ s k:=⟨h.off,h.dk.mono hk,h.pend,h.wbr,h.wcs,h.wes,h.sr,h.d0⟩
theorem zS{a l:List CmM}(h:l≠[]):dL (a++l)=dL l:=by
 rcases List.eq_nil_or_concat l with rfl | ⟨t,c,rfl⟩
 ·exact absurd rfl h
 ·rw[List.concat_eq_append,<-List.append_assoc,tK,tK]
theorem abo{s:StaM}{l:List CmM}{k K:Nat}(hs:StQ s (K+20000))(hk:k<=17*l.length)(hl:l.length<=1000):StQ (s.added k l) K:=by
 obtain⟨h1,h2,h3,h4,h5,h6,h7,h8⟩:=hs;have hst:=h2.steps;refine⟨h1,⟨h2.off,h2.fused,h2.fuse,?_,?_⟩,rfl,rfl,rfl,rfl,⟨h7.tb.log l,?_,?_,h7.r,h7.r0⟩,?_⟩
 ·show 0<=s.dk.steps+(k:Int)+1; omega
 ·show s.dk.steps+(k:Int)+1+(K:Int)<_; omega
 ·show((s.log++l).length:Int)=h_ s.rs+((s.rest++l).length:Int);have:=h7.n;rw[List.length_append,List.length_append]; omega
 ·show s.rest++l=[]\/dL (s.rest++l)=dL (s.log++l);by_cases hn:l=[]
  ·subst hn; rw[List.append_nil,List.append_nil]; exact h7.e
  ·right; rw[zS hn,zS hn]
 ·show s.dk.d0++eX l=eX (s.log++l);rw[h8,sJ]
theorem Az{s:StaM}{p:PgM}{k K:Nat}(hs:StQ s (K+20000))(hk:k<=2):StQ (s.paged k p) K:=by
 obtain⟨h1,h2,h3,h4,h5,h6,h7,h8⟩:=hs;have hst:=h2.steps;refine⟨h1,⟨h2.off,h2.fused,h2.fuse,?_,?_⟩,rfl,h4,h5,h6,⟨h7.tb,h7.n,h7.e,h7.r,h7.r0⟩,h8⟩
 ·show 0<=s.dk.steps+(k:Int)+1; omega
 ·show s.dk.steps+(k:Int)+1+(K:Int)<_; omega
theorem Px{s:StaM}{n K:Nat}(hs:StQ s (K+20000))(hrs:s.rs=[]):StQ (s.short n) K:=by
 obtain⟨h1,h2,h3,h4,h5,h6,h7,h8⟩:=hs;have hst:=h2.steps;refine⟨h1,⟨h2.off,h2.fused,h2.fuse,?_,?_⟩,rfl,rfl,rfl,rfl,⟨tq.log _,?_,Or.inr rfl,h7.r,h7.r0⟩,rfl⟩
 ·show 0<=s.dk.steps+1+1; omega
 ·show s.dk.steps+1+1+(K:Int)<_; omega
 ·show((s.log.take n).length:Int)=h_ s.rs+((s.log.take n).length:Int);rw[hrs]; show _=(0:Int)+_; omega
def StaM.filed(s:StaM)(k:Nat)(b:List UInt8)(h:Int):StaM:={ s with held:=h,dk:={ s.dk with d3:=s.dk.d3++b,steps:=s.dk.steps+(k:Int)+1,pend:=[] } }
theorem Zi{s:StaM}{b:List UInt8}{h:Int}{k K:Nat}(hs:StQ s (K+20000))(hk:k<=10000):StQ (s.filed k b h) K:=by
 obtain⟨h1,h2,h3,h4,h5,h6,h7,h8⟩:=hs;have hst:=h2.steps;refine⟨h1,⟨h2.off,h2.fused,h2.fuse,?_,?_⟩,rfl,h4,h5,h6,⟨h7.tb,h7.n,h7.e,h7.r,h7.r0⟩,h8⟩
 ·show 0<=s.dk.steps+(k:Int)+1; omega
 ·show s.dk.steps+(k:Int)+1+(K:Int)<_; omega
theorem Ws(V:Nat->List UInt8)(C:Int->Bool)(m d:Nat)(e:List Value)(n b:Nat)(c:List Value):bM P E (nH P 123 (jh P 123 (sU V C) ctF)) 50 fJ [.val, .val] [61,0] 0 69 [aJ 1 m d e,aJ 1 n b c] [] =
 (let z0:=cvI .u64 (ak n);let y0:=HAppend.hAppend (List.map byteOf e) (V (Int.toNat z0));let x0:=Nat.add y0.length n;let w0:=af false (fQ 0) (bc y0);let v0:=List.append (jC 0 w0) c;
 (aj (gtI (ak n) 131072) (some (.tuple ⟨[.iface 18446744073709551617 (.agg ⟨[.slice none 0 0]⟩), .int .i64 3]⟩,ag [])) (ae (Bool.and (fzB 18446744073709551617 m e) (C z0)) (ae (List.all c oneCell) (ae (Nat.ble x0 4194304) (ae (Nat.beq (Nat.add 0 (Nat.mul y0.length 1)) w0.length) (ae (gV P 0 x0 18446744073709551616 v0 5) (some (.tuple ⟨[fb_ x0 0 (takeC (Nat.mul x0 1) (aU 0 v0)), .int .i64 0]⟩,ag []))))))))):=by kernel_rfl
def jB(s:SecM):Value:= .agg ⟨[.int .i64 s.e, .int .i64 s.f,fzCms s.cs]⟩
def adq(C1:List Value->List Blk->Bool)(r:Int×Nat):Ct:=aC P au 0 9 (bI C1 (.leaf (ui r,[]))) ctF
theorem YT(C1:List Value->List Blk->Bool)(r:Int×Nat)(s:SecM):bM P E (adq C1 r) 50 au [.val] [0] 0 110 [jB s] [] =
 (let z0:=ag [];let y0:=some (Value.int .i64 2,z0);let x0:=s.cs.length;let w0:=Enc.all ECm s.cs;let v0:=Prod.fst r;let u0:=eU .i64 (ak x0) 1;let t0:=Nat.add (atN u0 3) 0;let s0:=bT w0 t0;
 (aj (ltI s.e 1) y0 (aj (gtI s.e 1048576) y0 (aj (ltI s.f 0) y0 (aj (eqI (ak x0) 0) y0 (ae (C1 [.int .i64 1, .int .i64 s.f,fa_ x0 0 w0] []) (aj (neI v0 0) (some (.int .i64 v0,z0)) (ae (Bool.and (Nat.beq 3 3) (inI u0 x0)) (ae (Bool.and (Nat.ble (Nat.add t0 1) w0.length) (ig (.int .i64) s0)) (aj (geI (asI s0) s.e) (some (.int .i64 15,z0)) (some (.int .i64 0,z0)))))))))))):=by kernel_rfl
def Doe:HeadX:=⟨0,64,[2,3,8,9,41,42,43],[.val, .val, .val, .val, .val, .val, .val],[61,0,61,0,22,0,0],au⟩
def Boe:Code:=(dZ P 171 2).getD .skip
theorem RN:dZ P 171 2=some Boe:=by kernel_rfl
theorem Nq:Occ P 171 (.block 2 (.loop Boe)):=fM RN
def oeV(b:List UInt8)(l:List CmM)(i:Int):List Value:=[aJ 1 0 0 [], .int .i64 0,aJ 1 b.length 0 (bc b), .int .i64 0,fzCms l, .int .i64 (ak l.length), .int .i64 i]
def Wy(C1 C2:List Value->List Blk->Bool)(x f:List UInt8):Ct:=aC P au 0 126 (bI C1 (.leaf (.tuple ⟨[aJ 1 x.length 0 (bc x), .int .i64 0]⟩,[]))) (aC P au 0 69 (bI C2 (.leaf (.tuple ⟨[aJ 1 f.length 0 (bc f), .int .i64 0]⟩,[]))) ctF)
theorem TD(C1 C2:List Value->List Blk->Bool)(x f b:List UInt8)(l:List CmM)(i:Int):bV P E (Wy C1 C2 x f) 50 171 Boe Doe (oeV b l i) [] =
 (let z0:=l.length;let y0:=atN i 3;let x0:=Enc.all ECm l;let w0:=Eta.int .i64;let v0:=Nat.add y0 1;let u0:=bT x0 (Nat.add v0 1);let t0:=fb_ b.length 0 (bc b);let s0:=Value.int .i64 0;let r0:=Value.iface 18446744073709551617 (.agg ⟨[.slice none 0 0]⟩);let q0:=fa_ z0 0 x0;let p0:=Value.int .i64 (ak z0);
 (aj (ltI i (ak z0)) (ae (Bool.and (Nat.beq 3 3) (inI i z0)) (ae (Bool.and (Nat.ble (Nat.add y0 3) x0.length) (jw [w0,w0, .slice 3] x0 y0)) (ae (C1 [.agg ⟨[.int .i64 (asI (bT x0 y0)), .int .i64 (asI (bT x0 v0)),fa_ (zN u0) (zB u0) (zC u0)]⟩] []) (ae (C2 [t0,fb_ x.length 0 (bc x)] []) (some (.tuple ⟨[s0,r0,s0,fb_ f.length 0 (bc f),s0,q0,p0, .int .i64 (dI .i64 i 1)]⟩,ag [])))))) (some (.tuple ⟨[.int .i64 3,r0,s0,t0,s0,q0,p0, .int .i64 i]⟩,ag [])))):=by kernel_rfl
def adn(C1 C2 C3:List Value->List Blk->Bool)(V:Nat->List UInt8)(C:Int->Bool)(f g:List UInt8)(l:List CmM):Ct:=aC P au 0 110 (bI C1 (.leaf (.int .i64 0,[]))) (aC P au 0 69 (bI C2 (.leaf (.tuple ⟨[aJ 1 f.length 0 (bc f), .int .i64 0]⟩,[]))) (fP P 171 2 Doe (jd C3 (.leaf (.normal,oeV g l (ak l.length),[]))) (nH P 123 (jh P 123 (sU V C) ctF))))
theorem Zv(C1 C2 C3:List Value->List Blk->Bool)(V:Nat->List UInt8)(C:Int->Bool)(f g:List UInt8)(s:SecM):bM P E (adn C1 C2 C3 V C f g s.cs) 50 au [.val, .val] [61,0] 0 171 [jB s] [] =
 (let z0:=s.cs.length;let y0:=fa_ z0 0 (Enc.all ECm s.cs);let x0:=cvI .u64 s.e;let w0:=HAppend.hAppend [] (V (Int.toNat x0));let v0:=w0.length;let u0:=af false (fQ 1) (bc w0);let t0:=takeC (Nat.mul v0 1) (aU 0 u0);let s0:=cvI .u64 s.f;let r0:=HAppend.hAppend (List.map byteOf t0) (V (Int.toNat s0));
 let q0:=r0.length;let p0:=af false (fQ 2) (bc r0);let o0:=takeC (Nat.mul q0 1) (aU 0 p0);let n0:=cvI .u64 (ak z0);let m0:=HAppend.hAppend (List.map byteOf o0) (V (Int.toNat n0));let l0:=m0.length;let k0:=af false (fQ 3) (bc m0);let j0:=Value.iface 18446744073709551617 (.agg ⟨[.slice none 0 0]⟩);
 let i0:=Value.int .i64 0;
 (ae (C1 [.agg ⟨[.int .i64 s.e, .int .i64 s.f,y0]⟩] []) (ae (Bool.and (fzB 18446744073709551617 0 []) (C x0)) (ae (gV P 0 v0 18446744073709551616 u0 5) (ae (Bool.and (fzB 18446744073709551617 v0 t0) (C s0)) (ae (gV P 0 q0 18446744073709551616 p0 5) (ae (Bool.and (fzB 18446744073709551617 q0 o0) (C n0)) (ae (gV P 0 l0 18446744073709551616 k0 5) (ae (C2 [j0,fb_ l0 0 (takeC (Nat.mul l0 1) (aU 0 k0))] []) (ae (C3 [j0,i0,fb_ f.length 0 (bc f),i0,y0, .int .i64 (ak z0),i0] []) (some (.tuple ⟨[fb_ g.length 0 (bc g),i0]⟩,ag [])))))))))))):=by kernel_rfl
theorem VP{b r:List UInt8}(h:r.length<=131072)(hb:b.length<=3000000):CRX P 0 69 [aJ 1 b.length 0 (bc b),aJ 1 r.length 0 (bc r)] [] (.tuple ⟨[aJ 1 (b++frM r).length 0 (bc (b++frM r)), .int .i64 0]⟩) []:=by
 refine CRX.of (pol:=fJ) (fl:=[.val, .val]) (ts:=[61,0]) (n:=50) (bf _) aA (mg (g:=123) (iG aW t_)) ((Ws bK lJ b.length 0 (bc b) r.length 0 (bc r)).trans ?_);have g1:gtI (ak r.length) 131072=false:=by unfold gtI ak; exact decide_eq_false (by omega)
 have d1:=eY (n:=r.length);have c1:cvI .u64 (ak r.length)=(r.length:Int):=iU (by omega);have u1:lJ (r.length:Int)=true:=jF (by omega) (by omega);have z:fzB 18446744073709551617 b.length (bc b)=true:=by rw[<-fz1]; exact xf rfl (by omega)
 have e1:b++bK r.length++r=b++frM r:=by rw[List.append_assoc]; rfl
 have hl:(b++bK r.length).length=b.length+(bK r.length).length:=List.length_append;have e2:Nat.add (b++bK r.length).length r.length=(b++frM r).length:=by rw[<-e1]; exact List.length_append.symm
 have e3:Nat.ble (b++frM r).length 4194304=true:=Nat.ble_eq_true_of_le (by rw[<-e1,List.length_append,hl]; omega);simp (disch:=first | omega | (simp only[List.length_append,List.length_drop,List.length_take,List.length_singleton,Nat.add_eq,bJ]<;>omega) | fail) only[fb_,g1,c1,u1,z,e1,e2,e3,di,aQ,bH,bz,bu,bg,ax,aX,bD,Int.toNat_natCast,aY,aO,bF,bU,dH,bP,bW,dK,Bool.and_self,aG,aF,ay]
theorem ZU{s:SecM}(hl:s.cs.length<4000)(ho:∀ c∈s.cs,c.ops.length<4194304):CRX P 0 110 [jB s] [] (.int .i64 (pO s)) []:=by
 have q1:=mX (e:=1) (n:=s.f) (l:=s.cs) (by omega) ho;refine CRX.of (pol:=au) (fl:=[.val]) (ts:=[0]) (n:=50) (bf _) aA (ah (pol:=au) aW (aZ q1)) ((YT (aV [.int .i64 1, .int .i64 s.f,fzCms s.cs] []) (fD 1 s.f 0 s.cs) s).trans ?_);clear q1;unfold pO;generalize fD 1 s.f 0 s.cs=r;by_cases h1:s.e<1
 ·have w:(within s.e 1 1048576&&decide (0<=s.f)&&!s.cs.isEmpty)=false:=by unfold within; rw[decide_eq_false (by omega:¬1<=s.e)]; rfl
  have g1:ltI s.e 1=true:=by unfold ltI; exact decide_eq_true h1
  simp only[fa_,w,g1,aQ,bH,bz,bu,bg,ax,aX,bD,Int.toNat_natCast,aY,aO,bF,bU,dH,bP,bW,dK,Bool.and_self,aG,aF,ay]
 ·have g1:ltI s.e 1=false:=by unfold ltI; exact decide_eq_false h1
  by_cases h2:s.e>1048576
  ·have w:(within s.e 1 1048576&&decide (0<=s.f)&&!s.cs.isEmpty)=false:=by unfold within; rw[decide_eq_false (by omega:¬s.e<=1048576),Bool.and_false]; rfl
   have g2:gtI s.e 1048576=true:=by unfold gtI; exact decide_eq_true (by omega)
   simp only[fa_,w,g1,g2,aQ,bH,bz,bu,bg,ax,aX,bD,Int.toNat_natCast,aY,aO,bF,bU,dH,bP,bW,dK,Bool.and_self,aG,aF,ay]
  ·have g2:gtI s.e 1048576=false:=by unfold gtI; exact decide_eq_false (by omega)
   by_cases h3:s.f<0
   ·have w:(within s.e 1 1048576&&decide (0<=s.f)&&!s.cs.isEmpty)=false:=by rw[decide_eq_false (by omega:¬0<=s.f),Bool.and_false]; rfl
    have g3:ltI s.f 0=true:=by unfold ltI; exact decide_eq_true h3
    simp only[fa_,w,g1,g2,g3,aQ,bH,bz,bu,bg,ax,aX,bD,Int.toNat_natCast,aY,aO,bF,bU,dH,bP,bW,dK,Bool.and_self,aG,aF,ay]
   ·have g3:ltI s.f 0=false:=by unfold ltI; exact decide_eq_false h3
    by_cases h4:s.cs=[]
    ·have w:(within s.e 1 1048576&&decide (0<=s.f)&&!s.cs.isEmpty)=false:=by rw[h4]; simp
     have g4:eqI (ak s.cs.length) 0=true:=by rw[h4]; rfl
     simp only[fa_,w,g1,g2,g3,g4,aQ,bH,bz,bu,bg,ax,aX,bD,Int.toNat_natCast,aY,aO,bF,bU,dH,bP,bW,dK,Bool.and_self,aG,aF,ay]
    ·have w:(within s.e 1 1048576&&decide (0<=s.f)&&!s.cs.isEmpty)=true:=by
      unfold within;rw[decide_eq_true (by omega:1<=s.e),decide_eq_true (by omega:s.e<=1048576),decide_eq_true (by omega:0<=s.f)];cases hc:s.cs with
      |nil=>exact absurd hc h4
      |cons c l=>rfl
     obtain⟨g4,_,l1,l2⟩:=kz h4 (by omega);have hp:=List.length_pos_iff.2 h4;have l4:bT (ECm.all s.cs) (Nat.add (atN ((s.cs.length-1:Nat):Int) 3) 0) = .int .i64 (s.cs[s.cs.length-1]'(by omega)).e:=k_ (l:=s.cs) (i:=s.cs.length-1) (by omega);have l5:=mD (n:=s.cs.length) (k:=1) hp (by decide);have l5':Nat.ble (Nat.add (Nat.add (atN ((s.cs.length-1:Nat):Int) 3) 0) 1) (Nat.mul s.cs.length 3)=true:=l5;have l6:=nz h4;simp only[fa_,w,g1,g2,g3,g4,l1,l2,l4,l5,l5',l6,iI,kF,show Nat.beq 3 3=true from rfl,cZ,rnB,srB,tbB,dkL,List.cons_append,List.nil_append,List.append_assoc,dN,aT,dP,lsV,ptV,p0,aN,dkC,bn,fzCms,cmV,di,bG,az,dG,dn,dR,dE,dF,dD,dw,dC,dB,dQ,dA,aB,aK,aP,Enc.all_ren,aQ,bH,bz,bu,bg,ax,aX,bD,Int.toNat_natCast,aY,aO,bF,bU,dH,bP,bW,dK,Bool.and_self,aG,aF,ay];cases hr:eqI r.1 0 with
     |true=>
      have hn:neI r.1 0=false:=by unfold neI; unfold eqI at hr; simpa using hr
      simp only[fa_,hn,aF];cases geI (s.cs[s.cs.length-1]'(by omega)).e s.e<;>rfl
     |false=>
      have hn:neI r.1 0=true:=by unfold neI; unfold eqI at hr; simpa using hr
      simp only[fa_,hn,aG]
theorem WW{b:List UInt8}{l:List CmM}{i:Nat}(hi:i<l.length)(hl:l.length<4000) :
  bV P E (Wy (aV [cmV l[i]] []) (aV [aJ 1 b.length 0 (bc b),aJ 1 (gp l[i]).length 0 (bc (gp l[i]))] []) (gp l[i]) (b++frC l[i])) 50 171 Boe Doe (oeV b l i) []=some (.tuple ⟨exV .normal::oeV (b++frC l[i]) l ((i+1:Nat):Int)⟩,ag []):=by
 obtain⟨g1,g2,a1⟩:=nU hi (by omega);have g4:=ni hi;rw[TD];simp (disch:=first | omega | (simp only[List.length_append,List.length_drop,List.length_take,List.length_singleton,Nat.add_eq,bJ]<;>omega) | fail) only[fa_,fb_,g1,g2,a1,g4,lw hi (Nat.le_refl 3),k_ hi,vP hi,uh hi,iI,(zF _ _ _).1,(zF _ _ _).2.1,(zF _ _ _).2.2,show Nat.beq 3 3=true from rfl,oeV,cZ,rnB,srB,tbB,dkL,List.cons_append,List.nil_append,List.append_assoc,dN,aT,dP,lsV,ptV,p0,aN,dkC,bn,fzCms,cmV,di,bG,az,dG,dn,dR,dE,dF,dD,dw,dC,dB,dQ,dA,aB,aK,aP,Enc.all_ren,aQ,bH,bz,bu,bg,ax,aX,bD,Int.toNat_natCast,aY,aO,bF,bU,dH,bP,bW,dK,Bool.and_self,aG,aF,ay]
 rfl
theorem abU{C1 C2:List Value->List Blk->Bool}{x f b:List UInt8}{l:List CmM}:bV P E (Wy C1 C2 x f) 50 171 Boe Doe (oeV b l l.length) []=some (.tuple ⟨exV (.exit 2)::oeV b l l.length⟩,ag []):=by
 rw[TD];simp only[fa_,fb_,lZ,oeV,cZ,rnB,srB,tbB,dkL,List.cons_append,List.nil_append,List.append_assoc,dN,aT,dP,lsV,ptV,p0,aN,dkC,bn,fzCms,cmV,di,bG,az,dG,dn,dR,dE,dF,dD,dw,dC,dB,dQ,dA,aB,aK,aP,Enc.all_ren,aQ,bH,bz,bu,bg,ax,aX,bD,Int.toNat_natCast,aY,aO,bF,bU,dH,bP,bW,dK,Bool.and_self,aG,aF,ay]
 rfl
theorem OJ{l:List CmM}(hl:l.length<1000)(hc:∀ c∈l,cmE c=0):∀ (j i:Nat) (b:List UInt8),b.length<=100+1035*i->i+j=l.length->
  LRX P 171 2 Boe Doe.head (oeV b l i) [] .normal (oeV (b++eX (l.drop i)) l l.length) []
 |0,i,b,hb,h=>by
  obtain rfl:i=l.length:=by omega
  rw[List.drop_length];have e:b++eX []=b:=by simp[eX]
  rw[e];exact LRX.stop (n:=50) (bf _) aA (ah (pol:=au) (ah (pol:=au) aW (gm (r:= .leaf (.tuple ⟨[aJ 1 b.length 0 (bc b), .int .i64 0]⟩,[])))) (gm (r:= .leaf (.tuple ⟨[aJ 1 b.length 0 (bc b), .int .i64 0]⟩,[])))) Nq (e:= .exit 2) (abU (C1:=fun _ _=>false) (C2:=fun _ _=>false) (x:=b) (f:=b)) (by intro h; cases h)
 |j+1,i,b,hb,h=>by
  have hi:i<l.length:=by omega
  have hce:=hc _ (List.getElem_mem hi);have hfl:=Ar hce;have hel:=yh hce;have ih:=OJ hl hc j (i+1) (b++frC l[i]) (by rw[List.length_append]; omega) (by omega);rw[List.append_assoc,<-Jq l hi]at ih;exact LRX.again (n:=50) (bf _) aA (ah (pol:=au) (ah (pol:=au) aW (aZ (VP (b:=b) (r:=gp l[i]) (by omega) (by omega)))) (aZ (Nb hce))) Nq (WW hi (by omega)) ih
theorem Po(s:SecM):encS s=frM (headB s)++eX s.cs:=rfl
theorem G6(s:SecM):(headB s).length<=33:=by
 have d1:=eY (n:=s.e.toNat);have d2:=eY (n:=s.f.toNat);have d3:=eY (n:=s.cs.length);unfold headB;rw[List.length_append,List.length_append];omega
theorem FB{s:SecM}(h:pO s=0):(1<=s.e/\s.e<=1048576)/\0<=s.f/\s.cs≠[]/\fD 1 s.f 0 s.cs=(0,0):=by
 unfold pO at h;cases w:(within s.e 1 1048576&&decide (0<=s.f)&&!s.cs.isEmpty)with
 |false=>rw[w]at h; cases h
 |true=>
  rw[w]at h;simp only at h;cases hr:eqI (fD 1 s.f 0 s.cs).1 0 with
  |false=>rw[hr]at h; have h:(fD 1 s.f 0 s.cs).1=0:=h; rw[h]at hr; cases hr
  |true=>
   rw[Bool.and_eq_true,Bool.and_eq_true]at w;obtain⟨⟨w1,w2⟩,w3⟩:=w;refine⟨within_iff.1 w1,of_decide_eq_true w2,?_,xN _ _ _ _ (by simpa [eqI]using hr)⟩;intro hn;rw[hn]at w3;cases w3
theorem kS:∀ {l:List CmM} {e n:Int} {i:Nat},fD e n i l=(0,0)->∀ c∈l,cmE c=0
 |[],_,_,_,_=>fun c hc=>by cases hc
 |c::l,e,n,i,h=>by
  obtain⟨h1,_,_,h4⟩:=lL h;intro x hx;rcases List.mem_cons.1 hx with rfl | hx
  ·exact h1
  ·exact kS h4 x hx
theorem Ph{s:SecM}(h:pO s=0)(hl:s.cs.length<1000)(hf:s.f<=1048576):CRX P 0 171 [jB s] [] (.tuple ⟨[aJ 1 (encS s).length 0 (bc (encS s)), .int .i64 0]⟩) []:=by
 obtain⟨⟨e1,e2⟩,f1,_,h4⟩:=FB h;have hc:=kS h4;have q1:=ZU (s:=s) (by omega) (by
  intro x hx;obtain⟨_,_,hb⟩:=jf.1 (hc x hx);obtain⟨b1,b2,b3⟩:=gq.1 hb
  omega)
 rw[h]at q1;have hh:=G6 s;have hfr:(frM (headB s)).length<=44:=by
  unfold frM;rw[List.length_append];have:=eY (n:=(headB s).length);omega
 have q2:=Fg (r:=headB s) (by omega);have q3:=OJ hl hc s.cs.length 0 (frM (headB s)) (by omega) (by omega);rw[List.drop_zero,<-Po]at q3;have d1:=eY (n:=s.e.toNat);have d2:=eY (n:=s.f.toNat);have d3:=eY (n:=s.cs.length);refine CRX.of (pol:=au) (fl:=[.val, .val]) (ts:=[61,0]) (n:=50) (bf _) aA (ah (pol:=au) (ah (pol:=au) (eu (mg (g:=123) (iG aW t_)) (fU (d_ RN) q3)) (aZ q2)) (aZ q1)) ((Zv (aV [jB s] []) (aV [aJ 1 0 0 [],aJ 1 (headB s).length 0 (bc (headB s))] []) (aV (oeV (frM (headB s)) s.cs (0:Nat)) []) bK lJ (frM (headB s)) (encS s) s).trans ?_);clear q1 q2 q3;have uu:∀ n:Nat,n<=1073741824->lJ (n:Int)=true:=fun n hn=>jF (by omega) (by omega);have u1:=uu s.e.toNat (by omega);have u2:=uu s.f.toNat (by omega);have u3:=uu s.cs.length (by omega);have c3:cvI .u64 (ak s.cs.length)=(s.cs.length:Int):=iU (by omega);have z:fzB 18446744073709551617 0 []=true:=by rw[<-fz1]; exact xf (l:=[]) rfl (by simp)
 have hb:bK s.e.toNat++bK s.f.toNat++bK s.cs.length=headB s:=by unfold headB; rw[List.append_assoc]
 have z0:((0:Nat):Int)=0:=rfl;simp (disch:=first | omega | (simp only[List.length_append,List.length_drop,List.length_take,List.length_singleton,Nat.add_eq,bJ]<;>omega) | fail) only[fa_,fb_,cvN (x:=s.e) ⟨by omega,by omega⟩,cvN (x:=s.f) ⟨by omega,by omega⟩,c3,u1,u2,u3,z,hb,z0,List.nil_append,jB,oeV,fzCms,bG,az,di,aQ,bH,bz,bu,bg,ax,aX,bD,Int.toNat_natCast,aY,aO,bF,bU,dH,bP,bW,dK,Bool.and_self,aG,aF,ay]
theorem Xz:bM P E ctF 50 au [.val, .val] [58,0] 0 21 [aJ 1 0 0 []] [] =
 (some (Value.tuple ⟨[.iface 18446744073709551619 (.agg ⟨[.slice none 0 0]⟩), .int .i64 0]⟩,ag [])):=by kernel_rfl
def adK(C1 C2:List Value->List Blk->Bool)(d:DkM):Ct:=aC P au 1 60 (bI C1 (.leaf (.tuple ⟨[aJ 1 0 0 [], .int .i64 0]⟩,aN d))) (aC P au 0 21 (bI C2 (.leaf (.tuple ⟨[aJ 3 0 0 [], .int .i64 0]⟩,[]))) ctF)
theorem abk(C1 C2:List Value->List Blk->Bool)(s:StaM)(x:SecM):bM P E (adK C1 C2 s.dk) 50 au [] [] 7 172 [p0, .int .i64 0,jB x] (stB s) =
 (let z0:=s.dk;let y0:=z0.d0.length;let x0:=bc z0.d0;let w0:=z0.d1.length;let v0:=bc z0.d1;let u0:=z0.d2.length;let t0:=bc z0.d2;let s0:=z0.d3.length;let r0:=bc z0.d3;let q0:=z0.pend.length;let o0:=Enc.all ESt z0.pend;let n0:=aH 0 [1,18,19,20,21,22];let m0:=s.pg;let l0:=s.log.length;
 let k0:=Enc.all ECm s.log;let j0:=bC [1] 23;let i0:=af true j0 x0;let h0:=af true j0 v0;let g0:=af true j0 t0;let f0:=af true j0 r0;let e0:=af true j0 o0;let d0:=s.wcs.length;let c0:=Enc.all ECm s.wcs;let b0:=s.wes.length;let a0:=Enc.all EIn s.wes;let Z0:=s.rs.length;let Y0:=Enc.all iC s.rs;
 let X0:=s.rest.length;let W0:=Enc.all ECm s.rest;let V0:=pt_ 1;let U0:=aH 0 [0,1,2,3,4,5,6,49,50,51,52,53,48,54,55,56,57];let T0:=ag [.cells [V0, .bool s.off, .int .i64 m0.ep, .int .u8 m0.ro, .int .i64 m0.ac, .int .u8 m0.ph, .int .i64 m0.fo, .int .i64 m0.ba,sl_ 12 l0,pt_ 2,pt_ 3,pt_ 4, .int .i64 s.held] 114 true,dk_ z0 7 8 9 10 11, .cells [V0, .bool s.wbr,sl_ 13 d0,sl_ 14 b0] 182 true, .cells [V0, .bool s.rbr,sl_ 15 Z0] 173 true, .cells [pt_ 5,pt_ 3,sl_ 16 X0] 185 true, .cells [.map (some 6)] 141 true, .map (eP true U0 s.tb.es) s.tb.ck,lb_ U0 y0 1 i0 5,lb_ U0 w0 1 h0 5,lb_ U0 u0 1 g0 5,lb_ U0 s0 1 f0 5,lb_ U0 q0 4 e0 132,lb_ U0 l0 3 k0 35,lb_ U0 d0 3 c0 35,lb_ U0 b0 1 a0 3,lb_ U0 Z0 3 Y0 136,lb_ U0 X0 3 W0 35];
 (nb_ y0 1 x0 (nb_ w0 1 v0 (nb_ u0 1 t0 (nb_ s0 1 r0 (nb_ q0 4 o0 (ae (C1 [pt_ 0, .int .i64 3] [dk_ z0 1 2 3 4 5,lb_ n0 y0 1 x0 5,lb_ n0 w0 1 v0 5,lb_ n0 u0 1 t0 5,lb_ n0 s0 1 r0 5,lb_ n0 q0 4 o0 132]) (ae (C2 [.iface 18446744073709551617 (.agg ⟨[.slice none 0 0]⟩)] []) (aj (ltI m0.ph 2) (nb_ l0 3 k0 (nb_ y0 1 i0 (nb_ w0 1 h0 (nb_ u0 1 g0 (nb_ s0 1 f0 (nb_ q0 4 e0 (nb_ d0 3 c0 (nb_ b0 1 a0 (nb_ Z0 3 Y0 (nb_ X0 3 W0 (some (.bool true,T0)))))))))))) (nb_ l0 3 k0 (nb_ y0 1 i0 (nb_ w0 1 h0 (nb_ u0 1 g0 (nb_ s0 1 f0 (nb_ q0 4 e0 (nb_ d0 3 c0 (nb_ b0 1 a0 (nb_ Z0 3 Y0 (nb_ X0 3 W0 (some (.bool (geI 0 m0.ba),T0))))))))))))))))))))):=by kernel_rfl
def ad6(C1 C2 C3 C4:List Value->List Blk->Bool)(b:List UInt8)(d d1 d2:DkM):Ct:=aC P au 1 60 (bI C1 (.leaf (.tuple ⟨[aJ 1 0 0 [], .int .i64 0]⟩,aN d))) (aC P au 0 171 (bI C2 (.leaf (.tuple ⟨[aJ 1 b.length 0 (bc b), .int .i64 0]⟩,[])))
 (aC P au 1 71 (bI C3 (.leaf (.int .i64 0,aN d1))) (aC P au 1 72 (bI C4 (.leaf (.int .i64 0,aN d2))) ctF)))
theorem aaR(C1 C2 C3 C4:List Value->List Blk->Bool)(b:List UInt8)(d d1 d2:DkM)(x:SecM):bM P E (ad6 C1 C2 C3 C4 b d d1 d2) 50 au [] [] 1 173 [p0, .int .i64 0,jB x] (aN d) =
 (let z0:=d.d0.length;let y0:=bc d.d0;let x0:=d.d1.length;let w0:=bc d.d1;let v0:=d.d2.length;let u0:=bc d.d2;let t0:=d.d3.length;let s0:=bc d.d3;let r0:=d.pend.length;let q0:=Enc.all ESt d.pend;let o0:=pt_ 0;let n0:=Value.int .i64 3;let m0:=dk_ d 1 2 3 4 5;let l0:=aH 0 [0,7,8,9,10,11];
 let k0:=bC [0] 12;let j0:=af true k0 y0;let i0:=af true k0 w0;let h0:=af true k0 u0;let g0:=af true k0 s0;let f0:=af true k0 q0;let e0:=aH 0 [0,17,18,19,20,21];let d0:=d1.d0.length;let c0:=bC [0] 22;let b0:=af true c0 (bc d1.d0);let a0:=d1.d1.length;let Z0:=af true c0 (bc d1.d1);
 let Y0:=d1.d2.length;let X0:=af true c0 (bc d1.d2);let W0:=d1.d3.length;let V0:=af true c0 (bc d1.d3);let U0:=d1.pend.length;let T0:=af true c0 (Enc.all ESt d1.pend);let S0:=aH 0 [0,27,28,29,30,31];let R0:=d2.d0.length;let Q0:=bC [0] 32;let P0:=af true Q0 (bc d2.d0);let O0:=d2.d1.length;
 let N0:=af true Q0 (bc d2.d1);let M0:=d2.d2.length;let L0:=af true Q0 (bc d2.d2);let K0:=d2.d3.length;let J0:=af true Q0 (bc d2.d3);let I0:=d2.pend.length;let H0:=af true Q0 (Enc.all ESt d2.pend);let G0:=aH 0 [0,37,38,39,40,41];
 (nb_ z0 1 y0 (nb_ x0 1 w0 (nb_ v0 1 u0 (nb_ t0 1 s0 (nb_ r0 4 q0 (ae (C1 [o0,n0] [m0,lb_ l0 z0 1 y0 5,lb_ l0 x0 1 w0 5,lb_ l0 v0 1 u0 5,lb_ l0 t0 1 s0 5,lb_ l0 r0 4 q0 132]) (ae (C2 [.agg ⟨[.int .i64 x.e, .int .i64 x.f,fa_ x.cs.length 0 (Enc.all ECm x.cs)]⟩] []) (nb_ z0 1 j0 (nb_ x0 1 i0 (nb_ v0 1 h0 (nb_ t0 1 g0 (nb_ r0 4 f0 (ae (C3 [o0,n0,fb_ b.length 0 (bc b)] [m0,lb_ e0 z0 1 j0 5,lb_ e0 x0 1 i0 5,lb_ e0 v0 1 h0 5,lb_ e0 t0 1 g0 5,lb_ e0 r0 4 f0 132]) (nb_ d0 1 b0 (nb_ a0 1 Z0 (nb_ Y0 1 X0 (nb_ W0 1 V0 (nb_ U0 4 T0 (ae (C4 [o0] [dk_ d1 1 2 3 4 5,lb_ S0 d0 1 b0 5,lb_ S0 a0 1 Z0 5,lb_ S0 Y0 1 X0 5,lb_ S0 W0 1 V0 5,lb_ S0 U0 4 T0 132]) (nb_ R0 1 P0 (nb_ O0 1 N0 (nb_ M0 1 L0 (nb_ K0 1 J0 (nb_ I0 4 H0 (some (.int .i64 0,ag [dk_ d2 1 2 3 4 5,lb_ G0 R0 1 P0 5,lb_ G0 O0 1 N0 5,lb_ G0 M0 1 L0 5,lb_ G0 K0 1 J0 5,lb_ G0 I0 4 H0 132]))))))))))))))))))))))))))):=by kernel_rfl
def ad3(C1 C2 C3:List Value->List Blk->Bool)(b:List UInt8)(s:StaM)(d2:DkM):Ct:=aC P au 0 171 (bI C1 (.leaf (.tuple ⟨[aJ 1 b.length 0 (bc b), .int .i64 0]⟩,[]))) (aC P au 7 172 (bI C2 (.leaf (.bool true,stB s))) (aC P au 1 173 (bI C3 (.leaf (.int .i64 0,aN d2))) ctF))
theorem YA(C1 C2 C3:List Value->List Blk->Bool)(b:List UInt8)(s:StaM)(d2:DkM)(x:SecM):bM P E (ad3 C1 C2 C3 b (okS s) d2) 50 au [] [] 7 146 [p0, .int .i64 0,jB x] (stB (okS s)) =
 (let z0:=Value.agg ⟨[.int .i64 x.e, .int .i64 x.f,fa_ x.cs.length 0 (Enc.all ECm x.cs)]⟩;let y0:=okS s;let x0:=sm_ y0 (aH 0 [0,1,2,3,4,5,6,19,20,21,22,23,18,24,25,26,27]);let w0:=Value.int .i64 0;let v0:=[pt_ 0,w0,z0];let u0:=y0.dk;let t0:=u0.d0.length;let s0:=bC [0,1,2,3,4,5,6] 28;
 let r0:=af true s0 (bc u0.d0);let q0:=u0.d1.length;let o0:=af true s0 (bc u0.d1);let n0:=u0.d2.length;let m0:=af true s0 (bc u0.d2);let l0:=u0.d3.length;let k0:=af true s0 (bc u0.d3);let j0:=u0.pend.length;let i0:=af true s0 (Enc.all ESt u0.pend);let h0:=aH 0 [1,48,49,50,51,52];
 let g0:=y0.log.length;let f0:=af true s0 (Enc.all ECm y0.log);let e0:=d2.d0.length;let d0:=bC [1] 53;let c0:=af true d0 (bc d2.d0);let b0:=d2.d1.length;let a0:=af true d0 (bc d2.d1);let Z0:=d2.d2.length;let Y0:=af true d0 (bc d2.d2);let X0:=d2.d3.length;let W0:=af true d0 (bc d2.d3);
 let V0:=d2.pend.length;let U0:=af true d0 (Enc.all ESt d2.pend);let T0:=y0.wcs.length;let S0:=af true s0 (Enc.all ECm y0.wcs);let R0:=y0.wes.length;let Q0:=af true s0 (Enc.all EIn y0.wes);let P0:=y0.rs.length;let O0:=af true s0 (Enc.all iC y0.rs);let N0:=y0.rest.length;let M0:=af true s0 (Enc.all ECm y0.rest);
 let L0:=pt_ 1;let K0:=y0.pg;let J0:=aH 0 [0,1,2,3,4,5,6,59,60,61,62,63,58,64,65,66,67];
 (ae (C1 [z0] []) (aj (gtI 0 y0.held) (ns_ y0 (some (.int .i64 2,ag x0))) (ns_ y0 (ae (C2 v0 x0) (nb_ t0 1 r0 (nb_ q0 1 o0 (nb_ n0 1 m0 (nb_ l0 1 k0 (nb_ j0 4 i0 (ae (C3 v0 [dk_ u0 1 2 3 4 5,lb_ h0 t0 1 r0 5,lb_ h0 q0 1 o0 5,lb_ h0 n0 1 m0 5,lb_ h0 l0 1 k0 5,lb_ h0 j0 4 i0 132]) (nb_ g0 3 f0 (nb_ e0 1 c0 (nb_ b0 1 a0 (nb_ Z0 1 Y0 (nb_ X0 1 W0 (nb_ V0 4 U0 (nb_ T0 3 S0 (nb_ R0 1 Q0 (nb_ P0 3 O0 (nb_ N0 3 M0 (some (w0,ag [.cells [L0, .bool (eqI 0 6), .int .i64 K0.ep, .int .u8 K0.ro, .int .i64 K0.ac, .int .u8 K0.ph, .int .i64 K0.fo, .int .i64 K0.ba,sl_ 12 g0,pt_ 2,pt_ 3,pt_ 4, .int .i64 (dI .i64 0 (ak b.length))] 114 true,dk_ d2 7 8 9 10 11, .cells [L0, .bool y0.wbr,sl_ 13 T0,sl_ 14 R0] 182 true, .cells [L0, .bool y0.rbr,sl_ 15 P0] 173 true, .cells [pt_ 5,pt_ 3,sl_ 16 N0] 185 true, .cells [.map (some 6)] 141 true, .map (eP true J0 (eP true s0 y0.tb.es)) y0.tb.ck,lb_ J0 e0 1 c0 5,lb_ J0 b0 1 a0 5,lb_ J0 Z0 1 Y0 5,lb_ J0 X0 1 W0 5,lb_ J0 V0 4 U0 132,lb_ J0 g0 3 f0 35,lb_ J0 T0 3 S0 35,lb_ J0 R0 1 Q0 3,lb_ J0 P0 3 O0 136,lb_ J0 N0 3 M0 35]))))))))))))))))))))))):=by kernel_rfl
theorem aa5(s:StaM):bM P E ctF 50 au [] [] 7 143 [p0] (stB (okS s)) =
 (let z0:=okS s;
 (ns_ z0 (some (.tuple ⟨[.int .i64 z0.held, .int .i64 0]⟩,ag (sm_ z0 (aH 0 [0,1,2,3,4,5,6,18,19,20,21,22,17,23,24,25,26])))))):=by kernel_rfl
theorem KI:CRX P 0 21 [aJ 1 0 0 []] [] (.tuple ⟨[aJ 3 0 0 [], .int .i64 0]⟩) []:=by
 refine CRX.of (pol:=au) (fl:=[.val, .val]) (ts:=[58,0]) (n:=50) (bf _) aA aW (Xz.trans ?_);rw[bG]
theorem OL{d:DkM}(h0:d.off=false)(hp:d.pend=[])(h3:d.d3=[]):CRX P 1 60 [p0, .int .i64 3] (aN d) (.tuple ⟨[aJ 1 0 0 [], .int .i64 0]⟩) (aN d):=by
 have hg:fH d 3=[]:=h3;have q:CRX P 1 60 [p0, .int .i64 3] (aN d) (.tuple ⟨[aJ 1 (nY d 3).1.length 0 (bc (nY d 3).1), .int .i64 (nY d 3).2]⟩) (aN d):=
  aaA.at (s:=⟨d,3⟩) ⟨by show 0<=(3:Int)/\(3:Int)<4; omega,by show(fH d 3).length<=_; rw[hg]; decide,by show d.pend.length<_; rw[hp]; decide,by show Bg 3 (fH d 3) d.pend; rw[hp]; trivial⟩ rfl
 have e:nY d 3=([],0):=by unfold nY; rw[h0]; simp only[Hz hp,hg]
 rw[e]at q;exact q
theorem aah{s:StaM}(ht:gZ s.tb)(h0:s.dk.off=false)(hp:s.dk.pend=[])(h3:s.dk.d3=[]){x:SecM}(hb:ltI s.pg.ph 2=true\/s.pg.ba=0) :
  CRX P 7 172 [p0, .int .i64 0,jB x] (stB s) (.bool true) (stB s):=by
 refine CRX.of (pol:=au) (fl:=[]) (ts:=[]) (n:=50) (bf _) aA (ah (pol:=au) (ah (pol:=au) aW (aZ KI)) (aZ (OL h0 hp h3))) ((abk (aV [p0, .int .i64 3] (aN s.dk)) (aV [aJ 1 0 0 []] []) s x).trans ?_);have ht1:=ht.ren;rcases hb with hb | hb
 ·simp (disch:=first | omega | (simp only[List.length_append,List.length_drop,List.length_take,List.length_singleton,Nat.add_eq,bJ]<;>omega) | fail) only[dk_,lb_,nb_,pt_,sl_,ht1,hb,stB,pgC,cZ,rnB,srB,tbB,dkL,List.cons_append,List.nil_append,List.append_assoc,dN,aT,dP,lsV,ptV,p0,aN,dkC,bn,fzCms,cmV,di,bG,az,dG,dn,dR,dE,dF,dD,dw,dC,dB,dQ,dA,aB,aK,aP,Enc.all_ren,aB rfl,aK rfl,aP rfl,aT rfl,aQ,bH,bz,bu,bg,ax,aX,bD,Int.toNat_natCast,aY,aO,bF,bU,dH,bP,bW,dK,Bool.and_self,aG,aF,ay]
 ·have g:geI 0 0=true:=rfl;cases h:ltI s.pg.ph 2 with
  |true=>simp (disch:=first | omega | (simp only[List.length_append,List.length_drop,List.length_take,List.length_singleton,Nat.add_eq,bJ]<;>omega) | fail) only[dk_,lb_,nb_,pt_,sl_,ht1,h,hb,g,stB,pgC,cZ,rnB,srB,tbB,dkL,List.cons_append,List.nil_append,List.append_assoc,dN,aT,dP,lsV,ptV,p0,aN,dkC,bn,fzCms,cmV,di,bG,az,dG,dn,dR,dE,dF,dD,dw,dC,dB,dQ,dA,aB,aK,aP,Enc.all_ren,aB rfl,aK rfl,aP rfl,aT rfl,aQ,bH,bz,bu,bg,ax,aX,bD,Int.toNat_natCast,aY,aO,bF,bU,dH,bP,bW,dK,Bool.and_self,aG,aF,ay]
  |false=>simp (disch:=first | omega | (simp only[List.length_append,List.length_drop,List.length_take,List.length_singleton,Nat.add_eq,bJ]<;>omega) | fail) only[dk_,lb_,nb_,pt_,sl_,ht1,h,hb,g,stB,pgC,cZ,rnB,srB,tbB,dkL,List.cons_append,List.nil_append,List.append_assoc,dN,aT,dP,lsV,ptV,p0,aN,dkC,bn,fzCms,cmV,di,bG,az,dG,dn,dR,dE,dF,dD,dw,dC,dB,dQ,dA,aB,aK,aP,Enc.all_ren,aB rfl,aK rfl,aP rfl,aT rfl,aQ,bH,bz,bu,bg,ax,aX,bD,Int.toNat_natCast,aY,aO,bF,bU,dH,bP,bW,dK,Bool.and_self,aG,aF,ay]
theorem Dx{x:SecM}(h:pO x=0):(encS x).length<=44+1035*x.cs.length:=by
 obtain⟨_,_,_,h4⟩:=FB h;have h1:=x_ x.cs (kS h4);have hh:=G6 x;rw[Po,List.length_append];have hfr:(frM (headB x)).length<=44:=by
  unfold frM;rw[List.length_append];have:=eY (n:=(headB x).length);omega
 omega
def JL(d:DkM)(k:Nat)(b:List UInt8):DkM:={ d with d3:=d.d3++b,steps:=d.steps+(k:Int)+1,pend:=[] }
theorem YS{d:DkM}{x:SecM}(hd:DkC d 100000)(hp:d.pend=[])(h3:d.d3=[])(h:pO x=0)(hl:x.cs.length<=400)(hf:x.f<=1048576) :
  ∃ k,k<=10000/\CRX P 1 173 [p0, .int .i64 0,jB x] (aN d) (.int .i64 0) (aN (JL d k (encS x))):=by
 have hel:=Dx h;obtain⟨k,k2,q3,q4⟩:=Jr (d:=d) (f:=3) (encS x) hd hp (by omega) (by omega) (by show d.d3.length<=_; rw[h3]; decide);refine⟨k,by unfold nG at k2; omega,?_⟩;have q1:=OL hd.off hp h3;have q2:=Ph h (by omega) hf;generalize hw:(writeM ⟨d,3,encS x⟩).2.pend=W at q3 q4;clear hw;have hD:({ setF d 3 (fH d 3++encS x)with steps:=d.steps+(k:Int)+1,pend:=[] }:DkM)=JL d k (encS x):=rfl;rw[hD]at q4;refine CRX.of (pol:=au) (fl:=[]) (ts:=[]) (n:=50) (bf _) aA (ah (pol:=au) (ah (pol:=au) (ah (pol:=au) (ah (pol:=au) aW (aZ q4)) (aZ q3)) (aZ q2)) (aZ q1)) ((aaR (aV [p0, .int .i64 3] (aN d)) (aV [jB x] []) (aV [p0, .int .i64 3,aJ 1 (encS x).length 0 (bc (encS x))] (aN d)) (aV [p0] (aN { d with steps:=d.steps+(k:Int),pend:=W })) (encS x) d { d with steps:=d.steps+(k:Int),pend:=W } (JL d k (encS x)) x).trans ?_);clear q1 q2 q3 q4;have hdo:=hd.off;simp (disch:=first | omega | (simp only[List.length_append,List.length_drop,List.length_take,List.length_singleton,Nat.add_eq,bJ]<;>omega) | fail) only[dk_,fa_,fb_,lb_,nb_,pt_,hdo,jB,cZ,rnB,srB,tbB,dkL,List.cons_append,List.nil_append,List.append_assoc,dN,aT,dP,lsV,ptV,p0,aN,dkC,bn,fzCms,cmV,di,bG,az,dG,dn,dR,dE,dF,dD,dw,dC,dB,dQ,dA,aB,aK,aP,Enc.all_ren,aB rfl,aK rfl,aP rfl,aT rfl,aQ,bH,bz,bu,bg,ax,aX,bD,Int.toNat_natCast,aY,aO,bF,bU,dH,bP,bW,dK,Bool.and_self,aG,aF,ay]
theorem Zf{s:StaM}{x:SecM}(hs:StQ s 100000)(h3:s.dk.d3=[])(hh:s.held=0)(h:pO x=0)(hl:x.cs.length<=400)(hf:x.f<=1048576)(hb:ltI s.pg.ph 2=true\/s.pg.ba=0) :
  ∃ k,k<=10000/\CRX P 7 146 [p0, .int .i64 0,jB x] (stB s) (.int .i64 0) (stB (s.filed k (encS x) ((encS x).length:Int))):=by
 have hel:=Dx h;obtain⟨k,k2,q3⟩:=YS hs.dk hs.pend h3 h hl hf;refine⟨k,k2,?_⟩;have q1:=Ph h (by omega) hf;have q2:=aah (s:=s) hs.sr.tb hs.dk.off hs.pend h3 (x:=x) hb;have q:=YA (aV [jB x] []) (aV [p0, .int .i64 0,jB x] (stB s)) (aV [p0, .int .i64 0,jB x] (aN s.dk)) (encS x) s (JL s.dk k (encS x)) x;rw[xA hs.off hs.dk.off]at q;refine CRX.of (pol:=au) (fl:=[]) (ts:=[]) (n:=50) (bf _) aA (ah (pol:=au) (ah (pol:=au) (ah (pol:=au) aW (aZ q3)) (aZ q2)) (aZ q1)) (q.trans ?_);clear q q1 q2 q3;have hoff:=hs.off;have hdo:=hs.dk.off;have ht:=hs.sr.tb.ren;have a1:dI .i64 0 (ak (encS x).length)=((encS x).length:Int):=by unfold dI ak; rw[wrap64 (by omega) (by omega)]; omega
 have g1:gtI 0 0=false:=rfl;have z2:eqI 0 6=false:=rfl;simp (disch:=first | omega | (simp only[List.length_append,List.length_drop,List.length_take,List.length_singleton,Nat.add_eq,bJ]<;>omega) | fail) only[dk_,fa_,lb_,nb_,ns_,pt_,sl_,sm_,hoff,hdo,ht,a1,g1,z2,hh,jB,JL,StaM.filed,stB,pgC,cZ,rnB,srB,tbB,dkL,List.cons_append,List.nil_append,List.append_assoc,dN,aT,dP,lsV,ptV,p0,aN,dkC,bn,fzCms,cmV,di,bG,az,dG,dn,dR,dE,dF,dD,dw,dC,dB,dQ,dA,aB,aK,aP,Enc.all_ren,aB rfl,aK rfl,aP rfl,aT rfl,aQ,bH,bz,bu,bg,ax,aX,bD,Int.toNat_natCast,aY,aO,bF,bU,dH,bP,bW,dK,Bool.and_self,aG,aF,ay]
theorem aap{s:StaM}(hoff:s.off=false)(hdo:s.dk.off=false)(ht:gZ s.tb):CRX P 7 143 [p0] (stB s) (.tuple ⟨[.int .i64 s.held, .int .i64 0]⟩) (stB s):=by
 have q:=aa5 s;rw[xA hoff hdo]at q;refine CRX.of (pol:=au) (fl:=[]) (ts:=[]) (n:=50) (bf _) aA aW (q.trans ?_);have ht1:=ht.ren;simp (disch:=first | omega | (simp only[List.length_append,List.length_drop,List.length_take,List.length_singleton,Nat.add_eq,bJ]<;>omega) | fail) only[ns_,sm_,ht1,stB,pgC,cZ,rnB,srB,tbB,dkL,List.cons_append,List.nil_append,List.append_assoc,dN,aT,dP,lsV,ptV,p0,aN,dkC,bn,fzCms,cmV,di,bG,az,dG,dn,dR,dE,dF,dD,dw,dC,dB,dQ,dA,aB,aK,aP,Enc.all_ren,aB rfl,aK rfl,aP rfl,aT rfl,aQ,bH,bz,bu,bg,ax,aX,bD,Int.toNat_natCast,aY,aO,bF,bU,dH,bP,bW,dK,Bool.and_self,aG,aF,ay]
end Go.VS.Tryz
end

noncomputable section
namespace Go.VS

section
variable{P:Program}{ct:Ct}
def flA(l:List Value):List Value:=@List.rec Value (fun _=>List Value) [] (fun v _ ih=>match v with
 | .agg ⟨a⟩=>List.append a ih
 |v=>v::ih) l
def unA(l:List Value):List Value->List Value:=@List.rec Value (fun _=>List Value->List Value) (fun _=>[]) (fun v _ ih vs=>match v with
 | .agg ⟨a⟩=> .agg ⟨vs.take a.length⟩::ih (vs.drop a.length)
 |_=>match vs with
  |x::vs=>x::ih vs
  |[]=>[]) l
theorem Pq{β:Env}:∀ {l xs:List Value},VRL β l xs->∃ ys,VRL β (flA l) ys/\∀ (β':Env) (vs:List Value),vs.length=(flA l).length->VRL β' vs ys->VRL β' (unA l vs) xs
 |[],xs,h=>by
  have hx:xs=[]:=List.length_eq_zero_iff.1 h.length.symm;subst hx;exact⟨[],VRL.nil,fun _ _ _ _=>VRL.nil⟩
 |v::l,xs,h=>by
  simp only[VRL]at h;obtain⟨x,xs',rfl,hx,hxs⟩:=h;obtain⟨ys,h1,h2⟩:=Pq hxs;by_cases ha:∃ a,v = .agg a
  ·obtain⟨⟨a⟩,rfl⟩:=ha;simp only[VR]at hx;obtain⟨a',rfl,haa⟩:=hx;have haa:VRL β a a'.toList:=by
    have:=jA.1 haa;exact this
   refine⟨a'.toList++ys,haa.append h1,fun β' vs hl hv=>?_⟩;have e:flA (.agg ⟨a⟩::l)=a++flA l:=rfl;rw[e,List.length_append]at hl;show VRL β' (.agg ⟨vs.take a.length⟩::unA l (vs.drop a.length)) (.agg a'::xs');have t1:=hv.take a.length;have t2:=hv.drop a.length;rw[haa.length,List.take_left' rfl]at t1;rw[haa.length,List.drop_left' rfl]at t2;refine VRL.cons ?_ (h2 β' _ (by rw[List.length_drop]; omega) (by rw[haa.length]; exact t2));simp only[VR];refine⟨a',rfl,jA.2 ?_⟩;rw[haa.length];exact t1
  ·have e1:flA (v::l)=v::flA l:=by cases v<;>first | rfl | exact absurd ⟨_,rfl⟩ ha
   have e2:∀ y vs,unA (v::l) (y::vs)=y::unA l vs:=by intro y vs; cases v<;>first | rfl | exact absurd ⟨_,rfl⟩ ha
   refine⟨x::ys,by rw[e1]; exact VRL.cons hx h1,fun β' vs hl hv=>?_⟩;rw[e1]at hl;cases vs with
   |nil=>cases hl
   |cons y vs=>
    rw[e2];simp only[VRL]at hv;obtain⟨z,zs,e,hy,hvs⟩:=hv;simp only[List.cons.injEq]at e;obtain⟨rfl,rfl⟩:=e;exact VRL.cons hy (h2 β' vs (by simpa using hl) hvs)
def pY(P:Program)(E:Eng)(ct:Ct)(n:Nat)(pol:Pol)(fl:List Fl)(ts:List TypeId)(N:Nat)(kb:List Bool)(g:FuncId)(args:List Value)(bs:List Blk):Res:=
 (oJ P E ct n n).call g args (ag bs) fun v st=>DT.run (lG P 60 fl ts (flA (ng v)) st fun vs1 ps st1=>qQ P pol 200 (List.append (yx args) (List.append ps (upL N 0))) [] st1 fun st2=>
  nP (jP st2) 1000 (List.append args (List.append vs1 (zl (upL N 0)))) (kbF kb args) [] fun X L=>match Nat.beq vs1.length (flA (ng v)).length,i_ 0 ((List.append (upL N 0) (geL N X)).append L) (fun i=>eG (path i) st2.heap) ((List.append (upL N 0) (geL N X)).append L)with
  |true,some ms=> .leaf (sN v (unA (ng v) (vs1.map (fE true (aH 0 ((List.append (upL N 0) (geL N X)).append L))))),ms)
  |_,_=> .fail) fun r=>some (r.1,ag r.2)
theorem CRX.ofF{E:Eng}(hE:EngOk P ct E)(hN:noNum P=true)(hct:CtOk P ct){n:Nat}{pol:Pol}{fl:List Fl}{ts:List TypeId}{N:Nat}{kb:List Bool}{g:FuncId}{args:List Value}{bs:List Blk}{v:Value}{bs':List Blk}(h:pY P E ct n pol fl ts N kb g args bs=some (v,ag bs')):CRX P N g args bs v bs':=by
 intro K β w args' cs hid ha hr;unfold pY at h;obtain⟨m,v1,st1,h1,h2⟩:=(jO hE n n).call _ _ _ _ _ h;obtain⟨β1,fr,w1,v',a1,a2,a3,a4,a5,a6⟩:=(iy hN hct m K).call g args (ag bs) v1 st1 h1 β w args' .normal cs (Or.inl rfl) ha hr;obtain⟨r,hc,h2⟩:=DT.run_spec h2;obtain⟨vs1,ps,st2,f1,f2,f3⟩:=jv _ _ _ _ _ _ hc;obtain⟨st3,g1,g2⟩:=jH _ _ _ _ _ f1;obtain⟨X0,L,hX⟩:=kR (jP st3) 1000 (List.append args (List.append vs1 (zl (upL N 0)))) (kbF kb args) [] fun X L=>match Nat.beq vs1.length (flA (ng v1)).length,i_ 0 ((List.append (upL N 0) (geL N X)).append L) (fun i=>eG (path i) st3.heap) ((List.append (upL N 0) (geL N X)).append L)with
  |true,some ms=>DT.leaf (sN v1 (unA (ng v1) (vs1.map (fE true (aH 0 ((List.append (upL N 0) (geL N X)).append L))))),ms)
  |_,_=> .fail
 rw[hX]at g1;have hup:upTo N (upL N 0++geL N X0) 0=true:=vI N 0 _;generalize hY:upL N 0++geL N X0=X at hup;have hY':List.append (upL N 0) (geL N X0)=X:=hY;rw[hY']at g1;split at g1
 ·rename_i ms hvl hm;have hm:i_ 0 (X++L) (fun i=>eG (path i) st3.heap) (X++L)=some ms:=hm;simp only[DT.eval,Option.some.injEq]at g1;subst g1;simp only[Option.some.injEq,Prod.mk.injEq]at h2;obtain⟨rfl,hst⟩:=h2;obtain⟨m1,m2,m3⟩:=iW hm;simp only[dU]at m2 m3;have hvl:=Nat.eq_of_beq_eq_true hvl;obtain⟨xs,x1,x2⟩:=uZ a5;obtain⟨ys,y1,y2⟩:=Pq x1;obtain⟨β2,c1,c2,c3⟩:=f3 K β1 w1 ys a3 y1;obtain⟨β3,d1,d2⟩:=g2 K β2 w1 c2;have hmid:=jq (N:=0) (src:=X++L) d2 (fun i hi=>(hid i hi).elim) (Nat.zero_le _) m1 m2;have hren:=o5 (X++L) β3;have hmsl:ms.length=bs'.length:=by have:=congrArg St.next hst; exact this
  refine⟨⟨iE 0 (X++L) β3,fr,w1,v',a1,(((a2.trans c1).trans d1).leN _).trans (rP hup),?_,a4,?_,a6⟩,?_⟩
  ·rw[<-hst,m3]; exact hmid
  ·have hy:=y2 _ _ (by rw[List.length_map]; exact hvl) ((c3.mono d1).mapr fun v _ x hx=>gU hren v x hx);exact x2 _ _ (hy.length.trans x1.length.symm) hy
  ·rw[<-hmsl,m3,List.length_map,List.length_append];have:=(oU _ _ _ hup).1;omega
 ·cases g1
end
end Go.VS
end

noncomputable section
namespace Go.VS.Tryz
open Go.VS
set_option maxRecDepth 1000000
def Ae:Pol:=fun t=>match Nat.beq t 52 with
 |true=>some [.val, .val, .own]
 |false=>au t
def Dlo:HeadX:=⟨2,66,[4,5,6,9,51,52,53],[.val, .val, .val, .val, .val, .val, .val],[0,0,0,0,22,0,0],Ae⟩
def Blo:Code:=(dZ P 19 0).getD .skip
theorem UG:dZ P 19 0=some Blo:=by kernel_rfl
theorem NZ:Occ P 19 (.block 0 (.loop Blo)):=fM UG
def loB(x:SecM):List Blk:=[.cells [.int .i64 0, .int .i64 0,lsV 2 0] 52 true, .cells [.int .i64 x.e, .int .i64 x.f,lsV 3 x.cs.length] 52 true, .cells [] 35 false, .cells (ECm.all x.cs) 35 false]
def loV(l:List CmM)(i:Int):List Value:=[ptV 0, .bool false, .int .i64 0,ptV 1,fzCms l, .int .i64 (ak l.length), .int .i64 i]
theorem RS(C1:List Value->List Blk->Bool)(c:CmM)(x:SecM)(l:List CmM)(i:Int):bV P E (GG C1 c) 50 19 Blo Dlo (loV l i) (loB x) =
 (let z0:=l.length;let y0:=atN i 3;let x0:=Enc.all ECm l;let w0:=Eta.int .i64;let v0:=Nat.add y0 1;let u0:=bT x0 (Nat.add v0 1);let t0:=x.cs.length;let s0:=Nat.add t0 1;let r0:=Enc.all ECm x.cs;let q0:=sl_ 3 t0;let p0:=List.append (jC 0 r0) [.int .i64 c.e, .int .i64 c.n,fa_ c.ops.length 0 (Enc.all EOp c.ops)];
 let o0:=Value.int .i64 0;let n0:=Value.bool false;let m0:=fa_ z0 0 x0;let l0:=Value.int .i64 (ak z0);let k0:=Blk.cells [o0,o0,sl_ 2 0] 52 true;let j0:=Value.int .i64 x.e;let i0:=Value.int .i64 x.f;let h0:=Blk.cells [] 35 false;
 (aj (ltI i (ak z0)) (ae (Bool.and (Nat.beq 3 3) (inI i z0)) (ae (Bool.and (Nat.ble (Nat.add y0 3) x0.length) (jw [w0,w0, .slice 3] x0 y0)) (ae (C1 [.agg ⟨[.int .i64 (asI (bT x0 y0)), .int .i64 (asI (bT x0 v0)),fa_ (zN u0) (zB u0) (zC u0)]⟩] []) (ae (Nat.ble s0 4194304) (ae (Nat.beq (Nat.add 0 (Nat.mul t0 3)) r0.length) (ae (bZ q0 q0) (nb_ s0 3 p0 (some (.tuple ⟨[o0,pt_ 0,n0,o0,pt_ 1,m0,l0, .int .i64 (dI .i64 i 1)]⟩,ag [k0, .cells [j0,i0,sl_ 3 s0] 52 true,h0,lb_ (aH 0 [0,1,14,15]) s0 3 p0 35]))))))))) (nb_ t0 3 r0 (some (.tuple ⟨[.int .i64 1,pt_ 0,n0,o0,pt_ 1,m0,l0, .int .i64 i]⟩,ag [k0, .cells [j0,i0,q0] 52 true,h0,lb_ (aH 0 [0,1,4,5]) t0 3 r0 35]))))):=by kernel_rfl
def ad2(C1 C2 C3:List Value->List Blk->Bool)(l:List CmM)(x:SecM):Ct:=aC P au 0 9 (bI C1 (.leaf (ui (0,0),[]))) (aC P au 0 52 (bI C2 (.leaf (.int .i64 0,[]))) (fP P 19 0 Dlo (jd C3 (.leaf (.normal,loV l (ak l.length),loB x))) ctF))
theorem YN(C1 C2 C3:List Value->List Blk->Bool)(l m:List CmM)(p:PgM)(x:SecM):pY P E (ad2 C1 C2 C3 m x) 50 Ae [.val, .val, .val, .val, .val] [0,0,22,0,0] 0 [] 19 [fzCms l,pgV p] [] =
 (let z0:=Value.int .i64 0;let y0:=l.length;let x0:=Enc.all ECm l;let w0:=Value.agg ⟨[z0,z0, .iface 18446744073709551619 (.agg ⟨[.slice none 0 0]⟩)]⟩;let v0:=Value.bool false;let u0:=ag [];let t0:=some (Value.tuple ⟨[w0,v0, .int .i64 2]⟩,u0);let s0:=p.fo;let r0:=ak y0;let q0:=fZ s0 r0;
 let p0:=Blk.cells [] 35 false;let o0:=x.cs.length;let n0:=af true (bC [1,3] 6) (Enc.all ECm x.cs);
 (ae (C1 [z0,z0,fa_ y0 0 x0] []) (ae (C2 [pg_ p] []) (aj (neI p.ph 2) t0 (aj (gtI s0 r0) t0 (aj (eqI s0 r0) (some (.tuple ⟨[w0,v0,z0]⟩,u0)) (ae (Bool.and (Nat.beq 3 3) (eF s0 r0 y0)) (ae (C3 [pt_ 0,v0,z0,pt_ 1,fa_ q0 0 (takeC (Nat.mul q0 3) (aU (atN s0 3) x0)), .int .i64 (ak q0),z0] [.cells [z0,z0,sl_ 2 0] 52 true, .cells [.int .i64 p.ep, .int .i64 s0,sl_ 3 0] 52 true,p0,p0]) (ae (gV P 0 o0 18446744073709551616 n0 35) (some (.tuple ⟨[.agg ⟨[.int .i64 x.e, .int .i64 x.f,fa_ o0 0 (takeC (Nat.mul o0 3) (aU 0 n0))]⟩, .bool true,z0]⟩,u0))))))))))):=by kernel_rfl
theorem VX{x:SecM}{l:List CmM}{i:Nat}(hi:i<l.length)(hl:l.length<4194304)(ho:x.cs.length<4194300) :
  bV P E (GG (aV [cmV l[i]] []) l[i]) 50 19 Blo Dlo (loV l i) (loB x)=some (.tuple ⟨exV .normal::loV l ((i+1:Nat):Int)⟩,ag (loB ⟨x.e,x.f,x.cs++[l[i]]⟩)):=by
 obtain⟨g1,g2,a1⟩:=nU hi hl;have g4:=ni hi;have h1:(x.cs++[l[i]]).length=Nat.add x.cs.length 1:=by simp
 rw[RS];simp (disch:=first | omega | (simp only[List.length_append,List.length_drop,List.length_take,List.length_singleton,Nat.add_eq,bJ]<;>omega) | fail) only[fa_,lb_,nb_,pt_,sl_,g1,g2,a1,g4,lw hi (Nat.le_refl 3),k_ hi,vP hi,uh hi,iI,(zF _ _ _).1,(zF _ _ _).2.1,(zF _ _ _).2.2,loV,loB,h1,wE,show Nat.beq 3 3=true from rfl,cZ,rnB,srB,tbB,dkL,List.cons_append,List.nil_append,List.append_assoc,dN,aT,dP,lsV,ptV,p0,aN,dkC,bn,fzCms,cmV,di,bG,az,dG,dn,dR,dE,dF,dD,dw,dC,dB,dQ,dA,aB,aK,aP,Enc.all_ren,aB rfl,aB h1.symm,aQ,bH,bz,bu,bg,ax,aX,bD,Int.toNat_natCast,aY,aO,bF,bU,dH,bP,bW,dK,Bool.and_self,aG,aF,ay]
 rfl
theorem aby{C:List Value->List Blk->Bool}{c:CmM}{x:SecM}{l:List CmM} :
  bV P E (GG C c) 50 19 Blo Dlo (loV l l.length) (loB x)=some (.tuple ⟨exV (.exit 0)::loV l l.length⟩,ag (loB x)):=by
 rw[RS];simp only[fa_,lb_,nb_,pt_,sl_,lZ,loV,loB,cZ,rnB,srB,tbB,dkL,List.cons_append,List.nil_append,List.append_assoc,dN,aT,dP,lsV,ptV,p0,aN,dkC,bn,fzCms,cmV,di,bG,az,dG,dn,dR,dE,dF,dD,dw,dC,dB,dQ,dA,aB,aK,aP,Enc.all_ren,aB rfl,aQ,bH,bz,bu,bg,ax,aX,bD,Int.toNat_natCast,aY,aO,bF,bU,dH,bP,bW,dK,Bool.and_self,aG,aF,ay]
 rfl
theorem Pi{l:List CmM}(hl:l.length<1000)(hc:∀ c∈l,cmE c=0):∀ (j i:Nat) (x:SecM),x.cs.length+j<4194300->i+j=l.length->
  LRX P 19 0 Blo Dlo.head (loV l i) (loB x) .normal (loV l l.length) (loB ⟨x.e,x.f,x.cs++l.drop i⟩)
 |0,i,x,h1,h=>by
  obtain rfl:i=l.length:=by omega
  rw[List.drop_length,List.append_nil];exact LRX.stop (n:=50) (bf _) aA (ah (pol:=au) aW (gm (r:= .leaf (cmV ⟨0,0,[]⟩,[])))) NZ (e:= .exit 0) (aby (C:=fun _ _=>false) (c:=⟨0,0,[]⟩)) (by intro h; cases h)
 |j+1,i,x,h1,h=>by
  have hi:i<l.length:=by omega
  obtain⟨_,_,hb⟩:=jf.1 (hc _ (List.getElem_mem hi));obtain⟨b1,b2,b3⟩:=gq.1 hb;have ih:=Pi hl hc j (i+1) ⟨x.e,x.f,x.cs++[l[i]]⟩ (by show(x.cs++[l[i]]).length+j<_; simp; omega) (by omega);have e:(x.cs++[l[i]])++l.drop (i+1)=x.cs++l.drop i:=by rw[List.append_assoc,List.drop_eq_getElem_cons hi]; rfl
  rw[e]at ih;exact LRX.again (n:=50) (bf _) aA (ah (pol:=au) aW (aZ (uK b1 (by omega)))) NZ (VX hi (by omega) (by omega)) ih
theorem FP{l:List CmM}{p:PgM}{k:Nat}(hf:fD 0 0 0 l=(0,0))(hl:l.length<1000)(hp:pgE p=0)(hph:p.ph=2)(hk:p.fo=(k:Int))(hkl:k<=l.length) :
  CRX P 0 19 [fzCms l,pgV p] [] (.tuple ⟨[jB (if k<l.length then⟨p.ep,k,l.drop k⟩else⟨0,0,[]⟩), .bool (decide (k<l.length)), .int .i64 0]⟩) []:=by
 have hall:=kS hf;have q1:=mX (e:=0) (n:=0) (l:=l) (by omega) (by
  intro x hx;obtain⟨_,_,hb⟩:=jf.1 (hall x hx);obtain⟨b1,b2,b3⟩:=gq.1 hb
  omega)
 rw[hf]at q1;have q2:=qK p;rw[hp]at q2;have hdl:(l.drop k).length=l.length-k:=by rw[List.length_drop]
 have q3:=Pi (l:=l.drop k) (by omega) (fun c hc=>hall c (List.mem_of_mem_drop hc)) (l.drop k).length 0 ⟨p.ep,k,[]⟩ (by show 0+_<_; omega) (by omega);rw[List.drop_zero,List.nil_append]at q3;refine CRX.ofF (pol:=Ae) (fl:=[.val, .val, .val, .val, .val]) (ts:=[0,0,22,0,0]) (n:=50) (kb:=[]) (bf _) aA (ah (pol:=au) (ah (pol:=au) (eu aW (fU (d_ UG) q3)) (aZ q2)) (aZ q1)) ((YN (aV [.int .i64 0, .int .i64 0,fzCms l] []) (aV [pgV p] []) (aV (loV (l.drop k) (0:Nat)) (loB ⟨p.ep,k,[]⟩)) l (l.drop k) p ⟨p.ep,k,l.drop k⟩).trans ?_);clear q1 q2 q3;have g1:neI 2 2=false:=rfl;have g2:gtI ((k:Nat):Int) (ak l.length)=false:=by unfold gtI ak; exact decide_eq_false (by omega)
 have z0:((0:Nat):Int)=0:=rfl;by_cases h:k<l.length
 ·rw[if_pos h,decide_eq_true h];have g3:eqI ((k:Nat):Int) (ak l.length)=false:=by unfold eqI ak; exact decide_eq_false (by omega)
  have g4:eF ((k:Nat):Int) (ak l.length) l.length=true:=by unfold eF ak; exact decide_eq_true (by omega)
  have g5:fZ ((k:Nat):Int) (ak l.length)=(l.drop k).length:=by unfold fZ ak; rw[hdl]; omega
  have g6:atN ((k:Nat):Int) 3=Nat.mul k 3:=by show((k:Nat):Int).toNat*3=k*3; omega
  have g7:takeC (Nat.mul (l.drop k).length 3) (aU (Nat.mul k 3) (ECm.all l))=ECm.all (l.drop k):=DR (by rw[hdl]; omega);have n2:([]:List CmM).length=0:=rfl;have f3:ECm.all ([]:List CmM)=[]:=rfl;simp (disch:=first | omega | (simp only[List.length_append,List.length_drop,List.length_take,List.length_singleton,Nat.add_eq,bJ]<;>omega) | fail) only[fa_,pg_,pt_,sl_,hph,hk,g1,g2,g3,g4,g5,g6,g7,z0,n2,f3,KR rfl,show Nat.beq 3 3=true from rfl,jB,loV,loB,pgV,pgC,cZ,rnB,srB,tbB,dkL,List.cons_append,List.nil_append,List.append_assoc,dN,aT,dP,lsV,ptV,p0,aN,dkC,bn,fzCms,cmV,di,bG,az,dG,dn,dR,dE,dF,dD,dw,dC,dB,dQ,dA,aB,aK,aP,Enc.all_ren,aB rfl,aQ,bH,bz,bu,bg,ax,aX,bD,Int.toNat_natCast,aY,aO,bF,bU,dH,bP,bW,dK,Bool.and_self,aG,aF,ay]
 ·rw[if_neg h,decide_eq_false h];have g3:eqI ((k:Nat):Int) (ak l.length)=true:=by unfold eqI ak; exact decide_eq_true (by omega)
  have n2:([]:List CmM).length=0:=rfl;have f3:ECm.all ([]:List CmM)=[]:=rfl;simp (disch:=first | omega | (simp only[List.length_append,List.length_drop,List.length_take,List.length_singleton,Nat.add_eq,bJ]<;>omega) | fail) only[fa_,pg_,pt_,sl_,hph,hk,g1,g2,g3,z0,n2,f3,jB,loV,loB,pgV,pgC,cZ,rnB,srB,tbB,dkL,List.cons_append,List.nil_append,List.append_assoc,dN,aT,dP,lsV,ptV,p0,aN,dkC,bn,fzCms,cmV,di,bG,az,dG,dn,dR,dE,dF,dD,dw,dC,dB,dQ,dA,aB,aK,aP,Enc.all_ren,aB rfl,aQ,bH,bz,bu,bg,ax,aX,bD,Int.toNat_natCast,aY,aO,bF,bU,dH,bP,bW,dK,Bool.and_self,aG,aF,ay]
def ESa:Enc (Int×Int) where
 sz:=2
 f n:=[.int .i64 n.1, .int .i64 n.2]
 len _:=rfl
 pos:=by decide
 inj a b h:=by
  obtain⟨a1,a2⟩:=a;obtain⟨b1,b2⟩:=b;simpa using h
 nr _:=rfl
def Dsa:HeadX:=⟨1,26,[3,5,14,15,16],[.val, .own, .val, .val, .val],[0,24,22,0,0],au⟩
def Bsa:Code:=(dZ P 51 0).getD .skip
theorem IW:dZ P 51 0=some Bsa:=by kernel_rfl
theorem AQ:Occ P 51 (.block 0 (.loop Bsa)):=fM IW
def saB(o:List (Int×Int)):List Blk:=[.cells [.int .i64 0, .int .i64 0] 31 true, .cells (ESa.all o) 104 false]
def saV(o:List (Int×Int))(l:List CmM)(i:Int):List Value:=[ptV 0,lsV 1 o.length,fzCms l, .int .i64 (ak l.length), .int .i64 i]
theorem F7(o:List (Int×Int))(l:List CmM)(i:Int):bV P E ctF 50 51 Bsa Dsa (saV o l i) (saB o) =
 (let z0:=l.length;let y0:=atN i 3;let x0:=Enc.all ECm l;let w0:=Eta.int .i64;let v0:=o.length;let u0:=eU .i64 (ak v0) 1;let t0:=Nat.add 0 (atN u0 2);let s0:=Enc.all ESa o;let r0:=bT s0 t0;let q0:=asI (bT x0 y0);let p0:=Value.int .i64 0;let o0:=pt_ 0;let n0:=fa_ z0 0 x0;let m0:=Value.int .i64 (ak z0);
 let l0:=Value.int .i64 (dI .i64 i 1);let k0:=Blk.cells [p0,p0] 31 true;let j0:=Nat.add v0 1;let i0:=List.append (jC 0 s0) [.int .i64 q0, .int .i64 (asI (bT x0 (Nat.add y0 1)))];let h0:=ae (Nat.ble j0 4194304) (ae (Nat.beq (Nat.add 0 (Nat.mul v0 2)) s0.length) (nb_ j0 2 i0 (some (.tuple ⟨[p0,o0,sl_ 1 j0,n0,m0,l0]⟩,ag [k0,lb_ (aH 0 [0,19]) j0 2 i0 104]))));
 (aj (ltI i (ak z0)) (ae (Bool.and (Nat.beq 3 3) (inI i z0)) (ae (Bool.and (Nat.ble (Nat.add y0 3) x0.length) (jw [w0,w0, .slice 3] x0 y0)) (aj (gtI (ak v0) 0) (ae (inI u0 v0) (ae (Bool.and (Nat.ble (Nat.add t0 1) s0.length) (ig w0 r0)) (aj (eqI (asI r0) q0) (nb_ v0 2 s0 (some (.tuple ⟨[p0,o0,sl_ 1 v0,n0,m0,l0]⟩,ag [k0,lb_ (aH 0 [0,17]) v0 2 s0 104]))) h0))) h0))) (nb_ v0 2 s0 (some (.tuple ⟨[.int .i64 1,o0,sl_ 1 v0,n0,m0, .int .i64 i]⟩,ag [k0,lb_ (aH 0 [0,2]) v0 2 s0 104]))))):=by kernel_rfl
def Yi(C1 C2:List Value->List Blk->Bool)(l:List CmM)(o:List (Int×Int)):Ct:=aC P au 0 9 (bI C1 (.leaf (ui (0,0),[]))) (fP P 51 0 Dsa (jd C2 (.leaf (.normal,saV o l (ak l.length),saB o))) ctF)
theorem Zy(C1 C2:List Value->List Blk->Bool)(l:List CmM)(o:List (Int×Int)):pY P E (Yi C1 C2 l o) 50 au [.val, .val, .val] [24,0,0] 0 [] 51 [fzCms l] [] =
 (let z0:=Value.int .i64 0;let y0:=fa_ l.length 0 (Enc.all ECm l);let x0:=o.length;let w0:=af true (bC [0] 3) (Enc.all ESa o);
 (ae (C1 [z0,z0,y0] []) (ae (C2 [pt_ 0,sl_ 1 0,y0, .int .i64 (ak l.length),z0] [.cells [z0,z0] 31 true, .cells [] 104 false]) (ae (gV P 0 x0 18446744073709551616 w0 104) (some (.tuple ⟨[.iface 18446744073709551618 (.agg ⟨(.slice none x0 0)::(takeC (Nat.mul x0 2) (aU 0 w0))⟩), .agg ⟨[z0,z0]⟩]⟩,ag [])))))):=by kernel_rfl
theorem XI{l:List CmM}(hi:0<l.length)(hl:l.length<4000):bV P E ctF 50 51 Bsa Dsa (saV [] l (0:Nat)) (saB [])=some (.tuple ⟨exV .normal::saV [(l[0].e,l[0].n)] l ((0+1:Nat):Int)⟩,ag (saB [(l[0].e,l[0].n)])):=by
 obtain⟨g1,g2,a1⟩:=nU hi (by omega);have g4:=ni hi;have z0:((0:Nat):Int)=0:=rfl;have n1:([]:List (Int×Int)).length=0:=rfl;have n2:ESa.all ([]:List (Int×Int))=[]:=rfl;have n3:gtI (ak 0) 0=false:=rfl;rw[F7];simp (disch:=first | omega | (simp only[List.length_append,List.length_drop,List.length_take,List.length_singleton,Nat.add_eq,bJ]<;>omega) | fail) only[fa_,lb_,nb_,pt_,sl_,g1,g2,a1,g4,lw hi (Nat.le_refl 3),k_ hi,vP hi,uh hi,n1,n2,n3,iI,show Nat.beq 3 3=true from rfl,saV,saB,cZ,rnB,srB,tbB,dkL,List.cons_append,List.nil_append,List.append_assoc,dN,aT,dP,lsV,ptV,p0,aN,dkC,bn,fzCms,cmV,di,bG,az,dG,dn,dR,dE,dF,dD,dw,dC,dB,dQ,dA,aB,aK,aP,Enc.all_ren,aQ,bH,bz,bu,bg,ax,aX,bD,Int.toNat_natCast,aY,aO,bF,bU,dH,bP,bW,dK,Bool.and_self,aG,aF,ay]
 rfl
theorem Zh{l:List CmM}{i:Nat}{x:Int}(hi:i<l.length)(hl:l.length<4000)(he:l[i].e=1):bV P E ctF 50 51 Bsa Dsa (saV [(1,x)] l i) (saB [(1,x)])=some (.tuple ⟨exV .normal::saV [(1,x)] l ((i+1:Nat):Int)⟩,ag (saB [(1,x)])):=by
 obtain⟨g1,g2,a1⟩:=nU hi (by omega);have g4:=ni hi;have n1:[((1:Int),x)].length=1:=rfl;have n2:ESa.all [((1:Int),x)]=[.int .i64 1, .int .i64 x]:=rfl;have n3:gtI (ak 1) 0=true:=rfl;have n4:eU .i64 (ak 1) 1=0:=by decide
 have n5:inI 0 1=true:=rfl;have n6:eqI 1 1=true:=rfl;have n7:bT [Value.int .i64 1,Value.int .i64 x] (Nat.add 0 (atN 0 2)) = .int .i64 1:=rfl;rw[F7];simp (disch:=first | omega | (simp only[List.length_append,List.length_drop,List.length_take,List.length_singleton,Nat.add_eq,bJ]<;>omega) | fail) only[fa_,lb_,nb_,pt_,sl_,g1,g2,a1,g4,lw hi (Nat.le_refl 3),k_ hi,vP hi,uh hi,he,n1,n2,n3,n4,n5,n6,n7,iI,show Nat.beq 3 3=true from rfl,saV,saB,cZ,rnB,srB,tbB,dkL,List.cons_append,List.nil_append,List.append_assoc,dN,aT,dP,lsV,ptV,p0,aN,dkC,bn,fzCms,cmV,di,bG,az,dG,dn,dR,dE,dF,dD,dw,dC,dB,dQ,dA,aB,aK,aP,Enc.all_ren,aQ,bH,bz,bu,bg,ax,aX,bD,Int.toNat_natCast,aY,aO,bF,bU,dH,bP,bW,dK,Bool.and_self,aG,aF,ay]
 rfl
theorem Ue{o:List (Int×Int)}{l:List CmM}:bV P E ctF 50 51 Bsa Dsa (saV o l l.length) (saB o)=some (.tuple ⟨exV (.exit 0)::saV o l l.length⟩,ag (saB o)):=by
 rw[F7];have b1:Nat.ble (Nat.add 0 (Nat.mul o.length 2)) (ESa.all o).length=true:=Nat.ble_eq_true_of_le (by rw[ESa.all_length]; show 0+o.length*2<=o.length*2; omega);have t1:takeC (Nat.mul o.length 2) (aU 0 (ESa.all o))=ESa.all o:=ESa.all_self o;simp only[fa_,lb_,nb_,pt_,sl_,lZ,b1,t1,saV,saB,lsV,ptV,fzCms,bG,Enc.all_ren,aF,ay]
 rfl
theorem OT{l:List CmM}{x:Int}(hl:l.length<4000)(he:∀ c∈l,c.e=1):∀ (j i:Nat),i+j=l.length->
  LRX P 51 0 Bsa Dsa.head (saV [(1,x)] l i) (saB [(1,x)]) .normal (saV [(1,x)] l l.length) (saB [(1,x)])
 |0,i,h=>by
  obtain rfl:i=l.length:=by omega
  exact LRX.stop (n:=50) (bf _) aA aW AQ (e:= .exit 0) Ue (by intro h; cases h)
 |j+1,i,h=>by
  have hi:i<l.length:=by omega
  exact LRX.again (n:=50) (bf _) aA aW AQ (Zh hi hl (he _ (List.getElem_mem hi))) (OT hl he j (i+1) (by omega))
def ofM(l:List CmM):List (Int×Int):=match l with
 |[]=>[]
 |_::_=>[(1,1)]
theorem Ry{l:List CmM}(hl:l.length<4000)(hf:fD 0 0 0 l=(0,0))(he:∀ c∈l,c.e=1) :
  LRX P 51 0 Bsa Dsa.head (saV [] l (0:Nat)) (saB []) .normal (saV (ofM l) l l.length) (saB (ofM l)):=by
 cases l with
 |nil=>exact LRX.stop (n:=50) (bf _) aA aW AQ (e:= .exit 0) (Ue (o:=[]) (l:=[])) (by intro h; cases h)
 |cons c l=>
  obtain⟨_,h2,_,_⟩:=lL hf;have e1:c.e=1:=he c (List.mem_cons_self ..);have e2:c.n=1:=by omega
  have q:=XI (l:=c::l) (by simp) hl;have e3:((c::l)[0].e,(c::l)[0].n)=((1:Int),(1:Int)):=by show(c.e,c.n)=_; rw[e1,e2]
  rw[e3]at q;exact LRX.again (n:=50) (bf _) aA aW AQ q (OT hl he l.length 1 (by simp; omega))
theorem TW{l:List (Int×Int)}{n:Nat}(h:n=l.length):gV P 0 n 18446744073709551616 (ESa.all l) 104=true:=by
 subst h;have he:esz P 104=2:=by kernel_rfl
 unfold gV;rw[he,ESa.all_nr,ESa.all_length];have h2:Nat.ble (Nat.add 0 (Nat.mul l.length 2)) (l.length*ESa.sz)=true:=Nat.ble_eq_true_of_le (by show 0+l.length*2<=l.length*2; omega);rw[h2]; rfl
theorem acw{l:List CmM}(hl:l.length<4000)(hf:fD 0 0 0 l=(0,0))(he:∀ c∈l,c.e=1) :
  CRX P 0 51 [fzCms l] [] (.tuple ⟨[aJ 2 (ofM l).length 0 (ESa.all (ofM l)), .agg ⟨[.int .i64 0, .int .i64 0]⟩]⟩) []:=by
 have q1:=mX (e:=0) (n:=0) (l:=l) (by omega) (by
  intro x hx;obtain⟨_,_,hb⟩:=jf.1 (kS hf x hx);obtain⟨b1,b2,b3⟩:=gq.1 hb
  omega)
 rw[hf]at q1;have q2:=Ry hl hf he;refine CRX.ofF (pol:=au) (fl:=[.val, .val, .val]) (ts:=[24,0,0]) (n:=50) (kb:=[]) (bf _) aA (ah (pol:=au) (eu aW (fU (d_ IW) q2)) (aZ q1)) ((Zy (aV [.int .i64 0, .int .i64 0,fzCms l] []) (aV (saV [] l (0:Nat)) (saB [])) l (ofM l)).trans ?_);clear q1 q2;have z0:((0:Nat):Int)=0:=rfl;have n1:([]:List (Int×Int)).length=0:=rfl;have n2:ESa.all ([]:List (Int×Int))=[]:=rfl;have t1:takeC (Nat.mul (ofM l).length 2) (aU 0 (ESa.all (ofM l)))=ESa.all (ofM l):=ESa.all_self _;have m2:∀ (n b:Nat) (c:List Value),aJ 2 n b c = .iface 18446744073709551618 (.agg ⟨.slice none n b::c⟩):=fun n b c=>by unfold aJ; rw[show FZ+2=18446744073709551618 from by unfold FZ; rfl]
 simp (disch:=first | omega | (simp only[List.length_append,List.length_drop,List.length_take,List.length_singleton,Nat.add_eq,bJ]<;>omega) | fail) only[fa_,pt_,sl_,z0,n1,n2,t1,m2,TW rfl,saV,saB,cZ,rnB,srB,tbB,dkL,List.cons_append,List.nil_append,List.append_assoc,dN,aT,dP,lsV,ptV,p0,aN,dkC,bn,fzCms,cmV,di,bG,az,dG,dn,dR,dE,dF,dD,dw,dC,dB,dQ,dA,aB,aK,aP,Enc.all_ren,aQ,bH,bz,bu,bg,ax,aX,bD,Int.toNat_natCast,aY,aO,bF,bU,dH,bP,bW,dK,Bool.and_self,aG,aF,ay]
structure MsgM where
 k:Int
 e:Int
 ro:Int
 en:Int
 st:List (Int×Int)
 fr:Int
 pv:Int
 cs:List CmM
def fV(l:List (Int×Int)):Value:=aJ 2 l.length 0 (ESa.all l)
def mV(m:MsgM):Value:= .agg ⟨[.int .i64 m.k, .int .i64 m.e, .int .u8 m.ro, .int .i64 m.en,fV m.st, .int .i64 m.fr, .int .i64 m.pv,fzCms m.cs]⟩
def me_(m:MsgM):Value:=(Value.agg (Array.mk [(Value.int IntKind.i64 (MsgM.k m)),(Value.int IntKind.i64 (MsgM.e m)),(Value.int IntKind.u8 (MsgM.ro m)),(Value.int IntKind.i64 (MsgM.en m)),(Value.iface 18446744073709551618 (Value.agg (Array.mk ((Value.slice none (List.length (MsgM.st m)) 0)::(Enc.all ESa (MsgM.st m)))))),(Value.int IntKind.i64 (MsgM.fr m)),(Value.int IntKind.i64 (MsgM.pv m)),(Value.iface 18446744073709551619 (Value.agg (Array.mk ((Value.slice none (List.length (MsgM.cs m)) 0)::(Enc.all ECm (MsgM.cs m))))))]))
def Dsc:HeadX:=⟨1,64,[1,4,5,23,24,25],[.val, .val, .val, .val, .val, .val],[0,0,0,24,0,0],au⟩
def Bsc:Code:=(dZ P 141 0).getD .skip
theorem Lc:dZ P 141 0=some Bsc:=by kernel_rfl
theorem Bl:Occ P 141 (.block 0 (.loop Bsc)):=fM Lc
def scB(x:Int×Int):List Blk:=[.cells [.int .i64 x.1, .int .i64 x.2] 104 true]
def scV(en r:Int)(l:List (Int×Int))(i:Int):List Value:=[.int .i64 en, .int .i64 r,ptV 0,fV l, .int .i64 (ak l.length), .int .i64 i]
theorem Su(en:Int)(l:List (Int×Int))(i:Int)(x:Int×Int):bV P E ctF 50 141 Bsc Dsc (scV en 0 l i) (scB x) =
 (let z0:=l.length;let y0:=atN i 2;let x0:=Enc.all ESa l;let w0:=Eta.int .i64;let v0:=asI (bT x0 y0);let u0:=Prod.fst x;let t0:=Value.int .i64 en;let s0:=pt_ 0;let r0:=Value.iface 18446744073709551618 (.agg ⟨(.slice none z0 0)::x0⟩);let q0:=Value.int .i64 (ak z0);let p0:=Value.int .i64 i;
 let o0:=Prod.snd x;let n0:=ag [.cells [.int .i64 u0, .int .i64 o0] 104 true];let m0:=some (Value.tuple ⟨[.int .i64 (-1),t0, .int .i64 5,s0,r0,q0,p0]⟩,n0);let l0:=asI (bT x0 (Nat.add y0 1));let k0:=Value.int .i64 0;let j0:=some (Value.tuple ⟨[k0,t0,k0,s0,r0,q0, .int .i64 (dI .i64 i 1)]⟩,ag [.cells [.int .i64 v0, .int .i64 l0] 104 true]);
 (aj (ltI i (ak z0)) (ae (Bool.and (Nat.beq 2 2) (inI i z0)) (ae (Bool.and (Nat.ble (Nat.add y0 2) x0.length) (jw [w0,w0] x0 y0)) (aj (leI v0 u0) m0 (aj (gtI v0 1048576) m0 (aj (leI l0 o0) m0 (aj (gtI l0 en) m0 (aj (eqI i 0) (aj (neI l0 1) m0 j0) j0))))))) (some (.tuple ⟨[.int .i64 1,t0,k0,s0,r0,q0,p0]⟩,n0)))):=by kernel_rfl
def Yc(C:List Value->List Blk->Bool)(e:Ex)(en r:Int)(l:List (Int×Int))(i:Int)(x:Int×Int):Ct:=fP P 141 0 Dsc (jd C (.leaf (e,scV en r l i,scB x))) ctF
theorem ZI(C:List Value->List Blk->Bool)(en:Int)(l:List (Int×Int))(i:Int)(x:Int×Int):bM P E (Yc C .normal en 0 l i x) 50 au [] [] 0 141 [fV l, .int .i64 en] [] =
 (let z0:=some (Value.int .i64 5,ag []);let y0:=ak l.length;let x0:=Value.int .i64 0;
 (aj (ltI en 0) z0 (aj (gtI en 1048576) z0 (aj (f_ (eqB (eqI y0 0) (eqI en 0))) z0 (ae (C [.int .i64 en,x0,pt_ 0, .iface 18446744073709551618 (.agg ⟨(.slice none l.length 0)::(Enc.all ESa l)⟩), .int .i64 y0,x0] [.cells [x0,x0] 104 true]) (some (x0,ag []))))))):=by kernel_rfl
theorem Zw(C:List Value->List Blk->Bool)(en:Int)(l:List (Int×Int))(i:Int)(x:Int×Int):bM P E (Yc C .ret en 5 l i x) 50 au [] [] 0 141 [fV l, .int .i64 en] [] =
 (let z0:=some (Value.int .i64 5,ag []);let y0:=ak l.length;let x0:=Value.int .i64 0;
 (aj (ltI en 0) z0 (aj (gtI en 1048576) z0 (aj (f_ (eqB (eqI y0 0) (eqI en 0))) z0 (ae (C [.int .i64 en,x0,pt_ 0, .iface 18446744073709551618 (.agg ⟨(.slice none l.length 0)::(Enc.all ESa l)⟩), .int .i64 y0,x0] [.cells [x0,x0] 104 true]) z0))))):=by kernel_rfl
def acx(C1:List Value->List Blk->Bool)(e:Int):Ct:=aC P au 0 141 (bI C1 (.leaf (.int .i64 e,[]))) ctF
theorem Uz(C1:List Value->List Blk->Bool)(e:Int)(m:MsgM):bM P E (acx C1 e) 50 au [] [] 0 95 [mV m] [] =
 (let z0:=some (Value.bool false,ag []);let y0:=m.st.length;let x0:=Enc.all ESa m.st;let w0:=eU .i64 (ak y0) 1;let v0:=Nat.add (atN w0 2) 0;let u0:=bT x0 v0;let t0:=aj (eqI m.fr 0) (aj (eqI m.pv 0) (some (.bool (eqI (ak m.cs.length) 0),ag [])) z0) z0;
 (aj (geI m.ro 1) (aj (f_ (leI m.ro 3)) z0 (ae (C1 [.iface 18446744073709551618 (.agg ⟨(.slice none y0 0)::x0⟩), .int .i64 m.en] []) (aj (neI e 0) z0 (aj (gtI (ak y0) 0) (ae (Bool.and (Nat.beq 2 2) (inI w0 y0)) (ae (Bool.and (Nat.ble (Nat.add v0 1) x0.length) (ig (.int .i64) u0)) (aj (gtI (asI u0) m.e) z0 t0))) t0)))) z0)):=by kernel_rfl
def Dsp:HeadX:=⟨1,60,[1,2,43,44,45],[.val, .val, .val, .val, .val],[0,0,22,0,0],au⟩
def Bsp:Code:=(dZ P 96 0).getD .skip
theorem JM:dZ P 96 0=some Bsp:=by kernel_rfl
theorem FC:Occ P 96 (.block 0 (.loop Bsp)):=fM JM
def msB(m:MsgM):List Blk:=[.cells [.int .i64 m.k, .int .i64 m.e, .int .u8 m.ro, .int .i64 m.en,fV m.st, .int .i64 m.fr, .int .i64 m.pv,fzCms m.cs] 26 true]
def spV(l:List CmM)(i:Int):List Value:=[ptV 0, .bool false,fzCms l, .int .i64 (ak l.length), .int .i64 i]
theorem SY(m:MsgM)(l:List CmM)(i:Int):bV P E ctF 50 96 Bsp Dsp (spV l i) (msB m) =
 (let z0:=l.length;let y0:=atN i 3;let x0:=Enc.all ECm l;let w0:=Eta.int .i64;let v0:=pt_ 0;let u0:=Value.bool false;let t0:=fa_ z0 0 x0;let s0:=Value.int .i64 (ak z0);let r0:=Value.int .i64 i;let q0:=ag [.cells [.int .i64 m.k, .int .i64 m.e, .int .u8 m.ro, .int .i64 m.en, .iface 18446744073709551618 (.agg ⟨(.slice none m.st.length 0)::(Enc.all ESa m.st)⟩), .int .i64 m.fr, .int .i64 m.pv,fa_ m.cs.length 0 (Enc.all ECm m.cs)] 26 true];
 (aj (ltI i (ak z0)) (ae (Bool.and (Nat.beq 3 3) (inI i z0)) (ae (Bool.and (Nat.ble (Nat.add y0 3) x0.length) (jw [w0,w0, .slice 3] x0 y0)) (aj (gtI (asI (bT x0 y0)) m.e) (some (.tuple ⟨[.int .i64 (-1),v0,u0,t0,s0,r0]⟩,q0)) (some (.tuple ⟨[.int .i64 0,v0,u0,t0,s0, .int .i64 (dI .i64 i 1)]⟩,q0))))) (some (.tuple ⟨[.int .i64 1,v0,u0,t0,s0,r0]⟩,q0)))):=by kernel_rfl
def QU(C1 C2:List Value->List Blk->Bool)(r:Int×Nat)(e:Ex)(m:MsgM)(i:Int):Ct:=aC P au 0 9 (bI C1 (.leaf (ui r,[]))) (fP P 96 0 Dsp (jd C2 (.leaf (e,spV m.cs i,msB m))) ctF)
theorem YZ(C1 C2:List Value->List Blk->Bool)(r:Int×Nat)(m:MsgM)(i:Int):bM P E (QU C1 C2 r .normal m i) 50 au [] [] 0 96 [mV m] [] =
 (let z0:=Value.bool false;let y0:=some (z0,ag []);let x0:=m.cs.length;let w0:=Value.int .i64 m.pv;let v0:=fa_ x0 0 (Enc.all ECm m.cs);let u0:=m.st.length;
 (aj (geI m.fr 1) (aj (f_ (leI m.fr 1048576)) y0 (aj (geI m.pv 0) (aj (f_ (leI m.pv m.e)) y0 (aj (f_ (eqB (eqI m.pv 0) (eqI m.fr 1))) y0 (aj (gtI (ak x0) 4) y0 (ae (C1 [w0, .int .i64 (eU .i64 m.fr 1),v0] []) (aj (neI (Prod.fst r) 0) y0 (ae (C2 [pt_ 0,z0,v0, .int .i64 (ak x0), .int .i64 0] [.cells [.int .i64 m.k, .int .i64 m.e, .int .u8 m.ro, .int .i64 m.en, .iface 18446744073709551618 (.agg ⟨(.slice none u0 0)::(Enc.all ESa m.st)⟩), .int .i64 m.fr,w0,v0] 26 true]) (aj (eqI m.ro 0) (aj (eqI m.en 0) (aj (eqI (ak u0) 0) (some (.bool (eqI 0 0),ag [])) y0) y0) y0))))))) y0)) y0)):=by kernel_rfl
theorem ZM(C1 C2:List Value->List Blk->Bool)(r:Int×Nat)(m:MsgM)(i:Int):bM P E (QU C1 C2 r .ret m i) 50 au [] [] 0 96 [mV m] [] =
 (let z0:=Value.bool false;let y0:=some (z0,ag []);let x0:=m.cs.length;let w0:=Value.int .i64 m.pv;let v0:=fa_ x0 0 (Enc.all ECm m.cs);
 (aj (geI m.fr 1) (aj (f_ (leI m.fr 1048576)) y0 (aj (geI m.pv 0) (aj (f_ (leI m.pv m.e)) y0 (aj (f_ (eqB (eqI m.pv 0) (eqI m.fr 1))) y0 (aj (gtI (ak x0) 4) y0 (ae (C1 [w0, .int .i64 (eU .i64 m.fr 1),v0] []) (aj (neI (Prod.fst r) 0) y0 (ae (C2 [pt_ 0,z0,v0, .int .i64 (ak x0), .int .i64 0] [.cells [.int .i64 m.k, .int .i64 m.e, .int .u8 m.ro, .int .i64 m.en, .iface 18446744073709551618 (.agg ⟨(.slice none m.st.length 0)::(Enc.all ESa m.st)⟩), .int .i64 m.fr,w0,v0] 26 true]) y0)))))) y0)) y0)):=by kernel_rfl
def Yu(C1 C2:List Value->List Blk->Bool)(b1 b2:Bool):Ct:=aC P au 0 95 (bI C1 (.leaf (.bool b1,[]))) (aC P au 0 96 (bI C2 (.leaf (.bool b2,[]))) ctF)
theorem Vd(C1 C2:List Value->List Blk->Bool)(b1 b2:Bool)(m:MsgM):bM P E (Yu C1 C2 b1 b2) 50 au [] [] 0 53 [mV m] [] =
 (let z0:=eqI m.k 1;let y0:=leI m.e 1048576;let x0:=some (Value.int .i64 2,ag []);let w0:=some (Value.int .i64 0,ag []);let v0:=eqI m.k 2;let u0:=eqI m.k 3;
 (aj (geI m.e 1) (aj z0 (aj y0 (ae (C1 [me_ m] []) (aj (f_ b1) x0 w0)) x0) (aj v0 (aj y0 (ae (C2 [me_ m] []) (aj (f_ b2) x0 w0)) x0) (aj u0 (aj y0 (aj (geI m.en 0) (aj (leI m.en 1048576) (aj (eqI m.ro 0) (aj (eqI (ak m.st.length) 0) (aj (eqI m.fr 0) (aj (eqI m.pv 0) (aj (f_ (eqI (ak m.cs.length) 0)) x0 w0) x0) x0) x0) x0) x0) x0) x0) x0))) (aj z0 x0 (aj v0 x0 (aj u0 x0 x0))))):=by kernel_rfl
def acl(C1:List Value->List Blk->Bool)(e:Int):Ct:=aC P au 0 53 (bI C1 (.leaf (.int .i64 e,[]))) ctF
theorem RD(C1:List Value->List Blk->Bool)(e:Int)(m:MsgM):bM P E (acl C1 e) 50 au [] [] 0 14 [.agg ⟨[.int .i64 2, .int .u8 3, .int .i64 0, .int .u8 1, .int .i64 0, .int .i64 0]⟩,mV m] [] =
 (let z0:=some (Value.bool false,ag []);
 (ae (C1 [me_ m] []) (aj (eqI e 0) (aj (eqI m.k 1) (aj (eqI m.e 2) (some (.bool (eqI m.ro 1),ag [])) z0) z0) z0))):=by kernel_rfl
def Xy(C:List Value->List Blk->Bool):Ct:=aC P au 0 141 (bI C (.leaf (.int .i64 0,[]))) ctF
theorem abm(C:List Value->List Blk->Bool):bM P E (Xy C) 50 au [] [] 0 144 [aJ 2 0 0 [], .int .i64 0,aJ 2 1 0 [.int .i64 2, .int .i64 1], .int .i64 1] [] =
 (let z0:=Value.int .i64 0;let y0:=Value.int .i64 1;
 (ae (C [.iface 18446744073709551618 (.agg ⟨[.slice none 0 0]⟩),z0] []) (ae (C [.iface 18446744073709551618 (.agg ⟨[.slice none 1 0, .int .i64 2,y0]⟩),y0] []) (some (.tuple ⟨[z0,z0]⟩,ag []))))):=by kernel_rfl
theorem aaQ(C:List Value->List Blk->Bool)(n:Int):bM P E (Xy C) 50 au [] [] 0 144 [aJ 2 1 0 [.int .i64 1, .int .i64 1], .int .i64 n,aJ 2 1 0 [.int .i64 2, .int .i64 1], .int .i64 1] [] =
 (let z0:=Value.slice none 1 0;let y0:=Value.int .i64 1;let x0:=Value.int .i64 0;
 (ae (C [.iface 18446744073709551618 (.agg ⟨[z0,y0,y0]⟩), .int .i64 n] []) (ae (C [.iface 18446744073709551618 (.agg ⟨[z0, .int .i64 2,y0]⟩),y0] []) (some (.tuple ⟨[x0,x0]⟩,ag []))))):=by kernel_rfl
theorem aag(C:List Value->List Blk->Bool)(n x y:Int):bM P E (Xy C) 50 au [] [] 0 144 [aJ 2 1 0 [.int .i64 1, .int .i64 1], .int .i64 n,aJ 2 2 0 [.int .i64 1, .int .i64 1, .int .i64 2, .int .i64 x], .int .i64 y] [] =
 (let z0:=Value.int .i64 1;let y0:=Value.int .i64 n;let x0:=eU .i64 x 1;let w0:=Value.int .i64 0;let v0:=ag [];let u0:=some (Value.tuple ⟨[w0,w0]⟩,v0);
 (ae (C [.iface 18446744073709551618 (.agg ⟨[.slice none 1 0,z0,z0]⟩),y0] []) (ae (C [.iface 18446744073709551618 (.agg ⟨[.slice none 2 0,z0,z0, .int .i64 2, .int .i64 x]⟩), .int .i64 y] []) (aj (ltI x0 n) (aj (leI 1 x0) (some (.tuple ⟨[.int .i64 x0,w0]⟩,v0)) u0) (aj (leI 1 n) (some (.tuple ⟨[y0,w0]⟩,v0)) u0))))):=by kernel_rfl
def PP(C:List Value->List Blk->Bool):Ct:=aC P au 0 52 (bI C (.leaf (.int .i64 0,[]))) ctF
theorem aar(C:List Value->List Blk->Bool)(f b:Int):bM P E (PP C) 50 au [] [] 0 145 [.agg ⟨[.int .i64 2, .int .u8 3, .int .i64 0, .int .u8 1, .int .i64 0, .int .i64 0]⟩, .int .i64 f, .int .i64 b] [] =
 (let z0:=Value.int .i64 2;let y0:=Value.int .u8 3;let x0:=Value.int .i64 0;let w0:=C [.agg ⟨[z0,y0,x0, .int .u8 1,x0,x0]⟩] [];let v0:=Value.int .u8 0;let u0:=some (Value.tuple ⟨[.agg ⟨[x0,v0,x0,v0,x0,x0]⟩,z0]⟩,ag []);
 (ae w0 (aj (geI f 0) (aj (f_ (leI f 1048576)) u0 (aj (geI b 0) (aj (f_ (leI b 1073741824)) u0 (ae w0 (some (.tuple ⟨[.agg ⟨[z0,y0,x0, .int .u8 2, .int .i64 f, .int .i64 b]⟩,x0]⟩,ag [])))) u0)) u0))):=by kernel_rfl
theorem abn(C:List Value->List Blk->Bool)(f:Int):bM P E (PP C) 50 au [] [] 0 147 [.agg ⟨[.int .i64 2, .int .u8 3, .int .i64 0, .int .u8 2, .int .i64 f, .int .i64 0]⟩] [] =
 (let z0:=Value.int .i64 2;let y0:=Value.int .u8 3;let x0:=Value.int .i64 0;let w0:=Value.int .i64 f;
 (ae (C [.agg ⟨[z0,y0,x0, .int .u8 2,w0,x0]⟩] []) (some (.tuple ⟨[.agg ⟨[z0,y0,x0,y0,w0,x0]⟩,x0]⟩,ag [])))):=by kernel_rfl
theorem YH(C:List Value->List Blk->Bool)(f:Int):bM P E (PP C) 50 au [] [] 0 149 [.agg ⟨[.int .i64 2, .int .u8 3, .int .i64 0, .int .u8 3, .int .i64 f, .int .i64 0]⟩] [] =
 (let z0:=Value.int .i64 2;let y0:=Value.int .u8 3;let x0:=Value.int .i64 0;let w0:=Value.int .i64 f;
 (ae (C [.agg ⟨[z0,y0,x0,y0,w0,x0]⟩] []) (some (.tuple ⟨[.agg ⟨[z0,y0,x0, .int .u8 4,w0,x0]⟩,x0]⟩,ag [])))):=by kernel_rfl
theorem ZJ(C:List Value->List Blk->Bool)(f:Int):bM P E (PP C) 50 au [] [] 0 105 [.agg ⟨[.int .i64 2, .int .u8 3, .int .i64 0, .int .u8 4, .int .i64 f, .int .i64 0]⟩] [] =
 (let z0:=Value.int .i64 2;let y0:=Value.int .i64 0;
 (ae (C [.agg ⟨[z0, .int .u8 3,y0, .int .u8 4, .int .i64 f,y0]⟩] []) (some (.tuple ⟨[.agg ⟨[z0, .int .u8 2,y0, .int .u8 0,y0,y0]⟩,y0]⟩,ag [])))):=by kernel_rfl
def adb(C1 C2 C3 C4 C5 C6:List Value->List Blk->Bool)(b:Bool)(s:StaM)(o:List (Int×Int))(f:Int)(p:PgM):Ct:=aC P au 0 14 (bI C1 (.leaf (.bool b,[]))) (aC P au 7 143 (bI C2 (.leaf (.tuple ⟨[.int .i64 s.held, .int .i64 0]⟩,stB s)))
 (aC P au 7 20 (bI C3 (.leaf (fzCms s.log,stB s))) (aC P au 0 51 (bI C4 (.leaf (.tuple ⟨[fV o, .agg ⟨[.int .i64 0, .int .i64 0]⟩]⟩,[]))) (aC P au 0 144 (bI C5 (.leaf (.tuple ⟨[.int .i64 f, .int .i64 0]⟩,[])))
 (aC P au 0 145 (bI C6 (.leaf (.tuple ⟨[pgV p, .int .i64 0]⟩,[]))) ctF)))))
theorem XC(C1 C2 C3 C4 C5 C6:List Value->List Blk->Bool)(s:StaM)(m:MsgM)(o:List (Int×Int))(f:Int)(p:PgM):bM P E (adb C1 C2 C3 C4 C5 C6 true s o f p) 50 au [] [] 7 99 [p0,mV m] (stB s) =
 (let z0:=me_ m;let y0:=[0,1,2,3,4,5,6];let x0:=bC y0 35;let w0:=s.log.length;let v0:=bC y0 55;
 (ae (C1 [pg_ s.pg,z0] []) (ae (bZ z0 z0) (ns_ s (ae (C2 [pt_ 0] (sm_ s (aH 0 [0,1,2,3,4,5,6,26,27,28,29,30,25,31,32,33,34]))) (nw_ s x0 (ae (C3 [pt_ 0] (sw_ s (aH 0 [0,1,2,3,4,5,6,46,47,48,49,50,45,51,52,53,54]) x0)) (ae (C4 [fa_ w0 0 (Enc.all ECm s.log)] []) (ae (C5 [.iface 18446744073709551618 (.agg ⟨(.slice none o.length 0)::(Enc.all ESa o)⟩), .int .i64 (ak w0), .iface 18446744073709551618 (.agg ⟨(.slice none m.st.length 0)::(Enc.all ESa m.st)⟩), .int .i64 m.en] []) (ae (C6 [pg_ s.pg, .int .i64 f, .int .i64 s.held] []) (nw_ s v0 (some (.tuple ⟨[pg_ p, .int .i64 0]⟩,ag (sw_ s (aH 0 [0,1,2,3,4,5,6,68,69,70,71,72,67,73,74,75,76]) v0)))))))))))))):=by kernel_rfl
theorem WU(C1:List Value->List Blk->Bool)(s:StaM)(m:MsgM):bM P E (aC P au 0 14 (bI C1 (.leaf (.bool false,[]))) ctF) 50 au [] [] 7 99 [p0,mV m] (stB s) =
 (let z0:=me_ m;let y0:=Value.int .i64 0;let x0:=Value.int .u8 0;
 (ae (C1 [pg_ s.pg,z0] []) (ae (bZ z0 z0) (ns_ s (some (.tuple ⟨[.agg ⟨[y0,x0,y0,x0,y0,y0]⟩, .int .i64 4]⟩,ag (sm_ s (aH 0 [0,1,2,3,4,5,6,26,27,28,29,30,25,31,32,33,34])))))))):=by kernel_rfl
def Ya(C1 C2 C3 C4:List Value->List Blk->Bool)(b:Bool)(s s2:StaM)(x:SecM)(p:PgM):Ct:=aC P au 7 20 (bI C1 (.leaf (fzCms s.log,stB s))) (aC P au 0 19 (bI C2 (.leaf (.tuple ⟨[jB x, .bool b, .int .i64 0]⟩,[])))
 (aC P au 7 146 (bI C3 (.leaf (.int .i64 0,stB s2))) (aC P au 0 147 (bI C4 (.leaf (.tuple ⟨[pgV p, .int .i64 0]⟩,[]))) ctF)))
theorem WI(C1 C2 C3 C4:List Value->List Blk->Bool)(s s2:StaM)(x:SecM)(p:PgM):bM P E (Ya C1 C2 C3 C4 true s s2 x p) 50 au [] [] 7 101 [p0] (stB s) =
 (let z0:=pg_ s.pg;let y0:=[0,1,2,3,4,5,6];let x0:=bC y0 42;let w0:=bC y0 62;
 (ns_ s (ae (C1 [pt_ 0] (sm_ s (aH 0 [0,1,2,3,4,5,6,33,34,35,36,37,32,38,39,40,41]))) (ae (C2 [fa_ s.log.length 0 (Enc.all ECm s.log),z0] []) (ae (bZ z0 z0) (nw_ s x0 (ae (C3 [pt_ 0, .int .i64 s.pg.ba, .agg ⟨[.int .i64 x.e, .int .i64 x.f,fa_ x.cs.length 0 (Enc.all ECm x.cs)]⟩] (sw_ s (aH 0 [0,1,2,3,4,5,6,53,54,55,56,57,52,58,59,60,61]) x0)) (ae (C4 [z0] []) (nw_ s2 w0 (some (.tuple ⟨[pg_ p, .int .i64 0]⟩,ag (sw_ s2 (aH 0 [0,1,2,3,4,5,6,73,74,75,76,77,72,78,79,80,81]) w0)))))))))))):=by kernel_rfl
theorem XG(C1 C2 C3 C4:List Value->List Blk->Bool)(s s2:StaM)(x:SecM)(p:PgM):bM P E (Ya C1 C2 C3 C4 false s s2 x p) 50 au [] [] 7 101 [p0] (stB s) =
 (let z0:=pg_ s.pg;let y0:=bC [0,1,2,3,4,5,6] 42;
 (ns_ s (ae (C1 [pt_ 0] (sm_ s (aH 0 [0,1,2,3,4,5,6,33,34,35,36,37,32,38,39,40,41]))) (ae (C2 [fa_ s.log.length 0 (Enc.all ECm s.log),z0] []) (ae (bZ z0 z0) (ae (C4 [z0] []) (nw_ s y0 (some (.tuple ⟨[pg_ p, .int .i64 0]⟩,ag (sw_ s (aH 0 [0,1,2,3,4,5,6,53,54,55,56,57,52,58,59,60,61]) y0)))))))))):=by kernel_rfl
def adk(C1 C2:List Value->List Blk->Bool)(s2:StaM)(ot:TbM)(orest:List CmM)(p:PgM):Ct:=aC P au 7 148 (bI C1 (.leaf (.int .i64 0,stG s2 ot orest))) (aC P au 0 149 (bI C2 (.leaf (.tuple ⟨[pgV p, .int .i64 0]⟩,[]))) ctF)
theorem YB(C1 C2:List Value->List Blk->Bool)(s s2:StaM)(ot:TbM)(orest:List CmM)(p:PgM):xC P E (adk C1 C2 s2 ot orest p) 50 au [] [] 7 103 [p0] (stB s) =
 (let z0:=bC [0,1,2,3,4,5,6] 29;
 (ns_ s (ae (C1 [pt_ 0, .int .i64 s.pg.fo] (sm_ s (aH 0 [0,1,2,3,4,5,6,20,21,22,23,24,19,25,26,27,28]))) (ae (C2 [pg_ s2.pg] []) (nw_ s2 z0 (nb_ orest.length 3 (af true z0 (Enc.all ECm orest)) (some (.tuple ⟨[pg_ p, .int .i64 0]⟩,ag (gw_ s2 ot orest (aH 0 [0,1,2,3,4,5,6,29,30,31,45,46,47,48,49,44,50,51,52,53,54]) z0))))))))):=by kernel_rfl
def StaM.at2(s:StaM)(ph f:Int):StaM:={ s with pg:=⟨2,3,0,ph,f,0⟩ }
def X9(C1 C2:List Value->List Blk->Bool)(e:Int)(s s2:StaM)(p:PgM):Ct:=aC P au 7 99 (bI C1 (.leaf (.tuple ⟨[pgV p, .int .i64 e]⟩,stB s))) (aC P au 7 26 (bI C2 (.leaf (.int .i64 0,stB s2))) ctF)
theorem aas(C1 C2:List Value->List Blk->Bool)(s s2:StaM)(m:MsgM)(p:PgM):bM P E (X9 C1 C2 0 (s.at2 1 0) s2 p) 50 au [] [] 7 16 [p0,mV m] (stB (s.at2 1 0)) =
 (let z0:=StaM.at2 s 1 0;let y0:=[0,1,2,3,4,5,6];let x0:=bC y0 47;let w0:=bC y0 67;
 (ns_ z0 (ae (C1 [pt_ 0,me_ m] (sm_ z0 (aH 0 [0,1,2,3,4,5,6,38,39,40,41,42,37,43,44,45,46]))) (nw_ z0 x0 (ae (C2 [pt_ 0,pg_ p] (sw_ z0 (aH 0 [0,1,2,3,4,5,6,58,59,60,61,62,57,63,64,65,66]) x0)) (nw_ s2 w0 (some (.tuple ⟨[pg_ p, .int .i64 0]⟩,ag (sw_ s2 (aH 0 [0,1,2,3,4,5,6,78,79,80,81,82,77,83,84,85,86]) w0))))))))):=by kernel_rfl
theorem Vs(C1 C2:List Value->List Blk->Bool)(s s2:StaM)(m:MsgM)(p:PgM):bM P E (X9 C1 C2 4 (s.at2 1 0) s2 p) 50 au [] [] 7 16 [p0,mV m] (stB (s.at2 1 0)) =
 (let z0:=StaM.at2 s 1 0;let y0:=bC [0,1,2,3,4,5,6] 47;let x0:=Value.int .i64 0;let w0:=Value.int .u8 0;
 (ns_ z0 (ae (C1 [pt_ 0,me_ m] (sm_ z0 (aH 0 [0,1,2,3,4,5,6,38,39,40,41,42,37,43,44,45,46]))) (nw_ z0 y0 (some (.tuple ⟨[.agg ⟨[x0,w0,x0,w0,x0,x0]⟩, .int .i64 4]⟩,ag (sw_ z0 (aH 0 [0,1,2,3,4,5,6,58,59,60,61,62,57,63,64,65,66]) y0))))))):=by kernel_rfl
def adv(C1 C2:List Value->List Blk->Bool)(s s2:StaM)(p:PgM):Ct:=aC P au 7 101 (bI C1 (.leaf (.tuple ⟨[pgV p, .int .i64 0]⟩,stB s))) (aC P au 7 26 (bI C2 (.leaf (.int .i64 0,stB s2))) ctF)
theorem YC(C1 C2:List Value->List Blk->Bool)(s s1 s2:StaM)(m:MsgM)(p:PgM)(f:Int):bM P E (adv C1 C2 s1 s2 p) 50 au [] [] 7 16 [p0,mV m] (stB (s.at2 2 f)) =
 (let z0:=StaM.at2 s 2 f;let y0:=[0,1,2,3,4,5,6];let x0:=bC y0 47;let w0:=bC y0 67;
 (ns_ z0 (ae (C1 [pt_ 0] (sm_ z0 (aH 0 [0,1,2,3,4,5,6,38,39,40,41,42,37,43,44,45,46]))) (nw_ s1 x0 (ae (C2 [pt_ 0,pg_ p] (sw_ s1 (aH 0 [0,1,2,3,4,5,6,58,59,60,61,62,57,63,64,65,66]) x0)) (nw_ s2 w0 (some (.tuple ⟨[pg_ p, .int .i64 0]⟩,ag (sw_ s2 (aH 0 [0,1,2,3,4,5,6,78,79,80,81,82,77,83,84,85,86]) w0))))))))):=by kernel_rfl
def adi(C1 C2:List Value->List Blk->Bool)(s s2:StaM)(ot:TbM)(orest:List CmM)(p:PgM):Ct:=aC P au 7 103 (bI C1 (.leaf (.tuple ⟨[pgV p, .int .i64 0]⟩,stG s ot orest))) (aC P au 7 26 (bI C2 (.leaf (.int .i64 0,stB s2))) ctF)
theorem ZG(C1 C2:List Value->List Blk->Bool)(s s1 s2:StaM)(ot:TbM)(orest:List CmM)(m:MsgM)(p:PgM)(f:Int):xC P E (adi C1 C2 s1 s2 ot orest p) 50 au [] [] 7 16 [p0,mV m] (stB (s.at2 3 f)) =
 (let z0:=StaM.at2 s 3 f;let y0:=bC [0,1,2,3,4,5,6] 47;let x0:=bC [0,1,2,3,47,48,49] 71;let w0:=orest.length;let v0:=af true y0 (Enc.all ECm orest);let u0:=pt_ 1;let t0:=s2.pg;let s0:=s2.log.length;let r0:=pt_ 3;let q0:=s2.dk;let o0:=s2.wcs.length;let n0:=s2.wes.length;let m0:=s2.rs.length;
 let l0:=aH 0 [0,1,2,3,4,5,6,47,48,49,82,83,84,85,86,81,87,88,89,90,91];let k0:=s2.rest.length;
 (ns_ z0 (ae (C1 [pt_ 0] (sm_ z0 (aH 0 [0,1,2,3,4,5,6,38,39,40,41,42,37,43,44,45,46]))) (nw_ s1 y0 (ae (C2 [pt_ 0,pg_ p] (sw_ s1 (aH 0 [0,1,2,3,47,48,49,62,63,64,65,66,61,67,68,69,70]) y0)) (nw_ s2 x0 (nb_ w0 3 v0 (some (.tuple ⟨[pg_ p, .int .i64 0]⟩,ag [.cells [u0, .bool s2.off, .int .i64 t0.ep, .int .u8 t0.ro, .int .i64 t0.ac, .int .u8 t0.ph, .int .i64 t0.fo, .int .i64 t0.ba,sl_ 15 s0,pt_ 2,r0,pt_ 7, .int .i64 s2.held] 114 true,dk_ q0 10 11 12 13 14, .cells [u0, .bool s2.wbr,sl_ 16 o0,sl_ 17 n0] 182 true, .cells [u0, .bool s2.rbr,sl_ 18 m0] 173 true, .cells [pt_ 5,r0,sl_ 20 w0] 185 true, .cells [.map (some 6)] 141 true, .map (eP true l0 (eP true y0 ot.es)) ot.ck, .cells [pt_ 8,r0,sl_ 19 k0] 185 true, .cells [.map (some 9)] 141 true, .map (eP true l0 (eP true x0 s2.tb.es)) s2.tb.ck,lb_ l0 q0.d0.length 1 (af true x0 (bc q0.d0)) 5,lb_ l0 q0.d1.length 1 (af true x0 (bc q0.d1)) 5,lb_ l0 q0.d2.length 1 (af true x0 (bc q0.d2)) 5,lb_ l0 q0.d3.length 1 (af true x0 (bc q0.d3)) 5,lb_ l0 q0.pend.length 4 (af true x0 (Enc.all ESt q0.pend)) 132,lb_ l0 s0 3 (af true x0 (Enc.all ECm s2.log)) 35,lb_ l0 o0 3 (af true x0 (Enc.all ECm s2.wcs)) 35,lb_ l0 n0 1 (af true x0 (Enc.all EIn s2.wes)) 3,lb_ l0 m0 3 (af true x0 (Enc.all iC s2.rs)) 136,lb_ l0 k0 3 (af true x0 (Enc.all ECm s2.rest)) 35,lb_ l0 w0 3 v0 35]))))))))):=by kernel_rfl
def ado(C1 C2:List Value->List Blk->Bool)(s2:StaM)(p:PgM):Ct:=aC P au 0 105 (bI C1 (.leaf (.tuple ⟨[pgV p, .int .i64 0]⟩,[]))) (aC P au 7 26 (bI C2 (.leaf (.int .i64 0,stB s2))) ctF)
theorem Z8(C1 C2:List Value->List Blk->Bool)(s s2:StaM)(m:MsgM)(p:PgM)(f:Int):bM P E (ado C1 C2 s2 p) 50 au [] [] 7 16 [p0,mV m] (stB (s.at2 4 f)) =
 (let z0:=StaM.at2 s 4 f;let y0:=bC [0,1,2,3,4,5,6] 48;
 (ae (C1 [pg_ z0.pg] []) (ns_ z0 (ae (C2 [pt_ 0,pg_ p] (sm_ z0 (aH 0 [0,1,2,3,4,5,6,39,40,41,42,43,38,44,45,46,47]))) (nw_ s2 y0 (some (.tuple ⟨[pg_ p, .int .i64 0]⟩,ag (sw_ s2 (aH 0 [0,1,2,3,4,5,6,59,60,61,62,63,58,64,65,66,67]) y0)))))))):=by kernel_rfl
end Go.VS.Tryz
end

noncomputable section
namespace Go.VS

section
variable{P:Program}{ct:Ct}
def Kq(P:Program)(ct:Ct)(n:Nat)(pol:Pol)(fl:List Fl)(ts:List TypeId)(N:Nat)(kb:List Bool)(g:FuncId)(args:List Value)(bs:List Blk):Res:=
 match iF P ct n g args (ag bs)with
 |some (v,st)=>DT.run (lG P 60 fl ts (ng v) st fun vs1 ps st1=>qQ P pol 200 (List.append (yx args) (List.append ps (upL N 0))) [] st1 fun st2=>
  nP (jP st2) 1000 (List.append args (List.append vs1 (zl (upL N 0)))) (kbF kb args) [] fun X L=>match Nat.beq vs1.length (ng v).length,i_ 0 ((List.append (upL N 0) (geL N X)).append L) (fun i=>eG (path i) st2.heap) ((List.append (upL N 0) (geL N X)).append L)with
  |true,some ms=> .leaf (sN v (vs1.map (fE true (aH 0 ((List.append (upL N 0) (geL N X)).append L)))),ms)
  |_,_=> .fail) fun r=>some (r.1,ag r.2)
 |none=>none
theorem CRX.ofE(hN:noNum P=true)(hct:CtOk P ct){n:Nat}{pol:Pol}{fl:List Fl}{ts:List TypeId}{N:Nat}{kb:List Bool}{g:FuncId}{args:List Value}{bs:List Blk}{v:Value}{bs':List Blk}(h:Kq P ct n pol fl ts N kb g args bs=some (v,ag bs')):CRX P N g args bs v bs':=by
 intro K β w args' cs hid ha hr;unfold Kq at h;split at h
 ·rename_i v1 st1 h1;have h2:=h;obtain⟨β1,fr,w1,v',a1,a2,a3,a4,a5,a6⟩:=(iy hN hct n K).call g args (ag bs) v1 st1 h1 β w args' .normal cs (Or.inl rfl) ha hr;obtain⟨r,hc,h2⟩:=DT.run_spec h2;obtain⟨vs1,ps,st2,f1,f2,f3⟩:=jv _ _ _ _ _ _ hc;obtain⟨st3,g1,g2⟩:=jH _ _ _ _ _ f1;obtain⟨X0,L,hX⟩:=kR (jP st3) 1000 (List.append args (List.append vs1 (zl (upL N 0)))) (kbF kb args) [] fun X L=>match Nat.beq vs1.length (ng v1).length,i_ 0 ((List.append (upL N 0) (geL N X)).append L) (fun i=>eG (path i) st3.heap) ((List.append (upL N 0) (geL N X)).append L)with
   |true,some ms=>DT.leaf (sN v1 (vs1.map (fE true (aH 0 ((List.append (upL N 0) (geL N X)).append L)))),ms)
   |_,_=> .fail
  rw[hX]at g1;have hup:upTo N (upL N 0++geL N X0) 0=true:=vI N 0 _;generalize hY:upL N 0++geL N X0=X at hup;have hY':List.append (upL N 0) (geL N X0)=X:=hY;rw[hY']at g1;split at g1
  ·rename_i ms hvl hm;have hm:i_ 0 (X++L) (fun i=>eG (path i) st3.heap) (X++L)=some ms:=hm;simp only[DT.eval,Option.some.injEq]at g1;subst g1;simp only[Option.some.injEq,Prod.mk.injEq]at h2;obtain⟨rfl,hst⟩:=h2;obtain⟨m1,m2,m3⟩:=iW hm;simp only[dU]at m2 m3;have hvl:=Nat.eq_of_beq_eq_true hvl;obtain⟨xs,x1,x2⟩:=uZ a5;obtain⟨β2,c1,c2,c3⟩:=f3 K β1 w1 xs a3 x1;obtain⟨β3,d1,d2⟩:=g2 K β2 w1 c2;have hmid:=jq (N:=0) (src:=X++L) d2 (fun i hi=>(hid i hi).elim) (Nat.zero_le _) m1 m2;have hren:=o5 (X++L) β3;have hmsl:ms.length=bs'.length:=by have:=congrArg St.next hst; exact this
   refine⟨⟨iE 0 (X++L) β3,fr,w1,v',a1,(((a2.trans c1).trans d1).leN _).trans (rP hup),?_,a4,?_,a6⟩,?_⟩
   ·rw[<-hst,m3]; exact hmid
   ·refine x2 _ _ (by rw[List.length_map]; exact hvl) ((c3.mono d1).mapr fun v _ x hx=>gU hren v x hx)
   ·rw[<-hmsl,m3,List.length_map,List.length_append];have:=(oU _ _ _ hup).1;omega
  ·cases g1
 ·cases h
end
end Go.VS
end

noncomputable section
namespace Go.VS.Tryz
open Go.VS
set_option maxRecDepth 1000000
def dkN:DkM:=⟨false,false,0,0,[],[],[],[],[]⟩
def l9:List Blk:=[.cells [.bool true, .bool false, .bool false, .int .i64 0, .int .i64 0, .slice none 0 0, .slice none 0 0, .slice none 0 0, .slice none 0 0, .slice none 0 0] 108 true]
theorem aai:Kq P rU 4000 au [] [] 1 [] 25 [p0, .int .i64 0] l9 =
 (let z0:=Value.int .i64 0;let y0:=Value.bool false;let x0:=pt_ 0;let w0:=Blk.cells [] 5 false;let v0:=Blk.cells [] 35 false;
 (some (Value.tuple ⟨[pt_ 1,z0]⟩,ag [.cells [.bool true,y0,y0,z0,z0,sl_ 7 0,sl_ 8 0,sl_ 9 0,sl_ 10 0,sl_ 11 0] 108 true, .cells [x0,y0, .int .i64 1, .int .u8 1,z0, .int .u8 0,z0,z0,sl_ 12 0,pt_ 2,pt_ 3,pt_ 4,z0] 114 true, .cells [x0,y0,sl_ 13 0,sl_ 14 0] 182 true, .cells [x0,y0,sl_ 15 0] 173 true, .cells [pt_ 5,pt_ 3,sl_ 16 0] 185 true, .cells [.map (some 6)] 141 true, .map [] 0,w0,w0,w0,w0, .cells [] 132 false,v0,v0, .cells [] 3 false, .cells [] 136 false,v0]))):=by kernel_rfl
def lD:StaM:=⟨false,⟨1,1,0,0,0,0⟩,[],0,dkN,false,[],[],false,[],tb0,[]⟩
def stD(s:StaM):List Blk:=[.cells (dP 7 8 9 10 11 s.dk) 108 true, .cells ([ptV 0, .bool s.off]++pgC s.pg++[lsV 12 s.log.length,ptV 2,ptV 3,ptV 4, .int .i64 s.held]) 114 true,
 .cells [ptV 0, .bool s.wbr,lsV 13 s.wcs.length,lsV 14 s.wes.length] 182 true, .cells [ptV 0, .bool s.rbr,lsV 15 s.rs.length] 173 true, .cells [ptV 5,ptV 3,lsV 16 s.rest.length] 185 true, .cells [.map (some 6)] 141 true, .map s.tb.es s.tb.ck]++dkL s.dk++
 [.cells (ECm.all s.log) 35 false, .cells (ECm.all s.wcs) 35 false, .cells (EIn.all s.wes) 3 false, .cells (iC.all s.rs) 136 false, .cells (ECm.all s.rest) 35 false]
theorem aaB:CRX P 1 25 [p0, .int .i64 0] l9 (.tuple ⟨[ptV 1, .int .i64 0]⟩) (stD lD):=
 CRX.ofE (pol:=au) (fl:=[]) (ts:=[]) (n:=4000) (kb:=[]) aA (qE P) (aai.trans rfl)
theorem zY:StQ lD 1000000:=⟨rfl,⟨rfl,rfl,by decide,by decide⟩,rfl,rfl,rfl,rfl,⟨tq,rfl,Or.inl rfl,by decide,by decide⟩,rfl⟩
def QB:Pol:=fun _=>none
def adL(C1 C2 C3:List Value->List Blk->Bool)(s1 s2:StaM):Ct:=aC P QB 1 25 (bI C1 (.leaf (.tuple ⟨[ptV 1, .int .i64 0]⟩,stD lD))) (aC P au 7 27 (bI C2 (.leaf (.int .i64 0,stB s1))) (aC P au 7 26 (bI C3 (.leaf (.int .i64 0,stB s2))) ctF))
theorem ZC(C1 C2 C3:List Value->List Blk->Bool)(s1 s2:StaM)(l:List CmM):bM P E (adL C1 C2 C3 s1 s2) 50 au [] [] 1 13 [p0,fzCms l, .int .i64 2] l9 =
 (let z0:=pt_ 0;let y0:=Value.int .i64 0;let x0:=Value.bool true;let w0:=Value.bool false;let v0:=Value.slice none 0 0;let u0:=pt_ 1;let t0:=Value.int .u8 1;let s0:=Blk.cells [] 5 false;let r0:=Blk.cells [] 35 false;let q0:=[1,0,2,3,4,5,6];let o0:=bC q0 27;let n0:=s2.dk;let m0:=bC q0 47;
 (ae (C1 [z0,y0] [.cells [x0,w0,w0,y0,y0,v0,v0,v0,v0,v0] 108 true]) (ae (C2 [z0,fa_ l.length 0 (Enc.all ECm l)] [.cells [u0, .bool lD.off, .int .i64 1,t0,y0, .int .u8 0,y0,y0,sl_ 12 0,pt_ 2,pt_ 3,pt_ 4,y0] 114 true, .cells [x0, .bool lD.dk.off, .bool lD.dk.fused,y0,y0,sl_ 7 0,sl_ 8 0,sl_ 9 0,sl_ 10 0,sl_ 11 0] 108 true, .cells [u0, .bool lD.wbr,sl_ 13 0,sl_ 14 0] 182 true, .cells [u0, .bool lD.rbr,sl_ 15 0] 173 true, .cells [pt_ 5,pt_ 3,sl_ 16 0] 185 true, .cells [.map (some 6)] 141 true, .map [] 0,s0,s0,s0,s0, .cells [] 132 false,r0,r0, .cells [] 3 false, .cells [] 136 false,r0]) (nw_ s1 o0 (ae (C3 [z0, .agg ⟨[.int .i64 2, .int .u8 3,y0,t0,y0,y0]⟩] (sw_ s1 (aH 0 [1,0,2,3,4,5,6,38,39,40,41,42,37,43,44,45,46]) o0)) (nb_ n0.d0.length 1 (af true m0 (bc n0.d0)) (nb_ n0.d1.length 1 (af true m0 (bc n0.d1)) (nb_ n0.d2.length 1 (af true m0 (bc n0.d2)) (nb_ n0.d3.length 1 (af true m0 (bc n0.d3)) (nb_ n0.pend.length 4 (af true m0 (Enc.all ESt n0.pend)) (nb_ s2.log.length 3 (af true m0 (Enc.all ECm s2.log)) (nb_ s2.wcs.length 3 (af true m0 (Enc.all ECm s2.wcs)) (nb_ s2.wes.length 1 (af true m0 (Enc.all EIn s2.wes)) (nb_ s2.rs.length 3 (af true m0 (Enc.all iC s2.rs)) (nb_ s2.rest.length 3 (af true m0 (Enc.all ECm s2.rest)) (some (u0,ag (mw_ s2 (aH 0 [0,1,2,3,4,5,6,57,58,59,60,61,62,63,64,65,66]) m0)))))))))))))))))):=by kernel_rfl
theorem Kr{fid id:Nat}{B:Code}{H:Head}{r:DT (Ex×List Value×List Blk)}(hocc:∀ c,Occ P fid (.block id c)->c = .loop B):LoopOkX P fid id B H (jd (fun _ _=>false) r) where
 occ:=hocc
 run:=by
  intro vs bs t hR e' vs' bs' hev;unfold jd at hR;obtain rfl:=Option.some.inj hR;cases hev
theorem Yz{s:StaM}(hs:StQ s 100000)(hg:s.log.length<4000):CRX P 7 27 [p0,fzCms []] (stB s) (.int .i64 0) (stB s):=by
 have q1:=mX (e:=dL s.log) (n:=(s.log.length:Int)) (l:=[]) (by decide) (by intro x hx; cases hx);have hf0:fD (dL s.log) (s.log.length:Int) 0 []=(0,0):=rfl;rw[hf0]at q1;have q:=NK (fun _ _=>false) (aV [.int .i64 (dL s.log), .int .i64 (s.log.length:Int),fzCms []] []) (fun _ _=>false) (fun _ _=>false) (fun _ _=>false) (fun _ _=>false) (fun _ _=>false) 0 0 0 0 0 s s s s.wal [];rw[xA hs.off hs.dk.off]at q;refine CRX.of (pol:=au) (fl:=[]) (ts:=[]) (n:=50) (bf _) aA (ah (pol:=au) (ah (pol:=au) (ah (pol:=au) (eu (ah (pol:=au) (eu aW (Kr (d_ Jf))) gm) (Kr (d_ Jh))) gm) gm) (aZ q1)) (q.trans ?_);clear q q1;have hoff:=hs.off;have hdo:=hs.dk.off;have ht:=hs.sr.tb.ren;have g0:eqI (ak ([]:List CmM).length) 0=true:=rfl;have g0':eqI (ak 0) 0=true:=rfl;have g1:([]:List CmM).length=0:=rfl;have g2:ECm.all ([]:List CmM)=[]:=rfl;have e0:ak s.log.length=(s.log.length:Int):=rfl;have z3:eqI 0 0=true:=rfl;have z4:neI 0 0=false:=rfl;by_cases h0:s.log=[]
 ·have e1:dL s.log=0:=by rw[h0]; rfl
  have e2:(s.log.length:Int)=0:=by rw[h0]; rfl
  have e3:eqI (s.log.length:Int) 0=true:=by rw[e2]; rfl
  simp (disch:=first | omega | (simp only[List.length_append,List.length_drop,List.length_take,List.length_singleton,Nat.add_eq,bJ]<;>omega) | fail) only[dk_,fa_,lb_,nb_,ns_,nw_,pg_,pt_,sl_,sm_,sw_,hoff,hdo,ht,g0,g0',g1,g2,e0,e1,e3,z3,z4,zF,kG,pgV,iI,kF,stB,pgC,cZ,rnB,srB,tbB,dkL,List.cons_append,List.nil_append,List.append_assoc,dN,aT,dP,lsV,ptV,p0,aN,dkC,bn,fzCms,cmV,di,bG,az,dG,dn,dR,dE,dF,dD,dw,dC,dB,dQ,dA,aB,aK,aP,Enc.all_ren,aB rfl,aK rfl,aP rfl,aT rfl,aQ,bH,bz,bu,bg,ax,aX,bD,Int.toNat_natCast,aY,aO,bF,bU,dH,bP,bW,dK,Bool.and_self,aG,aF,ay]
 ·obtain⟨m0,_,m1,m2⟩:=kz h0 (by omega);have mp:=List.length_pos_iff.2 h0;have m4:=k_ (l:=s.log) (i:=s.log.length-1) (by omega);have m5:=mD (n:=s.log.length) (k:=1) mp (by decide);have m6:=nz h0;rw[e0]at m0 m1;simp (disch:=first | omega | (simp only[List.length_append,List.length_drop,List.length_take,List.length_singleton,Nat.add_eq,bJ]<;>omega) | fail) only[dk_,fa_,lb_,nb_,ns_,nw_,pg_,pt_,sl_,sm_,sw_,hoff,hdo,ht,g0,g0',g1,g2,e0,m0,m1,m2,m4,m5,m6,z3,z4,zF,kG,pgV,iI,kF,stB,pgC,cZ,rnB,srB,tbB,dkL,List.cons_append,List.nil_append,List.append_assoc,dN,aT,dP,lsV,ptV,p0,aN,dkC,bn,fzCms,cmV,di,bG,az,dG,dn,dR,dE,dF,dD,dw,dC,dB,dQ,dA,aB,aK,aP,Enc.all_ren,aB rfl,aK rfl,aP rfl,aT rfl,aQ,bH,bz,bu,bg,ax,aX,bD,Int.toNat_natCast,aY,aO,bF,bU,dH,bP,bW,dK,Bool.and_self,aG,aF,ay]
def bQ:PgM:=⟨2,3,0,1,0,0⟩
theorem Tf{l:List CmM}(hf:fD 0 0 0 l=(0,0))(hl:l.length<=30)(he:dL l<=1):∃ s,StQ s 900000/\s.log=l/\s.dk.d1=[]/\s.dk.d3=[]/\s.held=0/\s.rs=[]/\CRX P 7 27 [p0,fzCms l] (stB lD) (.int .i64 0) (stB s):=by
 by_cases hn:l=[]
 ·subst hn;exact⟨lD,zY.mono (by omega),rfl,rfl,rfl,rfl,rfl,Yz (zY.mono (by omega)) (by decide)⟩
 ·have hso:kW lD.held lD.pg ((lD.log.length:Int)+(l.length:Int)) (dL l) (h_ lD.rs)=true:=by
   have e1:leI (dL l) 1=true:=by unfold leI; exact decide_eq_true he
   have e2:leI 0 ((0:Int)+(l.length:Int))=true:=by unfold leI; exact decide_eq_true (by omega)
   show kW 0 ⟨1,1,0,0,0,0⟩ ((0:Int)+(l.length:Int)) (dL l) 0=true;unfold kW;simp only[e1,e2]
   rfl
  obtain⟨k,k1,k2⟩:=acI (s:=lD) (l:=l) (zY.mono (by omega)) ⟨hf⟩ hn (by omega) (by decide) (by decide) hso;exact⟨lD.added k l,abo (zY.mono (by omega)) k1 (by omega),List.nil_append l,rfl,rfl,rfl,rfl,k2⟩
theorem ZW{l:List CmM}(hf:fD 0 0 0 l=(0,0))(hl:l.length<=30)(he:dL l<=1):∃ s,StQ s 800000/\s.log=l/\s.pg=bQ/\s.dk.d3=[]/\s.held=0/\s.rs=[]/\s.dk.d1.length<=100/\CRX P 1 13 [p0,fzCms l, .int .i64 2] l9 (ptV 1) (stD s):=by
 obtain⟨s1,a1,a2,a3,a4,a5,a6,q2⟩:=Tf hf hl he;have hr0:h_ s1.rs=0:=by rw[a6]; rfl
 have hso:kW s1.held bQ (s1.log.length:Int) (dL s1.log) (h_ s1.rs)=true:=by
  have e1:leI (dL l) 2=true:=by unfold leI; exact decide_eq_true (by omega)
  have e2:leI 0 (l.length:Int)=true:=by unfold leI; exact decide_eq_true (by omega)
  have e3:ltI (dL l) 2=true:=by unfold ltI; exact decide_eq_true (by omega)
  rw[a2,hr0,a5];unfold kW bQ;simp only[fa_,mw_,nb_,nw_,pt_,sl_,sw_,e1,e2,e3]
  rfl
 obtain⟨k,k1,q3⟩:=xe (s:=s1) (p:=bQ) (a1.mono (by omega)) (by decide) (by rw[a2]; omega) (by rw[a3]; decide) hso;refine⟨s1.paged k bQ,Az (a1.mono (by omega)) k1,a2,rfl,a4,a5,a6,by
  show(s1.dk.d1++frM (kH bQ)).length<=100;have:=u_ bQ
  rw[a3,List.nil_append]; omega,?_⟩
 have q1:=aaB;refine CRX.of (pol:=au) (fl:=[]) (ts:=[]) (n:=50) (bf _) aA (ah (pol:=QB) (ah (pol:=au) (ah (pol:=au) aW (aZ q3)) (aZ q2)) (aZ q1)) ((ZC (aV [p0, .int .i64 0] l9) (aV [p0,fzCms l] (stB lD)) (aV [p0,pgV bQ] (stB s1)) s1 (s1.paged k bQ) l).trans ?_);clear q1 q2 q3;have ht0:=zY.sr.tb.ren;have ht1:=a1.sr.tb.ren;have ht2:∀ ρ,eP true ρ (s1.paged k bQ).tb.es=(s1.paged k bQ).tb.es:=a1.sr.tb.ren;generalize hS:s1.paged k bQ=s2 at ht2;have ht0':=tq.ren;have n1:([]:List UInt8).length=0:=rfl;have n2:([]:List CmM).length=0:=rfl;have n3:([]:List Int).length=0:=rfl;have n4:([]:List RunM).length=0:=rfl;have n5:([]:List StM).length=0:=rfl;have f1:bc ([]:List UInt8)=[]:=rfl;have f2:ESt.all ([]:List StM)=[]:=rfl;have f3:ECm.all ([]:List CmM)=[]:=rfl;have f4:EIn.all ([]:List Int)=[]:=rfl;have f5:iC.all ([]:List RunM)=[]:=rfl;have f6:tb0.es=[]:=rfl;have f7:tb0.ck=0:=rfl;simp (disch:=first | omega | (simp only[List.length_append,List.length_drop,List.length_take,List.length_singleton,Nat.add_eq,bJ]<;>omega) | fail) only[fa_,mw_,nb_,nw_,pt_,sl_,sw_,f1,f2,f3,f4,f5,f6,f7,ht0,ht0',ht1,ht2,lD,dkN,n1,n2,n3,n4,n5,l9,stD,stB,bQ,pgV,pgC,cZ,rnB,srB,tbB,dkL,List.cons_append,List.nil_append,List.append_assoc,dN,aT,dP,lsV,ptV,p0,aN,dkC,bn,fzCms,cmV,di,bG,az,dG,dn,dR,dE,dF,dD,dw,dC,dB,dQ,dA,aB,aK,aP,Enc.all_ren,aB rfl,aK rfl,aP rfl,aT rfl,aQ,bH,bz,bu,bg,ax,aX,bD,Int.toNat_natCast,aY,aO,bF,bU,dH,bP,bW,dK,Bool.and_self,aG,aF,ay]
theorem P_(c d:CmM)(l:List CmM):dL (c::d::l)=dL (d::l):=by unfold dL; rw[List.getLast?_cons_cons]
theorem TP:∀ {l:List CmM} {e n:Int} {i:Nat},fD e n i l=(0,0)->∀ c∈l,c.e<=dL l
 |[],_,_,_,_,c,hc=>by cases hc
 |[a],_,_,_,_,c,hc=>by
  obtain rfl:=List.mem_singleton.1 hc;exact Int.le_refl _
 |a::b::l,e,n,i,h,c,hc=>by
  obtain⟨_,_,_,h4⟩:=lL h;obtain⟨_,_,h3,_⟩:=lL h4;have ih:=TP h4;rw[P_];rcases List.mem_cons.1 hc with rfl | hc
  ·have:=ih b (List.mem_cons_self ..);omega
  ·exact ih c hc
theorem Dp{l:List CmM}{e n:Int}{i:Nat}(h:fD e n i l=(0,0))(h1:dL l<=1):∀ c∈l,c.e=1:=fun c hc=>by
 have a:=TP h c hc;have b:=(jf.1 (kS h c hc)).1.1;omega
theorem JH:∀ {l:List CmM} {e n:Int} {i:Nat} (k:Nat),fD e n i l=(0,0)->(∀ c∈l,c.e=1)->fD 1 (n+k) 0 (l.drop k)=(0,0)
 |[],_,_,_,k,_,_=>by rw[List.drop_nil]; rfl
 |c::l,e,n,i,0,h,h1=>by
  obtain⟨a1,a2,a3,a4⟩:=lL h;refine yP ⟨a1,by omega,by rw[h1 c (List.mem_cons_self ..)]; exact Int.le_refl _,Js 1 a4⟩
 |c::l,e,n,i,k+1,h,h1=>by
  obtain⟨a1,a2,a3,a4⟩:=lL h;have ih:=JH k a4 fun x hx=>h1 x (List.mem_cons_of_mem _ hx);have e:c.n+(k:Int)=n+((k+1:Nat):Int):=by omega
  rw[e]at ih;exact ih
theorem wG{l:List CmM}(h:∀ c∈l,c.e=1):dL l=0\/dL l=1:=by
 unfold dL;cases hq:l.getLast? with
 |none=>exact Or.inl rfl
 |some c=>exact Or.inr (h c (List.mem_of_getLast? hq))
def hsM(k:Nat):List (Int×Int):=match k with
 |0=>[(2,1)]
 |k+1=>[(1,1),(2,((k+1:Nat):Int)+1)]
def dV(k:Nat):MsgM:=⟨1,2,1,(k:Int)+1,hsM k,0,0,[]⟩
theorem YV{l:List CmM}{k:Nat}(h:k<=l.length):ofM (l.take k)++[(2,(k:Int)+1)]=hsM k:=by
 cases k with
 |zero=>rfl
 |succ k=>
  cases l with
  |nil=>cases h
  |cons c l=>rfl
def kw(l:List CmM)(k:Nat):SecM:=⟨2,k,l.drop k⟩
theorem NQ{l:List CmM}{k:Nat}(hf:fD 0 0 0 l=(0,0))(h1:∀ c∈l,c.e=1)(hk:k<l.length):pO (kw l k)=0:=by
 have q:=JH k hf h1;rw[Int.zero_add]at q;have hne:l.drop k≠[]:=fun h=>by
  have:=congrArg List.length h;rw[List.length_drop,List.length_nil]at this;omega
 have w:(within 2 1 1048576&&decide ((0:Int)<=(k:Int))&&!(l.drop k).isEmpty)=true:=by
  rw[decide_eq_true (by omega:(0:Int)<=(k:Int))];cases hd:l.drop k with
  |nil=>exact absurd hd hne
  |cons c r=>rfl
 have hl:=wG fun c (hc:c∈l.drop k)=>h1 c (List.mem_of_mem_drop hc);unfold pO kw;simp only[w,q];have e:geI (dL (l.drop k)) 2=false:=by unfold geI; exact decide_eq_false (by omega)
 simp only[e,show eqI (0,0).1 0=true from rfl]
theorem DF{n f ba:Int}{k:Nat}{l:List CmM}{held:Int}(ph:Int)(hph:ph=2\/ph=3)(h1:∀ c∈l,c.e=1)(hh:0<=held)(hf:0<=f)(hn:f<=n):kW held ⟨2,3,0,ph,f,0⟩ n (dL l) 0=true:=by
 have hl:=wG h1;have e1:leI (dL l) 2=true:=by unfold leI; exact decide_eq_true (by omega)
 have e2:leI 0 n=true:=by unfold leI; exact decide_eq_true (by omega)
 have e3:ltI (dL l) 2=true:=by unfold ltI; exact decide_eq_true (by omega)
 have e4:leI 0 f=true:=by unfold leI; exact decide_eq_true hf
 have e5:leI f n=true:=by unfold leI; exact decide_eq_true hn
 have e6:leI 0 held=true:=by unfold leI; exact decide_eq_true hh
 unfold kW;rcases hph with rfl | rfl<;>simp only[e1,e2,e3,e4,e5,e6]<;>rfl
theorem TM{n:Int}{l:List CmM}{held:Int}(h1:∀ c∈l,c.e=1)(hh:0<=held)(hn:0<=n):kW held ⟨2,3,0,4,n,0⟩ n (dL l) 0=true:=by
 have hl:=wG h1;have e1:leI (dL l) 2=true:=by unfold leI; exact decide_eq_true (by omega)
 have e2:leI 0 n=true:=by unfold leI; exact decide_eq_true (by omega)
 have e3:ltI (dL l) 2=true:=by unfold ltI; exact decide_eq_true (by omega)
 have e5:leI n n=true:=by unfold leI; exact decide_eq_true (Int.le_refl _)
 have e6:leI 0 held=true:=by unfold leI; exact decide_eq_true hh
 have e7:eqI n n=true:=by unfold eqI; exact decide_eq_true rfl
 unfold kW;simp only[e1,e2,e3,e5,e6,e7]
 rfl
theorem TC{n:Int}{l:List CmM}{held:Int}(h1:∀ c∈l,c.e=1)(hn:0<=n):kW held ⟨2,2,0,0,0,0⟩ n (dL l) 0=true:=by
 have hl:=wG h1;have e1:leI (dL l) 2=true:=by unfold leI; exact decide_eq_true (by omega)
 have e2:leI 0 n=true:=by unfold leI; exact decide_eq_true (by omega)
 unfold kW;simp only[e1,e2]
 rfl
theorem lH{f:Int}(ph:Int)(hph:ph=2\/ph=3\/ph=4)(hf:0<=f)(h2:f<=1048576):pgE ⟨2,3,0,ph,f,0⟩=0:=by
 have e1:geI f 0=true:=by unfold geI; exact decide_eq_true hf
 have e2:leI f 1048576=true:=by unfold leI; exact decide_eq_true h2
 unfold pgE Gv;rcases hph with rfl | rfl | rfl<;>simp only[e1,e2]<;>rfl
theorem aaG(C1 C2:List Value->List Blk->Bool)(l:List CmM)(o:List (Int×Int)):pY P E (Yi C1 C2 l o) 50 au [.own, .val, .val] [24,0,0] 0 [] 51 [fzCms l] [] =
 (let z0:=Value.int .i64 0;let y0:=fa_ l.length 0 (Enc.all ECm l);let x0:=o.length;let w0:=af true (bC [0] 3) (Enc.all ESa o);
 (ae (C1 [z0,z0,y0] []) (ae (C2 [pt_ 0,sl_ 1 0,y0, .int .i64 (ak l.length),z0] [.cells [z0,z0] 31 true, .cells [] 104 false]) (nb_ x0 2 w0 (some (.tuple ⟨[sl_ 0 x0, .agg ⟨[z0,z0]⟩]⟩,ag [lb_ (aH 0 [4]) x0 2 w0 104])))))):=by kernel_rfl
def adZ(C:List Value->List Blk->Bool)(o:List (Int×Int)):Ct:=aC P au 0 51 (bI C (.leaf (.tuple ⟨[lsV 0 o.length, .agg ⟨[.int .i64 0, .int .i64 0]⟩]⟩,[.cells (ESa.all o) 104 false]))) ctF
theorem aaV(C:List Value->List Blk->Bool)(o:List (Int×Int))(l:List CmM)(k:Int):pY P E (adZ C o) 50 au [.val, .val, .val, .val, .val, .val, .val, .val, .val] [0,0,0,0,24,0,0,22,0] 0 [] 11 [fzCms l, .int .i64 k, .int .i64 1, .int .i64 2] [] =
 (let z0:=Nat.add o.length 1;let y0:=af true (bC [] 1) (Enc.all ESa o);let x0:=Value.int .i64 2;let w0:=Value.int .i64 (dI .i64 k 1);let v0:=List.append (jC 0 y0) [x0,w0];let u0:=Value.int .i64 0;
 (ae (Bool.and (Nat.beq 3 3) (eF 0 k l.length)) (ae (C [fa_ (fZ 0 k) 0 (takeC (Nat.mul (fZ 0 k) 3) (aU 0 (Enc.all ECm l)))] []) (ae (Nat.ble z0 4194304) (ae (Nat.beq (Nat.add 0 (Nat.mul o.length 2)) y0.length) (ae (gV P 0 z0 18446744073709551616 v0 104) (some (.tuple ⟨[.agg ⟨[.int .i64 1,x0, .int .u8 1,w0, .iface 18446744073709551618 (.agg ⟨(.slice none z0 0)::(takeC (Nat.mul z0 2) (aU 0 v0))⟩),u0,u0, .iface 18446744073709551619 (.agg ⟨[.slice none 0 0]⟩)]⟩, .bool (Bool.and (eqI 0 0) (Bool.and (eqI 0 0) true))]⟩,ag [])))))))):=by kernel_rfl
theorem WX{l:List (Int×Int)}{i:Nat}(h:i<l.length):bT (ESa.all l) (atN (i:Int) 2) = .int .i64 l[i].1:=by
 have e:atN (i:Int) 2=i*ESa.sz+0:=by simp[atN]; rfl
 rw[e,ESa.nth h (by decide)]; rfl
theorem ab1{l:List (Int×Int)}{i:Nat}(h:i<l.length):bT (ESa.all l) (Nat.add (atN (i:Int) 2) 1) = .int .i64 l[i].2:=by
 have e:Nat.add (atN (i:Int) 2) 1=i*ESa.sz+1:=by simp[atN]; rfl
 rw[e,ESa.nth h (by decide)]; rfl
theorem aaN{l:List (Int×Int)}{i:Nat}(h:i<l.length):jw [.int .i64, .int .i64] (ESa.all l) (atN (i:Int) 2)=true:=by
 show and (ig (.int .i64) (bT (ESa.all l) (atN (i:Int) 2))) (and (ig (.int .i64) (bT (ESa.all l) (Nat.add (atN (i:Int) 2) 1))) true)=true;rw[WX h,ab1 h]; rfl
theorem UC{l:List (Int×Int)}{i k:Nat}(h:i<l.length)(hk:k<=2):Nat.ble (Nat.add (atN (i:Int) 2) k) (ESa.all l).length=true:=Nat.ble_eq_true_of_le (by
 rw[ESa.all_length];show(i:Int).toNat*2+k<=l.length*2;have:(i:Int).toNat=i:=by omega
 omega)
theorem gG(n b:Nat)(c:List Value):aJ 2 n b c = .iface 18446744073709551618 (.agg ⟨.slice none n b::c⟩):=by unfold aJ; rw[show FZ+2=18446744073709551618 from by unfold FZ; rfl]
def F6(en:Int)(x:Int×Int)(i:Nat)(s:Int×Int):Bool:=leI s.1 x.1 || (gtI s.1 1048576 || (leI s.2 x.2 || (gtI s.2 en || (eqI (i:Int) 0&&neI s.2 1))))
def scM(en:Int):Int×Int->Nat->List (Int×Int)->Bool
 |_,_,[]=>true
 |x,i,s::r=>match F6 en x i s with
  |true=>false
  |false=>scM en s (i+1) r
theorem XQ{en:Int}{l:List (Int×Int)}{i:Nat}{x:Int×Int}(hi:i<l.length)(hl:l.length<4194304) :
  bV P E ctF 50 141 Bsc Dsc (scV en 0 l i) (scB x)=match F6 en x i l[i]with
   |true=>some (.tuple ⟨exV .ret::scV en 5 l i⟩,ag (scB x))
   |false=>some (.tuple ⟨exV .normal::scV en 0 l ((i+1:Nat):Int)⟩,ag (scB l[i])):=by
 obtain⟨g1,g2,a1⟩:=nU hi hl;rw[Su];simp only[pt_,g1,g2,a1,aaN hi,UC hi (Nat.le_refl 2),WX hi,ab1 hi,iI,show Nat.beq 2 2=true from rfl,scV,scB,fV,gG,ptV,aQ,bH,bz,bu,bg,ax,aX,bD,Int.toNat_natCast,aY,aO,bF,bU,dH,bP,bW,dK,Bool.and_self,aG,aF,ay];unfold F6;generalize leI l[i].1 x.1=b1;generalize gtI l[i].1 1048576=b2;generalize leI l[i].2 x.2=b3;generalize gtI l[i].2 en=b4;generalize eqI (i:Int) 0=b5;generalize neI l[i].2 1=b6;cases b1<;>cases b2<;>cases b3<;>cases b4<;>cases b5<;>cases b6<;>rfl
theorem acy{en:Int}{l:List (Int×Int)}{x:Int×Int}:bV P E ctF 50 141 Bsc Dsc (scV en 0 l l.length) (scB x)=some (.tuple ⟨exV (.exit 0)::scV en 0 l l.length⟩,ag (scB x)):=by
 rw[Su];simp only[pt_,lZ,scV,scB,fV,gG,ptV,aQ,bH,bz,bu,bg,ax,aX,bD,Int.toNat_natCast,aY,aO,bF,bU,dH,bP,bW,dK,Bool.and_self,aG,aF,ay]
 rfl
theorem OD{en:Int}{l:List (Int×Int)}(hl:l.length<4194304):∀ (j i:Nat) (x:Int×Int),i+j=l.length->∃ i' x',match scM en x i (l.drop i)with
  |true=>LRX P 141 0 Bsc Dsc.head (scV en 0 l i) (scB x) .normal (scV en 0 l i') (scB x')
  |false=>LRX P 141 0 Bsc Dsc.head (scV en 0 l i) (scB x) .ret (scV en 5 l i') (scB x')
 |0,i,x,h=>by
  obtain rfl:i=l.length:=by omega
  rw[List.drop_length];exact⟨_,x,LRX.stop (n:=50) (bf _) aA aW Bl (e:= .exit 0) acy (by intro h; cases h)⟩
 |j+1,i,x,h=>by
  have hi:i<l.length:=by omega
  have q:=XQ (en:=en) (x:=x) hi hl;rw[List.drop_eq_getElem_cons hi];unfold scM;cases hb:F6 en x i l[i]with
  |true=>
   rw[hb]at q;exact⟨_,x,LRX.stop (n:=50) (bf _) aA aW Bl (e:= .ret) q (by intro h; cases h)⟩
  |false=>
   rw[hb]at q;obtain⟨i',x',ih⟩:=OD hl j (i+1) l[i] (by omega);refine⟨i',x',?_⟩;simp only;cases hm:scM en l[i] (i+1) (l.drop (i+1))with
   |true=>rw[hm]at ih; exact LRX.again (n:=50) (bf _) aA aW Bl q ih
   |false=>rw[hm]at ih; exact LRX.again (n:=50) (bf _) aA aW Bl q ih
def scE(l:List (Int×Int))(en:Int):Int:=match ltI en 0,gtI en 1048576,f_ (eqB (eqI (ak l.length) 0) (eqI en 0)),scM en (0,0) 0 l with
 |false,false,false,true=>0
 |_,_,_,_=>5
theorem AY{l:List (Int×Int)}{en:Int}(hl:l.length<4194304):CRX P 0 141 [fV l, .int .i64 en] [] (.int .i64 (scE l en)) []:=by
 obtain⟨i',x',q⟩:=OD (en:=en) hl l.length 0 (0,0) (by omega);rw[List.drop_zero]at q;unfold scE;cases hm:scM en (0,0) 0 l with
 |true=>
  rw[hm]at q;refine CRX.of (pol:=au) (fl:=[]) (ts:=[]) (n:=50) (bf _) aA (eu aW (fU (d_ Lc) q)) ((ZI (aV (scV en 0 l (0:Nat)) (scB (0,0))) en l i' x').trans ?_);have z0:((0:Nat):Int)=0:=rfl;simp only[pt_,z0,scV,scB,fV,gG,ptV,az,ay];cases ltI en 0<;>cases gtI en 1048576<;>cases f_ (eqB (eqI (ak l.length) 0) (eqI en 0))<;>rfl
 |false=>
  rw[hm]at q;refine CRX.of (pol:=au) (fl:=[]) (ts:=[]) (n:=50) (bf _) aA (eu aW (fU (d_ Lc) q)) ((Zw (aV (scV en 0 l (0:Nat)) (scB (0,0))) en l i' x').trans ?_);have z0:((0:Nat):Int)=0:=rfl;simp only[pt_,z0,scV,scB,fV,gG,ptV,az,ay];cases ltI en 0<;>cases gtI en 1048576<;>cases f_ (eqB (eqI (ak l.length) 0) (eqI en 0))<;>rfl
theorem UE{k:Nat}(h:k<=1000):scE (hsM k) ((k:Int)+1)=0:=by
 cases k with
 |zero=>decide
 |succ k=>
  have e1:ltI (((k+1:Nat):Int)+1) 0=false:=by unfold ltI; exact decide_eq_false (by omega)
  have e2:gtI (((k+1:Nat):Int)+1) 1048576=false:=by unfold gtI; exact decide_eq_false (by omega)
  have e3:eqI (((k+1:Nat):Int)+1) 0=false:=by unfold eqI; exact decide_eq_false (by omega)
  have e4:gtI 1 (((k+1:Nat):Int)+1)=false:=by unfold gtI; exact decide_eq_false (by omega)
  have e5:leI (((k+1:Nat):Int)+1) 1=false:=by unfold leI; exact decide_eq_false (by omega)
  have e6:gtI (((k+1:Nat):Int)+1) (((k+1:Nat):Int)+1)=false:=by unfold gtI; exact decide_eq_false (by omega)
  have m:scM (((k+1:Nat):Int)+1) (0,0) 0 (hsM (k+1))=true:=by
   simp only[hsM,scM,F6,e4,e5,e6]
   rfl
  unfold scE;simp only[e1,e2,e3,m]
  rfl
theorem abY{l:List CmM}(h:l.length<=1000):scE (ofM l) (l.length:Int)=0:=by
 cases l with
 |nil=>decide
 |cons c l=>
  have e1:ltI ((c::l).length:Int) 0=false:=by unfold ltI; exact decide_eq_false (by omega)
  have e2:gtI ((c::l).length:Int) 1048576=false:=by unfold gtI; exact decide_eq_false (by omega)
  have e3:eqI ((c::l).length:Int) 0=false:=by unfold eqI; exact decide_eq_false (by simp; omega)
  have e4:gtI 1 ((c::l).length:Int)=false:=by unfold gtI; exact decide_eq_false (by simp; omega)
  have m:scM ((c::l).length:Int) (0,0) 0 (ofM (c::l))=true:=by
   simp only[ofM,scM,F6,e4]
   rfl
  unfold scE;simp only[e1,e2,e3,m]
  rfl
theorem xk{α:Type}{f:α->Value}{c:Bool}{a b:Res}(h1:∃ e,a=some (f e,ag []))(h2:∃ e,b=some (f e,ag [])):∃ e,aj c a b=some (f e,ag []):=by
 cases c
 ·exact h2
 ·exact h1
theorem Ns{l:List (Int×Int)}(h:l≠[]):Nat.ble (Nat.add (Nat.add (atN ((l.length-1:Nat):Int) 2) 0) 1) (ESa.all l).length=true/\bT (ESa.all l) (Nat.add (atN ((l.length-1:Nat):Int) 2) 0) = .int .i64 (l[l.length-1]'(by have:=List.length_pos_iff.2 h; omega)).1:=by
 have hp:=List.length_pos_iff.2 h;have h1:l.length-1<l.length:=by omega
 exact⟨UC h1 (by decide),WX h1⟩
theorem ady{m:MsgM}(h1:m.st.length<4194304):∃ b,CRX P 0 95 [mV m] [] (.bool b) []:=by
 have q1:=AY (l:=m.st) (en:=m.en) h1;have q:∃ b,bM P E (acx (aV [fV m.st, .int .i64 m.en] []) (scE m.st m.en)) 50 au [] [] 0 95 [mV m] []=some (.bool b,ag []):=by
  rw[Uz];by_cases h0:m.st=[]
  ·have e:gtI (ak m.st.length) 0=false:=by rw[h0]; rfl
   simp only[e,fV,gG,az,ay,aF];repeat' (first | exact⟨_,rfl⟩ | apply xk (f:=Value.bool))
  ·obtain⟨_,e1,e2,e3⟩:=kz h0 h1;obtain⟨e4,e5⟩:=Ns h0;simp only[e1,e2,e3,e4,e5,iI,kF,fV,gG,az,show Nat.beq 2 2=true from rfl,Bool.and_self,ay,aG];repeat' (first | exact⟨_,rfl⟩ | apply xk (f:=Value.bool))
 obtain⟨b,q⟩:=q;exact⟨b,CRX.of (pol:=au) (fl:=[]) (ts:=[]) (n:=50) (bf _) aA (ah (pol:=au) aW (aZ q1)) q⟩
theorem KE(k:Nat):hsM k≠[]:=by cases k<;>simp[hsM]
theorem WH(k:Nat):((hsM k)[(hsM k).length-1]'(by have:=List.length_pos_iff.2 (KE k); omega)).1=2:=by cases k<;>rfl
theorem EZ(k:Nat):(hsM k).length<=2:=by cases k<;>simp[hsM]
theorem adJ{k:Nat}(hk:k<=1000):CRX P 0 95 [mV (dV k)] [] (.bool true) []:=by
 have hlen:=EZ k;have q1:=AY (l:=hsM k) (en:=(k:Int)+1) (by omega);rw[UE hk]at q1;refine CRX.of (pol:=au) (fl:=[]) (ts:=[]) (n:=50) (bf _) aA (ah (pol:=au) aW (aZ q1)) ((Uz (aV [fV (hsM k), .int .i64 ((k:Int)+1)] []) 0 (dV k)).trans ?_);clear q1;obtain⟨_,e1,e2,e3⟩:=kz (KE k) (by omega);obtain⟨e4,e5⟩:=Ns (KE k);have e6:=WH k;simp only[dV,e1,e2,e3,e4,e5,e6,iI,kF,fV,gG,az,show Nat.beq 2 2=true from rfl,Bool.and_self,ay,aG]
 rfl
theorem WG{m:MsgM}{l:List CmM}{i:Nat}(hi:i<l.length)(hl:l.length<4194304) :
  bV P E ctF 50 96 Bsp Dsp (spV l i) (msB m)=match gtI l[i].e m.e with
   |true=>some (.tuple ⟨exV .ret::spV l i⟩,ag (msB m))
   |false=>some (.tuple ⟨exV .normal::spV l ((i+1:Nat):Int)⟩,ag (msB m)):=by
 obtain⟨g1,g2,a1⟩:=nU hi hl;have g4:=ni hi;rw[SY];simp only[fa_,pt_,g1,g2,a1,g4,lw hi (Nat.le_refl 3),k_ hi,iI,dw,show Nat.beq 3 3=true from rfl,spV,msB,fV,gG,ptV,fzCms,bG,aQ,bH,bz,bu,bg,ax,aX,bD,Int.toNat_natCast,aY,aO,bF,bU,dH,bP,bW,dK,Bool.and_self,aG,aF,ay];cases gtI l[i].e m.e<;>rfl
theorem acB{m:MsgM}{l:List CmM}:bV P E ctF 50 96 Bsp Dsp (spV l l.length) (msB m)=some (.tuple ⟨exV (.exit 0)::spV l l.length⟩,ag (msB m)):=by
 rw[SY];simp only[fa_,pt_,lZ,spV,msB,fV,gG,ptV,fzCms,bG,aQ,bH,bz,bu,bg,ax,aX,bD,Int.toNat_natCast,aY,aO,bF,bU,dH,bP,bW,dK,Bool.and_self,aG,aF,ay]
 rfl
theorem OQ{m:MsgM}{l:List CmM}(hl:l.length<4194304):∀ (j i:Nat),i+j=l.length->∃ e i',(e = .normal\/e = .ret)/\LRX P 96 0 Bsp Dsp.head (spV l i) (msB m) e (spV l i') (msB m)
 |0,i,h=>by
  obtain rfl:i=l.length:=by omega
  exact⟨_,_,Or.inl rfl,LRX.stop (n:=50) (bf _) aA aW FC (e:= .exit 0) acB (by intro h; cases h)⟩
 |j+1,i,h=>by
  have hi:i<l.length:=by omega
  have q:=WG (m:=m) hi hl;cases hb:gtI l[i].e m.e with
  |true=>
   rw[hb]at q;exact⟨_,_,Or.inr rfl,LRX.stop (n:=50) (bf _) aA aW FC (e:= .ret) q (by intro h; cases h)⟩
  |false=>
   rw[hb]at q;obtain⟨e,i',h1,ih⟩:=OQ (m:=m) hl j (i+1) (by omega);exact⟨e,i',h1,LRX.again (n:=50) (bf _) aA aW FC q ih⟩
theorem ZR{m:MsgM}(h1:m.cs.length<4194304)(h2:∀ c∈m.cs,c.ops.length<4194304):∃ b,CRX P 0 96 [mV m] [] (.bool b) []:=by
 have q1:=mX (e:=m.pv) (n:=eU .i64 m.fr 1) (l:=m.cs) h1 h2;obtain⟨e,i',he,q2⟩:=OQ (m:=m) h1 m.cs.length 0 (by omega);have z0:((0:Nat):Int)=0:=rfl;rcases he with rfl | rfl
 ·have q:∃ b,bM P E (QU (aV [.int .i64 m.pv, .int .i64 (eU .i64 m.fr 1),fzCms m.cs] []) (aV (spV m.cs (0:Nat)) (msB m)) (fD m.pv (eU .i64 m.fr 1) 0 m.cs) .normal m i') 50 au [] [] 0 96 [mV m] []=some (.bool b,ag []):=by
   rw[YZ];simp only[fa_,pt_,z0,spV,msB,fV,gG,ptV,fzCms,bG,az,ay];repeat' (first | exact⟨_,rfl⟩ | apply xk (f:=Value.bool))
  obtain⟨b,q⟩:=q;exact⟨b,CRX.of (pol:=au) (fl:=[]) (ts:=[]) (n:=50) (bf _) aA (ah (pol:=au) (eu aW (fU (d_ JM) q2)) (aZ q1)) q⟩
 ·have q:∃ b,bM P E (QU (aV [.int .i64 m.pv, .int .i64 (eU .i64 m.fr 1),fzCms m.cs] []) (aV (spV m.cs (0:Nat)) (msB m)) (fD m.pv (eU .i64 m.fr 1) 0 m.cs) .ret m i') 50 au [] [] 0 96 [mV m] []=some (.bool b,ag []):=by
   rw[ZM];simp only[fa_,pt_,z0,spV,msB,fV,gG,ptV,fzCms,bG,az,ay];repeat' (first | exact⟨_,rfl⟩ | apply xk (f:=Value.bool))
  obtain⟨b,q⟩:=q;exact⟨b,CRX.of (pol:=au) (fl:=[]) (ts:=[]) (n:=50) (bf _) aA (ah (pol:=au) (eu aW (fU (d_ JM) q2)) (aZ q1)) q⟩
theorem aca{m:MsgM}(h1:m.st.length<4194304)(h2:m.cs.length<4194304)(h3:∀ c∈m.cs,c.ops.length<4194304):∃ e,CRX P 0 53 [mV m] [] (.int .i64 e) []:=by
 obtain⟨b1,q1⟩:=ady h1;obtain⟨b2,q2⟩:=ZR h2 h3;have q:∃ e,bM P E (Yu (aV [mV m] []) (aV [mV m] []) b1 b2) 50 au [] [] 0 53 [mV m] []=some (.int .i64 e,ag []):=by
  rw[Vd];simp only[me_,mV,fV,gG,fzCms,bG,az,ay];repeat' (first | exact⟨_,rfl⟩ | apply xk (f:=Value.int .i64))
 obtain⟨b,q⟩:=q;exact⟨b,CRX.of (pol:=au) (fl:=[]) (ts:=[]) (n:=50) (bf _) aA (ah (pol:=au) (ah (pol:=au) aW (aZ q2)) (aZ q1)) q⟩
theorem adr{k:Nat}(hk:k<=1000):CRX P 0 53 [mV (dV k)] [] (.int .i64 0) []:=by
 have q1:=adJ hk;refine CRX.of (pol:=au) (fl:=[]) (ts:=[]) (n:=50) (bf _) aA (ah (pol:=au) (ah (pol:=au) aW (gm (r:= .leaf (.bool false,[])))) (aZ q1)) ((Vd (aV [mV (dV k)] []) (fun _ _=>false) true false (dV k)).trans ?_);clear q1;simp only[me_,mV,fV,gG,fzCms,bG,az,ay,dV]
 rfl
theorem O7{m:MsgM}(h1:m.st.length<4194304)(h2:m.cs.length<4194304)(h3:∀ c∈m.cs,c.ops.length<4194304):∃ b,CRX P 0 14 [pgV bQ,mV m] [] (.bool b) []:=by
 obtain⟨e,q1⟩:=aca h1 h2 h3;have q:∃ e',bM P E (acl (aV [mV m] []) e) 50 au [] [] 0 14 [pgV bQ,mV m] []=some (.bool e',ag []):=by
  unfold bQ pgV pgC;rw[RD];simp only[me_,mV,fV,gG,fzCms,bG,az,ay];repeat' (first | exact⟨_,rfl⟩ | apply xk (f:=Value.bool))
 obtain⟨b,q⟩:=q;exact⟨b,CRX.of (pol:=au) (fl:=[]) (ts:=[]) (n:=50) (bf _) aA (ah (pol:=au) aW (aZ q1)) q⟩
theorem I5{k:Nat}(hk:k<=1000):CRX P 0 14 [pgV bQ,mV (dV k)] [] (.bool true) []:=by
 have q1:=adr hk;refine CRX.of (pol:=au) (fl:=[]) (ts:=[]) (n:=50) (bf _) aA (ah (pol:=au) aW (aZ q1)) ((show bM P E _ 50 au [] [] 0 14 [pgV bQ,mV (dV k)] []=_ from RD (aV [mV (dV k)] []) 0 (dV k)).trans ?_);clear q1;simp only[me_,mV,fV,gG,fzCms,bG,az,ay,dV]
 rfl
theorem aco{N:Nat}{g:FuncId}{a0 a1:List Value}{b0 b1:List Blk}{v:Value}{b':List Blk}(h0:CRX P N g a0 b0 v b')(h1:CRX P N g a1 b1 v b'):CallOkX P N g (bI (fun a b=>aV a0 b0 a b || aV a1 b1 a b) (.leaf (v,b'))):=by
 refine⟨fun args bs t hR v' bs' hev=>?_⟩;unfold bI at hR;obtain rfl:=Option.some.inj hR;have hev:(DT.ite (aV a0 b0 args bs || aV a1 b1 args bs) (.leaf (v,b')) .fail).eval=some (v',bs'):=hev;cases hc:(aV a0 b0 args bs || aV a1 b1 args bs)with
 |false=>rw[hc]at hev; cases hev
 |true=>
  rw[hc]at hev;have hev:(DT.leaf (v,b')).eval=some (v',bs'):=hev;simp only[DT.eval,Option.some.injEq,Prod.mk.injEq]at hev;obtain⟨rfl,rfl⟩:=hev;rcases Bool.or_eq_true _ _▸hc with h | h
  ·obtain⟨rfl,rfl⟩:=gu h; exact h0
  ·obtain⟨rfl,rfl⟩:=gu h; exact h1
theorem abH{l:List CmM}{k:Nat}(hk:k<=l.length)(hl:l.length<=1000):CRX P 0 144 [fV (ofM l), .int .i64 (l.length:Int),fV (hsM k), .int .i64 ((k:Int)+1)] [] (.tuple ⟨[.int .i64 (k:Int), .int .i64 0]⟩) []:=by
 have hlen:=EZ k;have q0:=AY (l:=ofM l) (en:=(l.length:Int)) (by unfold ofM; split<;>simp);rw[abY hl]at q0;have q1:=AY (l:=hsM k) (en:=(k:Int)+1) (by omega);rw[UE (by omega)]at q1;have q2:=aco q0 q1;cases l with
 |nil=>
  obtain rfl:k=0:=by simpa using hk
  refine CRX.of (pol:=au) (fl:=[]) (ts:=[]) (n:=50) (bf _) aA (ah (pol:=au) aW q2) ((abm _).trans ?_);have z0:((0:Nat):Int)=0:=rfl;have z1:(0:Int)+1=1:=rfl;have n0:([]:List CmM).length=0:=rfl;have n1:ofM []=[]:=rfl;have n2:hsM 0=[(2,1)]:=rfl;have n3:([]:List (Int×Int)).length=0:=rfl;have n4:ESa.all []=[]:=rfl;have n5:ESa.all [((2:Int),(1:Int))]=[.int .i64 2, .int .i64 1]:=rfl;have n6:[((2:Int),(1:Int))].length=1:=rfl;simp only[z0,z1,n0,n1,n2,n3,n4,n5,n6,fV,gG,az,Bool.true_or,Bool.or_true,ay]
 |cons c l=>
  have n1:ofM (c::l)=[(1,1)]:=rfl;have n4:ESa.all [((1:Int),(1:Int))]=[.int .i64 1, .int .i64 1]:=rfl;have n3:[((1:Int),(1:Int))].length=1:=rfl;rw[n1]at q2 ⊢;cases k with
  |zero=>
   have e:fV [((1:Int),(1:Int))]=aJ 2 1 0 [.int .i64 1, .int .i64 1]:=rfl;have e2:fV (hsM 0)=aJ 2 1 0 [.int .i64 2, .int .i64 1]:=rfl;have z0:((0:Nat):Int)=0:=rfl;have z1:(0:Int)+1=1:=rfl;rw[z0,z1,e,e2]at q2 ⊢;refine CRX.of (pol:=au) (fl:=[]) (ts:=[]) (n:=50) (bf _) aA (ah (pol:=au) aW q2) ((aaQ _ ((c::l).length:Int)).trans ?_);simp only[gG,az,Bool.true_or,Bool.or_true,ay]
  |succ k=>
   have e:fV [((1:Int),(1:Int))]=aJ 2 1 0 [.int .i64 1, .int .i64 1]:=rfl;have e2:fV (hsM (k+1))=aJ 2 2 0 [.int .i64 1, .int .i64 1, .int .i64 2, .int .i64 (((k+1:Nat):Int)+1)]:=rfl;rw[e,e2]at q2 ⊢;refine CRX.of (pol:=au) (fl:=[]) (ts:=[]) (n:=50) (bf _) aA (ah (pol:=au) aW q2) ((aag _ ((c::l).length:Int) (((k+1:Nat):Int)+1) (((k+1:Nat):Int)+1)).trans ?_);have s1:eU .i64 (((k+1:Nat):Int)+1) 1=((k+1:Nat):Int):=by unfold eU; rw[wrap64 (by omega) (by omega)]; omega
   have s2:leI 1 ((k+1:Nat):Int)=true:=by unfold leI; exact decide_eq_true (by omega)
   simp only[s1,s2,gG,az,Bool.true_or,Bool.or_true,ay,aG];by_cases h:k+1<(c::l).length
   ·have s3:ltI ((k+1:Nat):Int) ((c::l).length:Int)=true:=by unfold ltI; exact decide_eq_true (by omega)
    simp only[s3,aG]
   ·have s3:ltI ((k+1:Nat):Int) ((c::l).length:Int)=false:=by unfold ltI; exact decide_eq_false (by omega)
    have s4:((c::l).length:Int)=((k+1:Nat):Int):=by omega
    simp only[s3,aF];simp only[s4,s2,aG]
theorem Zk{f:Nat}(hf:f<=1000):CRX P 0 145 [pgV bQ, .int .i64 (f:Int), .int .i64 0] [] (.tuple ⟨[pgV ⟨2,3,0,2,f,0⟩, .int .i64 0]⟩) []:=by
 have q:=qK bQ;rw[show pgE bQ=0 from rfl]at q;refine CRX.of (pol:=au) (fl:=[]) (ts:=[]) (n:=50) (bf _) aA (ah (pol:=au) aW (aZ q)) ((aar (aV [pgV bQ] []) (f:Int) 0).trans ?_);have e1:geI (f:Int) 0=true:=by unfold geI; exact decide_eq_true (by omega)
 have e2:leI (f:Int) 1048576=true:=by unfold leI; exact decide_eq_true (by omega)
 have e3:geI 0 0=true:=rfl;have e4:f_ (leI 0 1073741824)=false:=rfl;have e5:f_ true=false:=rfl;simp only[e1,e2,e3,e4,e5,pgV,pgC,bQ,az,ay,aG,aF]
theorem NI{f:Nat}(hf:f<=1000):CRX P 0 147 [pgV ⟨2,3,0,2,f,0⟩] [] (.tuple ⟨[pgV ⟨2,3,0,3,f,0⟩, .int .i64 0]⟩) []:=by
 have q:=qK ⟨2,3,0,2,f,0⟩;rw[lH 2 (by decide) (by omega) (by omega)]at q;refine CRX.of (pol:=au) (fl:=[]) (ts:=[]) (n:=50) (bf _) aA (ah (pol:=au) aW (aZ q)) ((abn (aV [pgV ⟨2,3,0,2,f,0⟩] []) (f:Int)).trans ?_);simp only[pgV,pgC,az,ay]
theorem aa7{f:Nat}(hf:f<=1000):CRX P 0 149 [pgV ⟨2,3,0,3,f,0⟩] [] (.tuple ⟨[pgV ⟨2,3,0,4,f,0⟩, .int .i64 0]⟩) []:=by
 have q:=qK ⟨2,3,0,3,f,0⟩;rw[lH 3 (by decide) (by omega) (by omega)]at q;refine CRX.of (pol:=au) (fl:=[]) (ts:=[]) (n:=50) (bf _) aA (ah (pol:=au) aW (aZ q)) ((YH (aV [pgV ⟨2,3,0,3,f,0⟩] []) (f:Int)).trans ?_);simp only[pgV,pgC,az,ay]
theorem abf{f:Nat}(hf:f<=1000):CRX P 0 105 [pgV ⟨2,3,0,4,f,0⟩] [] (.tuple ⟨[pgV ⟨2,2,0,0,0,0⟩, .int .i64 0]⟩) []:=by
 have q:=qK ⟨2,3,0,4,f,0⟩;rw[lH 4 (by decide) (by omega) (by omega)]at q;refine CRX.of (pol:=au) (fl:=[]) (ts:=[]) (n:=50) (bf _) aA (ah (pol:=au) aW (aZ q)) ((ZJ (aV [pgV ⟨2,3,0,4,f,0⟩] []) (f:Int)).trans ?_);simp only[pgV,pgC,az,ay]
theorem O4{l:List (Int×Int)}{n:Nat}(h:n=l.length):takeC (Nat.mul n 2) (aU 0 (ESa.all l))=ESa.all l:=by subst h; exact ESa.all_self l
theorem adG{l:List (Int×Int)}:Nat.ble (Nat.mul l.length 2) (ESa.all l).length=true:=Nat.ble_eq_true_of_le (by rw[ESa.all_length]; exact Nat.le_refl _)
theorem aaE{l:List CmM}(hl:l.length<4000)(hf:fD 0 0 0 l=(0,0))(he:∀ c∈l,c.e=1) :
  CRX P 0 51 [fzCms l] [] (.tuple ⟨[lsV 0 (ofM l).length, .agg ⟨[.int .i64 0, .int .i64 0]⟩]⟩) [.cells (ESa.all (ofM l)) 104 false]:=by
 have q1:=mX (e:=0) (n:=0) (l:=l) (by omega) (by
  intro x hx;obtain⟨_,_,hb⟩:=jf.1 (kS hf x hx);obtain⟨b1,b2,b3⟩:=gq.1 hb
  omega)
 rw[hf]at q1;have q2:=Ry hl hf he;refine CRX.ofF (pol:=au) (fl:=[.own, .val, .val]) (ts:=[24,0,0]) (n:=50) (kb:=[]) (bf _) aA (ah (pol:=au) (eu aW (fU (d_ IW) q2)) (aZ q1)) ((aaG (aV [.int .i64 0, .int .i64 0,fzCms l] []) (aV (saV [] l (0:Nat)) (saB [])) l (ofM l)).trans ?_);clear q1 q2;have z0:((0:Nat):Int)=0:=rfl;have n1:([]:List (Int×Int)).length=0:=rfl;have n2:ESa.all ([]:List (Int×Int))=[]:=rfl;simp (disch:=first | omega | (simp only[List.length_append,List.length_drop,List.length_take,List.length_singleton,Nat.add_eq,bJ]<;>omega) | fail) only[fa_,lb_,nb_,pt_,sl_,z0,n1,n2,O4 rfl,adG,saV,saB,cZ,rnB,srB,tbB,dkL,List.cons_append,List.nil_append,List.append_assoc,dN,aT,dP,lsV,ptV,p0,aN,dkC,bn,fzCms,cmV,di,bG,az,dG,dn,dR,dE,dF,dD,dw,dC,dB,dQ,dA,aB,aK,aP,Enc.all_ren,aQ,bH,bz,bu,bg,ax,aX,bD,Int.toNat_natCast,aY,aO,bF,bU,dH,bP,bW,dK,Bool.and_self,aG,aF,ay]
theorem Oh{l:List CmM}{k:Nat}(hk:k<=l.length)(hl:l.length<4000)(hf:fD 0 0 0 l=(0,0))(he:∀ c∈l,c.e=1) :
  CRX P 0 11 [fzCms l, .int .i64 (k:Int), .int .i64 1, .int .i64 2] [] (.tuple ⟨[mV (dV k), .bool true]⟩) []:=by
 have hlt:(l.take k).length=k:=by rw[List.length_take]; omega
 have q1:=aaE (l:=l.take k) (by omega) (Dc k hf) fun c hc=>he c (List.mem_of_mem_take hc);refine CRX.ofF (pol:=au) (fl:=[.val, .val, .val, .val, .val, .val, .val, .val, .val]) (ts:=[0,0,0,0,24,0,0,22,0]) (n:=50) (kb:=[]) (bf _) aA (ah (pol:=au) aW (aZ q1)) ((aaV (aV [fzCms (l.take k)] []) (ofM (l.take k)) l (k:Int)).trans ?_);clear q1;have ho:=YV hk;have hol:(ofM (l.take k)).length<=1:=by unfold ofM; split<;>simp
 generalize ofM (l.take k)=o at ho hol;have a1:dI .i64 (k:Int) 1=(k:Int)+1:=by unfold dI; rw[wrap64 (by omega) (by omega)]
 have c1:eF 0 (k:Int) l.length=true:=o6 hk;have l1:fZ 0 (k:Int)=k:=by unfold fZ; omega
 have t1:takeC (Nat.mul k 3) (aU 0 (ECm.all l))=ECm.all (l.take k):=xw l k;have b1:Nat.beq (Nat.mul o.length 2) (ESa.all o).length=true:=by rw[FI]; exact(ESa.all_length o).symm
 have e0:(eqI 0 0&&(eqI 0 0&&true))=true:=rfl;have ap:List.append (ESa.all o) [.int .i64 2, .int .i64 ((k:Int)+1)]=ESa.all (hsM k):=by rw[<-ho,ESa.all_append]; rfl
 have hn:Nat.add o.length 1=(hsM k).length:=by rw[<-ho,List.length_append]; rfl
 have hh:=EZ k;have n3:([]:List CmM).length=0:=rfl;have n4:ECm.all ([]:List CmM)=[]:=rfl;simp (disch:=first | omega | (simp only[List.length_append,List.length_drop,List.length_take,List.length_singleton,Nat.add_eq,bJ]<;>omega) | fail) only[fa_,a1,c1,l1,t1,hlt,b1,e0,ap,hn,n3,n4,O4 rfl,TW rfl,show Nat.beq 3 3=true from rfl,mV,dV,fV,gG,cZ,rnB,srB,tbB,dkL,List.cons_append,List.nil_append,List.append_assoc,dN,aT,dP,lsV,ptV,p0,aN,dkC,bn,fzCms,cmV,di,bG,az,dG,dn,dR,dE,dF,dD,dw,dC,dB,dQ,dA,aB,aK,aP,Enc.all_ren,aQ,bH,bz,bu,bg,ax,aX,bD,Int.toNat_natCast,aY,aO,bF,bU,dH,bP,bW,dK,Bool.and_self,aG,aF,ay]
theorem YJ(l:List (Int×Int)):iR (ESa.all l) (ESa.all l)=true:=Enc.beq ESa (fun a=>by simp[ESa,bZ,iR]) l
theorem m_(k e ro en fr pv:Int)(n b n2 b2:Nat)(st:List (Int×Int))(cs:List CmM):bZ (.agg ⟨[.int .i64 k, .int .i64 e, .int .u8 ro, .int .i64 en, .iface 18446744073709551618 (.agg ⟨.slice none n b::ESa.all st⟩), .int .i64 fr, .int .i64 pv, .iface 18446744073709551619 (.agg ⟨.slice none n2 b2::ECm.all cs⟩)]⟩) (.agg ⟨[.int .i64 k, .int .i64 e, .int .u8 ro, .int .i64 en, .iface 18446744073709551618 (.agg ⟨.slice none n b::ESa.all st⟩), .int .i64 fr, .int .i64 pv, .iface 18446744073709551619 (.agg ⟨.slice none n2 b2::ECm.all cs⟩)]⟩)=true:=by
 simp[bZ,uA,iR,YJ,Om]
theorem XM{s:StaM}{m:MsgM}(ht:gZ s.tb)(hpg:s.pg=bQ)(q1:CRX P 0 14 [pgV bQ,mV m] [] (.bool false) []) :
  CRX P 7 99 [p0,mV m] (stB s) (.tuple ⟨[pgV ⟨0,0,0,0,0,0⟩, .int .i64 4]⟩) (stB s):=by
 refine CRX.of (pol:=au) (fl:=[]) (ts:=[]) (n:=50) (bf _) aA (ah (pol:=au) aW (aZ q1)) ((WU (aV [pgV bQ,mV m] []) s m).trans ?_);clear q1;have ht1:=ht.ren;simp (disch:=first | omega | (simp only[List.length_append,List.length_drop,List.length_take,List.length_singleton,Nat.add_eq,bJ]<;>omega) | fail) only[me_,ns_,pg_,sm_,ht1,hpg,m_,mV,fV,gG,bQ,pgV,stB,pgC,cZ,rnB,srB,tbB,dkL,List.cons_append,List.nil_append,List.append_assoc,dN,aT,dP,lsV,ptV,p0,aN,dkC,bn,fzCms,cmV,di,bG,az,dG,dn,dR,dE,dF,dD,dw,dC,dB,dQ,dA,aB,aK,aP,Enc.all_ren,aB rfl,aK rfl,aP rfl,aT rfl,aQ,bH,bz,bu,bg,ax,aX,bD,Int.toNat_natCast,aY,aO,bF,bU,dH,bP,bW,dK,Bool.and_self,aG,aF,ay]
theorem Xr{s:StaM}{l:List CmM}{k:Nat}(hs:StQ s 100000)(hlog:s.log=l)(hf:fD 0 0 0 l=(0,0))(he:∀ c∈l,c.e=1)(hl:l.length<=30)(hh:s.held=0)(hpg:s.pg=bQ)(hk:k<=l.length) :
  CRX P 7 99 [p0,mV (dV k)] (stB s) (.tuple ⟨[pgV ⟨2,3,0,2,k,0⟩, .int .i64 0]⟩) (stB s):=by
 subst hlog;have q1:=I5 (k:=k) (by omega);have q2:=aap (s:=s) hs.off hs.dk.off hs.sr.tb;have q3:=Eo (s:=s) hs.sr.tb (by omega) (fun c hc=>by
  obtain⟨_,_,hb⟩:=jf.1 (kS hf c hc);obtain⟨b1,b2,b3⟩:=gq.1 hb
  omega)
 have q4:=acw (l:=s.log) (by omega) hf he;have q5:=abH (l:=s.log) hk (by omega);have q6:=Zk (f:=k) (by omega);have q:=XC (aV [pgV bQ,mV (dV k)] []) (aV [p0] (stB s)) (aV [p0] (stB s)) (aV [fzCms s.log] []) (aV [fV (ofM s.log), .int .i64 (s.log.length:Int),fV (hsM k), .int .i64 ((k:Int)+1)] []) (aV [pgV bQ, .int .i64 (k:Int), .int .i64 0] []) s (dV k) (ofM s.log) (k:Int) ⟨2,3,0,2,k,0⟩;refine CRX.of (pol:=au) (fl:=[]) (ts:=[]) (n:=50) (bf _) aA (ah (pol:=au) (ah (pol:=au) (ah (pol:=au) (ah (pol:=au) (ah (pol:=au) (ah (pol:=au) aW (aZ q6)) (aZ q5)) (aZ q4)) (aZ q3)) (aZ q2)) (aZ q1)) (q.trans ?_);clear q q1 q2 q3 q4 q5 q6;have ht:=hs.sr.tb.ren;have e0:ak s.log.length=(s.log.length:Int):=rfl;simp (disch:=first | omega | (simp only[List.length_append,List.length_drop,List.length_take,List.length_singleton,Nat.add_eq,bJ]<;>omega) | fail) only[fa_,me_,ns_,nw_,pg_,pt_,sm_,sw_,ht,hpg,hh,e0,m_,mV,dV,fV,gG,bQ,pgV,stB,pgC,cZ,rnB,srB,tbB,dkL,List.cons_append,List.nil_append,List.append_assoc,dN,aT,dP,lsV,ptV,p0,aN,dkC,bn,fzCms,cmV,di,bG,az,dG,dn,dR,dE,dF,dD,dw,dC,dB,dQ,dA,aB,aK,aP,Enc.all_ren,aB rfl,aK rfl,aP rfl,aT rfl,aQ,bH,bz,bu,bg,ax,aX,bD,Int.toNat_natCast,aY,aO,bF,bU,dH,bP,bW,dK,Bool.and_self,aG,aF,ay]
theorem Vo{s:StaM}{l:List CmM}{k:Nat}(hs:StQ s 100000)(hlog:s.log=l)(hf:fD 0 0 0 l=(0,0))(he:∀ c∈l,c.e=1)(hl:l.length<=30)(hh:s.held=0)(h3:s.dk.d3=[])(hpg:s.pg=⟨2,3,0,2,(k:Int),0⟩)(hk:k<l.length) :
  ∃ j,j<=10000/\CRX P 7 101 [p0] (stB s) (.tuple ⟨[pgV ⟨2,3,0,3,k,0⟩, .int .i64 0]⟩) (stB (s.filed j (encS (kw l k)) ((encS (kw l k)).length:Int))):=by
 subst hlog;have q1:=Eo (s:=s) hs.sr.tb (by omega) (fun c hc=>by
  obtain⟨_,_,hb⟩:=jf.1 (kS hf c hc);obtain⟨b1,b2,b3⟩:=gq.1 hb
  omega)
 have q2:=FP (l:=s.log) (p:=s.pg) (k:=k) hf (by omega) (by rw[hpg]; exact lH 2 (by decide) (by omega) (by omega)) (by rw[hpg]) (by rw[hpg]) (by omega);rw[if_pos hk,decide_eq_true hk]at q2;have hep:s.pg.ep=2:=by rw[hpg]
 rw[hep]at q2;obtain⟨j,j1,q3⟩:=Zf (s:=s) (x:=kw s.log k) hs h3 hh (NQ hf he hk) (by show(s.log.drop k).length<=400; rw[List.length_drop]; omega) (by show(k:Int)<=_; omega) (Or.inr (by rw[hpg]));refine⟨j,j1,?_⟩;have q4:=NI (f:=k) (by omega);have q:=WI (aV [p0] (stB s)) (aV [fzCms s.log,pgV s.pg] []) (aV [p0, .int .i64 0,jB (kw s.log k)] (stB s)) (aV [pgV ⟨2,3,0,2,k,0⟩] []) s (s.filed j (encS (kw s.log k)) ((encS (kw s.log k)).length:Int)) (kw s.log k) ⟨2,3,0,3,k,0⟩;refine CRX.of (pol:=au) (fl:=[]) (ts:=[]) (n:=50) (bf _) aA (ah (pol:=au) (ah (pol:=au) (ah (pol:=au) (ah (pol:=au) aW (aZ q4)) (aZ q3)) (aZ q2)) (aZ q1)) (q.trans ?_);clear q q1 q2 q3 q4;have ht:=hs.sr.tb.ren;simp (disch:=first | omega | (simp only[List.length_append,List.length_drop,List.length_take,List.length_singleton,Nat.add_eq,bJ]<;>omega) | fail) only[fa_,ns_,nw_,pg_,pt_,sm_,sw_,ht,hpg,kG,jB,kw,StaM.filed,pgV,stB,pgC,cZ,rnB,srB,tbB,dkL,List.cons_append,List.nil_append,List.append_assoc,dN,aT,dP,lsV,ptV,p0,aN,dkC,bn,fzCms,cmV,di,bG,az,dG,dn,dR,dE,dF,dD,dw,dC,dB,dQ,dA,aB,aK,aP,Enc.all_ren,aB rfl,aK rfl,aP rfl,aT rfl,aQ,bH,bz,bu,bg,ax,aX,bD,Int.toNat_natCast,aY,aO,bF,bU,dH,bP,bW,dK,Bool.and_self,aG,aF,ay]
theorem XP{s:StaM}{l:List CmM}{k:Nat}(hs:StQ s 100000)(hlog:s.log=l)(hf:fD 0 0 0 l=(0,0))(he:∀ c∈l,c.e=1)(hl:l.length<=30)(hpg:s.pg=⟨2,3,0,2,(k:Int),0⟩)(hk:k=l.length) :
  CRX P 7 101 [p0] (stB s) (.tuple ⟨[pgV ⟨2,3,0,3,k,0⟩, .int .i64 0]⟩) (stB s):=by
 subst hlog;have q1:=Eo (s:=s) hs.sr.tb (by omega) (fun c hc=>by
  obtain⟨_,_,hb⟩:=jf.1 (kS hf c hc);obtain⟨b1,b2,b3⟩:=gq.1 hb
  omega)
 have q2:=FP (l:=s.log) (p:=s.pg) (k:=k) hf (by omega) (by rw[hpg]; exact lH 2 (by decide) (by omega) (by omega)) (by rw[hpg]) (by rw[hpg]) (by omega);have hn:¬k<s.log.length:=by omega
 rw[if_neg hn,decide_eq_false hn]at q2;have q4:=NI (f:=k) (by omega);have q:=XG (aV [p0] (stB s)) (aV [fzCms s.log,pgV s.pg] []) (fun _ _=>false) (aV [pgV ⟨2,3,0,2,k,0⟩] []) s s ⟨0,0,[]⟩ ⟨2,3,0,3,k,0⟩;refine CRX.of (pol:=au) (fl:=[]) (ts:=[]) (n:=50) (bf _) aA (ah (pol:=au) (ah (pol:=au) (ah (pol:=au) (ah (pol:=au) aW (aZ q4)) gm) (aZ q2)) (aZ q1)) (q.trans ?_);clear q q1 q2 q4;have ht:=hs.sr.tb.ren;simp (disch:=first | omega | (simp only[List.length_append,List.length_drop,List.length_take,List.length_singleton,Nat.add_eq,bJ]<;>omega) | fail) only[fa_,ns_,nw_,pg_,pt_,sm_,sw_,ht,hpg,kG,jB,pgV,stB,pgC,cZ,rnB,srB,tbB,dkL,List.cons_append,List.nil_append,List.append_assoc,dN,aT,dP,lsV,ptV,p0,aN,dkC,bn,fzCms,cmV,di,bG,az,dG,dn,dR,dE,dF,dD,dw,dC,dB,dQ,dA,aB,aK,aP,Enc.all_ren,aB rfl,aK rfl,aP rfl,aT rfl,aQ,bH,bz,bu,bg,ax,aX,bD,Int.toNat_natCast,aY,aO,bF,bU,dH,bP,bW,dK,Bool.and_self,aG,aF,ay]
theorem aa9{s:StaM}{l:List CmM}{k:Nat}(hs:StQ s 100000)(hlog:s.log=l)(hf:fD 0 0 0 l=(0,0))(he:∀ c∈l,c.e=1)(hl:l.length<=30)(hh:0<=s.held)(hrs:s.rs=[])(hpg:s.pg=⟨2,3,0,3,(k:Int),0⟩)(hk:k<=l.length) :
  CRX P 7 103 [p0] (stB s) (.tuple ⟨[pgV ⟨2,3,0,4,k,0⟩, .int .i64 0]⟩) (stG (s.short k) s.tb s.rest):=by
 subst hlog;have hlb:=x_ s.log (kS hf);have q1:=ac6 (s:=s) (n:=k) hs hrs hf hk (by omega) (by omega) (by
  rw[hpg]
  exact DF 3 (by decide) (fun c hc=>he c (List.mem_of_mem_take hc)) hh (by omega) (Int.le_refl _) (k:=0) (ba:=0))
 have q2:=aa7 (f:=k) (by omega);have q:=YB (aV [p0, .int .i64 (k:Int)] (stB s)) (aV [pgV ⟨2,3,0,3,k,0⟩] []) s (s.short k) s.tb s.rest ⟨2,3,0,4,k,0⟩;refine CRX.ofG (pol:=au) (fl:=[]) (ts:=[]) (n:=50) (bf _) aA (ah (pol:=au) (ah (pol:=au) aW (aZ q2)) (aZ q1)) (q.trans ?_);clear q q1 q2;have ht:=hs.sr.tb.ren;have ht2:=(tq.log (s.log.take k)).ren;simp (disch:=first | omega | (simp only[List.length_append,List.length_drop,List.length_take,List.length_singleton,Nat.add_eq,bJ]<;>omega) | fail) only[gw_,nb_,ns_,nw_,pg_,pt_,sm_,ht,ht2,hpg,StaM.short,StaM.shut,stG,pgV,stB,pgC,cZ,rnB,srB,tbB,dkL,List.cons_append,List.nil_append,List.append_assoc,dN,aT,dP,lsV,ptV,p0,aN,dkC,bn,fzCms,cmV,di,bG,az,dG,dn,dR,dE,dF,dD,dw,dC,dB,dQ,dA,aB,aK,aP,Enc.all_ren,aB rfl,aK rfl,aP rfl,aT rfl,aQ,bH,bz,bu,bg,ax,aX,bD,Int.toNat_natCast,aY,aO,bF,bU,dH,bP,bW,dK,Bool.and_self,aG,aF,ay]
theorem kD{s:StaM}{ph f:Int}(h:s.pg=⟨2,3,0,ph,f,0⟩):s.at2 ph f=s:=by
 cases s;unfold StaM.at2;simp only at h;subst h
 rfl
theorem Z9{s:StaM}{l:List CmM}{k:Nat}(hs:StQ s 100000)(hlog:s.log=l)(hf:fD 0 0 0 l=(0,0))(he:∀ c∈l,c.e=1)(hl:l.length<=30)(hh:s.held=0)(hrs:s.rs=[])(hpg:s.pg=bQ)(h1:s.dk.d1.length<=3000000)(hk:k<=l.length) :
  ∃ j,j<=2/\CRX P 7 16 [p0,mV (dV k)] (stB s) (.tuple ⟨[pgV ⟨2,3,0,2,k,0⟩, .int .i64 0]⟩) (stB (s.paged j ⟨2,3,0,2,k,0⟩)):=by
 have q1:=Xr hs hlog hf he hl hh hpg hk;have hr0:h_ s.rs=0:=by rw[hrs]; rfl
 obtain⟨j,j1,q2⟩:=xe (s:=s) (p:=⟨2,3,0,2,k,0⟩) hs (lH 2 (by decide) (by omega) (by omega)) (by rw[hlog]; omega) h1 (by rw[hlog,hr0,hh]; exact DF 2 (by decide) he (by decide) (by omega) (by omega) (k:=0) (ba:=0));refine⟨j,j1,?_⟩;have q:=aas (aV [p0,mV (dV k)] (stB s)) (aV [p0,pgV ⟨2,3,0,2,k,0⟩] (stB s)) s (s.paged j ⟨2,3,0,2,k,0⟩) (dV k) ⟨2,3,0,2,k,0⟩;rw[kD hpg]at q;refine CRX.of (pol:=au) (fl:=[]) (ts:=[]) (n:=50) (bf _) aA (ah (pol:=au) (ah (pol:=au) aW (aZ q2)) (aZ q1)) (q.trans ?_);clear q q1 q2;have ht:=hs.sr.tb.ren;have ht2:∀ ρ,eP true ρ (s.paged j ⟨2,3,0,2,k,0⟩).tb.es=(s.paged j ⟨2,3,0,2,k,0⟩).tb.es:=hs.sr.tb.ren;generalize s.paged j ⟨2,3,0,2,k,0⟩=s2 at ht2;simp (disch:=first | omega | (simp only[List.length_append,List.length_drop,List.length_take,List.length_singleton,Nat.add_eq,bJ]<;>omega) | fail) only[me_,ns_,nw_,pg_,pt_,sm_,sw_,ht,ht2,hpg,kG,m_,mV,dV,fV,gG,bQ,pgV,stB,pgC,cZ,rnB,srB,tbB,dkL,List.cons_append,List.nil_append,List.append_assoc,dN,aT,dP,lsV,ptV,p0,aN,dkC,bn,fzCms,cmV,di,bG,az,dG,dn,dR,dE,dF,dD,dw,dC,dB,dQ,dA,aB,aK,aP,Enc.all_ren,aB rfl,aK rfl,aP rfl,aT rfl,aQ,bH,bz,bu,bg,ax,aX,bD,Int.toNat_natCast,aY,aO,bF,bU,dH,bP,bW,dK,Bool.and_self,aG,aF,ay]
theorem KN{s:StaM}{m:MsgM}(ht0:gZ s.tb)(hpg:s.pg=bQ)(q0:CRX P 0 14 [pgV bQ,mV m] [] (.bool false) []) :
  CRX P 7 16 [p0,mV m] (stB s) (.tuple ⟨[pgV ⟨0,0,0,0,0,0⟩, .int .i64 4]⟩) (stB s):=by
 have q1:=XM ht0 hpg q0;have q:=Vs (aV [p0,mV m] (stB s)) (fun _ _=>false) s s m ⟨0,0,0,0,0,0⟩;rw[kD hpg]at q;refine CRX.of (pol:=au) (fl:=[]) (ts:=[]) (n:=50) (bf _) aA (ah (pol:=au) (ah (pol:=au) aW gm) (aZ q1)) (q.trans ?_);clear q q1;have ht:=ht0.ren;simp (disch:=first | omega | (simp only[List.length_append,List.length_drop,List.length_take,List.length_singleton,Nat.add_eq,bJ]<;>omega) | fail) only[me_,ns_,nw_,pt_,sm_,sw_,ht,hpg,kG,m_,mV,fV,gG,bQ,pgV,stB,pgC,cZ,rnB,srB,tbB,dkL,List.cons_append,List.nil_append,List.append_assoc,dN,aT,dP,lsV,ptV,p0,aN,dkC,bn,fzCms,cmV,di,bG,az,dG,dn,dR,dE,dF,dD,dw,dC,dB,dQ,dA,aB,aK,aP,Enc.all_ren,aB rfl,aK rfl,aP rfl,aT rfl,aQ,bH,bz,bu,bg,ax,aX,bD,Int.toNat_natCast,aY,aO,bF,bU,dH,bP,bW,dK,Bool.and_self,aG,aF,ay]
theorem ZX{s s1:StaM}{l:List CmM}{k:Nat}{m:MsgM}(hs:StQ s 100000)(hs1:StQ s1 100000)(hlog:s1.log=l)(he:∀ c∈l,c.e=1)(hl:l.length<=30)(hh:0<=s1.held)(hrs:s1.rs=[])(hpg:s.pg=⟨2,3,0,2,(k:Int),0⟩)(h1:s1.dk.d1.length<=3000000)(hk:k<=l.length)
  (q1:CRX P 7 101 [p0] (stB s) (.tuple ⟨[pgV ⟨2,3,0,3,k,0⟩, .int .i64 0]⟩) (stB s1)) :
  ∃ j,j<=2/\CRX P 7 16 [p0,mV m] (stB s) (.tuple ⟨[pgV ⟨2,3,0,3,k,0⟩, .int .i64 0]⟩) (stB (s1.paged j ⟨2,3,0,3,k,0⟩)):=by
 have hr0:h_ s1.rs=0:=by rw[hrs]; rfl
 obtain⟨j,j1,q2⟩:=xe (s:=s1) (p:=⟨2,3,0,3,k,0⟩) hs1 (lH 3 (by decide) (by omega) (by omega)) (by rw[hlog]; omega) h1 (by rw[hlog,hr0]; exact DF 3 (by decide) he hh (by omega) (by omega) (k:=0) (ba:=0));refine⟨j,j1,?_⟩;have q:=YC (aV [p0] (stB s)) (aV [p0,pgV ⟨2,3,0,3,k,0⟩] (stB s1)) s s1 (s1.paged j ⟨2,3,0,3,k,0⟩) m ⟨2,3,0,3,k,0⟩ (k:Int);rw[kD hpg]at q;refine CRX.of (pol:=au) (fl:=[]) (ts:=[]) (n:=50) (bf _) aA (ah (pol:=au) (ah (pol:=au) aW (aZ q2)) (aZ q1)) (q.trans ?_);clear q q1 q2;have ht:=hs.sr.tb.ren;have ht1:=hs1.sr.tb.ren;have ht2:∀ ρ,eP true ρ (s1.paged j ⟨2,3,0,3,k,0⟩).tb.es=(s1.paged j ⟨2,3,0,3,k,0⟩).tb.es:=hs1.sr.tb.ren;generalize s1.paged j ⟨2,3,0,3,k,0⟩=s2 at ht2;simp (disch:=first | omega | (simp only[List.length_append,List.length_drop,List.length_take,List.length_singleton,Nat.add_eq,bJ]<;>omega) | fail) only[ns_,nw_,pg_,pt_,sm_,sw_,ht,ht1,ht2,hpg,kG,m_,mV,fV,gG,pgV,stB,pgC,cZ,rnB,srB,tbB,dkL,List.cons_append,List.nil_append,List.append_assoc,dN,aT,dP,lsV,ptV,p0,aN,dkC,bn,fzCms,cmV,di,bG,az,dG,dn,dR,dE,dF,dD,dw,dC,dB,dQ,dA,aB,aK,aP,Enc.all_ren,aB rfl,aK rfl,aP rfl,aT rfl,aQ,bH,bz,bu,bg,ax,aX,bD,Int.toNat_natCast,aY,aO,bF,bU,dH,bP,bW,dK,Bool.and_self,aG,aF,ay]
theorem Z7{s:StaM}{l:List CmM}{k:Nat}{m:MsgM}(hs:StQ s 120000)(hlog:s.log=l)(hf:fD 0 0 0 l=(0,0))(he:∀ c∈l,c.e=1)(hl:l.length<=30)(hh:0<=s.held)(hrs:s.rs=[])(hpg:s.pg=⟨2,3,0,3,(k:Int),0⟩)(h1:s.dk.d1.length<=3000000)(hk:k<=l.length) :
  ∃ j,j<=2/\CRX P 7 16 [p0,mV m] (stB s) (.tuple ⟨[pgV ⟨2,3,0,4,k,0⟩, .int .i64 0]⟩) (stG ((s.short k).paged j ⟨2,3,0,4,k,0⟩) s.tb s.rest):=by
 have q1:=aa9 (hs.mono (by omega)) hlog hf he hl hh hrs hpg hk;have hs2:StQ (s.short k) 100000:=Px hs hrs;have hr0:h_ (s.short k).rs=0:=by show h_ s.rs=0; rw[hrs]; rfl
 have hlt:(s.short k).log=l.take k:=by show s.log.take k=_; rw[hlog]
 have hln:(l.take k).length=k:=by rw[List.length_take]; omega
 obtain⟨j,j1,q2⟩:=xe (s:=s.short k) (p:=⟨2,3,0,4,k,0⟩) hs2 (lH 4 (by decide) (by omega) (by omega)) (by rw[hlt]; omega) h1 (by rw[hlt,hr0,hln]; exact TM (fun c hc=>he c (List.mem_of_mem_take hc)) hh (by omega));refine⟨j,j1,?_⟩;have q:=ZG (aV [p0] (stB s)) (aV [p0,pgV ⟨2,3,0,4,k,0⟩] (stB (s.short k))) s (s.short k) ((s.short k).paged j ⟨2,3,0,4,k,0⟩) s.tb s.rest m ⟨2,3,0,4,k,0⟩ (k:Int);rw[kD hpg]at q;refine CRX.ofG (pol:=au) (fl:=[]) (ts:=[]) (n:=50) (bf _) aA (ah (pol:=au) (ah (pol:=au) aW (aZ q2)) (aZ q1)) (q.trans ?_);clear q q1 q2;have ht:=hs.sr.tb.ren;have ht1:=hs2.sr.tb.ren;have ht2:∀ ρ,eP true ρ ((s.short k).paged j ⟨2,3,0,4,k,0⟩).tb.es=((s.short k).paged j ⟨2,3,0,4,k,0⟩).tb.es:=hs2.sr.tb.ren;generalize (s.short k).paged j ⟨2,3,0,4,k,0⟩=s2 at ht2;generalize s.short k=s1 at ht1;simp (disch:=first | omega | (simp only[List.length_append,List.length_drop,List.length_take,List.length_singleton,Nat.add_eq,bJ]<;>omega) | fail) only[dk_,lb_,nb_,ns_,nw_,pg_,pt_,sl_,sm_,sw_,ht,ht1,ht2,hpg,kG,m_,mV,fV,gG,pgV,stG,stB,pgC,cZ,rnB,srB,tbB,dkL,List.cons_append,List.nil_append,List.append_assoc,dN,aT,dP,lsV,ptV,p0,aN,dkC,bn,fzCms,cmV,di,bG,az,dG,dn,dR,dE,dF,dD,dw,dC,dB,dQ,dA,aB,aK,aP,Enc.all_ren,aB rfl,aK rfl,aP rfl,aT rfl,aQ,bH,bz,bu,bg,ax,aX,bD,Int.toNat_natCast,aY,aO,bF,bU,dH,bP,bW,dK,Bool.and_self,aG,aF,ay]
theorem aaJ{s:StaM}{l:List CmM}{k:Nat}{m:MsgM}(hs:StQ s 100000)(hlog:s.log=l)(he:∀ c∈l,c.e=1)(hl:l.length<=30)(hrs:s.rs=[])(hpg:s.pg=⟨2,3,0,4,(k:Int),0⟩)(h1:s.dk.d1.length<=3000000)(hk:k<=1000) :
  ∃ j,j<=2/\CRX P 7 16 [p0,mV m] (stB s) (.tuple ⟨[pgV ⟨2,2,0,0,0,0⟩, .int .i64 0]⟩) (stB (s.paged j ⟨2,2,0,0,0,0⟩)):=by
 have q1:=abf (f:=k) hk;have hr0:h_ s.rs=0:=by rw[hrs]; rfl
 obtain⟨j,j1,q2⟩:=xe (s:=s) (p:=⟨2,2,0,0,0,0⟩) hs (by decide) (by rw[hlog]; omega) h1 (by rw[hlog,hr0]; exact TC he (by omega));refine⟨j,j1,?_⟩;have q:=Z8 (aV [pgV ⟨2,3,0,4,k,0⟩] []) (aV [p0,pgV ⟨2,2,0,0,0,0⟩] (stB s)) s (s.paged j ⟨2,2,0,0,0,0⟩) m ⟨2,2,0,0,0,0⟩ (k:Int);rw[kD hpg]at q;refine CRX.of (pol:=au) (fl:=[]) (ts:=[]) (n:=50) (bf _) aA (ah (pol:=au) (ah (pol:=au) aW (aZ q2)) (aZ q1)) (q.trans ?_);clear q q1 q2;have ht:=hs.sr.tb.ren;have ht2:∀ ρ,eP true ρ (s.paged j ⟨2,2,0,0,0,0⟩).tb.es=(s.paged j ⟨2,2,0,0,0,0⟩).tb.es:=hs.sr.tb.ren;generalize s.paged j ⟨2,2,0,0,0,0⟩=s2 at ht2;simp (disch:=first | omega | (simp only[List.length_append,List.length_drop,List.length_take,List.length_singleton,Nat.add_eq,bJ]<;>omega) | fail) only[ns_,nw_,pg_,pt_,sm_,sw_,ht,ht2,hpg,kG,m_,mV,fV,gG,pgV,stB,pgC,cZ,rnB,srB,tbB,dkL,List.cons_append,List.nil_append,List.append_assoc,dN,aT,dP,lsV,ptV,p0,aN,dkC,bn,fzCms,cmV,di,bG,az,dG,dn,dR,dE,dF,dD,dw,dC,dB,dQ,dA,aB,aK,aP,Enc.all_ren,aB rfl,aK rfl,aP rfl,aT rfl,aQ,bH,bz,bu,bg,ax,aX,bD,Int.toNat_natCast,aY,aO,bF,bU,dH,bP,bW,dK,Bool.and_self,aG,aF,ay]
def WP(C:List UInt8->Int->Bool)(X N:List UInt8->Int):kV
 |[.iface t (.agg ⟨.slice none n b::c⟩), .int .i64 m]=>some (.ite (fzB t n c&&C (c.map byteOf) m) (.leaf (smV (X (c.map byteOf)) (N (c.map byteOf)) 0,[])) .fail)
 |_=>none
def smC(l:List UInt8)(m:Int):Bool:=Ff m&&gz l m
def smX(l:List UInt8):Int:=((dM l).1:Int)
def smN(l:List UInt8):Int:=((dM l).2.1:Int)
theorem ac2:CallOkR P 152 (WP smC smX smN):=⟨fun args t hR v bs hev=>by
 unfold WP at hR;split at hR
 ·rename_i t0 n b c m;obtain rfl:=Option.some.inj hR;cases hc:fzB t0 n c&&smC (c.map byteOf) m with
  |false=>rw[hc]at hev; cases hev
  |true=>
   rw[hc]at hev;unfold smC at hc;simp only[Bool.and_eq_true]at hc;obtain⟨h1,h2,h3⟩:=hc;refine Wh.run _ _ rfl v bs ?_;show(DT.ite (fzB t0 n c&&Ff m) (.ite (gz (c.map byteOf) m) _ _) .fail).eval=_;rw[h1,h2];simp only[Bool.and_self];rw[h3];exact hev
 ·cases hR⟩
def K_(C:List UInt8->Int->Bool)(X N:List UInt8->Int):Ct:=jh P 152 (WP C X N) ctF
theorem Bd:CtOk P (K_ smC smX smN):=iG aW ac2
theorem Zu(n b:Nat)(c:List Value):bM P E ctF 50 au [.val] [61] 0 151 [aJ 1 (Nat.succ n) b c] [] =
 (let z0:=Nat.add 0 (Nat.succ n);let y0:=List.append [] c;
 (ae (List.all c oneCell) (ae (Nat.ble z0 4194304) (ae (gV P 0 z0 18446744073709551616 y0 5) (some (fb_ z0 0 (takeC (Nat.mul z0 1) (aU 0 y0)),ag [])))))):=by kernel_rfl
def adp(C:List UInt8->Int->Bool)(X N:List UInt8->Int)(C1:List Value->List Blk->Bool)(r:List UInt8):Ct:=aC P au 0 151 (bI C1 (.leaf (aJ 1 r.length 0 (bc r),[]))) (K_ C X N)
theorem aaU(C:List UInt8->Int->Bool)(X N:List UInt8->Int)(C1:List Value->List Blk->Bool)(r l:List UInt8)(b:Nat):bM P E (adp C X N C1 r) 50 au [.val, .val, .val] [61,0,0] 0 107 [aJ 1 l.length b (bc l)] [] =
 (let z0:=l.length;let y0:=List.map byteOf (bc l);let x0:=N y0;let w0:=Value.int .i64 0;let v0:=dI .i64 x0 (X y0);let u0:=fZ x0 v0;
 (ae (Bool.and (fzB 18446744073709551617 z0 (bc l)) (C y0 131072)) (aj (ltI (eU .i64 (ak z0) x0) (X y0)) (some (.tuple ⟨[.iface 18446744073709551617 (.agg ⟨[.slice none 0 0]⟩),w0, .int .i64 5]⟩,ag [])) (ae (Bool.and (Nat.beq 1 1) (eF x0 v0 z0)) (ae (C1 [fb_ u0 (oz b (Int.toNat x0)) (takeC (Nat.mul u0 1) (aU (atN x0 1) (bc l)))] []) (some (.tuple ⟨[fb_ r.length 0 (bc r), .int .i64 v0,w0]⟩,ag []))))))):=by kernel_rfl
def rdB(l:List UInt8)(b:Nat)(a:Int)(bad:Bool):List Blk:=[.cells [aJ 1 l.length b (bc l), .int .i64 a, .bool bad] 231 true]
theorem Zp(C:List UInt8->Int->Bool)(X N:List UInt8->Int)(l:List UInt8)(b:Nat)(a m:Int):bM P E (K_ C X N) 50 au [] [] 1 176 [p0, .int .i64 m] (rdB l b a false) =
 (let z0:=l.length;let y0:=fZ a (ak z0);let x0:=takeC (Nat.mul y0 1) (aU (atN a 1) (bc l));let w0:=List.map byteOf x0;
 (ae (Bool.and (Nat.beq 1 1) (eF a (ak z0) z0)) (ae (Bool.and (fzB 18446744073709551617 y0 x0) (C w0 m)) (some (.int .i64 (X w0),ag [.cells [fb_ z0 b (bc l), .int .i64 (dI .i64 a (N w0)), .bool false] 231 true]))))):=by kernel_rfl
def VH(C:List UInt8->Int->Int->Bool)(X A:List UInt8->Int->Int):jb:=fun args bs=>match args,bs with
 |[.pointer (some ⟨0,0,none⟩), .int .i64 m],[.cells [.iface t (.agg ⟨.slice none n b::c⟩), .int .i64 a, .bool bd] ty true]=>some (.ite (fzB t n c&&Nat.beq ty 231&&!bd&&C (c.map byteOf) a m) (.leaf (.int .i64 (X (c.map byteOf) a),[.cells [.iface t (.agg ⟨.slice none n b::c⟩), .int .i64 (A (c.map byteOf) a), .bool false] ty true])) .fail)
 |_,_=>none
def abK(C:List UInt8->Int->Int->Bool)(X A:List UInt8->Int->Int):Ct:=aC P au 1 176 (VH C X A) ctF
theorem Z4(C:List UInt8->Int->Int->Bool)(X A:List UInt8->Int->Int)(l:List UInt8)(b:Nat)(a m:Int):bM P E (abK C X A) 50 au [] [] 1 188 [p0, .int .i64 m] (rdB l b a false) =
 (let z0:=l.length;let y0:=bc l;let x0:=List.map byteOf y0;let w0:=A x0 a;let v0:=X x0 a;let u0:=fb_ z0 b y0;let t0:=Nat.beq 1 1;let s0:=dI .i64 w0 v0;let r0:=eU .i64 s0 v0;let q0:=takeC (Nat.mul (fZ r0 s0) 1) (aU (atN r0 1) y0);
 (ae (Bool.and (Bool.and (Bool.and (fzB 18446744073709551617 z0 y0) (Nat.beq 231 231)) (Bool.not false)) (C x0 a m)) (aj (ltI (eU .i64 (ak z0) w0) v0) (some (.string (ByteArray.mk #[]),ag [.cells [u0, .int .i64 w0, .bool true] 231 true])) (ae (Bool.and t0 (eF r0 s0 z0)) (ae (Bool.and t0 (allBytes q0)) (some (.string (zA q0),ag [.cells [u0, .int .i64 s0, .bool false] 231 true]))))))):=by kernel_rfl
theorem Va{l:List UInt8}{m:Int}(h:gz l m=true):((dM l).1:Int)<=m:=by
 unfold gz at h;rw[Bool.and_eq_true]at h;exact of_decide_eq_true h.2
theorem pG{b:List UInt8}{a m x a':Nat}(h:kL b a false m=(x,a',false)):gz (b.drop a) m=true/\x=(dM (b.drop a)).1/\a'=a+(dM (b.drop a)).2.1/\x<=m/\(a<=b.length->a'<=b.length):=by
 unfold kL at h;cases hs:gz (b.drop a) m with
 |false=>rw[hs]at h; simp at h
 |true=>
  rw[hs]at h;simp only[Prod.mk.injEq,and_true]at h;obtain⟨rfl,rfl⟩:=h;have h1:=Va hs;have h2:=pz (b.drop a);rw[List.length_drop]at h2;exact⟨rfl,rfl,rfl,by omega,fun h=>by omega⟩
theorem CO(b:List UInt8)(a m:Nat):kL b a true m=(0,a,true):=rfl
theorem yT(b:List UInt8)(a m:Nat):lT b a true m=([],a,true):=by unfold lT; rw[CO]; rfl
theorem xx{b t:List UInt8}{a m a':Nat}(h:lT b a false m=(t,a',false)):∃ x a1,kL b a false m=(x,a1,false)/\a1+x<=b.length/\t=(b.drop a1).take x/\a'=a1+x:=by
 unfold lT at h;rcases hq:kL b a false m with⟨x,a1,bad⟩
 rw[hq]at h;cases bad with
 |true=>simp at h
 |false=>
  simp only[Bool.false_or]at h;by_cases hd:b.length<a1+x
  ·rw[decide_eq_true hd]at h; simp at h
  ·rw[decide_eq_false hd]at h;simp only[Prod.mk.injEq,and_true]at h;obtain⟨rfl,rfl⟩:=h;exact⟨x,a1,rfl,by omega,rfl,rfl⟩
theorem SI{b last:List UInt8}{a a':Nat}{o:OpM}(h:opR b a false last=(o,a',false)):∃ p a1 k a2 t a3,kL b a false 1=(p,a1,false)/\kL b a1 false last.length=(k,a2,false)/\lT b a2 false 16=(t,a3,false)/\shN last (opK last k t)=k/\
  ((p=1/\∃ v,lT b a3 false 32=(v,a',false)/\o=⟨true,txt (opK last k t),txt v⟩)\/(p≠1/\a'=a3/\o=⟨false,txt (opK last k t),txt []⟩)):=by
 unfold opR at h;rcases h1:kL b a false 1 with⟨p,a1,b1⟩
 rw[h1]at h;simp only at h;rcases h2:kL b a1 b1 last.length with⟨k,a2,b2⟩
 rw[h2]at h;simp only at h;rcases h3:lT b a2 b2 16 with⟨t,a3,b3⟩
 rw[h3]at h;simp only at h;cases hp:p == 1 with
 |true=>
  rw[hp]at h;simp only[Prod.mk.injEq]at h;obtain⟨ho,ha,hb⟩:=h;cases hx:(b3 || shN last (opK last k t) != k)with
  |true=>rw[hx,yT]at hb; cases hb
  |false=>
   rw[hx]at ho ha hb;rw[Bool.or_eq_false_iff]at hx;obtain⟨rfl,hx⟩:=hx;have hb2:b2=false:=by cases b2 with | false=>rfl | true=>rw[yT]at h3; cases h3
   subst hb2;have hb1:b1=false:=by cases b1 with | false=>rfl | true=>rw[CO]at h2; cases h2
   subst hb1;rcases h4:lT b a3 false 32 with⟨v,a4,b4⟩
   rw[h4]at ho ha hb;simp only at ho ha hb;subst ho ha hb;exact⟨p,a1,k,a2,t,a3,rfl,h2,h3,by simpa using hx,Or.inl ⟨by simpa using hp,v,h4,rfl⟩⟩
 |false=>
  rw[hp]at h;simp only[Prod.mk.injEq]at h;obtain⟨ho,ha,hx⟩:=h;rw[Bool.or_eq_false_iff]at hx;obtain⟨rfl,hx⟩:=hx;have hb2:b2=false:=by cases b2 with | false=>rfl | true=>rw[yT]at h3; cases h3
  subst hb2;have hb1:b1=false:=by cases b1 with | false=>rfl | true=>rw[CO]at h2; cases h2
  subst hb1;subst ho ha;exact⟨p,a1,k,a2,t,a3,rfl,h2,h3,by simpa using hx,Or.inr ⟨by simpa using hp,rfl,rfl⟩⟩
def XT(C:List UInt8->Int->Int->Bool)(T:List UInt8->Int->ByteArray)(A:List UInt8->Int->Int):jb:=fun args bs=>match args,bs with
 |[.pointer (some ⟨0,0,none⟩), .int .i64 m],[.cells [.iface t (.agg ⟨.slice none n b::c⟩), .int .i64 a, .bool bd] ty true]=>some (.ite (fzB t n c&&Nat.beq ty 231&&!bd&&C (c.map byteOf) a m) (.leaf (.string (T (c.map byteOf) a),[.cells [.iface t (.agg ⟨.slice none n b::c⟩), .int .i64 (A (c.map byteOf) a), .bool false] ty true])) .fail)
 |_,_=>none
def adc(C:List UInt8->Int->Int->Bool)(X A:List UInt8->Int->Int)(C2:List UInt8->Int->Int->Bool)(T:List UInt8->Int->ByteArray)(A2:List UInt8->Int->Int)(K:ByteArray->ByteArray->Bool)(S:ByteArray->ByteArray->Int):Ct:=
 aC P fJ 0 180 (P7 K S) (aC P au 1 188 (XT C2 T A2) (abK C X A))
theorem aao(C:List UInt8->Int->Int->Bool)(X A:List UInt8->Int->Int)(C2:List UInt8->Int->Int->Bool)(T:List UInt8->Int->ByteArray)(A2:List UInt8->Int->Int)(K:ByteArray->ByteArray->Bool)(S:ByteArray->ByteArray->Int)(l:List UInt8)(b:Nat)(a:Int)(s:ByteArray):bM P E (adc C X A C2 T A2 K S) 50 au [] [] 1 177 [p0, .string s] (rdB l b a false) =
 (let z0:=Bool.and (fzB 18446744073709551617 l.length (bc l)) (Nat.beq 231 231);let y0:=Bool.and z0 (Bool.not false);let x0:=List.map byteOf (bc l);let w0:=A x0 a;let v0:=X x0 w0;let u0:=eF 0 v0 s.size;let t0:=A x0 w0;let s0:=vk s 0 v0;let r0:=Value.string s0;let q0:=Je s0 (T x0 t0);let o0:=eqI (X x0 a) 1;
 let n0:=neI (S s q0) v0;let m0:=A2 x0 t0;let l0:=Value.string q0;let k0:=fb_ l.length b (bc l);
 (ae (Bool.and y0 (C x0 a 1)) (ae (Bool.and y0 (C x0 w0 (ak s.size))) (ae u0 (ae (Bool.and y0 (C2 x0 t0 16)) (ae (PR s0 (T x0 t0)) (ae u0 (ae (bZ r0 r0) (ae (K s q0) (aj o0 (ae (Bool.and (Bool.and z0 (Bool.not n0)) (C2 x0 m0 32)) (some (.agg ⟨[.bool o0,l0, .string (T x0 m0)]⟩,ag [.cells [k0, .int .i64 (A2 x0 m0), .bool false] 231 true]))) (some (.agg ⟨[.bool o0,l0, .string (ByteArray.mk #[])]⟩,ag [.cells [k0, .int .i64 m0, .bool n0] 231 true])))))))))))):=by kernel_rfl
def Dbr:HeadX:=⟨1,48,[2,5,6,7],[.own, .val, .val, .val],[33,0,0,0],au⟩
def Bbr:Code:=(dZ P 153 0).getD .skip
theorem Vj:dZ P 153 0=some Bbr:=by kernel_rfl
theorem Py:Occ P 153 (.block 0 (.loop Bbr)):=fM Vj
def brB(l:List UInt8)(b:Nat)(a:Int)(o:List OpM):List Blk:=rdB l b a false++[.cells (EOp.all o) 143 false]
def brV(o:List OpM)(s:ByteArray)(k:Int):List Value:=[lsV 1 o.length,ptV 0, .string s, .int .i64 k]
def opV(o:OpM):Value:= .agg ⟨[.bool o.p, .string o.k, .string o.v]⟩
theorem UR(C:List Value->List Blk->Bool)(l:List UInt8)(b:Nat)(a a2:Int)(o:List OpM)(x:OpM)(s:ByteArray)(k:Int):bV P E (aC P au 1 177 (bI C (.leaf (opV x,rdB l b a2 false))) ctF) 50 153 Bbr Dbr (brV o s k) (brB l b a o) =
 (let z0:=pt_ 0;let y0:=Value.string s;let x0:=fb_ l.length b (bc l);let w0:=Value.bool false;let v0:=Blk.cells [x0, .int .i64 a,w0] 231 true;let u0:=o.length;let t0:=Nat.add u0 1;let s0:=Enc.all EOp o;let r0:=Value.string x.k;let q0:=List.append (jC 0 s0) [.bool x.p,r0, .string x.v];
 (aj (gtI k 0) (ae (C [z0,y0] [v0]) (ae (Nat.ble t0 4194304) (ae (Nat.beq (Nat.add 0 (Nat.mul u0 3)) s0.length) (nb_ t0 3 q0 (some (.tuple ⟨[.int .i64 0,sl_ 1 t0,z0,r0, .int .i64 (eU .i64 k 1)]⟩,ag [.cells [x0, .int .i64 a2,w0] 231 true,lb_ (aH 0 [0,5]) t0 3 q0 143])))))) (nb_ u0 3 s0 (some (.tuple ⟨[.int .i64 1,sl_ 1 u0,z0,y0, .int .i64 k]⟩,ag [v0,lb_ (aH 0 [0,2]) u0 3 s0 143]))))):=by kernel_rfl
def adt(C1 C2 C3:List Value->List Blk->Bool)(l:List UInt8)(b:Nat)(a1 a2 k:Int)(o:List OpM)(s:ByteArray):Ct:=aC P au 1 176 (bI C1 (.leaf (.int .i64 k,rdB l b a1 false))) (fP P 153 0 Dbr (jd C2 (.leaf (.normal,brV o s 0,brB l b a2 o))) (jh P 90 (fun args=>bI C3 (.leaf (.int .i64 0,[])) args []) ctF))
theorem aa8(C1 C2 C3:List Value->List Blk->Bool)(l:List UInt8)(b:Nat)(a1 a2 k:Int)(o:List OpM)(s:ByteArray):bM P E (adt C1 C2 C3 l b a1 a2 k o s) 50 au [.val, .val, .val] [33,0,0] 0 153 [aJ 1 l.length b (bc l)] [] =
 (let z0:=fb_ l.length b (bc l);let y0:=Value.int .i64 0;let x0:=Value.bool false;let w0:=o.length;let v0:=Nat.mul w0 3;let u0:=af true (bC [0] 2) (Enc.all EOp o);let t0:=takeC v0 (aU 0 u0);let s0:=fa_ w0 0 t0;
 (ae (C1 [pt_ 0, .int .i64 8] [.cells [z0,y0,x0] 231 true]) (ae (C2 [sl_ 1 0,pt_ 0, .string (ByteArray.mk #[]), .int .i64 k] [.cells [z0, .int .i64 a1,x0] 231 true, .cells [] 143 false]) (ae (Bool.and (Nat.ble (Nat.add 0 v0) u0.length) (Nat.ble 1 3)) (ae (gX t0) (ae (C3 [s0] []) (ae (gV P 0 w0 18446744073709551616 u0 143) (some (.tuple ⟨[s0, .int .i64 a2,y0]⟩,ag []))))))))):=by kernel_rfl
def ade(C:List UInt8->Int->Bool)(X N:List UInt8->Int)(C1 C2:List Value->List Blk->Bool)(o:List OpM)(k:Int):Ct:=aC P au 0 153 (bI C1 (.leaf (.tuple ⟨[bn o, .int .i64 k, .int .i64 0]⟩,[]))) (aC P au 0 50 (bI C2 (.leaf (.int .i64 0,[]))) (K_ C X N))
theorem aa3(C:List UInt8->Int->Bool)(X N:List UInt8->Int)(C1 C2:List Value->List Blk->Bool)(o:List OpM)(k:Int)(l:List UInt8)(b:Nat):pY P E (ade C X N C1 C2 o k) 50 au [.val, .val, .val, .val] [0,0,33,0] 0 [] 109 [aJ 1 l.length b (bc l)] [] =
 (let z0:=l.length;let y0:=bc l;let x0:=List.map byteOf y0;let w0:=Nat.beq 1 1;let v0:=N x0;let u0:=ak z0;let t0:=fZ v0 u0;let s0:=takeC (Nat.mul t0 1) (aU (atN v0 1) y0);let r0:=List.map byteOf s0;let q0:=dI .i64 v0 (N r0);let p0:=fZ q0 u0;let o0:=Value.int .i64 0;let n0:=Value.agg ⟨[.int .i64 (X x0), .int .i64 (X r0),fa_ o.length 0 (Enc.all EOp o)]⟩;
 (ae (Bool.and (fzB 18446744073709551617 z0 y0) (C x0 1048576)) (ae (Bool.and w0 (eF v0 u0 z0)) (ae (Bool.and (fzB 18446744073709551617 t0 s0) (C r0 1048576)) (ae (Bool.and w0 (eF q0 u0 z0)) (ae (C1 [fb_ p0 (oz b (Int.toNat q0)) (takeC (Nat.mul p0 1) (aU (atN q0 1) y0))] []) (aj (neI (dI .i64 q0 k) u0) (some (.tuple ⟨[.agg ⟨[o0,o0, .iface 18446744073709551619 (.agg ⟨[.slice none 0 0]⟩)]⟩, .int .i64 5]⟩,ag [])) (ae (C2 [n0] []) (some (.tuple ⟨[n0,o0]⟩,ag [])))))))))):=by kernel_rfl
theorem aab(C:List UInt8->Int->Bool)(X N:List UInt8->Int)(l:List UInt8)(b:Nat):pY P E (K_ C X N) 50 au [.val, .val, .val, .val, .val] [0,0,0,0,0] 0 [] 108 [aJ 1 l.length b (bc l)] [] =
 (let z0:=l.length;let y0:=List.map byteOf (bc l);let x0:=Nat.beq 1 1;let w0:=N y0;let v0:=Bool.and x0 (eF w0 (ak z0) z0);let u0:=fZ w0 (ak z0);let t0:=oz b (Int.toNat w0);let s0:=takeC (Nat.mul u0 1) (aU (atN w0 1) (bc l));let r0:=fb_ u0 t0 s0;let q0:=List.map byteOf s0;let p0:=N q0;
 let o0:=Bool.and x0 (eF p0 (ak u0) u0);let n0:=fZ p0 (ak u0);let m0:=oz t0 (Int.toNat p0);let l0:=takeC (Nat.mul n0 1) (aU (atN p0 1) s0);let k0:=fb_ n0 m0 l0;let j0:=List.map byteOf l0;let i0:=N j0;let h0:=Bool.and x0 (eF i0 (ak n0) n0);let g0:=fZ i0 (ak n0);let f0:=fb_ g0 (oz m0 (Int.toNat i0)) (takeC (Nat.mul g0 1) (aU (atN i0 1) l0));
 let e0:=Value.int .i64 (X j0);let d0:=Value.int .i64 (ak g0);
 (ae (Bool.and (fzB 18446744073709551617 z0 (bc l)) (C y0 1048576)) (ae v0 (ae v0 (ae (bZ r0 r0) (ae (Bool.and (fzB 18446744073709551617 u0 s0) (C q0 1048576)) (ae o0 (ae o0 (ae (bZ k0 k0) (ae (Bool.and (fzB 18446744073709551617 n0 l0) (C j0 1048576)) (ae h0 (ae h0 (ae (bZ f0 f0) (ae (bZ e0 e0) (ae (bZ d0 d0) (some (.tuple ⟨[.agg ⟨[.int .i64 (X y0), .int .i64 (X q0), .slice none 0 0]⟩,e0, .bool (eqI (ak g0) 0)]⟩,ag []))))))))))))))))):=by kernel_rfl
def Dsn:HeadX:=⟨2,70,[0,2,3,4,6,8,33,34],[.val, .val, .val, .val, .val, .val, .val, .val],[61,0,0,0,0,0,0,0],Ae⟩
def Bsn:Code:=(dZ P 57 0).getD .skip
theorem RZ:dZ P 57 0=some Bsn:=by kernel_rfl
theorem OA:Occ P 57 (.block 0 (.loop Bsn)):=fM RZ
def snV(l:List UInt8)(b:Nat)(a m i:Int):List Value:=[aJ 1 l.length b (bc l),ptV 0, .int .i64 0, .bool false, .int .i64 a,ptV 1, .int .i64 m, .int .i64 i]
def WZ(C1 C2:List Value->List Blk->Bool)(r:List UInt8)(k:Int)(c:CmM):Ct:=aC P au 0 107 (bI C1 (.leaf (.tuple ⟨[aJ 1 r.length 0 (bc r), .int .i64 k, .int .i64 0]⟩,[]))) (aC P au 0 109 (bI C2 (.leaf (.tuple ⟨[cmV c, .int .i64 0]⟩,[]))) ctF)
theorem Uw(C1 C2:List Value->List Blk->Bool)(r:List UInt8)(k:Int)(c:CmM)(l:List UInt8)(b:Nat)(a m i:Int)(x:SecM):bV P E (WZ C1 C2 r k c) 50 57 Bsn Dsn (snV l b a m i) (loB x) =
 (let z0:=l.length;let y0:=fZ a (ak z0);let x0:=x.cs.length;let w0:=Nat.add x0 1;let v0:=Enc.all ECm x.cs;let u0:=List.append (jC 0 v0) [.int .i64 c.e, .int .i64 c.n,fa_ c.ops.length 0 (Enc.all EOp c.ops)];let t0:=Value.int .i64 0;let s0:=fb_ z0 b (bc l);let r0:=Value.bool false;let q0:=Value.int .i64 m;
 let p0:=Blk.cells [t0,t0,sl_ 2 0] 52 true;let o0:=Value.int .i64 x.e;let n0:=Value.int .i64 x.f;let m0:=Blk.cells [] 35 false;
 (aj (ltI i m) (ae (Bool.and (Nat.beq 1 1) (eF a (ak z0) z0)) (ae (C1 [fb_ y0 (oz b (Int.toNat a)) (takeC (Nat.mul y0 1) (aU (atN a 1) (bc l)))] []) (ae (C2 [fb_ r.length 0 (bc r)] []) (ae (Nat.ble w0 4194304) (ae (Nat.beq (Nat.add 0 (Nat.mul x0 3)) v0.length) (nb_ w0 3 u0 (some (.tuple ⟨[t0,s0,pt_ 0,t0,r0, .int .i64 (dI .i64 a k),pt_ 1,q0, .int .i64 (dI .i64 i 1)]⟩,ag [p0, .cells [o0,n0,sl_ 3 w0] 52 true,m0,lb_ (aH 0 [0,1,7,8]) w0 3 u0 35])))))))) (nb_ x0 3 v0 (some (.tuple ⟨[.int .i64 1,s0,pt_ 0,t0,r0, .int .i64 a,pt_ 1,q0, .int .i64 i]⟩,ag [p0, .cells [o0,n0,sl_ 3 x0] 52 true,m0,lb_ (aH 0 [0,1,4,5]) x0 3 v0 35]))))):=by kernel_rfl
def adB(C1 C2 C3 C4:List Value->List Blk->Bool)(r:List UInt8)(k:Int)(h:SecM)(m:Int)(l:List UInt8)(b:Nat)(a:Int)(x:SecM):Ct:=aC P au 0 107 (bI C1 (.leaf (.tuple ⟨[aJ 1 r.length 0 (bc r), .int .i64 k, .int .i64 0]⟩,[]))) (aC P au 0 108 (bI C2 (.leaf (.tuple ⟨[.agg ⟨[.int .i64 h.e, .int .i64 h.f, .slice none 0 0]⟩, .int .i64 m, .bool true]⟩,[])))
 (fP P 57 0 Dsn (jd C3 (.leaf (.normal,snV l b a m m,loB x))) (jh P 9 (fun args=>bI C4 (.leaf (ui (0,0),[])) args []) ctF)))
theorem ZA(C1 C2 C3 C4:List Value->List Blk->Bool)(r:List UInt8)(k:Int)(h:SecM)(m:Int)(l:List UInt8)(b:Nat)(a:Int)(x:SecM):pY P E (adB C1 C2 C3 C4 r k h m l b a x) 50 Ae [.val, .val, .val, .val, .val] [0,0,22,0,0] 0 [] 57 [aJ 1 l.length b (bc l)] [] =
 (let z0:=fb_ l.length b (bc l);let y0:=Value.int .i64 0;let x0:=Blk.cells [] 35 false;let w0:=Value.int .i64 x.e;let v0:=Value.int .i64 x.f;let u0:=x.cs.length;let t0:=Value.agg ⟨[w0,v0,sl_ 5 u0]⟩;let s0:=bZ t0 t0;let r0:=af true (bC [0,1] 4) (Enc.all ECm x.cs);let q0:=gV P 0 u0 18446744073709551616 r0 35;
 let p0:=Nat.mul u0 3;let o0:=takeC p0 (aU 0 r0);let n0:=fa_ u0 0 o0;let m0:=Value.agg ⟨[w0,v0,n0]⟩;let l0:=Value.int .i64 a;let k0:=ag [];let j0:=ae s0 (ae q0 (some (.tuple ⟨[m0,l0, .bool (eqI 2 0)]⟩,k0)));let i0:=eU .i64 (ak u0) 1;let h0:=Nat.add 0 (atN i0 3);let g0:=bT r0 h0;
 (ae (C1 [z0] []) (ae (C2 [fb_ r.length 0 (bc r)] []) (ae (C3 [z0,pt_ 0,y0, .bool false, .int .i64 k,pt_ 1, .int .i64 m,y0] [.cells [y0,y0,sl_ 2 0] 52 true, .cells [.int .i64 h.e, .int .i64 h.f,sl_ 3 0] 52 true,x0,x0]) (aj (ltI x.e 1) j0 (aj (gtI x.e 1048576) j0 (aj (ltI x.f 0) j0 (aj (eqI (ak u0) 0) j0 (ae (Bool.and (Nat.ble (Nat.add 0 p0) r0.length) (Nat.ble 1 3)) (ae (gy o0) (ae (C4 [.int .i64 1,v0,n0] []) (ae (inI i0 u0) (ae (Bool.and (Nat.ble (Nat.add h0 1) r0.length) (ig (.int .i64) g0)) (aj (geI (asI g0) x.e) (ae s0 (ae q0 (some (.tuple ⟨[m0,l0, .bool (eqI 15 0)]⟩,k0)))) (ae s0 (ae q0 (some (.tuple ⟨[m0,l0, .bool (eqI 0 0)]⟩,k0)))))))))))))))))):=by kernel_rfl
theorem aba:pY P E ctF 50 Ae [.val, .val, .val, .val, .val] [0,0,22,0,0] 0 [] 57 [aJ 1 0 0 []] [] =
 (let z0:=Value.int .i64 0;
 (some (Value.tuple ⟨[.agg ⟨[z0,z0, .iface 18446744073709551619 (.agg ⟨[.slice none 0 0]⟩)]⟩,z0, .bool false]⟩,ag []))):=by kernel_rfl
theorem ZP{l:List UInt8}(h1:1<=l.length)(h2:l.length<=4194304)(b:Nat):CRX P 0 151 [aJ 1 l.length b (bc l)] [] (aJ 1 l.length 0 (bc l)) []:=by
 refine CRX.of (pol:=au) (fl:=[.val]) (ts:=[61]) (n:=50) (bf _) aA aW ?_;obtain⟨n,hn⟩:∃ n,l.length=Nat.succ n:=⟨l.length-1,by omega⟩
 rw[hn];refine(Zu n b (bc l)).trans ?_;have e:List.append [] (bc l)=bc l:=rfl;have one:(bc l).all oneCell=true:=List.all_eq_true.2 fun x hx=>by
  unfold bc at hx;obtain⟨o,_,rfl⟩:=List.mem_map.1 hx
  rfl
 simp (disch:=omega) only[fb_,one,e,aO,<-hn,aY,bU rfl,bF rfl,bP,di,ay]
theorem Gq(l:List UInt8)(a:Nat):takeC (l.drop a).length (aU (atN (a:Int) 1) (bc l))=bc (l.drop a):=by
 have h1:atN (a:Int) 1=a:=by simp[atN]
 rw[h1,uV,List.take_of_length_le (Nat.le_refl _)]
theorem EY(l:List UInt8)(a:Nat):fZ (a:Int) (ak l.length)=(l.drop a).length:=by rw[List.length_drop]; exact acF a l.length
theorem zq{a n:Nat}(h:a<=n):eF (a:Int) (ak n) n=true:=by unfold eF ak; exact decide_eq_true (by omega)
theorem yw:Nat.beq 1 1=true:=rfl
theorem Nl{l r:List UInt8}{n b:Nat}(h:frR l=some (r,n))(hr:r≠[])(hl:l.length+64<=4194304):CRX P 0 107 [aJ 1 l.length b (bc l)] [] (.tuple ⟨[aJ 1 r.length 0 (bc r), .int .i64 (n:Int), .int .i64 0]⟩) []:=by
 unfold frR at h;cases hs:gz l 131072&&decide ((dM l).2.1+(dM l).1<=l.length)with
 |false=>rw[hs]at h; cases h
 |true=>
  rw[hs]at h;simp only[fb_,Option.some.injEq,Prod.mk.injEq]at h;rw[Bool.and_eq_true]at hs;obtain⟨hs,hle⟩:=hs;have hle:=of_decide_eq_true hle;obtain⟨e1,e2⟩:=h;have hX:smX l=((dM l).1:Int):=rfl;have hN:smN l=((dM l).2.1:Int):=rfl;generalize (dM l).1=x at *;generalize (dM l).2.1=m at *;have hrl:r.length=x:=by rw[<-e1,List.length_take,List.length_drop]; omega
  have hpos:=List.length_pos_iff.2 hr;have q1:=ZP (l:=r) (by omega) (by omega) (oz b m);refine CRX.of (pol:=au) (fl:=[.val, .val, .val]) (ts:=[61,0,0]) (n:=50) (bf _) aA (ah (pol:=au) Bd (aZ q1)) ((aaU smC smX smN (aV [aJ 1 r.length (oz b m) (bc r)] []) r l b).trans ?_);clear q1;have c1:smC l 131072=true:=by unfold smC; rw[hs]; rfl
  have g1:ltI (eU .i64 (ak l.length) (m:Int)) (x:Int)=false:=by unfold ltI eU ak; rw[wrap64 (by omega) (by omega)]; exact decide_eq_false (by omega)
  have a1:dI .i64 (m:Int) (x:Int)=(n:Int):=by unfold dI; rw[wrap64 (by omega) (by omega)]; omega
  have g2:eF (m:Int) (n:Int) l.length=true:=by unfold eF; exact decide_eq_true (by omega)
  have l1:fZ (m:Int) (n:Int)=r.length:=by unfold fZ; omega
  have t1:takeC r.length (aU (atN (m:Int) 1) (bc l))=bc r:=by
   have h1:atN (m:Int) 1=m:=by simp[atN]
   rw[h1,uV,hrl,e1]
  have t2:(m:Int).toNat=m:=by omega
  simp (disch:=first | omega | (simp only[List.length_append,List.length_drop,List.length_take,List.length_singleton,Nat.add_eq,bJ]<;>omega) | fail) only[fb_,hX,hN,c1,g1,a1,g2,l1,t1,t2,yw,cZ,rnB,srB,tbB,dkL,List.cons_append,List.nil_append,List.append_assoc,dN,aT,dP,lsV,ptV,p0,aN,dkC,bn,fzCms,cmV,di,bG,az,dG,dn,dR,dE,dF,dD,dw,dC,dB,dQ,dA,aB,aK,aP,Enc.all_ren,aQ,bH,bz,bu,bg,ax,aX,bD,Int.toNat_natCast,aY,aO,bF,bU,dH,bP,bW,dK,Bool.and_self,aG,aF,ay]
theorem NT{l:List UInt8}{a m x a' b:Nat}(hq:kL l a false m=(x,a',false))(ha:a<=l.length)(hl:l.length+64<=4194304)(hm:m<4611686018427387904) :
  CRX P 1 176 [p0, .int .i64 (m:Int)] (rdB l b a false) (.int .i64 (x:Int)) (rdB l b (a':Int) false):=by
 obtain⟨h1,h2,h3,h4,h5⟩:=pG hq;have h5:=h5 ha;refine CRX.of (pol:=au) (fl:=[]) (ts:=[]) (n:=50) (bf _) aA Bd ((Zp smC smX smN l b a m).trans ?_);have hc:smC (l.drop a) (m:Int)=true:=by unfold smC Ff; rw[h1,jF (by omega) (by omega)]; rfl
 have hX:smX (l.drop a)=(x:Int):=by unfold smX; omega
 have hN:smN (l.drop a)=(((dM (l.drop a)).2.1:Nat):Int):=rfl;have a1:dI .i64 (a:Int) (((dM (l.drop a)).2.1:Nat):Int)=(a':Int):=by unfold dI; rw[wrap64 (by omega) (by omega)]; omega
 simp (disch:=first | omega | (simp only[List.length_append,List.length_drop,List.length_take,List.length_singleton,Nat.add_eq,bJ]<;>omega) | fail) only[fb_,hc,hX,hN,a1,Gq,EY,zq ha,yw,rdB,cZ,rnB,srB,tbB,dkL,List.cons_append,List.nil_append,List.append_assoc,dN,aT,dP,lsV,ptV,p0,aN,dkC,bn,fzCms,cmV,di,bG,az,dG,dn,dR,dE,dF,dD,dw,dC,dB,dQ,dA,aB,aK,aP,Enc.all_ren,aQ,bH,bz,bu,bg,ax,aX,bD,Int.toNat_natCast,aY,aO,bF,bU,dH,bP,bW,dK,Bool.and_self,aG,aF,ay]
open Classical in
def nuC(l:List UInt8)(a m:Int):Bool:=decide (∃ (a0 m0 x a':Nat),a=a0/\m=m0/\kL l a0 false m0=(x,a',false)/\a0<=l.length/\m0<4611686018427387904)
def nuX(l:List UInt8)(a:Int):Int:=((dM (l.drop a.toNat)).1:Int)
def nuA(l:List UInt8)(a:Int):Int:=((a.toNat+(dM (l.drop a.toNat)).2.1:Nat):Int)
open Classical in
theorem DU{l:List UInt8}{a m x a':Nat}(h:kL l a false m=(x,a',false))(ha:a<=l.length)(hm:m<4611686018427387904):nuC l (a:Int) (m:Int)=true/\nuX l (a:Int)=(x:Int)/\nuA l (a:Int)=(a':Int):=by
 obtain⟨h1,h2,h3,h4,h5⟩:=pG h;refine⟨by unfold nuC; exact decide_eq_true ⟨a,m,x,a',rfl,rfl,h,ha,hm⟩,?_,?_⟩
 ·unfold nuX;rw[show(a:Int).toNat=a by omega,<-h2]
 ·unfold nuA;rw[show(a:Int).toNat=a by omega,<-h3]
open Classical in
theorem Yv:CallOkX P 1 176 (VH nuC nuX nuA):=⟨fun args bs t hR v bs' hev=>by
 unfold VH at hR;split at hR
 ·rename_i m t0 n b c a bd ty;obtain rfl:=Option.some.inj hR;cases hc:(fzB t0 n c&&Nat.beq ty 231&&!bd&&nuC (c.map byteOf) a m)with
  |false=>rw[hc]at hev; cases hev
  |true=>
   rw[hc]at hev;simp only[Bool.and_eq_true]at hc;obtain⟨⟨⟨hf,hty⟩,hbd⟩,hn⟩:=hc;obtain rfl:=Nat.eq_of_beq_eq_true hty;obtain rfl:bd=false:=by cases bd with | false=>rfl | true=>cases hbd
   obtain⟨rfl,rfl,⟨l,rfl,hl⟩,h4⟩:=Af hf;rw[<-hl]at hev hn;rw[ax]at h4 hev ⊢;have hn':=of_decide_eq_true hn;obtain⟨a0,m0,x,a',rfl,rfl,hq,ha,hm⟩:=hn';obtain⟨_,e2,e3⟩:=DU hq ha hm;simp only[DT.eval,Option.some.injEq,Prod.mk.injEq,e2,e3]at hev;obtain⟨rfl,rfl⟩:=hev;exact NT hq ha h4 hm
 ·cases hR⟩
theorem aaf{l t:List UInt8}{a m a' b:Nat}(hq:lT l a false m=(t,a',false))(ha:a<=l.length)(hl:l.length+64<=4194304)(hm:m<4611686018427387904) :
  CRX P 1 188 [p0, .int .i64 (m:Int)] (rdB l b a false) (.string (txt t)) (rdB l b (a':Int) false):=by
 obtain⟨x,a1,h1,h2,h3,h4⟩:=xx hq;obtain⟨_,_,_,_,h5⟩:=pG h1;have h5:=h5 ha;obtain⟨c1,c2,c3⟩:=DU h1 ha hm;refine CRX.of (pol:=au) (fl:=[]) (ts:=[]) (n:=50) (bf _) aA (ah (pol:=au) aW Yv) ((Z4 nuC nuX nuA l b a m).trans ?_);have g1:ltI (eU .i64 (ak l.length) (a1:Int)) (x:Int)=false:=by unfold ltI eU ak; rw[wrap64 (by omega) (by omega)]; exact decide_eq_false (by omega)
 have e1:dI .i64 (a1:Int) (x:Int)=(a':Int):=by unfold dI; rw[wrap64 (by omega) (by omega)]; omega
 have e2:eU .i64 (a':Int) (x:Int)=(a1:Int):=by unfold eU; rw[wrap64 (by omega) (by omega)]; omega
 have g2:eF (a1:Int) (a':Int) l.length=true:=by unfold eF; exact decide_eq_true (by omega)
 have t1:takeC (fZ (a1:Int) (a':Int)) (aU (atN (a1:Int) 1) (bc l))=bc t:=by
  have h1:atN (a1:Int) 1=a1:=by simp[atN]
  have h2:fZ (a1:Int) (a':Int)=x:=by unfold fZ; omega
  rw[h1,h2,uV,h3]
 have t2:allBytes (bc t)=true:=by
  unfold allBytes;refine List.all_eq_true.2 fun x hx=>?_;unfold bc at hx;obtain⟨o,_,rfl⟩:=List.mem_map.1 hx;first | rfl | simp[isByte] | (have:=o.toNat_lt; simp[isByte]; omega)
 have t3:zA (bc t)=txt t:=by unfold zA txt; rw[bg]
 have z:Nat.beq 231 231=true:=rfl;have z2:(!false)=true:=rfl;simp (disch:=first | omega | (simp only[List.length_append,List.length_drop,List.length_take,List.length_singleton,Nat.add_eq,bJ]<;>omega) | fail) only[fb_,c1,c2,c3,g1,e1,e2,g2,t1,t2,t3,z,z2,yw,rdB,cZ,rnB,srB,tbB,dkL,List.cons_append,List.nil_append,List.append_assoc,dN,aT,dP,lsV,ptV,p0,aN,dkC,bn,fzCms,cmV,di,bG,az,dG,dn,dR,dE,dF,dD,dw,dC,dB,dQ,dA,aB,aK,aP,Enc.all_ren,aQ,bH,bz,bu,bg,ax,aX,bD,Int.toNat_natCast,aY,aO,bF,bU,dH,bP,bW,dK,Bool.and_self,aG,aF,ay]
open Classical in
def txC(l:List UInt8)(a m:Int):Bool:=decide (∃ (a0 m0 a':Nat) (t:List UInt8),a=a0/\m=m0/\lT l a0 false m0=(t,a',false)/\a0<=l.length/\m0<4611686018427387904)
def txT(l:List UInt8)(a:Int):ByteArray:=txt ((l.drop (a.toNat+(dM (l.drop a.toNat)).2.1)).take (dM (l.drop a.toNat)).1)
def txA(l:List UInt8)(a:Int):Int:=((a.toNat+(dM (l.drop a.toNat)).2.1+(dM (l.drop a.toNat)).1:Nat):Int)
open Classical in
theorem I4{l t:List UInt8}{a m a':Nat}(h:lT l a false m=(t,a',false))(ha:a<=l.length)(hm:m<4611686018427387904):txC l (a:Int) (m:Int)=true/\txT l (a:Int)=txt t/\txA l (a:Int)=(a':Int):=by
 obtain⟨x,a1,h1,h2,h3,h4⟩:=xx h;obtain⟨_,e2,e3,_,_⟩:=pG h1;refine⟨by unfold txC; exact decide_eq_true ⟨a,m,a',t,rfl,rfl,h,ha,hm⟩,?_,?_⟩
 ·unfold txT;rw[show(a:Int).toNat=a by omega,<-e3,<-e2,<-h3]
 ·unfold txA;rw[show(a:Int).toNat=a by omega,<-e3,<-e2,<-h4]
open Classical in
theorem adC:CallOkX P 1 188 (XT txC txT txA):=⟨fun args bs t hR v bs' hev=>by
 unfold XT at hR;split at hR
 ·rename_i m t0 n b c a bd ty;obtain rfl:=Option.some.inj hR;cases hc:(fzB t0 n c&&Nat.beq ty 231&&!bd&&txC (c.map byteOf) a m)with
  |false=>rw[hc]at hev; cases hev
  |true=>
   rw[hc]at hev;simp only[Bool.and_eq_true]at hc;obtain⟨⟨⟨hf,hty⟩,hbd⟩,hn⟩:=hc;obtain rfl:=Nat.eq_of_beq_eq_true hty;obtain rfl:bd=false:=by cases bd with | false=>rfl | true=>cases hbd
   obtain⟨rfl,rfl,⟨l,rfl,hl⟩,h4⟩:=Af hf;rw[<-hl]at hev hn;rw[ax]at h4 hev ⊢;have hn':=of_decide_eq_true hn;obtain⟨a0,m0,a',t,rfl,rfl,hq,ha,hm⟩:=hn';obtain⟨_,e2,e3⟩:=I4 hq ha hm;simp only[DT.eval,Option.some.injEq,Prod.mk.injEq,e2,e3]at hev;obtain⟨rfl,rfl⟩:=hev;exact aaf hq ha h4 hm
 ·cases hR⟩
end Go.VS.Tryz
end
