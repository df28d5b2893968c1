/- The law 'ReconcileLeft': whatever its arguments, the call returns true. Conditions: none. -/
import Derived.Test.YtepmajonlgbdlaaGreatReconcileLeftQ2
import Derived.Test.YtepmajonlgbdlaaGreatReconcileLeftQ3
import Derived.Test.YtepmajonlgbdlaaGreatReconcileLeftQ4
import Derived.Test.YtepmajonlgbdlaaGreatReconcileLeftQ5
import Derived.ChangeSlices
import Derived.Deep.Slices
import Derived.ChangeArms
import Derived.Test.YtepmajonlgbdlaaGreatRows
import Derived.Test.YtepmajonlgbdlaaGreatRlF2
set_option linter.unusedSimpArgs false
set_option linter.unusedVariables false
noncomputable section
namespace Go.VS.Tryz
open Go.VS
set_option maxRecDepth 1000000
theorem Di(l:List UInt8):(txt l).size=l.length:=by rw[size_eq]; rfl
theorem aaY(l:List UInt8)(k:Nat):vk (txt l) 0 (k:Int)=txt (l.take k):=by
 have h:=GR (txt l) 0 k;have e:(txt l).data.toList=l:=rfl;rw[e,List.drop_zero,Nat.sub_zero]at h;have h0:vk (txt l) 0 (k:Int)=txt (lst (vk (txt l) 0 (k:Int))):=rfl;rw[h0];exact congrArg txt h
theorem aa6(a b:List UInt8):Je (txt a) (txt b)=txt (a++b):=by
 unfold Je;have h0:txt a++txt b=txt (lst (txt a++txt b)):=rfl;rw[h0];unfold lst;rw[ByteArray.data_append,Array.toList_append]
 rfl
theorem ac8{l last:List UInt8}{a a':Nat}{o:OpM}(h:opR l a false last=(o,a',false))(ha:a<=l.length):a'<=l.length:=by
 obtain⟨p,a1,k,a2,t,a3,n1,n2,t3,hsh,hcase⟩:=SI h;have h1:=(pG n1).2.2.2.2 ha;have h2:=(pG n2).2.2.2.2 h1;obtain⟨x,b1,m1,m2,m3,m4⟩:=xx t3;rcases hcase with⟨_,v,t4,_⟩ | ⟨_,rfl,_⟩
 ·obtain⟨y,c1,k1,k2,k3,k4⟩:=xx t4;omega
 ·omega
theorem aae{l t:List UInt8}{a m a':Nat}(h:lT l a false m=(t,a',false)):a'<=l.length/\t.length<=l.length:=by
 obtain⟨x,b1,m1,m2,m3,m4⟩:=xx h;refine⟨by omega,?_⟩;rw[m3,List.length_take,List.length_drop];omega
theorem acJ{l last:List UInt8}{a a' b:Nat}{o:OpM}(h:opR l a false last=(o,a',false))(ha:a<=l.length)(hl:l.length+64<=4194304)(hla:last.length<=16) :
  CRX P 1 177 [p0, .string (txt last)] (rdB l b a false) (opV o) (rdB l b (a':Int) false):=by
 obtain⟨p,a1,k,a2,t,a3,n1,n2,t3,hsh,hcase⟩:=SI h;have h1:=(pG n1).2.2.2.2 ha;obtain⟨_,_,_,hk,h2⟩:=pG n2;have h2:=h2 h1;obtain⟨h3,htl⟩:=aae t3;obtain⟨c1,c2,c3⟩:=DU n1 ha (by decide);obtain⟨d1,d2,d3⟩:=DU n2 h1 (by omega);obtain⟨e1,e2,e3⟩:=I4 t3 h2 (by decide);have z1:((1:Nat):Int)=1:=rfl;have z16:((16:Nat):Int)=16:=rfl;have z32:((32:Nat):Int)=32:=rfl;rw[z1]at c1;rw[z16]at e1;have hsz:=Di last;have d1':nuC l (a1:Int) (ak last.length)=true:=d1;have g1:eF 0 (k:Int) last.length=true:=o6 hk;have hkey:Je (txt (last.take k)) (txt t)=txt (opK last k t):=aa6 _ _;have hfit:PR (txt (last.take k)) (txt t)=true:=by
  unfold PR;rw[Di,Di];exact Nat.ble_eq_true_of_le (by show(last.take k).length+t.length<=_; rw[List.length_take]; omega)
 have hK:shK (txt last) (txt (opK last k t))=true:=by
  unfold shK;have:=(Fj (txt last) (txt (opK last k t))).1;exact decide_eq_true (by omega)
 have hS:shS (txt last) (txt (opK last k t))=(k:Int):=by
  unfold shS;rw[xO,O9,O9,hsh]
 have hne:neI (k:Int) (k:Int)=false:=by unfold neI; simp
 have z:Nat.beq 231 231=true:=rfl;have z2:(!false)=true:=rfl;have cu:=aaY last k;refine CRX.of (pol:=au) (fl:=[]) (ts:=[]) (n:=50) (bf _) aA (ah (pol:=fJ) (ah (pol:=au) (ah (pol:=au) aW Yv) adC) Vh) ((aao nuC nuX nuA txC txT txA shK shS l b a (txt last)).trans ?_);rcases hcase with⟨rfl,v,t4,rfl⟩ | ⟨hp,rfl,rfl⟩
 ·obtain⟨f1,f2,f3⟩:=I4 t4 h3 (by decide);rw[z32]at f1;have hp1:eqI ((1:Nat):Int) 1=true:=rfl;simp (disch:=first | omega | (simp only[List.length_append,List.length_drop,List.length_take,List.length_singleton,Nat.add_eq,bJ]<;>omega) | fail) only[fb_,c1,c2,c3,d1',d2,d3,e1,e2,e3,f1,f2,f3,hsz,g1,cu,hkey,hfit,hK,hS,hne,z,z2,hp1,rdB,opV,cZ,rnB,srB,tbB,dkL,List.cons_append,List.nil_append,List.append_assoc,dN,aT,dP,lsV,ptV,p0,aN,dkC,bn,fzCms,cmV,di,bG,az,dG,dn,dR,dE,dF,dD,dw,dC,dB,dQ,dA,aB,aK,aP,Enc.all_ren,aQ,bH,bz,bu,bg,ax,aX,bD,Int.toNat_natCast,aY,aO,bF,bU,dH,bP,bW,dK,Bool.and_self,aG,aF,ay]
 ·have hp1:eqI (p:Int) 1=false:=by unfold eqI; exact decide_eq_false (by omega)
  simp (disch:=first | omega | (simp only[List.length_append,List.length_drop,List.length_take,List.length_singleton,Nat.add_eq,bJ]<;>omega) | fail) only[fb_,c1,c2,c3,d1',d2,d3,e1,e2,e3,hsz,g1,cu,hkey,hfit,hK,hS,hne,z,z2,hp1,rdB,opV,cZ,rnB,srB,tbB,dkL,List.cons_append,List.nil_append,List.append_assoc,dN,aT,dP,lsV,ptV,p0,aN,dkC,bn,fzCms,cmV,di,bG,az,dG,dn,dR,dE,dF,dD,dw,dC,dB,dQ,dA,aB,aK,aP,Enc.all_ren,aQ,bH,bz,bu,bg,ax,aX,bD,Int.toNat_natCast,aY,aO,bF,bU,dH,bP,bW,dK,Bool.and_self,aG,aF,ay]
  rfl
theorem adx(l:List OpM)(o:OpM):List.append (EOp.all l) [.bool o.p, .string o.k, .string o.v]=EOp.all (l++[o]):=by rw[EOp.all_append]; rfl
theorem PG(l:List OpM):(EOp.all l).length=Nat.mul l.length 3:=EOp.all_length l
theorem W9{l:List UInt8}{b a a2:Nat}{o:List OpM}{x:OpM}{s:ByteArray}{k:Nat}(ho:o.length<=1000)(hk:k<=1000) :
  bV P E (aC P au 1 177 (bI (aV [p0, .string s] (rdB l b a false)) (.leaf (opV x,rdB l b (a2:Int) false))) ctF) 50 153 Bbr Dbr (brV o s ((k+1:Nat):Int)) (brB l b a o)=some (.tuple ⟨exV .normal::brV (o++[x]) x.k (k:Int)⟩,ag (brB l b a2 (o++[x]))):=by
 have g1:gtI ((k+1:Nat):Int) 0=true:=by unfold gtI; exact decide_eq_true (by omega)
 have h1:Nat.add o.length 1=(o++[x]).length:=by simp
 have hl1:(o++[x]).length<=1001:=by rw[List.length_append]; show o.length+1<=_; omega
 have s1:eU .i64 ((k+1:Nat):Int) 1=(k:Int):=by unfold eU; rw[wrap64 (by omega) (by omega)]; omega
 rw[UR];simp (disch:=first | omega | (simp only[List.length_append,List.length_drop,List.length_take,List.length_singleton,Nat.add_eq,bJ]<;>omega) | fail) only[fb_,lb_,nb_,pt_,sl_,g1,h1,s1,PG,adx,EC rfl,brV,brB,rdB,cZ,rnB,srB,tbB,dkL,List.cons_append,List.nil_append,List.append_assoc,dN,aT,dP,lsV,ptV,p0,aN,dkC,bn,fzCms,cmV,di,bG,az,dG,dn,dR,dE,dF,dD,dw,dC,dB,dQ,dA,aB,aK,aP,Enc.all_ren,aQ,bH,bz,bu,bg,ax,aX,bD,Int.toNat_natCast,aY,aO,bF,bU,dH,bP,bW,dK,Bool.and_self,aG,aF,ay]
 rfl
theorem acb{C:List Value->List Blk->Bool}{l:List UInt8}{b a:Nat}{o:List OpM}{x:OpM}{s:ByteArray}{a2:Int} :
  bV P E (aC P au 1 177 (bI C (.leaf (opV x,rdB l b a2 false))) ctF) 50 153 Bbr Dbr (brV o s 0) (brB l b a o)=some (.tuple ⟨exV (.exit 0)::brV o s 0⟩,ag (brB l b a o)):=by
 have g1:gtI 0 0=false:=rfl;rw[UR];simp (disch:=first | omega | (simp only[List.length_append,List.length_drop,List.length_take,List.length_singleton,Nat.add_eq,bJ]<;>omega) | fail) only[fb_,lb_,nb_,pt_,sl_,g1,PG,EC rfl,brV,brB,rdB,cZ,rnB,srB,tbB,dkL,List.cons_append,List.nil_append,List.append_assoc,dN,aT,dP,lsV,ptV,p0,aN,dkC,bn,fzCms,cmV,di,bG,az,dG,dn,dR,dE,dF,dD,dw,dC,dB,dQ,dA,aB,aK,aP,Enc.all_ren,aQ,bH,bz,bu,bg,ax,aX,bD,Int.toNat_natCast,aY,aO,bF,bU,dH,bP,bW,dK,Bool.and_self,aG,aF,ay]
 rfl
theorem H8{b:List UInt8}{k a:Nat}{last:List UInt8}:(oK b k a true last).2.2=true:=by cases k<;>rfl
theorem Oc{l:List UInt8}{b:Nat}(hl:l.length+64<=4194304):∀ (k a a':Nat) (s:ByteArray) (o ops:List OpM),oK l k a false (lst s)=(ops,a',false)->a<=l.length->s.size<=16->(∀ x∈ops,x.k.size<=16)->o.length+k<=1000->
  a'<=l.length/\∃ s',LRX P 153 0 Bbr Dbr.head (brV o s (k:Int)) (brB l b a o) .normal (brV (o++ops) s' 0) (brB l b a' (o++ops))
 |0,a,a',s,o,ops,h,ha,hs,hx,ho=>by
  simp only[oK,Prod.mk.injEq,and_true]at h;obtain⟨rfl,rfl⟩:=h;rw[List.append_nil];exact⟨ha,s,LRX.stop (n:=50) (bf _) aA (ah (pol:=au) aW (gm (r:= .leaf (opV ⟨false,s,s⟩,rdB l b 0 false)))) Py (e:= .exit 0) (acb (C:=fun _ _=>false)) (by intro h; cases h)⟩
 |k+1,a,a',s,o,ops,h,ha,hs,hx,ho=>by
  unfold oK at h;simp only at h;rcases hq:opR l a false (lst s)with⟨x,a1,bad⟩
  rw[hq]at h;simp only[Prod.mk.injEq]at h;obtain⟨h1,h2⟩:=h;cases bad with
  |true=>
   have:=H8 (b:=l) (k:=k) (a:=a1) (last:=lst x.k);rw[h2]at this;cases this
  |false=>
   have q:=acJ (b:=b) hq ha hl (by rw[bJ]; exact hs);rw[xH]at q;subst h1;have hh:oK l k a1 false (lst x.k)=((oK l k a1 false (lst x.k)).1,a',false):=by rw[<-h2]
   obtain⟨h3,s',ih⟩:=Oc (b:=b) hl k a1 a' x.k (o++[x]) _ hh (ac8 hq ha) (hx x (List.mem_cons_self ..)) (fun y hy=>hx y (List.mem_cons_of_mem _ hy)) (by rw[List.length_append]; show o.length+1+k<=_; omega);rw[List.append_assoc]at ih;exact⟨h3,s',LRX.again (n:=50) (bf _) aA (ah (pol:=au) aW (aZ q)) Py (W9 (by omega) (by omega)) ih⟩
theorem XF(l:List OpM):gX (EOp.all l)=true:=by
 induction l with
 |nil=>rfl
 |cons o l ih=>rw[EOp.all_cons]; show(_&&(_&&(_&&gX (EOp.all l))))=true; rw[ih]; rfl
theorem aam{l:List UInt8}{ops:List OpM}{n b:Nat}(h:readB l=some (ops,n))(hl:l.length+64<=4194304):n<=l.length/\CRX P 0 153 [aJ 1 l.length b (bc l)] [] (.tuple ⟨[bn ops, .int .i64 (n:Int), .int .i64 0]⟩) []:=by
 unfold readB at h;simp only at h;rcases hq:kL l 0 false 8 with⟨k,a1,bad⟩
 rw[hq]at h;simp only at h;rcases hr:oK l k a1 bad []with⟨o,a',bad'⟩
 rw[hr]at h;simp only at h;cases hb:(bad' || mZ o != 0)with
 |true=>rw[hb]at h; cases h
 |false=>
  rw[hb]at h;simp only[fa_,fb_,pt_,sl_,Option.some.injEq,Prod.mk.injEq]at h;obtain⟨rfl,rfl⟩:=h;rw[Bool.or_eq_false_iff]at hb;obtain⟨rfl,hb⟩:=hb;have hb:mZ o=0:=by simpa using hb
  cases bad with
  |true=>
   have:=H8 (b:=l) (k:=k) (a:=a1) (last:=[]);rw[hr]at this;cases this
  |false=>
   obtain⟨_,_,_,hk,ha⟩:=pG hq;have ha:=ha (Nat.zero_le _);obtain⟨b1,b2,b3⟩:=gq.1 hb;have hn:=NT (b:=b) hq (Nat.zero_le _) hl (by decide);have hr':oK l k a1 false (lst ⟨#[]⟩)=(o,a',false):=hr;obtain⟨hle,s',q2⟩:=Oc (b:=b) hl k a1 a' ⟨#[]⟩ [] o hr' ha (by decide) (fun x hx=>(xu (List.all_eq_true.1 b3 x hx)).2.1) (by show 0+k<=_; omega);rw[List.nil_append]at q2;have q3:=Nc (l:=o) (by omega);rw[yX,hb]at q3;refine⟨hle,?_⟩;refine CRX.of (pol:=au) (fl:=[.val, .val, .val]) (ts:=[33,0,0]) (n:=50) (bf _) aA (ah (pol:=au) (eu (iG aW (CallOkR.ofK0 (aZ q3))) (fU (d_ Vj) q2)) (aZ hn)) ((aa8 (aV [p0, .int .i64 ((8:Nat):Int)] (rdB l b ((0:Nat):Int) false)) (aV (brV [] ⟨#[]⟩ (k:Int)) (brB l b a1 [])) (aV [bn o] []) l b a1 a' k o s').trans ?_);clear q2 q3 hn;have z8:((8:Nat):Int)=8:=rfl;have z0:((0:Nat):Int)=0:=rfl;have n1:([]:List OpM).length=0:=rfl;have n2:EOp.all ([]:List OpM)=[]:=rfl;have b13:Nat.ble 1 3=true:=rfl;simp (disch:=first | omega | (simp only[List.length_append,List.length_drop,List.length_take,List.length_singleton,Nat.add_eq,bJ]<;>omega) | fail) only[fa_,fb_,pt_,sl_,z8,z0,n1,n2,b13,PG,XF,EC rfl,Yq rfl,brV,brB,rdB,cZ,rnB,srB,tbB,dkL,List.cons_append,List.nil_append,List.append_assoc,dN,aT,dP,lsV,ptV,p0,aN,dkC,bn,fzCms,cmV,di,bG,az,dG,dn,dR,dE,dF,dD,dw,dC,dB,dQ,dA,aB,aK,aP,Enc.all_ren,aQ,bH,bz,bu,bg,ax,aX,bD,Int.toNat_natCast,aY,aO,bF,bU,dH,bP,bW,dK,Bool.and_self,aG,aF,ay]
theorem aa2{l:List UInt8}{c:CmM}{b:Nat}(h:xP l=some c)(hl:l.length+64<=4194304):CRX P 0 109 [aJ 1 l.length b (bc l)] [] (.tuple ⟨[cmV c, .int .i64 0]⟩) []:=by
 unfold xP at h;cases s1:gz l 1048576 with
 |false=>rw[s1]at h; cases h
 |true=>
  rw[s1]at h;simp only at h;have hc1:=pz l;generalize hN1:(dM l).2.1=n1 at h hc1;cases s2:gz (l.drop n1) 1048576 with
  |false=>rw[s2]at h; cases h
  |true=>
   rw[s2]at h;simp only at h;have hc2:=pz (l.drop n1);rw[List.length_drop]at hc2;generalize hN2:(dM (l.drop n1)).2.1=n2 at h hc2;cases s3:readB (l.drop (n1+n2))with
   |none=>rw[s3]at h; cases h
   |some r=>
    obtain⟨ops,k⟩:=r;rw[s3]at h;simp only at h;cases s4:(decide (n1+n2+k=l.length)&&eqI (cmE ⟨(dM l).1,(dM (l.drop n1)).1,ops⟩) 0)with
    |false=>rw[s4]at h; cases h
    |true=>
     rw[s4]at h;simp only[fa_,fb_,Option.some.injEq]at h;rw[Bool.and_eq_true]at s4;obtain⟨s4,s5⟩:=s4;have s4:=of_decide_eq_true s4;have s5:cmE ⟨(dM l).1,(dM (l.drop n1)).1,ops⟩=0:=by simpa [eqI]using s5
     rw[h]at s5;obtain⟨_,_,hb⟩:=jf.1 s5;obtain⟨b1,b2,b3⟩:=gq.1 hb;have q2:=AU (c:=c) (by omega);rw[s5]at q2;have hdl:(l.drop (n1+n2)).length=l.length-(n1+n2):=List.length_drop;obtain⟨_,q1⟩:=aam (b:=oz b (n1+n2)) s3 (by omega);have e1:smX l=c.e:=by unfold smX; rw[<-h]
     have e2:smX (l.drop n1)=c.n:=by unfold smX; rw[<-h]
     have e3:ops=c.ops:=by rw[<-h]
     subst e3;have f1:smN l=(n1:Int):=by unfold smN; rw[hN1]
     have f2:smN (l.drop n1)=(n2:Int):=by unfold smN; rw[hN2]
     have c1:smC l 1048576=true:=by unfold smC; rw[s1]; rfl
     have c2:smC (l.drop n1) 1048576=true:=by unfold smC; rw[s2]; rfl
     have a1:dI .i64 (n1:Int) (n2:Int)=((n1+n2:Nat):Int):=by unfold dI; rw[wrap64 (by omega) (by omega)]; omega
     have a2:dI .i64 ((n1+n2:Nat):Int) (k:Int)=(l.length:Int):=by unfold dI; rw[wrap64 (by omega) (by omega)]; omega
     have t1:((n1+n2:Nat):Int).toNat=n1+n2:=by omega
     have g1:=zq (a:=n1) (n:=l.length) (by omega);have g2:=zq (a:=n1+n2) (n:=l.length) (by omega);have i0:neI (l.length:Int) (ak l.length)=false:=by unfold neI ak; simp
     refine CRX.ofF (pol:=au) (fl:=[.val, .val, .val, .val]) (ts:=[0,0,33,0]) (n:=50) (kb:=[]) (bf _) aA (ah (pol:=au) (ah (pol:=au) Bd (aZ q2)) (aZ q1)) ((aa3 smC smX smN (aV [aJ 1 (l.drop (n1+n2)).length (oz b (n1+n2)) (bc (l.drop (n1+n2)))] []) (aV [cmV c] []) c.ops k l b).trans ?_);clear q1 q2;simp (disch:=first | omega | (simp only[List.length_append,List.length_drop,List.length_take,List.length_singleton,Nat.add_eq,bJ]<;>omega) | fail) only[fa_,fb_,e1,e2,f1,f2,c1,c2,a1,a2,t1,g1,g2,i0,Gq,EY,yw,cZ,rnB,srB,tbB,dkL,List.cons_append,List.nil_append,List.append_assoc,dN,aT,dP,lsV,ptV,p0,aN,dkC,bn,fzCms,cmV,di,bG,az,dG,dn,dR,dE,dF,dD,dw,dC,dB,dQ,dA,aB,aK,aP,Enc.all_ren,aQ,bH,bz,bu,bg,ax,aX,bD,Int.toNat_natCast,aY,aO,bF,bU,dH,bP,bW,dK,Bool.and_self,aG,aF,ay]
def KX:HeadX:=⟨0,26,[0,1,4,5],[.val, .val, .val, .val],[33,33,0,0],au⟩
def Gl:Code:=(dZ P 82 0).getD .skip
theorem OG:dZ P 82 0=some Gl:=by kernel_rfl
theorem V9:Occ P 82 (.block 0 (.loop Gl)):=fM OG
def k1V(l:List OpM)(i:Int):List Value:=[bn l,bn l, .bool false, .int .i64 i]
theorem TV(l:List OpM)(i:Int):bV P E ctF 50 82 Gl KX (k1V l i) [] =
 (let z0:=l.length;let y0:=Bool.and (Nat.beq 3 3) (inI i z0);let x0:=atN i 3;let w0:=Enc.all EOp l;let v0:=Bool.and (Nat.ble (Nat.add x0 3) w0.length) (jw [.bool, .string, .string] w0 x0);let u0:=asB (bT w0 x0);let t0:=Nat.add x0 1;let s0:=asS (bT w0 t0);let r0:=asS (bT w0 (Nat.add t0 1));
 let q0:=fa_ z0 0 w0;let p0:=Value.bool false;let o0:=Value.int .i64 i;let n0:=ag [];
 (aj (ltI i (ak z0)) (ae y0 (ae v0 (ae y0 (ae v0 (aj (f_ (Bool.and (eqB u0 u0) (Bool.and (eqS s0 s0) (Bool.and (eqS r0 r0) true)))) (some (.tuple ⟨[.int .i64 (-1),q0,q0,p0,o0]⟩,n0)) (some (.tuple ⟨[.int .i64 0,q0,q0,p0, .int .i64 (dI .i64 i 1)]⟩,n0))))))) (some (.tuple ⟨[.int .i64 1,q0,q0,p0,o0]⟩,n0)))):=by kernel_rfl
theorem aa0(C:List Value->List Blk->Bool)(l:List OpM):bM P E (fP P 82 0 KX (jd C (.leaf (.normal,k1V l (ak l.length),[]))) ctF) 50 au [] [] 0 82 [bn l,bn l] [] =
 (let z0:=ak l.length;let y0:=Value.bool false;let x0:=fa_ l.length 0 (Enc.all EOp l);
 (aj (neI z0 z0) (some (y0,ag [])) (ae (C [x0,x0,y0, .int .i64 0] []) (some (.bool true,ag []))))):=by kernel_rfl
theorem ac1(C:List Value->List Blk->Bool)(c:CmM):bM P E (aC P au 0 82 (bI C (.leaf (.bool true,[]))) ctF) 50 au [] [] 0 86 [cmV c,cmV c] [] =
 (let z0:=fa_ c.ops.length 0 (Enc.all EOp c.ops);let y0:=some (Value.bool false,ag []);
 (aj (eqI c.e c.e) (aj (eqI c.n c.n) (ae (C [z0,z0] []) (some (.bool true,ag []))) y0) y0)):=by kernel_rfl
def JW:HeadX:=⟨0,27,[0,1,4,5],[.val, .val, .val, .val],[22,22,0,0],au⟩
def Gt:Code:=(dZ P 41 0).getD .skip
theorem N_:dZ P 41 0=some Gt:=by kernel_rfl
theorem KO:Occ P 41 (.block 0 (.loop Gt)):=fM N_
def k3V(l:List CmM)(i:Int):List Value:=[fzCms l,fzCms l, .bool false, .int .i64 i]
theorem U_(C:List Value->List Blk->Bool)(l:List CmM)(i:Int):bV P E (aC P au 0 86 (bI C (.leaf (.bool true,[]))) ctF) 50 41 Gt JW (k3V l i) [] =
 (let z0:=l.length;let y0:=Bool.and (Nat.beq 3 3) (inI i z0);let x0:=atN i 3;let w0:=Enc.all ECm l;let v0:=Eta.int .i64;let u0:=Bool.and (Nat.ble (Nat.add x0 3) w0.length) (jw [v0,v0, .slice 3] w0 x0);let t0:=Nat.add x0 1;let s0:=bT w0 (Nat.add t0 1);let r0:=Value.agg ⟨[.int .i64 (asI (bT w0 x0)), .int .i64 (asI (bT w0 t0)),fa_ (zN s0) (zB s0) (zC s0)]⟩;
 let q0:=fa_ z0 0 w0;let p0:=Value.bool false;
 (aj (ltI i (ak z0)) (ae y0 (ae u0 (ae y0 (ae u0 (ae (C [r0,r0] []) (some (.tuple ⟨[.int .i64 0,q0,q0,p0, .int .i64 (dI .i64 i 1)]⟩,ag []))))))) (some (.tuple ⟨[.int .i64 1,q0,q0,p0, .int .i64 i]⟩,ag [])))):=by kernel_rfl
theorem Zx(C:List Value->List Blk->Bool)(l:List CmM):bM P E (fP P 41 0 JW (jd C (.leaf (.normal,k3V l (ak l.length),[]))) ctF) 50 au [] [] 0 41 [fzCms l,fzCms l] [] =
 (let z0:=ak l.length;let y0:=Value.bool false;let x0:=fa_ l.length 0 (Enc.all ECm l);
 (aj (neI z0 z0) (some (y0,ag [])) (ae (C [x0,x0,y0, .int .i64 0] []) (some (.bool true,ag []))))):=by kernel_rfl
theorem acA(C:List Value->List Blk->Bool)(x:SecM):bM P E (aC P au 0 41 (bI C (.leaf (.bool true,[]))) ctF) 50 au [] [] 0 24 [aJ 3 1 0 [.int .i64 x.e, .int .i64 x.f,fzCms x.cs],aJ 3 1 0 [.int .i64 x.e, .int .i64 x.f,fzCms x.cs]] [] =
 (let z0:=some (Value.bool false,ag []);let y0:=fa_ x.cs.length 0 (Enc.all ECm x.cs);let x0:=fa_ (zN y0) 0 (zC y0);
 (aj (neI x.e x.e) z0 (aj (neI x.f x.f) z0 (ae (C [x0,x0] []) (some (.bool true,ag [])))))):=by kernel_rfl
theorem Ny(x n:Int):bM P E ctF 50 au [] [] 0 10 [.int .i64 x, .int .i64 n] [] =
 (let z0:=zI x n;
 (ae (Bool.and (Decidable.decide (Eq IntKind.i64 IntKind.i64)) (wB n)) (aj (ltI z0 0) (some (.int .i64 (dI .i64 z0 n),ag [])) (some (.int .i64 z0,ag []))))):=by kernel_rfl
def Dk5:HeadX:=⟨0,20,[0,2,3],[.val, .val, .val],[22,0,0],au⟩
def Bk5:Code:=(dZ P 8 0).getD .skip
theorem Kz:dZ P 8 0=some Bk5:=by kernel_rfl
theorem Aw:Occ P 8 (.block 0 (.loop Bk5)):=fM Kz
def k5V(l:List CmM)(i:Int):List Value:=[fzCms l, .bool false, .int .i64 i]
theorem TN(l:List CmM)(i:Int):bV P E ctF 50 8 Bk5 Dk5 (k5V l i) [] =
 (let z0:=l.length;let y0:=Nat.add (atN i 3) 2;let x0:=Enc.all ECm l;let w0:=bT x0 y0;let v0:=fa_ z0 0 x0;let u0:=Value.bool false;let t0:=Value.int .i64 i;let s0:=ag [];
 (aj (ltI i (ak z0)) (ae (Bool.and (Nat.beq 3 3) (inI i z0)) (ae (Bool.and (Nat.ble (Nat.add y0 1) x0.length) (ig (.slice 3) w0)) (aj (gtI (ak (zN w0)) 30) (some (.tuple ⟨[.int .i64 (-1),v0,u0,t0]⟩,s0)) (some (.tuple ⟨[.int .i64 0,v0,u0, .int .i64 (dI .i64 i 1)]⟩,s0))))) (some (.tuple ⟨[.int .i64 1,v0,u0,t0]⟩,s0)))):=by kernel_rfl
theorem abh(C:List Value->List Blk->Bool)(l:List CmM):bM P E (fP P 8 0 Dk5 (jd C (.leaf (.normal,k5V l (ak l.length),[]))) ctF) 50 au [] [] 0 8 [fzCms l] [] =
 (ae (C [fa_ l.length 0 (Enc.all ECm l), .bool false, .int .i64 0] []) (some (.bool (leI (ak l.length) 30),ag []))):=by kernel_rfl
theorem ZL(C:List Value->List Blk->Bool)(l:List CmM)(i:Int):bM P E (fP P 8 0 Dk5 (jd C (.leaf (.ret,k5V l i,[]))) ctF) 50 au [] [] 0 8 [fzCms l] [] =
 (let z0:=Value.bool false;
 (ae (C [fa_ l.length 0 (Enc.all ECm l),z0, .int .i64 0] []) (some (z0,ag [])))):=by kernel_rfl
theorem Xd{l:List OpM}{i:Nat}(hi:i<l.length)(hl:l.length<4194304):bV P E ctF 50 82 Gl KX (k1V l i) []=some (.tuple ⟨exV .normal::k1V l ((i+1:Nat):Int)⟩,ag []):=by
 obtain⟨g1,g2,a1⟩:=nU hi hl;have g4:=wV hi;have n3:(EOp.all l).length=Nat.mul l.length 3:=EOp.all_length l;have ab:∀ b,asB (.bool b)=b:=fun _=>rfl;have aS:∀ b,asS (.string b)=b:=fun _=>rfl;have e1:∀ b:Bool,eqB b b=true:=fun b=>by cases b<;>rfl
 have e2:∀ s:ByteArray,eqS s s=true:=fun s=>by unfold eqS; simp
 rw[TV];simp only[fa_,g1,g2,a1,g4,n3,lw hi (Nat.le_refl 3),FU hi,Fv hi,F_ hi,ab,aS,e1,e2,iI,show Nat.beq 3 3=true from rfl,k1V,bn,bG,aQ,bH,bz,bu,bg,ax,aX,bD,Int.toNat_natCast,aY,aO,bF,bU,dH,bP,bW,dK,Bool.and_self,aG,aF,ay]
 rfl
theorem abA{l:List OpM}:bV P E ctF 50 82 Gl KX (k1V l l.length) []=some (.tuple ⟨exV (.exit 0)::k1V l l.length⟩,ag []):=by
 rw[TV];simp only[fa_,lZ,k1V,bn,bG,aQ,bH,bz,bu,bg,ax,aX,bD,Int.toNat_natCast,aY,aO,bF,bU,dH,bP,bW,dK,Bool.and_self,aG,aF,ay]
 rfl
theorem ab4{l:List OpM}(hl:l.length<4194304):CRX P 0 82 [bn l,bn l] [] (.bool true) []:=by
 have q:LRX P 82 0 Gl KX.head (k1V l (0:Nat)) [] .normal (k1V l l.length) []:=LRX.rounds (n:=50) (bf ctF) aA aW V9 (vs:=fun i=>k1V l i) (bs:=fun i=>[]) (e:= .exit 0) l.length (fun i hi=>Xd hi hl) abA (by intro h; cases h);refine CRX.of (pol:=au) (fl:=[]) (ts:=[]) (n:=50) (bf _) aA (eu aW (fU (d_ OG) q)) ((aa0 (aV (k1V l (0:Nat)) []) l).trans ?_);have z0:((0:Nat):Int)=0:=rfl;have e:neI (ak l.length) (ak l.length)=false:=by unfold neI; simp
 simp only[fa_,z0,e,k1V,bn,bG,az,ay,aF]
theorem ac9{c:CmM}(hl:c.ops.length<4194304):CRX P 0 86 [cmV c,cmV c] [] (.bool true) []:=by
 refine CRX.of (pol:=au) (fl:=[]) (ts:=[]) (n:=50) (bf _) aA (ah (pol:=au) aW (aZ (ab4 hl))) ((ac1 (aV [bn c.ops,bn c.ops] []) c).trans ?_);have e:∀ x:Int,eqI x x=true:=fun x=>by unfold eqI; simp
 simp only[fa_,e,bn,bG,az,ay,aG]
theorem Xn{l:List CmM}{i:Nat}(hi:i<l.length)(hl:l.length<4194304):bV P E (aC P au 0 86 (bI (aV [cmV l[i],cmV l[i]] []) (.leaf (.bool true,[]))) ctF) 50 41 Gt JW (k3V l i) []=some (.tuple ⟨exV .normal::k3V l ((i+1:Nat):Int)⟩,ag []):=by
 obtain⟨g1,g2,a1⟩:=nU hi hl;have g4:=ni hi;rw[U_];simp (disch:=first | omega | (simp only[List.length_append,List.length_drop,List.length_take,List.length_singleton,Nat.add_eq,bJ]<;>omega) | fail) only[fa_,g1,g2,a1,g4,lw hi (Nat.le_refl 3),k_ hi,vP hi,uh hi,iI,(zF _ _ _).1,(zF _ _ _).2.1,(zF _ _ _).2.2,show Nat.beq 3 3=true from rfl,k3V,cZ,rnB,srB,tbB,dkL,List.cons_append,List.nil_append,List.append_assoc,dN,aT,dP,lsV,ptV,p0,aN,dkC,bn,fzCms,cmV,di,bG,az,dG,dn,dR,dE,dF,dD,dw,dC,dB,dQ,dA,aB,aK,aP,Enc.all_ren,aQ,bH,bz,bu,bg,ax,aX,bD,Int.toNat_natCast,aY,aO,bF,bU,dH,bP,bW,dK,Bool.and_self,aG,aF,ay]
 rfl
theorem ab9{C:List Value->List Blk->Bool}{l:List CmM}:bV P E (aC P au 0 86 (bI C (.leaf (.bool true,[]))) ctF) 50 41 Gt JW (k3V l l.length) []=some (.tuple ⟨exV (.exit 0)::k3V l l.length⟩,ag []):=by
 rw[U_];simp only[fa_,lZ,k3V,fzCms,bG,aQ,bH,bz,bu,bg,ax,aX,bD,Int.toNat_natCast,aY,aO,bF,bU,dH,bP,bW,dK,Bool.and_self,aG,aF,ay]
 rfl
theorem Ot{l:List CmM}(hl:l.length<4194304)(ho:∀ c∈l,c.ops.length<4194304):∀ (j i:Nat),i+j=l.length->LRX P 41 0 Gt JW.head (k3V l i) [] .normal (k3V l l.length) []
 |0,i,h=>by
  obtain rfl:i=l.length:=by omega
  exact LRX.stop (n:=50) (bf _) aA (ah (pol:=au) aW (gm (r:= .leaf (.bool true,[])))) KO (e:= .exit 0) (ab9 (C:=fun _ _=>false)) (by intro h; cases h)
 |j+1,i,h=>by
  have hi:i<l.length:=by omega
  exact LRX.again (n:=50) (bf _) aA (ah (pol:=au) aW (aZ (ac9 (ho _ (List.getElem_mem hi))))) KO (Xn hi hl) (Ot hl ho j (i+1) (by omega))
theorem abw{l:List CmM}(hl:l.length<4194304)(ho:∀ c∈l,c.ops.length<4194304):CRX P 0 41 [fzCms l,fzCms l] [] (.bool true) []:=by
 have q:=Ot hl ho l.length 0 (by omega);refine CRX.of (pol:=au) (fl:=[]) (ts:=[]) (n:=50) (bf _) aA (eu aW (fU (d_ N_) q)) ((Zx (aV (k3V l (0:Nat)) []) l).trans ?_);have z0:((0:Nat):Int)=0:=rfl;have e:neI (ak l.length) (ak l.length)=false:=by unfold neI; simp
 simp only[fa_,z0,e,k3V,fzCms,bG,az,ay,aF]
def oI(x:SecM):Value:=aJ 3 1 0 [.int .i64 x.e, .int .i64 x.f,fzCms x.cs]
theorem ab2{x:SecM}(hl:x.cs.length<4194304)(ho:∀ c∈x.cs,c.ops.length<4194304):CRX P 0 24 [oI x,oI x] [] (.bool true) []:=by
 refine CRX.of (pol:=au) (fl:=[]) (ts:=[]) (n:=50) (bf _) aA (ah (pol:=au) aW (aZ (abw hl ho))) ((acA (aV [fzCms x.cs,fzCms x.cs] []) x).trans ?_);have e:∀ x:Int,neI x x=false:=fun x=>by unfold neI; simp
 simp only[fa_,e,(zF _ _ _).1,(zF _ _ _).2.2,fzCms,bG,az,ay,aF]
theorem Zq{x:Int}{n:Nat}(hn:n<4194304):∃ k:Nat,k<=n/\CRX P 0 10 [.int .i64 x, .int .i64 ((n:Int)+1)] [] (.int .i64 (k:Int)) []:=by
 have h0:wB ((n:Int)+1)=true:=by unfold wB; simp; omega
 have h1:(Bool.and (Decidable.decide (Eq IntKind.i64 IntKind.i64)) (wB ((n:Int)+1)))=true:=by rw[h0]; rfl
 have m1:Int.tmod x ((n:Int)+1)<(n:Int)+1:=Int.tmod_lt_of_pos x (by omega);have m2:-((n:Int)+1)<Int.tmod x ((n:Int)+1):=by
  have:=Int.neg_tmod x ((n:Int)+1);have h3:Int.tmod (-x) ((n:Int)+1)<(n:Int)+1:=Int.tmod_lt_of_pos (-x) (by omega);rw[Int.neg_tmod]at h3;omega
 have hr:zI x ((n:Int)+1)=Int.tmod x ((n:Int)+1):=by unfold zI; first | rfl | exact wrap64 (by omega) (by omega)
 by_cases hlt:Int.tmod x ((n:Int)+1)<0
 ·refine⟨(Int.tmod x ((n:Int)+1)+((n:Int)+1)).toNat,by omega,?_⟩;refine CRX.of (pol:=au) (fl:=[]) (ts:=[]) (n:=50) (bf _) aA aW ((Ny x ((n:Int)+1)).trans ?_);have e1:ltI (zI x ((n:Int)+1)) 0=true:=by rw[hr]; unfold ltI; exact decide_eq_true hlt
  have e2:dI .i64 (zI x ((n:Int)+1)) ((n:Int)+1)=((Int.tmod x ((n:Int)+1)+((n:Int)+1)).toNat:Int):=by rw[hr]; unfold dI; rw[wrap64 (by omega) (by omega)]; omega
  simp only[h0,e1,e2,decide_true,Bool.and_self,ay,aG]
 ·refine⟨(Int.tmod x ((n:Int)+1)).toNat,by omega,?_⟩;refine CRX.of (pol:=au) (fl:=[]) (ts:=[]) (n:=50) (bf _) aA aW ((Ny x ((n:Int)+1)).trans ?_);have e1:ltI (zI x ((n:Int)+1)) 0=false:=by rw[hr]; unfold ltI; exact decide_eq_false hlt
  have e2:zI x ((n:Int)+1)=((Int.tmod x ((n:Int)+1)).toNat:Int):=by rw[hr]; omega
  simp only[h0,e1,decide_true,Bool.and_self,ay,aF];rw[<-e2]
theorem Xp{l:List CmM}{i:Nat}(hi:i<l.length)(hl:l.length<=9223372036854775807):bV P E ctF 50 8 Bk5 Dk5 (k5V l i) []=match gtI (ak l[i].ops.length) 30 with
  |true=>some (.tuple ⟨exV .ret::k5V l i⟩,ag [])
  |false=>some (.tuple ⟨exV .normal::k5V l ((i+1:Nat):Int)⟩,ag []):=by
 have g1:ltI (i:Int) (ak l.length)=true:=by unfold ltI ak; exact decide_eq_true (by omega)
 have g2:inI (i:Int) l.length=true:=jF (by omega) (by omega);have a1:dI .i64 (i:Int) 1=((i+1:Nat):Int):=by unfold dI; rw[wrap64 (by omega) (by omega)]; omega
 have h2:bT (ECm.all l) (Nat.add (atN (i:Int) 3) 2)=aJ 3 l[i].ops.length 0 (EOp.all l[i].ops):=uh hi;have h3:∀ (n b:Nat) (c:List Value),ig (.slice 3) (aJ 3 n b c)=true:=fun n b c=>by unfold ig; exact Ju (by decide)
 have h4:∀ (n b:Nat) (c:List Value),zN (aJ 3 n b c)=n:=fun _ _ _=>Ew (by decide);have h5:Nat.ble (Nat.add (Nat.add (atN (i:Int) 3) 2) 1) (Nat.mul l.length 3)=true:=lw hi (Nat.le_refl 3);rw[TN];simp only[fa_,g1,g2,a1,h2,h3,h4,h5,dw,show Nat.beq 3 3=true from rfl,k5V,fzCms,aQ,bH,bz,bu,bg,ax,aX,bD,Int.toNat_natCast,aY,aO,bF,bU,dH,bP,bW,dK,Bool.and_self,aG,aF,ay];cases gtI (ak l[i].ops.length) 30<;>simp only[fa_,aG,aF,k5V,fzCms,bG]<;>rfl
theorem abE{l:List CmM}:bV P E ctF 50 8 Bk5 Dk5 (k5V l l.length) []=some (.tuple ⟨exV (.exit 0)::k5V l l.length⟩,ag []):=by
 rw[TN];simp only[fa_,lZ,k5V,fzCms,bG,aQ,bH,bz,bu,bg,ax,aX,bD,Int.toNat_natCast,aY,aO,bF,bU,dH,bP,bW,dK,Bool.and_self,aG,aF,ay]
 rfl
def lI(l:List CmM):Bool:=l.all (fun c=>decide (c.ops.length<=30))&&decide (l.length<=30)
theorem Pz{l:List CmM}(hl:l.length<=9223372036854775807):∀ (j i:Nat),i+j=l.length->∃ i':Int,match(l.drop i).all (fun c=>decide (c.ops.length<=30))with
  |true=>LRX P 8 0 Bk5 Dk5.head (k5V l i) [] .normal (k5V l l.length) []
  |false=>LRX P 8 0 Bk5 Dk5.head (k5V l i) [] .ret (k5V l i') []
 |0,i,h=>by
  obtain rfl:i=l.length:=by omega
  rw[List.drop_length];exact⟨0,LRX.stop (n:=50) (bf _) aA aW Aw (e:= .exit 0) abE (by intro h; cases h)⟩
 |j+1,i,h=>by
  have hi:i<l.length:=by omega
  have q:=Xp hi hl;rw[List.drop_eq_getElem_cons hi,List.all_cons];by_cases ho:l[i].ops.length<=30
  ·have e:gtI (ak l[i].ops.length) 30=false:=by unfold gtI ak; exact decide_eq_false (by omega)
   rw[e]at q;obtain⟨i',ih⟩:=Pz hl j (i+1) (by omega);refine⟨i',?_⟩;rw[decide_eq_true ho,Bool.true_and];cases hm:(l.drop (i+1)).all (fun c=>decide (c.ops.length<=30))with
   |true=>rw[hm]at ih; exact LRX.again (n:=50) (bf _) aA aW Aw q ih
   |false=>rw[hm]at ih; exact LRX.again (n:=50) (bf _) aA aW Aw q ih
  ·have e:gtI (ak l[i].ops.length) 30=true:=by unfold gtI ak; exact decide_eq_true (by omega)
   rw[e]at q;rw[decide_eq_false ho,Bool.false_and];exact⟨_,LRX.stop (n:=50) (bf _) aA aW Aw (e:= .ret) q (by intro h; cases h)⟩
theorem Ux{l:List CmM}(hl:l.length<=9223372036854775807):CRX P 0 8 [fzCms l] [] (.bool (lI l)) []:=by
 obtain⟨i',q⟩:=Pz hl l.length 0 (by omega);rw[List.drop_zero]at q;have z0:((0:Nat):Int)=0:=rfl;unfold lI;cases hm:l.all (fun c=>decide (c.ops.length<=30))with
 |true=>
  rw[hm]at q;refine CRX.of (pol:=au) (fl:=[]) (ts:=[]) (n:=50) (bf _) aA (eu aW (fU (d_ Kz) q)) ((abh (aV (k5V l (0:Nat)) []) l).trans ?_);have e:leI (ak l.length) 30=decide (l.length<=30):=by unfold leI ak; by_cases h:l.length<=30<;>simp[h]<;>omega
  simp only[fa_,z0,e,k5V,fzCms,bG,az,ay,Bool.true_and]
 |false=>
  rw[hm]at q;refine CRX.of (pol:=au) (fl:=[]) (ts:=[]) (n:=50) (bf _) aA (eu aW (fU (d_ Kz) q)) ((ZL (aV (k5V l (0:Nat)) []) l i').trans ?_);simp only[fa_,z0,k5V,fzCms,bG,az,ay,Bool.false_and]
def VA(C1 C2:List Value->List Blk->Bool)(x:SecM)(n:Int):jb:=fun args bs=>some (.ite (C2 args bs) (.leaf (.tuple ⟨[.agg ⟨[.int .i64 0, .int .i64 0,aJ 3 0 0 []]⟩, .int .i64 0, .bool false]⟩,[])) (.ite (C1 args bs) (.leaf (.tuple ⟨[jB x, .int .i64 n, .bool true]⟩,[])) .fail))
theorem Y_(C1 C2:List Value->List Blk->Bool)(l:List UInt8)(x:SecM)(n:Int):bM P E (aC P au 0 57 (VA C1 C2 x n) ctF) 4 au [.val, .val] [58,0] 0 21 [aJ 1 l.length 0 (bc l)] [] =
 (let z0:=Nat.beq 1 1;let y0:=l.length;let x0:=ak y0;let w0:=fZ 0 x0;let v0:=bc l;let u0:=[fb_ w0 0 (takeC (Nat.mul w0 1) (aU 0 v0))];let t0:=ag [];let s0:=some (Value.tuple ⟨[.iface 18446744073709551619 (.agg ⟨[.slice none 0 0]⟩), .int .i64 0]⟩,t0);let r0:=Value.int .i64 x.e;let q0:=bZ r0 r0;
 let p0:=dI .i64 0 n;let o0:=fZ p0 x0;let n0:=[fb_ o0 0 (takeC (Nat.mul o0 1) (aU (atN p0 1) v0))];let m0:=Value.int .i64 x.f;let l0:=fa_ x.cs.length 0 (Enc.all ECm x.cs);let k0:=some (Value.tuple ⟨[.iface 18446744073709551619 (.agg ⟨[.slice none 1 0,r0,m0,l0]⟩), .int .i64 p0]⟩,t0);let j0:=leI x.e x.e;
 let i0:=dI .i64 p0 n;let h0:=fZ i0 x0;let g0:=[fb_ h0 0 (takeC (Nat.mul h0 1) (aU (atN i0 1) v0))];let f0:=some (Value.tuple ⟨[.iface 18446744073709551619 (.agg ⟨[.slice none 2 0,r0,m0,l0,r0,m0,l0]⟩), .int .i64 i0]⟩,t0);let e0:=dI .i64 i0 n;let d0:=fZ e0 x0;let c0:=[fb_ d0 0 (takeC (Nat.mul d0 1) (aU (atN e0 1) v0))];
 let b0:=some (Value.tuple ⟨[.iface 18446744073709551619 (.agg ⟨[.slice none 3 0,r0,m0,l0,r0,m0,l0,r0,m0,l0]⟩), .int .i64 e0]⟩,t0);
 (ae (Bool.and z0 (eF 0 x0 y0)) (aj (C2 u0 []) s0 (ae (C1 u0 []) (aj (leI x.e 0) s0 (ae q0 (ae (Bool.and z0 (eF p0 x0 y0)) (aj (C2 n0 []) k0 (ae (C1 n0 []) (aj j0 k0 (ae q0 (ae (Bool.and z0 (eF i0 x0 y0)) (aj (C2 g0 []) f0 (ae (C1 g0 []) (aj j0 f0 (ae q0 (ae (Bool.and z0 (eF e0 x0 y0)) (aj (C2 c0 []) b0 (ae (C1 c0 []) (aj j0 b0 (ae q0 none))))))))))))))))))))):=by kernel_rfl
theorem ZZ{l:List UInt8}{e f m b:Nat}(h:hdR l=some (e,f,m))(hl:l.length+64<=4194304):CRX P 0 108 [aJ 1 l.length b (bc l)] [] (.tuple ⟨[.agg ⟨[.int .i64 (e:Int), .int .i64 (f:Int), .slice none 0 0]⟩, .int .i64 (m:Int), .bool true]⟩) []:=by
 unfold hdR at h;cases s1:gz l 1048576 with
 |false=>rw[s1]at h; cases h
 |true=>
  rw[s1]at h;simp only at h;have hc1:=pz l;generalize hN1:(dM l).2.1=n1 at h hc1;cases s2:gz (l.drop n1) 1048576 with
  |false=>rw[s2]at h; cases h
  |true=>
   rw[s2]at h;simp only at h;have hc2:=pz (l.drop n1);generalize hN2:(dM (l.drop n1)).2.1=n2 at h hc2;cases s3:gz ((l.drop n1).drop n2) 1048576 with
   |false=>rw[s3]at h; cases h
   |true=>
    rw[s3]at h;simp only at h;have hc3:=pz ((l.drop n1).drop n2);generalize hN3:(dM ((l.drop n1).drop n2)).2.1=n3 at h hc3;by_cases s4:((l.drop n1).drop n2).drop n3=[]
    ·rw[decide_eq_true s4]at h;simp only[fb_,Option.some.injEq,Prod.mk.injEq]at h;obtain⟨h1,h2,h3⟩:=h;have e1:smX l=(e:Int):=by unfold smX; rw[h1]
     have e2:smX (l.drop n1)=(f:Int):=by unfold smX; rw[h2]
     have e3:smX ((l.drop n1).drop n2)=(m:Int):=by unfold smX; rw[h3]
     have f1:smN l=(n1:Int):=by unfold smN; rw[hN1]
     have f2:smN (l.drop n1)=(n2:Int):=by unfold smN; rw[hN2]
     have f3:smN ((l.drop n1).drop n2)=(n3:Int):=by unfold smN; rw[hN3]
     have c1:smC l 1048576=true:=by unfold smC; rw[s1]; rfl
     have c2:smC (l.drop n1) 1048576=true:=by unfold smC; rw[s2]; rfl
     have c3:smC ((l.drop n1).drop n2) 1048576=true:=by unfold smC; rw[s3]; rfl
     have l1:(l.drop n1).length+64<=4194304:=by rw[List.length_drop]; omega
     have l2:((l.drop n1).drop n2).length+64<=4194304:=by rw[List.length_drop]; omega
     have g1:=zq hc1;have g2:=zq hc2;have g3:=zq hc3;have u1:=EY l n1;have v1:=Gq l n1;have u2:=EY (l.drop n1) n2;have u3:=EY ((l.drop n1).drop n2) n3;have v2:=Gq (l.drop n1) n2;have v3:=Gq ((l.drop n1).drop n2) n3;have u4:(((l.drop n1).drop n2).drop n3).length=0:=by rw[s4]; rfl
     have b0:∀ x:Int,bZ (.int .i64 x) (.int .i64 x)=true:=fun x=>by simp[bZ]
     have i0:eqI (ak 0) 0=true:=rfl;refine CRX.ofF (pol:=au) (fl:=[.val, .val, .val, .val, .val]) (ts:=[0,0,0,0,0]) (n:=50) (kb:=[]) (bf _) aA Bd ((aab smC smX smN l b).trans ?_);have z1:=dH (x:=l) (n:=l.length) rfl hl;have z2:=dH (x:=l.drop n1) (n:=(l.drop n1).length) rfl l1;have z3:=dH (x:=(l.drop n1).drop n2) (n:=((l.drop n1).drop n2).length) rfl l2;rw[u4]at u3 v3;rw[s4]at v3;generalize l.drop n1=k1 at *;generalize k1.drop n2=k2 at *;generalize k2.drop n3=k3 at *;simp only[fb_,e1,e2,e3,f1,f2,f3,c1,c2,c3,z1,z2,z3,g1,g2,g3,u1,v1,u2,u3,v2,v3,b0,i0,yw,bg,aY,dD,bG,Bool.and_self,ay]
    ·rw[decide_eq_false s4]at h;cases h
theorem Ja{l r:List UInt8}{n:Nat}(h:frR l=some (r,n)):n<=l.length:=by
 unfold frR at h;cases hs:gz l 131072&&decide ((dM l).2.1+(dM l).1<=l.length)with
 |false=>rw[hs]at h; cases h
 |true=>
  rw[hs]at h;simp only[Option.some.injEq,Prod.mk.injEq]at h;rw[Bool.and_eq_true]at hs;have:=of_decide_eq_true hs.2;omega
theorem Oe{l r:List UInt8}{n:Nat}(h:frR l=some (r,n)):r.length<=l.length:=by
 unfold frR at h;cases hs:gz l 131072&&decide ((dM l).2.1+(dM l).1<=l.length)with
 |false=>rw[hs]at h; cases h
 |true=>
  rw[hs]at h;simp only[Option.some.injEq,Prod.mk.injEq]at h;rw[<-h.1,List.length_take,List.length_drop];omega
theorem Ag(m:Int):gz [] m=false:=by
 unfold gz;have:(dM []).2.2≠0:=by decide
 simp[this]
theorem ZQ{r:List UInt8}{c:CmM}(h:xP r=some c):r≠[]:=by
 intro e;subst e;unfold xP at h;rw[Ag]at h;cases h
theorem acm{r:List UInt8}{x:Nat×Nat×Nat}(h:hdR r=some x):r≠[]:=by
 intro e;subst e;unfold hdR at h;rw[Ag]at h;cases h
theorem WC{l r:List UInt8}{n a m i b:Nat}{c:CmM}{x:SecM}(hr:frR (l.drop a)=some (r,n))(hi:i<m)(hm:m<4194304)(ha:a<=l.length)(hl:l.length+64<=4194304)(ho:x.cs.length<4194300) :
  bV P E (WZ (aV [aJ 1 (l.drop a).length (oz b a) (bc (l.drop a))] []) (aV [aJ 1 r.length 0 (bc r)] []) r n c) 50 57 Bsn Dsn (snV l b a m i) (loB x)=some (.tuple ⟨exV .normal::snV l b ((a+n:Nat):Int) m ((i+1:Nat):Int)⟩,ag (loB ⟨x.e,x.f,x.cs++[c]⟩)):=by
 have hn:=Ja hr;rw[List.length_drop]at hn;have g1:ltI (i:Int) (m:Int)=true:=by unfold ltI; exact decide_eq_true (by omega)
 have a1:dI .i64 (i:Int) 1=((i+1:Nat):Int):=by unfold dI; rw[wrap64 (by omega) (by omega)]; omega
 have a2:dI .i64 (a:Int) (n:Int)=((a+n:Nat):Int):=by unfold dI; rw[wrap64 (by omega) (by omega)]; omega
 have h1:Nat.add x.cs.length 1=(x.cs++[c]).length:=by simp
 have hl1:(x.cs++[c]).length=x.cs.length+1:=by simp
 have t1:(a:Int).toNat=a:=by omega
 rw[Uw];simp (disch:=first | omega | (simp only[List.length_append,List.length_drop,List.length_take,List.length_singleton,Nat.add_eq,bJ]<;>omega) | fail) only[fa_,fb_,lb_,nb_,pt_,sl_,g1,a1,a2,h1,t1,zq ha,Gq,EY,yw,wE,snV,loB,cZ,rnB,srB,tbB,dkL,List.cons_append,List.nil_append,List.append_assoc,dN,aT,dP,lsV,ptV,p0,aN,dkC,bn,fzCms,cmV,di,bG,az,dG,dn,dR,dE,dF,dD,dw,dC,dB,dQ,dA,aB,aK,aP,Enc.all_ren,aB rfl,aQ,bH,bz,bu,bg,ax,aX,bD,Int.toNat_natCast,aY,aO,bF,bU,dH,bP,bW,dK,Bool.and_self,aG,aF,ay]
 rfl
theorem acC{C1 C2:List Value->List Blk->Bool}{r l:List UInt8}{k:Int}{c:CmM}{x:SecM}{a m b:Nat} :
  bV P E (WZ C1 C2 r k c) 50 57 Bsn Dsn (snV l b a m m) (loB x)=some (.tuple ⟨exV (.exit 0)::snV l b a m m⟩,ag (loB x)):=by
 have g1:ltI (m:Int) (m:Int)=false:=by unfold ltI; exact decide_eq_false (by omega)
 rw[Uw];simp (disch:=first | omega | (simp only[List.length_append,List.length_drop,List.length_take,List.length_singleton,Nat.add_eq,bJ]<;>omega) | fail) only[fa_,fb_,lb_,nb_,pt_,sl_,g1,snV,loB,cZ,rnB,srB,tbB,dkL,List.cons_append,List.nil_append,List.append_assoc,dN,aT,dP,lsV,ptV,p0,aN,dkC,bn,fzCms,cmV,di,bG,az,dG,dn,dR,dE,dF,dD,dw,dC,dB,dQ,dA,aB,aK,aP,Enc.all_ren,aB rfl,aQ,bH,bz,bu,bg,ax,aX,bD,Int.toNat_natCast,aY,aO,bF,bU,dH,bP,bW,dK,Bool.and_self,aG,aF,ay]
 rfl
theorem Na{l:List UInt8}{b m:Nat}(hm:m<4000000)(hl:l.length+64<=4194304):∀ (k i a a':Nat) (x:SecM) (cs:List CmM),qZ l k a=some (cs,a')->i+k=m->a<=l.length->x.cs.length+k<4194000->
  LRX P 57 0 Bsn Dsn.head (snV l b a m i) (loB x) .normal (snV l b a' m m) (loB ⟨x.e,x.f,x.cs++cs⟩)
 |0,i,a,a',x,cs,h,hi,ha,hx=>by
  simp only[qZ,Option.some.injEq,Prod.mk.injEq]at h;obtain⟨rfl,rfl⟩:=h;obtain rfl:i=m:=by omega
  rw[List.append_nil];exact LRX.stop (n:=50) (bf _) aA (ah (pol:=au) (ah (pol:=au) aW (gm (r:= .leaf (.tuple ⟨[cmV ⟨0,0,[]⟩, .int .i64 0]⟩,[])))) (gm (r:= .leaf (.tuple ⟨[aJ 1 l.length 0 (bc l), .int .i64 0, .int .i64 0]⟩,[])))) OA (e:= .exit 0) (acC (C1:=fun _ _=>false) (C2:=fun _ _=>false) (r:=l) (k:=0) (c:=⟨0,0,[]⟩)) (by intro h; cases h)
 |k+1,i,a,a',x,cs,h,hi,ha,hx=>by
  unfold qZ at h;cases hr:frR (l.drop a)with
  |none=>rw[hr]at h; cases h
  |some y=>
   obtain⟨r,n⟩:=y;rw[hr]at h;simp only at h;cases hc:xP r with
   |none=>rw[hc]at h; cases h
   |some c=>
    rw[hc]at h;simp only at h;cases hs:qZ l k (a+n)with
    |none=>rw[hs]at h; cases h
    |some z=>
     obtain⟨cs',a''⟩:=z;rw[hs]at h;simp only[Option.map_some,Option.some.injEq,Prod.mk.injEq]at h;obtain⟨rfl,rfl⟩:=h;have hn:=Ja hr;have hrl:=Oe hr;rw[List.length_drop]at hn hrl;have q1:=Nl (b:=oz b a) hr (ZQ hc) (by rw[List.length_drop]; omega);have q2:=aa2 (b:=0) hc (by omega);have ih:=Na (b:=b) hm hl k (i+1) (a+n) a'' ⟨x.e,x.f,x.cs++[c]⟩ cs' hs (by omega) (by omega) (by show(x.cs++[c]).length+k<_; simp; omega);have e:(x.cs++[c])++cs'=x.cs++c::cs':=by simp
     rw[e]at ih;exact LRX.again (n:=50) (bf _) aA (ah (pol:=au) (ah (pol:=au) aW (aZ q2)) (aZ q1)) OA (WC hr (by omega) (by omega) ha hl (by omega)) ih
theorem J5{l:List UInt8}:∀ (k a:Nat) {cs:List CmM} {a':Nat},qZ l k a=some (cs,a')->cs.length=k
 |0,a,cs,a',h=>by
  simp only[qZ,Option.some.injEq,Prod.mk.injEq]at h;rw[<-h.1]; rfl
 |k+1,a,cs,a',h=>by
  unfold qZ at h;cases hr:frR (l.drop a)with
  |none=>rw[hr]at h; cases h
  |some y=>
   obtain⟨r,n⟩:=y;rw[hr]at h;simp only at h;cases hc:xP r with
   |none=>rw[hc]at h; cases h
   |some c=>
    rw[hc]at h;simp only at h;cases hs:qZ l k (a+n)with
    |none=>rw[hs]at h; cases h
    |some z=>
     obtain⟨cs',a''⟩:=z;rw[hs]at h;simp only[Option.map_some,Option.some.injEq,Prod.mk.injEq]at h;rw[<-h.1,List.length_cons,J5 k (a+n) hs]
theorem aak{l:List UInt8}{s:SecM}{n b:Nat}(h:Fq l=some (s,n))(hl:l.length+64<=4194304)(hn:s.cs.length<1000):CRX P 0 57 [aJ 1 l.length b (bc l)] [] (.tuple ⟨[jB s, .int .i64 (n:Int), .bool true]⟩) []:=by
 unfold Fq at h;cases hr:frR l with
 |none=>rw[hr]at h; cases h
 |some y=>
  obtain⟨r,a⟩:=y;rw[hr]at h;simp only at h;cases hd:hdR r with
  |none=>rw[hd]at h; cases h
  |some z=>
   obtain⟨e,f,m⟩:=z;rw[hd]at h;simp only at h;cases hc:qZ l m a with
   |none=>rw[hc]at h; cases h
   |some w=>
    obtain⟨cs,a'⟩:=w;rw[hc]at h;simp only at h;cases hs:eqI (pO ⟨e,f,cs⟩) 0 with
    |false=>rw[hs]at h; cases h
    |true=>
     rw[hs]at h;simp only[fa_,fb_,pt_,sl_,Option.some.injEq,Prod.mk.injEq]at h;obtain⟨rfl,rfl⟩:=h;have hs0:pO ⟨e,f,cs⟩=0:=by simpa [eqI]using hs
     obtain⟨⟨k1,k2⟩,k3,k4,k5⟩:=FB hs0;have k1:(1:Int)<=(e:Int):=k1;have k2:(e:Int)<=1048576:=k2;have k4:cs≠[]:=k4;have k5:fD 1 (f:Int) 0 cs=(0,0):=k5;have hn:cs.length<1000:=hn;have hlen:=J5 m a hc;have hal:=Ja hr;have hrl:=Oe hr;have q1:=Nl (b:=b) hr (acm hd) hl;have q2:=ZZ (b:=0) hd (by omega);have q3:=Na (b:=b) (m:=m) (by omega) hl m 0 a a' ⟨e,f,[]⟩ cs hc (by omega) hal (by show 0+m<_; omega);have q4:=mX (e:=1) (n:=(f:Int)) (l:=cs) (by omega) (fun c hcm=>by
      obtain⟨_,_,hb⟩:=jf.1 (kS k5 c hcm);obtain⟨b1,b2,b3⟩:=gq.1 hb
      omega)
     rw[k5]at q4;have he:geI (dL cs) (e:Int)=false:=by
      have hs1:=hs0;unfold pO at hs1;split at hs1
      ·cases hs1
      ·simp only[fa_,fb_,pt_,sl_,k5,show eqI (0,0).1 0=true from rfl]at hs1;cases hg:geI (dL cs) (e:Int)with
       |false=>rfl
       |true=>rw[hg]at hs1; cases hs1
     have hp:=List.length_pos_iff.2 k4;obtain⟨g4,_,l1,l2⟩:=kz k4 (by omega);have l4:=k_ (l:=cs) (i:=cs.length-1) (by omega);have l5:=mD (n:=cs.length) (k:=1) hp (by decide);have l6:=nz k4;rw[l6]at he;have g1:ltI (e:Int) 1=false:=by unfold ltI; exact decide_eq_false (by omega)
     have g2:gtI (e:Int) 1048576=false:=by unfold gtI; exact decide_eq_false (by omega)
     have g3:ltI (f:Int) 0=false:=by unfold ltI; exact decide_eq_false (by omega)
     have i0:eqI 0 0=true:=rfl;have z0:((0:Nat):Int)=0:=rfl;have n2:([]:List CmM).length=0:=rfl;have f3:ECm.all ([]:List CmM)=[]:=rfl;have b13:Nat.ble 1 3=true:=rfl;have nr:gy (ECm.all cs)=true:=ECm.all_nr cs;have bS:∀ (e f:Int) (n:Nat),bZ (.agg ⟨[.int .i64 e, .int .i64 f, .slice (some ⟨5,0,none⟩) n 18446744073709551616]⟩) (.agg ⟨[.int .i64 e, .int .i64 f, .slice (some ⟨5,0,none⟩) n 18446744073709551616]⟩)=true:=fun e f n=>by simp[bZ,uA,iR]
     refine CRX.ofF (pol:=Ae) (fl:=[.val, .val, .val, .val, .val]) (ts:=[0,0,22,0,0]) (n:=50) (kb:=[]) (bf _) aA (ah (pol:=au) (ah (pol:=au) (eu (iG aW (CallOkR.ofK0 (aZ q4))) (fU (d_ RZ) q3)) (aZ q2)) (aZ q1)) ((ZA (aV [aJ 1 l.length b (bc l)] []) (aV [aJ 1 r.length 0 (bc r)] []) (aV (snV l b (a:Nat) (m:Nat) (0:Nat)) (loB ⟨e,f,[]⟩)) (aV [.int .i64 1, .int .i64 (f:Int),fzCms cs] []) r a ⟨e,f,[]⟩ m l b a' ⟨e,f,cs⟩).trans ?_);clear q1 q2 q3 q4;simp (disch:=first | omega | (simp only[List.length_append,List.length_drop,List.length_take,List.length_singleton,Nat.add_eq,bJ]<;>omega) | fail) only[fa_,fb_,pt_,sl_,g1,g2,g3,g4,he,l1,l2,l4,l5,i0,z0,n2,f3,b13,nr,bS,iI,kF,KR rfl,jB,snV,loB,cZ,rnB,srB,tbB,dkL,List.cons_append,List.nil_append,List.append_assoc,dN,aT,dP,lsV,ptV,p0,aN,dkC,bn,fzCms,cmV,di,bG,az,dG,dn,dR,dE,dF,dD,dw,dC,dB,dQ,dA,aB,aK,aP,Enc.all_ren,aB rfl,aQ,bH,bz,bu,bg,ax,aX,bD,Int.toNat_natCast,aY,aO,bF,bU,dH,bP,bW,dK,Bool.and_self,aG,aF,ay]
theorem ZY{a0 vs:List Value}{b0 bs:List Blk}(h:a0≠vs):aV a0 b0 vs bs=false:=by
 cases hc:aV a0 b0 vs bs with
 |false=>rfl
 |true=>exact absurd (gu hc).1 h
theorem YM:CRX P 0 57 [aJ 1 0 0 []] [] (.tuple ⟨[.agg ⟨[.int .i64 0, .int .i64 0,aJ 3 0 0 []]⟩, .int .i64 0, .bool false]⟩) []:=by
 refine CRX.ofF (pol:=Ae) (fl:=[.val, .val, .val, .val, .val]) (ts:=[0,0,22,0,0]) (n:=50) (kb:=[]) (bf _) aA aW (aba.trans ?_);simp only[bG]
theorem abJ{l:List UInt8}{x:SecM}{n:Int}(h1:CRX P 0 57 [aJ 1 l.length 0 (bc l)] [] (.tuple ⟨[jB x, .int .i64 n, .bool true]⟩) []):CallOkX P 0 57 (VA (aV [aJ 1 l.length 0 (bc l)] []) (aV [aJ 1 0 0 []] []) x n):=⟨fun args bs t hR v bs' hev=>by
 unfold VA at hR;obtain rfl:=Option.some.inj hR;cases hc:aV [aJ 1 0 0 []] [] args bs with
 |true=>
  rw[hc]at hev;simp only[DT.eval,Option.some.injEq,Prod.mk.injEq]at hev;obtain⟨rfl,rfl⟩:=hev;obtain⟨rfl,rfl⟩:=gu hc;exact YM
 |false=>
  rw[hc]at hev;cases hc1:aV [aJ 1 l.length 0 (bc l)] [] args bs with
  |true=>
   rw[hc1]at hev;simp only[DT.eval,Option.some.injEq,Prod.mk.injEq]at hev;obtain⟨rfl,rfl⟩:=hev;obtain⟨rfl,rfl⟩:=gu hc1;exact h1
  |false=>rw[hc1]at hev; cases hev⟩
theorem YD{l:List UInt8}{s:SecM}(h:Fq l=some (s,l.length))(hl:l.length+64<=4194304)(hn:s.cs.length<1000)(hs:1<=s.e):CRX P 0 21 [aJ 1 l.length 0 (bc l)] [] (.tuple ⟨[oI s, .int .i64 (l.length:Int)]⟩) []:=by
 have q1:=aak (b:=0) h hl hn;have hne:l≠[]:=by
  intro e;subst e;unfold Fq frR at h;rw[Ag]at h;cases h
 have hpos:=List.length_pos_iff.2 hne;refine CRX.of (pol:=au) (fl:=[.val, .val]) (ts:=[58,0]) (n:=4) (bf _) aA (ah (pol:=au) aW (abJ q1)) ((Y_ (aV [aJ 1 l.length 0 (bc l)] []) (aV [aJ 1 0 0 []] []) l s (l.length:Int)).trans ?_);clear q1;have n0:aV [aJ 1 0 0 []] [] [aJ 1 l.length 0 (bc l)] []=false:=ZY (by
  intro e;unfold aJ at e;simp only[fa_,fb_,List.cons.injEq,Value.iface.injEq,Value.agg.injEq,Array.mk.injEq,Value.slice.injEq,true_and,and_true]at e
  omega)
 rw[di,di]at n0;have c0:eF 0 (ak l.length) l.length=true:=by unfold eF ak; exact decide_eq_true (by omega)
 have l0:fZ 0 (ak l.length)=l.length:=QR _;have e1:leI s.e 0=false:=by unfold leI; exact decide_eq_false (by omega)
 have a1:dI .i64 0 (l.length:Int)=(l.length:Int):=by unfold dI; rw[wrap64 (by omega) (by omega)]; omega
 have c1:=zq (Nat.le_refl l.length);have l1:fZ (l.length:Int) (ak l.length)=0:=acj _;have t0:takeC 0 (aU (atN (l.length:Int) 1) (bc l))=[]:=rfl;have b0:∀ x:Int,bZ (.int .i64 x) (.int .i64 x)=true:=fun x=>by simp[bZ]
 simp only[fa_,fb_,n0,c0,l0,e1,a1,c1,l1,t0,b0,oI,fzCms,di,bG,az,yw,aY,bF rfl,Bool.and_self,ay,aG,aF]
def pF(C:List Value->List Blk->Bool)(B:List Value->Bool):jb:=fun args bs=>some (.ite (C args bs) (.leaf (.bool (B args),bs)) .fail)
def WL:kV
 |[]=>some (.leaf (.bool true,[]))
 |_=>none
def StaM.rep(s:StaM):StaM:={ s with pg:=⟨2,2,0,0,0,0⟩ }
def Gg(S1 S2 S3 S4:List Value->List Blk->Bool)(B:List Value->Bool)(s0 s1 s2 s3 s4:StaM)(ot:TbM)(orest:List CmM)(f:Int):jb:=fun args bs=>match bs with
 | .cells (_::_::_::_::_:: .int _ ph::_) _ _::_=>match eqI ph 1,eqI ph 2,eqI ph 3,eqI ph 4 with
  |true,_,_,_=>some (.ite (S1 args bs) (.ite (B args) (.leaf (.tuple ⟨[pgV ⟨2,3,0,2,f,0⟩, .int .i64 0]⟩,stB (s1.at2 2 f))) (.leaf (.tuple ⟨[pgV ⟨0,0,0,0,0,0⟩, .int .i64 4]⟩,stB (s0.at2 1 0)))) .fail)
  |false,true,_,_=>some (.ite (S2 args bs) (.leaf (.tuple ⟨[pgV ⟨2,3,0,3,f,0⟩, .int .i64 0]⟩,stB (s2.at2 3 f))) .fail)
  |false,false,true,_=>some (.ite (S3 args bs) (.leaf (.tuple ⟨[pgV ⟨2,3,0,4,f,0⟩, .int .i64 0]⟩,stG (s3.at2 4 f) ot orest)) .fail)
  |false,false,false,true=>some (.ite (S4 args bs) (.leaf (.tuple ⟨[pgV ⟨2,2,0,0,0,0⟩, .int .i64 0]⟩,stB s4.rep)) .fail)
  |_,_,_,_=>none
 |_=>none
def Iu(C1 C2 C3 C4 C5 C6 C7 C8 C9 C10 C11 C12 S1 S2 S3 S4:List Value->List Blk->Bool)(B1 B6 B:List Value->Bool)(b:Bool)(r:Int×Nat)(k:Int)(h:MsgM)(s0 s1 s2 s3 s4:StaM)(ot:TbM)(orest:List CmM)(x:SecM)(fb:List UInt8)(sv:Value):Ct:=
 jh P 7 WL (aC P au 0 8 (pF C1 B1) (aC P au 0 9 (bI C2 (.leaf (ui r,[]))) (aC P au 0 10 (bI C3 (.leaf (.int .i64 k,[])))
 (aC P au 0 11 (bI C4 (.leaf (.tuple ⟨[mV h, .bool true]⟩,[]))) (aC P QB 1 13 (bI C5 (.leaf (ptV 1,stD (s0.at2 1 0)))) (aC P au 0 14 (pF C6 B6) (aC P au 0 52 (bI C7 (.leaf (.int .i64 0,[])))
 (aC P au 7 20 (bI C8 (.leaf (fzCms s1.log,stB (s1.at2 2 k)))) (aC P au 0 19 (bI C9 (.leaf (.tuple ⟨[jB x, .bool b, .int .i64 0]⟩,[]))) (aC P au 1 22 (bI C10 (.leaf (aJ 1 fb.length 0 (bc fb),aN s4.dk))) (aC P au 0 21 (bI C11 (.leaf (.tuple ⟨[sv, .int .i64 (ak fb.length)]⟩,[])))
 (aC P au 0 24 (bI C12 (.leaf (.bool true,[]))) (aC P au 7 16 (Gg S1 S2 S3 S4 B s0 s1 s2 s3 s4 ot orest k) ctF)))))))))))))
theorem rZ(C1 C2 C3 C4 C5 C6 C7 C8 C9 C10 C11 C12 S1 S2 S3 S4:List Value->List Blk->Bool)(B1 B6 B:List Value->Bool)(r:Int×Nat)(k:Int)(h m:MsgM)(s0 s1 s2 s3 s4:StaM)(ot:TbM)(orest l:List CmM)(x:SecM)(fb:List UInt8)(sh:Int):bM P E (Iu C1 C2 C3 C4 C5 C6 C7 C8 C9 C10 C11 C12 S1 S2 S3 S4 B1 B6 B true r k h s0 s1 s2 s3 s4 ot orest x fb (oI x)) 50 au [] [] 0 3 [fzCms l, .int .i64 sh,mV m] [] =
 (let z0:=l.length;let y0:=Enc.all ECm l;let x0:=fa_ z0 0 y0;let w0:=Value.bool true;let v0:=ag [];let u0:=some (w0,v0);let t0:=[fa_ m.cs.length 0 (Enc.all ECm m.cs)];let r0:=Value.int .i64 0;let q0:=ak z0;let p0:=eU .i64 q0 1;let o0:=Nat.add (atN p0 3) 0;let n0:=bT y0 o0;let m0:=Value.int .i64 2;
 let l0:=pt_ 0;let k0:=Value.bool false;let j0:=Value.slice none 0 0;let i0:=StaM.at2 s0 1 0;let h0:=pg_ i0.pg;let g0:=me_ h;let f0:=some (k0,v0);let e0:=me_ m;let d0:=bC [2] 3;let c0:=[3,2,4,5,6,7,8];let b0:=bC c0 49;let a0:=[l0,g0];let Z0:=PgM.mk 2 3 0 2 k 0;let Y0:=pg_ Z0;
 let X0:=C7 [Y0] [];let W0:=StaM.at2 s1 2 k;let V0:=eqI Z0.fo W0.pg.fo;let U0:=bZ Y0 Y0;let T0:=bC c0 74;let S0:=C9 [fa_ s1.log.length 0 (Enc.all ECm s1.log),Y0] [];let R0:=f_ (eqB true (ltI k q0));let Q0:=bC c0 128;let P0:=PgM.mk 2 3 0 3 k 0;let O0:=pg_ P0;let N0:=C7 [O0] [];let M0:=StaM.at2 s2 3 k;
 let L0:=eqI P0.fo M0.pg.fo;let K0:=bZ O0 O0;let J0:=bC c0 148;let I0:=PgM.mk 2 3 0 4 k 0;let H0:=pg_ I0;let G0:=C7 [H0] [];let F0:=StaM.at2 s3 4 k;let E0:=eqI I0.fo F0.pg.fo;let D0:=bZ H0 H0;let C0:=bC c0 191;let B0:=Value.int .u8 0;let A0:=C7 [.agg ⟨[m0, .int .u8 2,r0,B0,r0,r0]⟩] [];
 let z1:=s4.rep.dk;let y1:=z1.d0.length;let x1:=bC [3,2,4,5,191,192,193] 238;let w1:=af true x1 (bc z1.d0);let v1:=z1.d1.length;let u1:=af true x1 (bc z1.d1);let t1:=z1.d2.length;let r1:=af true x1 (bc z1.d2);let q1:=z1.d3.length;let p1:=af true x1 (bc z1.d3);let o1:=z1.pend.length;
 let n1:=Enc.all ESt z1.pend;let m1:=af true x1 n1;let l1:=[l0,Value.int .i64 3];let k1:=dk_ z1 1 2 3 4 5;let j1:=aH 0 [2,271,272,273,274,275];let i1:=Value.iface 18446744073709551619 (.agg ⟨[.slice none 1 0, .int .i64 x.e, .int .i64 x.f,fa_ x.cs.length 0 (Enc.all ECm x.cs)]⟩);let h1:=ae (C11 [fb_ fb.length 0 (bc fb)] []) (ae (C12 [i1,i1] []) (some (.bool (eqI (ak s4.rep.log.length) k),v0)));
 let g1:=ae D0 f0;let f1:=ae K0 f0;let e1:=ae U0 f0;let d1:=ae (C7 [.agg ⟨[r0,B0,r0,B0,r0,r0]⟩] []) f0;let c1:=bC c0 50;let b1:=bC c0 104;let a1:=bC c0 124;let Z1:=bC c0 167;let Y1:=bC [3,2,4,5,167,168,169] 214;let X1:=af true Y1 (bc z1.d0);let W1:=af true Y1 (bc z1.d1);
 let V1:=af true Y1 (bc z1.d2);let U1:=af true Y1 (bc z1.d3);let T1:=af true Y1 n1;let R1:=aH 0 [2,247,248,249,250,251];let Q1:=ae (C3 [.int .i64 sh, .int .i64 (dI .i64 q0 1)] []) (ae (C4 [x0, .int .i64 k, .int .i64 1,m0] []) (ae (C5 [l0,x0,m0] [.cells [w0,k0,k0,r0,r0,j0,j0,j0,j0,j0] 108 true]) (ae (C6 [h0,g0] []) (ae (bZ g0 g0) (aj (f_ (B6 [h0,g0])) f0 (ae (C6 [h0,e0] []) (ae (bZ e0 e0) (aj (f_ (B6 [h0,e0])) (nw_ i0 d0 (ae (S1 [l0,e0] (sw_ i0 (aH 0 [3,2,4,5,6,7,8,40,41,42,43,44,39,45,46,47,48]) d0)) (aj (B [l0,e0]) f0 (nw_ i0 b0 (ae (S1 a0 (sw_ i0 (aH 0 [3,2,4,5,6,7,8,65,66,67,68,69,64,70,71,72,73]) b0)) (aj (B a0) (ae X0 (aj V0 (ae U0 (nw_ W0 T0 (ae (C8 [l0] (sw_ W0 (aH 0 [3,2,4,5,6,7,8,119,120,121,122,123,118,124,125,126,127]) T0)) (ae S0 (ae U0 (aj R0 f0 (nw_ W0 Q0 (ae (S2 a0 (sw_ W0 (aH 0 [3,2,4,5,6,7,8,139,140,141,142,143,138,144,145,146,147]) Q0)) (ae N0 (aj L0 (ae K0 (nw_ M0 J0 (ae (S3 a0 (sw_ M0 (aH 0 [3,2,4,5,6,7,8,182,183,184,185,186,181,187,188,189,190]) J0)) (ae G0 (aj E0 (ae D0 (nw_ F0 C0 (ae (S4 a0 (sw_ F0 (aH 0 [3,2,4,5,191,192,193,229,230,231,232,233,228,234,235,236,237]) C0)) (ae A0 (nb_ y1 1 w1 (nb_ v1 1 u1 (nb_ t1 1 r1 (nb_ q1 1 p1 (nb_ o1 4 m1 (ae (C10 l1 [k1,lb_ j1 y1 1 w1 5,lb_ j1 v1 1 u1 5,lb_ j1 t1 1 r1 5,lb_ j1 q1 1 p1 5,lb_ j1 o1 4 m1 132]) h1)))))))))) g1))))) f1)))))))))) e1)) d1)))))) (nw_ i0 d0 (ae (S1 a0 (sw_ i0 (aH 0 [3,2,4,5,6,7,8,41,42,43,44,45,40,46,47,48,49]) d0)) (aj (B a0) (ae X0 (aj V0 (ae U0 (nw_ W0 c1 (ae (C8 [l0] (sw_ W0 (aH 0 [3,2,4,5,6,7,8,95,96,97,98,99,94,100,101,102,103]) c1)) (ae S0 (ae U0 (aj R0 f0 (nw_ W0 b1 (ae (S2 a0 (sw_ W0 (aH 0 [3,2,4,5,6,7,8,115,116,117,118,119,114,120,121,122,123]) b1)) (ae N0 (aj L0 (ae K0 (nw_ M0 a1 (ae (S3 a0 (sw_ M0 (aH 0 [3,2,4,5,6,7,8,158,159,160,161,162,157,163,164,165,166]) a1)) (ae G0 (aj E0 (ae D0 (nw_ F0 Z1 (ae (S4 a0 (sw_ F0 (aH 0 [3,2,4,5,167,168,169,205,206,207,208,209,204,210,211,212,213]) Z1)) (ae A0 (nb_ y1 1 X1 (nb_ v1 1 W1 (nb_ t1 1 V1 (nb_ q1 1 U1 (nb_ o1 4 T1 (ae (C10 l1 [k1,lb_ R1 y1 1 X1 5,lb_ R1 v1 1 W1 5,lb_ R1 t1 1 V1 5,lb_ R1 q1 1 U1 5,lb_ R1 o1 4 T1 132]) h1)))))))))) g1))))) f1)))))))))) e1)) d1)))))))))));
 (ae (C1 [x0] []) (aj (f_ (B1 [x0])) u0 (ae (C1 t0 []) (aj (f_ (B1 t0)) u0 (aj (gtI (ak m.st.length) 30) u0 (ae (C2 [r0,r0,x0] []) (aj (f_ (Bool.and (eqI (Prod.fst r) 0) (Bool.and (eqI (Nat.cast (Prod.snd r)) 0) true))) u0 (aj (gtI q0 0) (ae (Bool.and (Nat.beq 3 3) (inI p0 z0)) (ae (Bool.and (Nat.ble (Nat.add o0 1) y0.length) (ig (.int .i64) n0)) (aj (gtI (asI n0) 1) u0 Q1))) Q1))))))))):=by kernel_rfl
theorem V6(C1 C2 C3 C4 C5 C6 C7 C8 C9 C10 C11 C12 S1 S2 S3 S4:List Value->List Blk->Bool)(B1 B6 B:List Value->Bool)(r:Int×Nat)(k:Int)(h m:MsgM)(s0 s1 s2 s3 s4:StaM)(ot:TbM)(orest l:List CmM)(x:SecM)(fb:List UInt8)(sh:Int):bM P E (Iu C1 C2 C3 C4 C5 C6 C7 C8 C9 C10 C11 C12 S1 S2 S3 S4 B1 B6 B false r k h s0 s1 s2 s3 s4 ot orest x fb (aJ 3 0 0 [])) 50 au [] [] 0 3 [fzCms l, .int .i64 sh,mV m] [] =
 (let z0:=l.length;let y0:=Enc.all ECm l;let x0:=fa_ z0 0 y0;let w0:=Value.bool true;let v0:=ag [];let u0:=some (w0,v0);let t0:=[fa_ m.cs.length 0 (Enc.all ECm m.cs)];let r0:=Value.int .i64 0;let q0:=ak z0;let p0:=eU .i64 q0 1;let o0:=Nat.add (atN p0 3) 0;let n0:=bT y0 o0;let m0:=Value.int .i64 2;
 let l0:=pt_ 0;let k0:=Value.bool false;let j0:=Value.slice none 0 0;let i0:=StaM.at2 s0 1 0;let h0:=pg_ i0.pg;let g0:=me_ h;let f0:=some (k0,v0);let e0:=me_ m;let d0:=bC [2] 3;let c0:=[3,2,4,5,6,7,8];let b0:=bC c0 49;let a0:=[l0,g0];let Z0:=PgM.mk 2 3 0 2 k 0;let Y0:=pg_ Z0;
 let X0:=C7 [Y0] [];let W0:=StaM.at2 s1 2 k;let V0:=eqI Z0.fo W0.pg.fo;let U0:=bZ Y0 Y0;let T0:=bC c0 74;let S0:=C9 [fa_ s1.log.length 0 (Enc.all ECm s1.log),Y0] [];let R0:=f_ (eqB false (ltI k q0));let Q0:=bC c0 128;let P0:=PgM.mk 2 3 0 3 k 0;let O0:=pg_ P0;let N0:=C7 [O0] [];let M0:=StaM.at2 s2 3 k;
 let L0:=eqI P0.fo M0.pg.fo;let K0:=bZ O0 O0;let J0:=bC c0 148;let I0:=PgM.mk 2 3 0 4 k 0;let H0:=pg_ I0;let G0:=C7 [H0] [];let F0:=StaM.at2 s3 4 k;let E0:=eqI I0.fo F0.pg.fo;let D0:=bZ H0 H0;let C0:=bC c0 191;let B0:=Value.int .u8 0;let A0:=C7 [.agg ⟨[m0, .int .u8 2,r0,B0,r0,r0]⟩] [];
 let z1:=s4.rep.dk;let y1:=z1.d0.length;let x1:=bC [3,2,4,5,191,192,193] 238;let w1:=af true x1 (bc z1.d0);let v1:=z1.d1.length;let u1:=af true x1 (bc z1.d1);let t1:=z1.d2.length;let r1:=af true x1 (bc z1.d2);let q1:=z1.d3.length;let p1:=af true x1 (bc z1.d3);let o1:=z1.pend.length;
 let n1:=Enc.all ESt z1.pend;let m1:=af true x1 n1;let l1:=[l0,Value.int .i64 3];let k1:=dk_ z1 1 2 3 4 5;let j1:=aH 0 [2,271,272,273,274,275];let i1:=ae (C11 [fb_ fb.length 0 (bc fb)] []) (some (.bool (eqI (ak s4.rep.log.length) k),v0));let h1:=ae D0 f0;let g1:=ae K0 f0;
 let f1:=ae U0 f0;let e1:=ae (C7 [.agg ⟨[r0,B0,r0,B0,r0,r0]⟩] []) f0;let d1:=bC c0 50;let c1:=bC c0 104;let b1:=bC c0 124;let a1:=bC c0 167;let Z1:=bC [3,2,4,5,167,168,169] 214;let Y1:=af true Z1 (bc z1.d0);let X1:=af true Z1 (bc z1.d1);let W1:=af true Z1 (bc z1.d2);
 let V1:=af true Z1 (bc z1.d3);let U1:=af true Z1 n1;let T1:=aH 0 [2,247,248,249,250,251];let R1:=ae (C3 [.int .i64 sh, .int .i64 (dI .i64 q0 1)] []) (ae (C4 [x0, .int .i64 k, .int .i64 1,m0] []) (ae (C5 [l0,x0,m0] [.cells [w0,k0,k0,r0,r0,j0,j0,j0,j0,j0] 108 true]) (ae (C6 [h0,g0] []) (ae (bZ g0 g0) (aj (f_ (B6 [h0,g0])) f0 (ae (C6 [h0,e0] []) (ae (bZ e0 e0) (aj (f_ (B6 [h0,e0])) (nw_ i0 d0 (ae (S1 [l0,e0] (sw_ i0 (aH 0 [3,2,4,5,6,7,8,40,41,42,43,44,39,45,46,47,48]) d0)) (aj (B [l0,e0]) f0 (nw_ i0 b0 (ae (S1 a0 (sw_ i0 (aH 0 [3,2,4,5,6,7,8,65,66,67,68,69,64,70,71,72,73]) b0)) (aj (B a0) (ae X0 (aj V0 (ae U0 (nw_ W0 T0 (ae (C8 [l0] (sw_ W0 (aH 0 [3,2,4,5,6,7,8,119,120,121,122,123,118,124,125,126,127]) T0)) (ae S0 (ae U0 (aj R0 f0 (nw_ W0 Q0 (ae (S2 a0 (sw_ W0 (aH 0 [3,2,4,5,6,7,8,139,140,141,142,143,138,144,145,146,147]) Q0)) (ae N0 (aj L0 (ae K0 (nw_ M0 J0 (ae (S3 a0 (sw_ M0 (aH 0 [3,2,4,5,6,7,8,182,183,184,185,186,181,187,188,189,190]) J0)) (ae G0 (aj E0 (ae D0 (nw_ F0 C0 (ae (S4 a0 (sw_ F0 (aH 0 [3,2,4,5,191,192,193,229,230,231,232,233,228,234,235,236,237]) C0)) (ae A0 (nb_ y1 1 w1 (nb_ v1 1 u1 (nb_ t1 1 r1 (nb_ q1 1 p1 (nb_ o1 4 m1 (ae (C10 l1 [k1,lb_ j1 y1 1 w1 5,lb_ j1 v1 1 u1 5,lb_ j1 t1 1 r1 5,lb_ j1 q1 1 p1 5,lb_ j1 o1 4 m1 132]) i1)))))))))) h1))))) g1)))))))))) f1)) e1)))))) (nw_ i0 d0 (ae (S1 a0 (sw_ i0 (aH 0 [3,2,4,5,6,7,8,41,42,43,44,45,40,46,47,48,49]) d0)) (aj (B a0) (ae X0 (aj V0 (ae U0 (nw_ W0 d1 (ae (C8 [l0] (sw_ W0 (aH 0 [3,2,4,5,6,7,8,95,96,97,98,99,94,100,101,102,103]) d1)) (ae S0 (ae U0 (aj R0 f0 (nw_ W0 c1 (ae (S2 a0 (sw_ W0 (aH 0 [3,2,4,5,6,7,8,115,116,117,118,119,114,120,121,122,123]) c1)) (ae N0 (aj L0 (ae K0 (nw_ M0 b1 (ae (S3 a0 (sw_ M0 (aH 0 [3,2,4,5,6,7,8,158,159,160,161,162,157,163,164,165,166]) b1)) (ae G0 (aj E0 (ae D0 (nw_ F0 a1 (ae (S4 a0 (sw_ F0 (aH 0 [3,2,4,5,167,168,169,205,206,207,208,209,204,210,211,212,213]) a1)) (ae A0 (nb_ y1 1 Y1 (nb_ v1 1 X1 (nb_ t1 1 W1 (nb_ q1 1 V1 (nb_ o1 4 U1 (ae (C10 l1 [k1,lb_ T1 y1 1 Y1 5,lb_ T1 v1 1 X1 5,lb_ T1 t1 1 W1 5,lb_ T1 q1 1 V1 5,lb_ T1 o1 4 U1 132]) i1)))))))))) h1))))) g1)))))))))) f1)) e1)))))))))));
 (ae (C1 [x0] []) (aj (f_ (B1 [x0])) u0 (ae (C1 t0 []) (aj (f_ (B1 t0)) u0 (aj (gtI (ak m.st.length) 30) u0 (ae (C2 [r0,r0,x0] []) (aj (f_ (Bool.and (eqI (Prod.fst r) 0) (Bool.and (eqI (Nat.cast (Prod.snd r)) 0) true))) u0 (aj (gtI q0 0) (ae (Bool.and (Nat.beq 3 3) (inI p0 z0)) (ae (Bool.and (Nat.ble (Nat.add o0 1) y0.length) (ig (.int .i64) n0)) (aj (gtI (asI n0) 1) u0 R1))) R1))))))))):=by kernel_rfl
structure Chain(l:List CmM)(k:Nat)(b:Bool)(x:SecM)(fb:List UInt8)(s0 s1 s2 s3 s4:StaM)(ot:TbM)(orest:List CmM):Prop where
 t0:gZ s0.tb
 t1:gZ s1.tb
 t2:gZ s2.tb
 t3:gZ s3.tb
 t4:gZ s4.tb
 to:gZ ot
 g0:s0.pg=bQ
 g1:s1.pg=⟨2,3,0,2,k,0⟩
 g2:s2.pg=⟨2,3,0,3,k,0⟩
 g3:s3.pg=⟨2,3,0,4,k,0⟩
 g4:s4.pg=⟨2,2,0,0,0,0⟩
 l1:s1.log=l
 l4:s4.log.length=k
 d4:s4.dk.d3=fb
 hrd:CRX P 1 13 [p0,fzCms l, .int .i64 2] l9 (ptV 1) (stD s0)
 st1:CRX P 7 16 [p0,mV (dV k)] (stB s0) (.tuple ⟨[pgV ⟨2,3,0,2,k,0⟩, .int .i64 0]⟩) (stB s1)
 st2:CRX P 7 16 [p0,mV (dV k)] (stB s1) (.tuple ⟨[pgV ⟨2,3,0,3,k,0⟩, .int .i64 0]⟩) (stB s2)
 st3:CRX P 7 16 [p0,mV (dV k)] (stB s2) (.tuple ⟨[pgV ⟨2,3,0,4,k,0⟩, .int .i64 0]⟩) (stG s3 ot orest)
 st4:CRX P 7 16 [p0,mV (dV k)] (stB s3) (.tuple ⟨[pgV ⟨2,2,0,0,0,0⟩, .int .i64 0]⟩) (stB s4)
 lg:CRX P 7 20 [p0] (stB s1) (fzCms l) (stB s1)
 lo:CRX P 0 19 [fzCms l,pgV ⟨2,3,0,2,k,0⟩] [] (.tuple ⟨[jB x, .bool b, .int .i64 0]⟩) []
theorem chain{l:List CmM}{k:Nat}(hf:fD 0 0 0 l=(0,0))(hl:l.length<=30)(hE:dL l<=1)(hk:k<=l.length) :
  ∃ s0 s1 s2 s3 s4 ot orest,Chain l k (decide (k<l.length)) (if k<l.length then kw l k else⟨0,0,[]⟩) (if k<l.length then encS (kw l k)else []) s0 s1 s2 s3 s4 ot orest:=by
 have he:=Dp hf hE;obtain⟨s0,a1,a2,a3,a4,a5,a6,a7,q0⟩:=ZW hf hl hE;obtain⟨j1,b1,q1⟩:=Z9 (s:=s0) (l:=l) (k:=k) (a1.mono (by omega)) a2 hf he hl a5 a6 a3 (by omega) hk;have w1:StQ (s0.paged j1 ⟨2,3,0,2,k,0⟩) 700000:=Az (a1.mono (by omega)) b1;have hd1:(s0.paged j1 ⟨2,3,0,2,k,0⟩).dk.d1.length<=200:=by
  show(s0.dk.d1++frM (kH ⟨2,3,0,2,k,0⟩)).length<=200;have:=u_ ⟨2,3,0,2,k,0⟩;rw[List.length_append]; omega
 generalize hs1:s0.paged j1 ⟨2,3,0,2,k,0⟩=s1 at q1 w1 hd1;have e1:s1.log=l:=by rw[<-hs1]; exact a2
 have e2:s1.held=0:=by rw[<-hs1]; exact a5
 have e3:s1.dk.d3=[]:=by rw[<-hs1]; exact a4
 have e4:s1.rs=[]:=by rw[<-hs1]; exact a6
 have e5:s1.pg=⟨2,3,0,2,k,0⟩:=by rw[<-hs1]; rfl
 have qg:=Eo (s:=s1) w1.sr.tb (by rw[e1]; omega) (fun c hc=>by
  rw[e1]at hc;obtain⟨_,_,hb⟩:=jf.1 (kS hf c hc);obtain⟨b1,b2,b3⟩:=gq.1 hb
  omega)
 rw[e1]at qg;have qo:=FP (l:=l) (p:=⟨2,3,0,2,k,0⟩) (k:=k) hf (by omega) (lH 2 (by decide) (by omega) (by omega)) rfl rfl hk;have hforked:∃ sf,StQ sf 600000/\sf.log=l/\0<=sf.held/\sf.rs=[]/\sf.dk.d1=s1.dk.d1/\sf.dk.d3=(if k<l.length then encS (kw l k)else [])/\CRX P 7 101 [p0] (stB s1) (.tuple ⟨[pgV ⟨2,3,0,3,k,0⟩, .int .i64 0]⟩) (stB sf):=by
  by_cases h:k<l.length
  ·obtain⟨j,c1,c2⟩:=Vo (s:=s1) (l:=l) (k:=k) (w1.mono (by omega)) e1 hf he hl e2 e3 e5 h;refine⟨_,Zi (w1.mono (by omega)) c1,e1,by show(0:Int)<=((encS (kw l k)).length:Int); omega,e4,rfl,?_,c2⟩;rw[if_pos h];show s1.dk.d3++encS (kw l k)=_;rw[e3,List.nil_append]
  ·have c2:=XP (s:=s1) (l:=l) (k:=k) (w1.mono (by omega)) e1 hf he hl e5 (by omega);exact⟨s1,w1.mono (by omega),e1,by omega,e4,rfl,by rw[if_neg h]; exact e3,c2⟩
 obtain⟨sf,f1,f2,f3,f4,f5,f6,qf⟩:=hforked;obtain⟨j2,b2,q2⟩:=ZX (s:=s1) (s1:=sf) (l:=l) (k:=k) (m:=dV k) (w1.mono (by omega)) (f1.mono (by omega)) f2 he hl f3 f4 e5 (by rw[f5]; omega) hk qf;have w2:StQ (sf.paged j2 ⟨2,3,0,3,k,0⟩) 500000:=Az (f1.mono (by omega)) b2;have hd2:(sf.paged j2 ⟨2,3,0,3,k,0⟩).dk.d1.length<=300:=by
  show(sf.dk.d1++frM (kH ⟨2,3,0,3,k,0⟩)).length<=300;have:=u_ ⟨2,3,0,3,k,0⟩;rw[List.length_append,f5]; omega
 generalize hs2:sf.paged j2 ⟨2,3,0,3,k,0⟩=s2 at q2 w2 hd2;have g1:s2.log=l:=by rw[<-hs2]; exact f2
 have g2:0<=s2.held:=by rw[<-hs2]; exact f3
 have g3:s2.rs=[]:=by rw[<-hs2]; exact f4
 have g4:s2.pg=⟨2,3,0,3,k,0⟩:=by rw[<-hs2]; rfl
 have g5:s2.dk.d3=(if k<l.length then encS (kw l k)else []):=by rw[<-hs2]; exact f6
 obtain⟨j3,b3,q3⟩:=Z7 (s:=s2) (l:=l) (k:=k) (m:=dV k) (w2.mono (by omega)) g1 hf he hl g2 g3 g4 (by omega) hk;have w3:StQ ((s2.short k).paged j3 ⟨2,3,0,4,k,0⟩) 400000:=Az (Px (w2.mono (by omega)) g3) b3;have hd3:((s2.short k).paged j3 ⟨2,3,0,4,k,0⟩).dk.d1.length<=400:=by
  show(s2.dk.d1++frM (kH ⟨2,3,0,4,k,0⟩)).length<=400;have:=u_ ⟨2,3,0,4,k,0⟩;rw[List.length_append]; omega
 generalize hs3:(s2.short k).paged j3 ⟨2,3,0,4,k,0⟩=s3 at q3 w3 hd3;have i1:s3.log=l.take k:=by rw[<-hs3]; show s2.log.take k=_; rw[g1]
 have i3:s3.rs=[]:=by rw[<-hs3]; exact g3
 have i4:s3.pg=⟨2,3,0,4,k,0⟩:=by rw[<-hs3]; rfl
 have i5:s3.dk.d3=(if k<l.length then encS (kw l k)else []):=by rw[<-hs3]; exact g5
 have hlt:(l.take k).length=k:=by rw[List.length_take]; omega
 obtain⟨j4,b4,q4⟩:=aaJ (s:=s3) (l:=l.take k) (k:=k) (m:=dV k) (w3.mono (by omega)) i1 (fun c hc=>he c (List.mem_of_mem_take hc)) (by omega) i3 i4 (by omega) (by omega);refine⟨s0,s1,s2,s3,s3.paged j4 ⟨2,2,0,0,0,0⟩,s2.tb,s2.rest,⟨a1.sr.tb,w1.sr.tb,w2.sr.tb,w3.sr.tb,w3.sr.tb,w2.sr.tb,a3,e5,g4,i4,rfl,e1,?_,i5,q0,q1,q2,q3,q4,qg,qo⟩⟩;show s3.log.length=k;rw[i1,hlt]
end Go.VS.Tryz
end

noncomputable section
namespace Go.VS.Tryz
open Go.VS
set_option maxRecDepth 10000000
theorem Xa:Iw P rU 1000000 7 []=true:=by kernel_rfl
end Go.VS.Tryz
end

noncomputable section
namespace Go.VS.Tryz
open Go.VS
set_option maxRecDepth 1000000

theorem MZ(off fused:Bool)(fuse steps:Int)(n0 n1 n2 n3 np:Nat)(c0 c1 c2 c3 cp:List Value)(f:Int):bM P E ctF 50 fJ [.val] [61] 1 22 [.pointer (some ⟨0,0,none⟩), .int .i64 f] [.cells (dkC off fused fuse steps n0 n1 n2 n3 np) 108 true, .cells c0 5 false, .cells c1 5 false, .cells c2 5 false, .cells c3 5 false, .cells cp 132 false] =
 (let z0:=Blk.cells [.bool true, .bool off, .bool fused, .int .i64 fuse, .int .i64 steps,sl_ 1 n0,sl_ 2 n1,sl_ 3 n2,sl_ 4 n3,sl_ 5 np] 108 true;let y0:=aH 0 [0,6,7,8,9,10];let x0:=nb_ n0 1 c0 (nb_ n1 1 c1 (nb_ n2 1 c2 (nb_ n3 1 c3 (nb_ np 4 cp (some (.iface 18446744073709551617 (.agg ⟨[.slice none 0 0]⟩),ag [z0,lb_ y0 n0 1 c0 5,lb_ y0 n1 1 c1 5,lb_ y0 n2 1 c2 5,lb_ y0 n3 1 c3 5,lb_ y0 np 4 cp 132]))))));
 let w0:=Nat.mul n0 1;let v0:=takeC w0 (aU 0 c0);let u0:=Nat.beq 0 0;let t0:=aH 0 [0,7,8,9,10,11];let s0:=ag [z0,lb_ t0 n0 1 c0 5,lb_ t0 n1 1 c1 5,lb_ t0 n2 1 c2 5,lb_ t0 n3 1 c3 5,lb_ t0 np 4 cp 132];let r0:=Nat.mul n1 1;let q0:=takeC r0 (aU 0 c1);let p0:=Nat.mul n2 1;let o0:=takeC p0 (aU 0 c2);
 let m0:=Nat.mul n3 1;let l0:=takeC m0 (aU 0 c3);
 (aj (geI f 0) (aj (f_ (ltI f 4)) x0 (aj (eqI f 0) (nb_ n0 1 c0 (ae (List.all v0 oneCell) (ae (Bool.and u0 (Bool.and u0 (Nat.ble n0 4194304))) (ae (gV P 0 n0 18446744073709551616 v0 5) (nb_ n0 1 c0 (nb_ n1 1 c1 (nb_ n2 1 c2 (nb_ n3 1 c3 (nb_ np 4 cp (some (fb_ n0 0 (takeC w0 (aU 0 v0)),s0))))))))))) (aj (eqI f 1) (nb_ n1 1 c1 (ae (List.all q0 oneCell) (ae (Bool.and u0 (Bool.and u0 (Nat.ble n1 4194304))) (ae (gV P 0 n1 18446744073709551616 q0 5) (nb_ n0 1 c0 (nb_ n1 1 c1 (nb_ n2 1 c2 (nb_ n3 1 c3 (nb_ np 4 cp (some (fb_ n1 0 (takeC r0 (aU 0 q0)),s0))))))))))) (aj (eqI f 2) (nb_ n2 1 c2 (ae (List.all o0 oneCell) (ae (Bool.and u0 (Bool.and u0 (Nat.ble n2 4194304))) (ae (gV P 0 n2 18446744073709551616 o0 5) (nb_ n0 1 c0 (nb_ n1 1 c1 (nb_ n2 1 c2 (nb_ n3 1 c3 (nb_ np 4 cp (some (fb_ n2 0 (takeC p0 (aU 0 o0)),s0))))))))))) (ae (eqI f 3) (nb_ n3 1 c3 (ae (List.all l0 oneCell) (ae (Bool.and u0 (Bool.and u0 (Nat.ble n3 4194304))) (ae (gV P 0 n3 18446744073709551616 l0 5) (nb_ n0 1 c0 (nb_ n1 1 c1 (nb_ n2 1 c2 (nb_ n3 1 c3 (nb_ np 4 cp (some (fb_ n3 0 (takeC m0 (aU 0 l0)),s0)))))))))))))))) x0)):=by kernel_rfl
theorem MP(m:DkM)(f:Int)(h0:0<=f/\f<4)(hl:(fH m f).length<=4194304):bM P E ctF 50 fJ [.val] [61] 1 22 [p0, .int .i64 f] (aN m)=some (aJ 1 (fH m f).length 0 (bc (fH m f)),ag (aN m)):=by
 obtain⟨off,fused,fuse,steps,d0,d1,d2,d3,pend⟩:=m;have q:=MZ off fused fuse steps d0.length d1.length d2.length d3.length pend.length (bc d0) (bc d1) (bc d2) (bc d3) (ESt.all pend) f;refine Eq.trans ?_ (q.trans ?_)
 ·rfl
 clear q;obtain⟨d,hd⟩:∃ d,d=fH ⟨off,fused,fuse,steps,d0,d1,d2,d3,pend⟩ f:=⟨_,rfl⟩
 rw[<-hd]at hl ⊢;have b2:∀ n,Nat.ble n n=true:=fun n=>Nat.ble_eq_true_of_le (Nat.le_refl n);have b3:∀ n,Nat.beq n n=true:=Nat.beq_refl;have n4:∀ l:List StM,(ESt.all l).length=Nat.mul l.length 4:=fun l=>ESt.all_length l;have fz:=fun l:List UInt8=>EF (l:=l) rfl;have tl:Nat.ble d.length 4194304=true:=Nat.ble_eq_true_of_le hl;have g1:geI f 0=true:=by unfold geI; exact decide_eq_true h0.1
 have g2:ltI f 4=true:=by unfold ltI; exact decide_eq_true h0.2
 simp only[fb_,lb_,nb_,sl_,g1,g2,f_,Bool.not_true,aO,n4,aY,ax,b2,b3,fz,bD,eH rfl,nV rfl,aX,Enc.all_ren,Bool.and_self,Bool.true_and,aG,aF,ay];rcases(show f=0\/f=1\/f=2\/f=3 by omega)with rfl | rfl | rfl | rfl
 ·have e:d=d0:=hd;subst e;have q0:eqI (0:Int) 0=true:=rfl;simp only[fb_,lb_,nb_,sl_,q0,tl,aG,ay];unfold aJ;rw[fzU]
  rfl
 ·have e:d=d1:=hd;subst e;have q0:eqI (1:Int) 0=false:=rfl;have q1:eqI (1:Int) 1=true:=rfl;simp only[fb_,lb_,nb_,sl_,q0,q1,tl,aG,aF,ay];unfold aJ;rw[fzU]
  rfl
 ·have e:d=d2:=hd;subst e;have q0:eqI (2:Int) 0=false:=rfl;have q1:eqI (2:Int) 1=false:=rfl;have q2:eqI (2:Int) 2=true:=rfl;simp only[fb_,lb_,nb_,sl_,q0,q1,q2,tl,aG,aF,ay];unfold aJ;rw[fzU]
  rfl
 ·have e:d=d3:=hd;subst e;have q0:eqI (3:Int) 0=false:=rfl;have q1:eqI (3:Int) 1=false:=rfl;have q2:eqI (3:Int) 2=false:=rfl;have q3:eqI (3:Int) 3=true:=rfl;simp only[fb_,lb_,nb_,sl_,q0,q1,q2,q3,tl,aG,aF,ay];unfold aJ;rw[fzU]
  rfl
theorem ab3:CallOkR P 7 WL:=⟨fun args t hR v bs hev=>by
 unfold WL at hR;split at hR
 ·obtain rfl:=Option.some.inj hR;simp only[DT.eval,Option.some.injEq,Prod.mk.injEq]at hev;obtain⟨rfl,rfl⟩:=hev;exact CR.ofCalls rfl fun w args' hG ha=>L8 aA (qE P) (fun _ _ _=>rfl) Xa ha hG
 ·cases hR⟩
theorem x9{N:Nat}{g:FuncId}{C:List Value->List Blk->Bool}{B:List Value->Bool}(h:∀ args bs,C args bs=true->CRX P N g args bs (.bool (B args)) bs):CallOkX P N g (pF C B):=⟨fun args bs t hR v bs' hev=>by
 unfold pF at hR;obtain rfl:=Option.some.inj hR;cases hc:C args bs with
 |false=>rw[hc]at hev; cases hev
 |true=>
  rw[hc]at hev;simp only[DT.eval,Option.some.injEq,Prod.mk.injEq]at hev;obtain⟨rfl,rfl⟩:=hev
  exact h _ _ hc⟩
theorem Pn{N:Nat}{g:FuncId}{C:List Value->List Blk->Bool}{v:Value}{b:List Blk}(h:∀ args bs,C args bs=true->CRX P N g args bs v b):CallOkX P N g (bI C (.leaf (v,b))):=⟨fun args bs t hR v' bs' hev=>by
 unfold bI at hR;obtain rfl:=Option.some.inj hR;cases hc:C args bs with
 |false=>rw[hc]at hev; cases hev
 |true=>
  rw[hc]at hev;have hev:(DT.leaf (v,b)).eval=some (v',bs'):=hev;simp only[DT.eval,Option.some.injEq,Prod.mk.injEq]at hev;obtain⟨rfl,rfl⟩:=hev
  exact h _ _ hc⟩
theorem IQ{S1 S2 S3 S4:List Value->List Blk->Bool}{B:List Value->Bool}{s0 s1 s2 s3 s4:StaM}{ot:TbM}{orest:List CmM}{f:Int}
  (h1:∀ args bs,S1 args bs=true->B args=true->CRX P 7 16 args bs (.tuple ⟨[pgV ⟨2,3,0,2,f,0⟩, .int .i64 0]⟩) (stB (s1.at2 2 f)))
  (h1e:∀ args bs,S1 args bs=true->B args=false->CRX P 7 16 args bs (.tuple ⟨[pgV ⟨0,0,0,0,0,0⟩, .int .i64 4]⟩) (stB (s0.at2 1 0)))
  (h2:∀ args bs,S2 args bs=true->CRX P 7 16 args bs (.tuple ⟨[pgV ⟨2,3,0,3,f,0⟩, .int .i64 0]⟩) (stB (s2.at2 3 f)))
  (h3:∀ args bs,S3 args bs=true->CRX P 7 16 args bs (.tuple ⟨[pgV ⟨2,3,0,4,f,0⟩, .int .i64 0]⟩) (stG (s3.at2 4 f) ot orest))
  (h4:∀ args bs,S4 args bs=true->CRX P 7 16 args bs (.tuple ⟨[pgV ⟨2,2,0,0,0,0⟩, .int .i64 0]⟩) (stB s4.rep)) :
  CallOkX P 7 16 (Gg S1 S2 S3 S4 B s0 s1 s2 s3 s4 ot orest f):=⟨fun args bs t hR v bs' hev=>by
 unfold Gg at hR;split at hR
 ·split at hR
  ·obtain rfl:=Option.some.inj hR;cases hc:S1 args _ with
   |false=>rw[hc]at hev; cases hev
   |true=>
    rw[hc]at hev;cases hb:B args with
    |true=>
     rw[hb]at hev;simp only[DT.eval,Option.some.injEq,Prod.mk.injEq]at hev;obtain⟨rfl,rfl⟩:=hev;exact h1 _ _ hc hb
    |false=>
     rw[hb]at hev;simp only[DT.eval,Option.some.injEq,Prod.mk.injEq]at hev;obtain⟨rfl,rfl⟩:=hev;exact h1e _ _ hc hb
  ·obtain rfl:=Option.some.inj hR;cases hc:S2 args _ with
   |false=>rw[hc]at hev; cases hev
   |true=>
    rw[hc]at hev;simp only[DT.eval,Option.some.injEq,Prod.mk.injEq]at hev;obtain⟨rfl,rfl⟩:=hev;exact h2 _ _ hc
  ·obtain rfl:=Option.some.inj hR;cases hc:S3 args _ with
   |false=>rw[hc]at hev; cases hev
   |true=>
    rw[hc]at hev;simp only[DT.eval,Option.some.injEq,Prod.mk.injEq]at hev;obtain⟨rfl,rfl⟩:=hev;exact h3 _ _ hc
  ·obtain rfl:=Option.some.inj hR;cases hc:S4 args _ with
   |false=>rw[hc]at hev; cases hev
   |true=>
    rw[hc]at hev;simp only[DT.eval,Option.some.injEq,Prod.mk.injEq]at hev;obtain⟨rfl,rfl⟩:=hev;exact h4 _ _ hc
  ·cases hR
 ·cases hR⟩
theorem Dw{C1 C2 C3 C4 C5 C6 C7 C8 C9 C10 C11 C12 S1 S2 S3 S4:List Value->List Blk->Bool}{B1 B6 B:List Value->Bool}{b:Bool}{r:Int×Nat}{k:Int}{h:MsgM}{s0 s1 s2 s3 s4:StaM}{ot:TbM}{orest:List CmM}{x:SecM}{fb:List UInt8}{sv:Value}
  (h1:CallOkX P 0 8 (pF C1 B1)) (h2:CallOkX P 0 9 (bI C2 (.leaf (ui r,[])))) (h3:CallOkX P 0 10 (bI C3 (.leaf (.int .i64 k,[]))))
  (h4:CallOkX P 0 11 (bI C4 (.leaf (.tuple ⟨[mV h, .bool true]⟩,[])))) (h5:CallOkX P 1 13 (bI C5 (.leaf (ptV 1,stD (s0.at2 1 0))))) (h6:CallOkX P 0 14 (pF C6 B6))
  (h7:CallOkX P 0 52 (bI C7 (.leaf (.int .i64 0,[])))) (h8:CallOkX P 7 20 (bI C8 (.leaf (fzCms s1.log,stB (s1.at2 2 k))))) (h9:CallOkX P 0 19 (bI C9 (.leaf (.tuple ⟨[jB x, .bool b, .int .i64 0]⟩,[]))))
  (h10:CallOkX P 1 22 (bI C10 (.leaf (aJ 1 fb.length 0 (bc fb),aN s4.dk)))) (h11:CallOkX P 0 21 (bI C11 (.leaf (.tuple ⟨[sv, .int .i64 (ak fb.length)]⟩,[])))) (h12:CallOkX P 0 24 (bI C12 (.leaf (.bool true,[]))))
  (h13:CallOkX P 7 16 (Gg S1 S2 S3 S4 B s0 s1 s2 s3 s4 ot orest k)):CtOk P (Iu C1 C2 C3 C4 C5 C6 C7 C8 C9 C10 C11 C12 S1 S2 S3 S4 B1 B6 B b r k h s0 s1 s2 s3 s4 ot orest x fb sv):=
 iG (ah (pol:=au) (ah (pol:=au) (ah (pol:=au) (ah (pol:=au) (ah (pol:=QB) (ah (pol:=au) (ah (pol:=au) (ah (pol:=au) (ah (pol:=au) (ah (pol:=au) (ah (pol:=au) (ah (pol:=au) (ah (pol:=au) aW h13) h12) h11) h10) h9) h8) h7) h6) h5) h4) h3) h2) h1) ab3
theorem Ho{a b:List CmM}(h:fzCms a=fzCms b):a=b:=ECm.all_inj _ _ (rH h)
theorem WF{a b:List (Int×Int)}(h:fV a=fV b):a=b:=ESa.all_inj _ _ (rH h)
theorem TG{a b:MsgM}(h:mV a=mV b):a=b:=by
 obtain⟨a1,a2,a3,a4,a5,a6,a7,a8⟩:=a;obtain⟨b1,b2,b3,b4,b5,b6,b7,b8⟩:=b;unfold mV at h;simp only[Value.agg.injEq,Array.mk.injEq,List.cons.injEq,Value.int.injEq,true_and,and_true]at h;obtain⟨rfl,rfl,rfl,rfl,h5,rfl,rfl,h8⟩:=h;obtain rfl:=WF h5;obtain rfl:=Ho h8
 rfl
open Classical in
def smB(a:List Value):Bool:=decide (∃ x,a=[fzCms x]/\lI x=true)
open Classical in
theorem tY(x:List CmM):smB [fzCms x]=lI x:=by
 unfold smB;cases h:lI x with
 |true=>exact decide_eq_true ⟨x,rfl,h⟩
 |false=>
  refine decide_eq_false ?_;rintro ⟨y,h1,h2⟩;simp only[List.cons.injEq,and_true]at h1;obtain rfl:=Ho h1;rw[h]at h2;cases h2
theorem QE{l n:List CmM}(h1:l.length<=9223372036854775807)(h2:n.length<=9223372036854775807):CallOkX P 0 8 (pF (fun a b=>aV [fzCms l] [] a b || aV [fzCms n] [] a b) smB):=x9 fun args bs hc=>by
 rcases Bool.or_eq_true _ _▸hc with h | h
 ·obtain⟨rfl,rfl⟩:=gu h;rw[tY];exact Ux h1
 ·obtain⟨rfl,rfl⟩:=gu h;rw[tY];exact Ux h2
theorem SC{d:DkM}(h:d.d3.length<=4194304):CRX P 1 22 [p0, .int .i64 3] (aN d) (aJ 1 d.d3.length 0 (bc d.d3)) (aN d):=
 CRX.of (pol:=fJ) (fl:=[.val]) (ts:=[61]) (n:=50) (bf _) aA aW (MP d 3 (by decide) h)
theorem JF{s:StaM}(h:s.pg=⟨2,2,0,0,0,0⟩):s.rep=s:=by
 cases s;unfold StaM.rep;simp only at h;subst h
 rfl
theorem tH{l:List CmM}(h:lI l=true):l.length<=30/\∀ c∈l,c.ops.length<=30:=by
 unfold lI at h;rw[Bool.and_eq_true]at h;exact⟨of_decide_eq_true h.2,fun c hc=>of_decide_eq_true (List.all_eq_true.1 h.1 c hc)⟩
theorem En{l:List CmM}(hl:l.length<=30)(hE:dL l<=1)(h0:l≠[]):gtI (ak l.length) 0=true/\inI (eU .i64 (ak l.length) 1) l.length=true/\Nat.ble (Nat.add (Nat.add (atN (eU .i64 (ak l.length) 1) 3) 0) 1) (Nat.mul l.length 3)=true/\
  bT (ECm.all l) (Nat.add (atN (eU .i64 (ak l.length) 1) 3) 0) = .int .i64 (dL l)/\gtI (dL l) 1=false:=by
 have hp:=List.length_pos_iff.2 h0;obtain⟨_,l0,l1,l2⟩:=kz h0 (by omega);have l4:=k_ (l:=l) (i:=l.length-1) (by omega);have l5:=mD (n:=l.length) (k:=1) hp (by decide);rw[l1];refine⟨l0,l2,l5,?_,by unfold gtI; exact decide_eq_false (by omega)⟩;rw[nz h0];exact l4
open Classical in
theorem adA{l:List CmM}{m:MsgM}{sh:Int}{k:Nat}(hsl:lI l=true)(hsm:lI m.cs=true)(hst:m.st.length<=30)(hf:fD 0 0 0 l=(0,0))(hE:dL l<=1)(hk:k<l.length)
  (q3:CRX P 0 10 [.int .i64 sh, .int .i64 ((l.length:Int)+1)] [] (.int .i64 (k:Int)) []):CRX P 0 3 [fzCms l, .int .i64 sh,mV m] [] (.bool true) []:=by
 obtain⟨hl,hlo⟩:=tH hsl;obtain⟨hml,hmo⟩:=tH hsm;have he:=Dp hf hE;obtain⟨s0,s1,s2,s3,s4,ot,orest,hC⟩:=chain (k:=k) hf hl hE (by omega);rw[if_pos hk,if_pos hk,decide_eq_true hk]at hC;obtain⟨bm,qm⟩:=O7 (m:=m) (by omega) (by omega) (fun c hc=>by have:=hmo c hc; omega);have qh:=I5 (k:=k) (by omega);have hsec:=NQ hf he hk;have hcs:(kw l k).cs.length<=30:=by show(l.drop k).length<=30; rw[List.length_drop]; omega
 have hel:=Dx hsec;obtain⟨C1,hC1⟩:∃ C,C=(fun a b=>aV [fzCms l] [] a b || aV [fzCms m.cs] [] a b):=⟨_,rfl⟩
 obtain⟨B1,hB1⟩:∃ B,B=smB:=⟨_,rfl⟩
 have q1:CallOkX P 0 8 (pF C1 B1):=by rw[hC1,hB1]; exact QE (by omega) (by omega)
 have c1a:C1 [fzCms l] []=true:=by rw[hC1]; simp only[dk_,fa_,fb_,lb_,me_,nb_,nw_,pg_,pt_,sw_,az,Bool.true_or]
 have c1b:C1 [fzCms m.cs] []=true:=by rw[hC1]; simp only[dk_,fa_,fb_,lb_,me_,nb_,nw_,pg_,pt_,sw_,az,Bool.or_true]
 have b1a:B1 [fzCms l]=true:=by rw[hB1,tY]; exact hsl
 have b1b:B1 [fzCms m.cs]=true:=by rw[hB1,tY]; exact hsm
 have q2:=mX (e:=0) (n:=0) (l:=l) (by omega) (fun c hc=>by have:=hlo c hc; omega);rw[hf]at q2;have q4:=Oh (l:=l) (k:=k) (by omega) (by omega) hf he;obtain⟨C6,hC6⟩:∃ C,C=(fun a b=>aV [pgV bQ,mV (dV k)] [] a b || aV [pgV bQ,mV m] [] a b):=⟨_,rfl⟩
 obtain⟨B6,hB6⟩:∃ B,B=(fun a:List Value=>decide (a=[pgV bQ,mV (dV k)]) || bm):=⟨_,rfl⟩
 have c6a:C6 [pgV bQ,mV (dV k)] []=true:=by rw[hC6]; simp only[dk_,fa_,fb_,lb_,me_,nb_,nw_,pg_,pt_,sw_,az,Bool.true_or]
 have c6b:C6 [pgV bQ,mV m] []=true:=by rw[hC6]; simp only[dk_,fa_,fb_,lb_,me_,nb_,nw_,pg_,pt_,sw_,az,Bool.or_true]
 have b6a:B6 [pgV bQ,mV (dV k)]=true:=by rw[hB6]; show(decide _ || _)=true; rw[decide_eq_true rfl]; rfl
 have q6:CallOkX P 0 14 (pF C6 B6):=x9 fun args bs hc=>by
  rw[hC6]at hc;have hcase:args=[pgV bQ,mV (dV k)]/\bs=[]\/args=[pgV bQ,mV m]/\bs=[]:=by
   rcases Bool.or_eq_true _ _▸hc with h | h
   ·exact Or.inl ⟨(gu h).1.symm,(gu h).2.symm⟩
   ·exact Or.inr ⟨(gu h).1.symm,(gu h).2.symm⟩
  by_cases hh:args=[pgV bQ,mV (dV k)]
  ·have hb:bs=[]:=by rcases hcase with h | h<;>exact h.2
   subst hh hb;rw[b6a]; exact qh
  ·rcases hcase with h | h
   ·exact absurd h.1 hh
   ·obtain⟨rfl,rfl⟩:=h;have:B6 [pgV bQ,mV m]=bm:=by rw[hB6]; show(decide _ || _)=_; rw[decide_eq_false hh]; rfl
    rw[this]; exact qm
 obtain⟨C7,hC7⟩:∃ C,C=(fun(a:List Value) (b:List Blk)=>decide (∃ p,pgE p=0/\a=[pgV p]/\b=[])):=⟨_,rfl⟩
 have q7:CallOkX P 0 52 (bI C7 (.leaf (.int .i64 0,[]))):=Pn fun args bs hc=>by
  rw[hC7]at hc;obtain⟨p,h1,rfl,rfl⟩:=of_decide_eq_true hc;have:=qK p;rw[h1]at this;exact this
 have c7:∀ p,pgE p=0->C7 [pgV p] []=true:=fun p hp=>by rw[hC7]; exact decide_eq_true ⟨p,hp,rfl,rfl⟩
 have c7a:=c7 ⟨2,3,0,2,k,0⟩ (lH 2 (by decide) (by omega) (by omega));have c7b:=c7 ⟨2,3,0,3,k,0⟩ (lH 3 (by decide) (by omega) (by omega));have c7c:=c7 ⟨2,3,0,4,k,0⟩ (lH 4 (by decide) (by omega) (by omega));have c7d:=c7 ⟨2,2,0,0,0,0⟩ (by decide);have e0:=kD (s:=s0) (ph:=1) (f:=0) hC.g0;have e1:=kD hC.g1;have e2:=kD hC.g2;have e3:=kD hC.g3;have e4:=JF hC.g4;have q5:CallOkX P 1 13 (bI (aV [p0,fzCms l, .int .i64 2] l9) (.leaf (ptV 1,stD (s0.at2 1 0)))):=by rw[e0]; exact aZ hC.hrd
 have q8:CallOkX P 7 20 (bI (aV [p0] (stB s1)) (.leaf (fzCms s1.log,stB (s1.at2 2 k)))):=by rw[e1,hC.l1]; exact aZ hC.lg
 have q10:=SC (d:=s4.dk) (by rw[hC.d4]; omega);rw[hC.d4]at q10;have q11:=YD (l:=encS (kw l k)) (s:=kw l k) (by
  have:=TA hsec (by show(k:Int)<=_; omega) (by omega) (fun c hc=>by
   have hce:=kS hf c (List.mem_of_mem_drop hc);have:=yh hce
   exact⟨hce,by omega⟩) []
  rw[List.append_nil]at this
  exact this) (by omega) (by omega) (by show(1:Int)<=2; decide)
 have q12:=ab2 (x:=kw l k) (by omega) (fun c hc=>by have:=hlo c (List.mem_of_mem_drop hc); omega);obtain⟨B,hB⟩:∃ B,B=(fun a:List Value=>decide (a=[p0,mV (dV k)])):=⟨_,rfl⟩
 have ba:B [p0,mV (dV k)]=true:=by rw[hB]; exact decide_eq_true rfl
 obtain⟨bb,b6b⟩:∃ bb,B6 [pgV bQ,mV m]=bb:=⟨_,rfl⟩
 obtain⟨S1,hS1⟩:∃ S,S=(fun a b=>aV [p0,mV (dV k)] (stB s0) a b || (!bb&&aV [p0,mV m] (stB s0) a b)):=⟨_,rfl⟩
 have s1a:S1 [p0,mV (dV k)] (stB s0)=true:=by rw[hS1]; simp only[dk_,fa_,fb_,lb_,me_,nb_,nw_,pg_,pt_,sw_,az,Bool.true_or]
 have hm0:bb=false->bm=false/\m≠dV k:=fun h=>by
  rw[h,hB6]at b6b;have b6b:(decide ([pgV bQ,mV m]=[pgV bQ,mV (dV k)]) || bm)=false:=b6b;rw[Bool.or_eq_false_iff]at b6b;refine⟨b6b.2,fun hm=>?_⟩;have:=of_decide_eq_false b6b.1;rw[hm]at this;exact this rfl
 have s1b:bb=false->S1 [p0,mV m] (stB s0)=true:=fun h=>by rw[hS1,h]; simp only[dk_,fa_,fb_,lb_,me_,nb_,nw_,pg_,pt_,sw_,az,Bool.not_false,Bool.true_and,Bool.or_true]
 have bbF:bb=false->B [p0,mV m]=false:=fun h=>by
  rw[hB];refine decide_eq_false fun hh=>?_;simp only[dk_,fa_,fb_,lb_,me_,nb_,nw_,pg_,pt_,sw_,List.cons.injEq,true_and,and_true]at hh;exact(hm0 h).2 (TG hh)
 have q13:CallOkX P 7 16 (Gg S1 (aV [p0,mV (dV k)] (stB s1)) (aV [p0,mV (dV k)] (stB s2)) (aV [p0,mV (dV k)] (stB s3)) B s0 s1 s2 s3 s4 ot orest (k:Int)):=by
  refine IQ (fun args bs hs hb=>?_) (fun args bs hs hb=>?_) (fun args bs hs=>?_) (fun args bs hs=>?_) (fun args bs hs=>?_)
  ·rw[hB]at hb;obtain rfl:=of_decide_eq_true hb;rw[e1];have:bs=stB s0:=by
    rw[hS1]at hs;rcases Bool.or_eq_true _ _▸hs with h | h
    ·exact(gu h).2.symm
    ·rw[Bool.and_eq_true]at h; exact(gu h.2).2.symm
   rw[this];exact hC.st1
  ·rw[e0];rw[hS1]at hs;rcases Bool.or_eq_true _ _▸hs with h | h
   ·obtain⟨rfl,rfl⟩:=gu h;rw[ba]at hb; cases hb
   ·rw[Bool.and_eq_true]at h;obtain⟨h1,h2⟩:=h;obtain⟨rfl,rfl⟩:=gu h2;have hbb:bb=false:=by cases bb with | false=>rfl | true=>cases h1
    have hbm:=(hm0 hbb).1;rw[hbm]at qm;exact KN hC.t0 hC.g0 qm
  ·obtain⟨rfl,rfl⟩:=gu hs;rw[e2]; exact hC.st2
  ·obtain⟨rfl,rfl⟩:=gu hs;rw[e3]; exact hC.st3
  ·obtain⟨rfl,rfl⟩:=gu hs;rw[e4]; exact hC.st4
 refine CRX.of (pol:=au) (fl:=[]) (ts:=[]) (n:=50) (bf _) aA (Dw q1 (aZ q2) (aZ q3) (aZ q4) q5 q6 q7 q8 (aZ hC.lo) (aZ q10) (aZ q11) (aZ q12) q13) ((rZ C1 (aV [.int .i64 0, .int .i64 0,fzCms l] []) (aV [.int .i64 sh, .int .i64 ((l.length:Int)+1)] []) (aV [fzCms l, .int .i64 (k:Int), .int .i64 1, .int .i64 2] []) (aV [p0,fzCms l, .int .i64 2] l9) C6 C7 (aV [p0] (stB s1)) (aV [fzCms l,pgV ⟨2,3,0,2,k,0⟩] []) (aV [p0, .int .i64 3] (aN s4.dk)) (aV [aJ 1 (encS (kw l k)).length 0 (bc (encS (kw l k)))] []) (aV [oI (kw l k),oI (kw l k)] []) S1 (aV [p0,mV (dV k)] (stB s1)) (aV [p0,mV (dV k)] (stB s2)) (aV [p0,mV (dV k)] (stB s3)) B1 B6 B (0,0) (k:Int) (dV k) m s0 s1 s2 s3 s4 ot orest l (kw l k) (encS (kw l k)) sh).trans ?_);clear q1 q2 q3 q4 q5 q6 q7 q8 q10 q11 q12 q13 qm qh hC1 hB1 hC6 hB6 hC7 hB hS1 hm0 c7;have ht0:=hC.t0.ren;have ht1:=hC.t1.ren;have ht2:=hC.t2.ren;have ht3:=hC.t3.ren;have ht4:=hC.t4.ren;have hto:=hC.to.ren;have g0:=hC.g0;have g1:=hC.g1;have g2:=hC.g2;have g3:=hC.g3;have g4:=hC.g4;have l1:=hC.l1;have l4:=hC.l4;clear hC;have hne:l≠[]:=by intro h; rw[h]at hk; cases hk
 obtain⟨f1,f2,f3,f4,f5⟩:=En hl hE hne;have a1:dI .i64 (ak l.length) 1=(l.length:Int)+1:=by unfold dI ak; rw[wrap64 (by omega) (by omega)]
 have m30:gtI (ak m.st.length) 30=false:=by unfold gtI ak; exact decide_eq_false (by omega)
 have z0:((0:Nat):Int)=0:=rfl;have n0:f_ true=false:=rfl;have n1:f_ false=true:=rfl;have i0:eqI 0 0=true:=rfl;have kk:eqI (k:Int) (k:Int)=true:=by unfold eqI; exact decide_eq_true rfl
 have ek:eqI (ak k) (k:Int)=true:=by unfold eqI ak; exact decide_eq_true rfl
 have et:eqB true true=true:=rfl;have kl:ltI (k:Int) (ak l.length)=true:=by unfold ltI ak; exact decide_eq_true (by omega)
 simp only[dk_,fa_,fb_,lb_,me_,nb_,nw_,pg_,pt_,sw_,fzCms,bG,mV,fV,gG,dV,pgV,pgC,bQ,p0,ptV]at c1a c1b b1a b1b c6a c6b b6a b6b c7a c7b c7c c7d ba;simp only[dk_,fa_,fb_,lb_,me_,nb_,nw_,pg_,pt_,sw_,g0,l1,mV,dV,fV,gG,bQ,pgV,stB,pgC,cZ,rnB,srB,tbB,dkL,List.cons_append,List.nil_append,List.append_assoc,dN,aT,dP,lsV,ptV,p0,aN,dkC,bn,fzCms,cmV,di,bG,az,dG,dn,dR,dE,dF,dD,dw,dC,dB,dQ,dA,aB,aK,aP,Enc.all_ren]at s1a;cases bb with
 |true=>
  clear s1b bbF;simp (disch:=first | omega | (simp only[List.length_append,List.length_drop,List.length_take,List.length_singleton,Nat.add_eq,bJ]<;>omega) | fail) only[dk_,fa_,fb_,lb_,me_,nb_,nw_,pg_,pt_,sw_,e0,e1,e2,e3,e4,ht0,ht1,ht2,ht3,ht4,hto,g0,g1,g2,g3,g4,l1,l4,c1a,c1b,b1a,b1b,c6a,c6b,b6a,b6b,c7a,c7b,c7c,c7d,ba,s1a,f1,f2,f3,f4,f5,a1,m30,z0,n0,n1,i0,kk,ek,et,kl,iI,kF,kG,m_,mV,dV,fV,gG,bQ,pgV,stG,stD,stB,l9,oI,pgC,show Nat.beq 3 3=true from rfl,cZ,rnB,srB,tbB,dkL,List.cons_append,List.nil_append,List.append_assoc,dN,aT,dP,lsV,ptV,p0,aN,dkC,bn,fzCms,cmV,di,bG,az,dG,dn,dR,dE,dF,dD,dw,dC,dB,dQ,dA,aB,aK,aP,Enc.all_ren,aB rfl,aK rfl,aP rfl,aT rfl,aQ,bH,bz,bu,bg,ax,aX,bD,Int.toNat_natCast,aY,aO,bF,bU,dH,bP,bW,dK,Bool.and_self,aG,aF,ay]
 |false=>
  replace s1b:=s1b rfl;replace bbF:=bbF rfl;simp only[dk_,fa_,fb_,lb_,me_,nb_,nw_,pg_,pt_,sw_,g0,l1,mV,dV,fV,gG,bQ,pgV,stB,pgC,cZ,rnB,srB,tbB,dkL,List.cons_append,List.nil_append,List.append_assoc,dN,aT,dP,lsV,ptV,p0,aN,dkC,bn,fzCms,cmV,di,bG,az,dG,dn,dR,dE,dF,dD,dw,dC,dB,dQ,dA,aB,aK,aP,Enc.all_ren]at s1b;simp only[dk_,fa_,fb_,lb_,me_,nb_,nw_,pg_,pt_,sw_,fzCms,bG,mV,fV,gG,dV,p0,ptV]at bbF;simp (disch:=first | omega | (simp only[List.length_append,List.length_drop,List.length_take,List.length_singleton,Nat.add_eq,bJ]<;>omega) | fail) only[dk_,fa_,fb_,lb_,me_,nb_,nw_,pg_,pt_,sw_,e0,e1,e2,e3,e4,ht0,ht1,ht2,ht3,ht4,hto,g0,g1,g2,g3,g4,l1,l4,c1a,c1b,b1a,b1b,c6a,c6b,b6a,b6b,c7a,c7b,c7c,c7d,ba,s1a,s1b,bbF,f1,f2,f3,f4,f5,a1,m30,z0,n0,n1,i0,kk,ek,et,kl,iI,kF,kG,m_,mV,dV,fV,gG,bQ,pgV,stG,stD,stB,l9,oI,pgC,show Nat.beq 3 3=true from rfl,cZ,rnB,srB,tbB,dkL,List.cons_append,List.nil_append,List.append_assoc,dN,aT,dP,lsV,ptV,p0,aN,dkC,bn,fzCms,cmV,di,bG,az,dG,dn,dR,dE,dF,dD,dw,dC,dB,dQ,dA,aB,aK,aP,Enc.all_ren,aB rfl,aK rfl,aP rfl,aT rfl,aQ,bH,bz,bu,bg,ax,aX,bD,Int.toNat_natCast,aY,aO,bF,bU,dH,bP,bW,dK,Bool.and_self,aG,aF,ay]
open Classical in
theorem adD{l:List CmM}{m:MsgM}{sh:Int}{k:Nat}(hsl:lI l=true)(hsm:lI m.cs=true)(hst:m.st.length<=30)(hf:fD 0 0 0 l=(0,0))(hE:dL l<=1)(hk:k=l.length)
  (q3:CRX P 0 10 [.int .i64 sh, .int .i64 ((l.length:Int)+1)] [] (.int .i64 (k:Int)) []):CRX P 0 3 [fzCms l, .int .i64 sh,mV m] [] (.bool true) []:=by
 obtain⟨hl,hlo⟩:=tH hsl;obtain⟨hml,hmo⟩:=tH hsm;have he:=Dp hf hE;obtain⟨s0,s1,s2,s3,s4,ot,orest,hC⟩:=chain (k:=k) hf hl hE (by omega);have hkn:¬k<l.length:=by omega
 rw[if_neg hkn,if_neg hkn,decide_eq_false hkn]at hC;obtain⟨bm,qm⟩:=O7 (m:=m) (by omega) (by omega) (fun c hc=>by have:=hmo c hc; omega);have qh:=I5 (k:=k) (by omega);obtain⟨C1,hC1⟩:∃ C,C=(fun a b=>aV [fzCms l] [] a b || aV [fzCms m.cs] [] a b):=⟨_,rfl⟩
 obtain⟨B1,hB1⟩:∃ B,B=smB:=⟨_,rfl⟩
 have q1:CallOkX P 0 8 (pF C1 B1):=by rw[hC1,hB1]; exact QE (by omega) (by omega)
 have c1a:C1 [fzCms l] []=true:=by rw[hC1]; simp only[dk_,fa_,fb_,lb_,me_,nb_,nw_,pg_,pt_,sw_,az,Bool.true_or]
 have c1b:C1 [fzCms m.cs] []=true:=by rw[hC1]; simp only[dk_,fa_,fb_,lb_,me_,nb_,nw_,pg_,pt_,sw_,az,Bool.or_true]
 have b1a:B1 [fzCms l]=true:=by rw[hB1,tY]; exact hsl
 have b1b:B1 [fzCms m.cs]=true:=by rw[hB1,tY]; exact hsm
 have q2:=mX (e:=0) (n:=0) (l:=l) (by omega) (fun c hc=>by have:=hlo c hc; omega);rw[hf]at q2;have q4:=Oh (l:=l) (k:=k) (by omega) (by omega) hf he;obtain⟨C6,hC6⟩:∃ C,C=(fun a b=>aV [pgV bQ,mV (dV k)] [] a b || aV [pgV bQ,mV m] [] a b):=⟨_,rfl⟩
 obtain⟨B6,hB6⟩:∃ B,B=(fun a:List Value=>decide (a=[pgV bQ,mV (dV k)]) || bm):=⟨_,rfl⟩
 have c6a:C6 [pgV bQ,mV (dV k)] []=true:=by rw[hC6]; simp only[dk_,fa_,fb_,lb_,me_,nb_,nw_,pg_,pt_,sw_,az,Bool.true_or]
 have c6b:C6 [pgV bQ,mV m] []=true:=by rw[hC6]; simp only[dk_,fa_,fb_,lb_,me_,nb_,nw_,pg_,pt_,sw_,az,Bool.or_true]
 have b6a:B6 [pgV bQ,mV (dV k)]=true:=by rw[hB6]; show(decide _ || _)=true; rw[decide_eq_true rfl]; rfl
 have q6:CallOkX P 0 14 (pF C6 B6):=x9 fun args bs hc=>by
  rw[hC6]at hc;have hcase:args=[pgV bQ,mV (dV k)]/\bs=[]\/args=[pgV bQ,mV m]/\bs=[]:=by
   rcases Bool.or_eq_true _ _▸hc with h | h
   ·exact Or.inl ⟨(gu h).1.symm,(gu h).2.symm⟩
   ·exact Or.inr ⟨(gu h).1.symm,(gu h).2.symm⟩
  by_cases hh:args=[pgV bQ,mV (dV k)]
  ·have hb:bs=[]:=by rcases hcase with h | h<;>exact h.2
   subst hh hb;rw[b6a]; exact qh
  ·rcases hcase with h | h
   ·exact absurd h.1 hh
   ·obtain⟨rfl,rfl⟩:=h;have:B6 [pgV bQ,mV m]=bm:=by rw[hB6]; show(decide _ || _)=_; rw[decide_eq_false hh]; rfl
    rw[this]; exact qm
 obtain⟨C7,hC7⟩:∃ C,C=(fun(a:List Value) (b:List Blk)=>decide (∃ p,pgE p=0/\a=[pgV p]/\b=[])):=⟨_,rfl⟩
 have q7:CallOkX P 0 52 (bI C7 (.leaf (.int .i64 0,[]))):=Pn fun args bs hc=>by
  rw[hC7]at hc;obtain⟨p,h1,rfl,rfl⟩:=of_decide_eq_true hc;have:=qK p;rw[h1]at this;exact this
 have c7:∀ p,pgE p=0->C7 [pgV p] []=true:=fun p hp=>by rw[hC7]; exact decide_eq_true ⟨p,hp,rfl,rfl⟩
 have c7a:=c7 ⟨2,3,0,2,k,0⟩ (lH 2 (by decide) (by omega) (by omega));have c7b:=c7 ⟨2,3,0,3,k,0⟩ (lH 3 (by decide) (by omega) (by omega));have c7c:=c7 ⟨2,3,0,4,k,0⟩ (lH 4 (by decide) (by omega) (by omega));have c7d:=c7 ⟨2,2,0,0,0,0⟩ (by decide);have e0:=kD (s:=s0) (ph:=1) (f:=0) hC.g0;have e1:=kD hC.g1;have e2:=kD hC.g2;have e3:=kD hC.g3;have e4:=JF hC.g4;have q5:CallOkX P 1 13 (bI (aV [p0,fzCms l, .int .i64 2] l9) (.leaf (ptV 1,stD (s0.at2 1 0)))):=by rw[e0]; exact aZ hC.hrd
 have q8:CallOkX P 7 20 (bI (aV [p0] (stB s1)) (.leaf (fzCms s1.log,stB (s1.at2 2 k)))):=by rw[e1,hC.l1]; exact aZ hC.lg
 have q10:=SC (d:=s4.dk) (by rw[hC.d4]; decide);rw[hC.d4]at q10;have q11:CRX P 0 21 [aJ 1 ([]:List UInt8).length 0 (bc [])] [] (.tuple ⟨[aJ 3 0 0 [], .int .i64 (ak ([]:List UInt8).length)]⟩) []:=KI;obtain⟨B,hB⟩:∃ B,B=(fun a:List Value=>decide (a=[p0,mV (dV k)])):=⟨_,rfl⟩
 have ba:B [p0,mV (dV k)]=true:=by rw[hB]; exact decide_eq_true rfl
 obtain⟨bb,b6b⟩:∃ bb,B6 [pgV bQ,mV m]=bb:=⟨_,rfl⟩
 obtain⟨S1,hS1⟩:∃ S,S=(fun a b=>aV [p0,mV (dV k)] (stB s0) a b || (!bb&&aV [p0,mV m] (stB s0) a b)):=⟨_,rfl⟩
 have s1a:S1 [p0,mV (dV k)] (stB s0)=true:=by rw[hS1]; simp only[dk_,fa_,fb_,lb_,me_,nb_,nw_,pg_,pt_,sw_,az,Bool.true_or]
 have hm0:bb=false->bm=false/\m≠dV k:=fun h=>by
  rw[h,hB6]at b6b;have b6b:(decide ([pgV bQ,mV m]=[pgV bQ,mV (dV k)]) || bm)=false:=b6b;rw[Bool.or_eq_false_iff]at b6b;refine⟨b6b.2,fun hm=>?_⟩;have:=of_decide_eq_false b6b.1;rw[hm]at this;exact this rfl
 have s1b:bb=false->S1 [p0,mV m] (stB s0)=true:=fun h=>by rw[hS1,h]; simp only[dk_,fa_,fb_,lb_,me_,nb_,nw_,pg_,pt_,sw_,az,Bool.not_false,Bool.true_and,Bool.or_true]
 have bbF:bb=false->B [p0,mV m]=false:=fun h=>by
  rw[hB];refine decide_eq_false fun hh=>?_;simp only[dk_,fa_,fb_,lb_,me_,nb_,nw_,pg_,pt_,sw_,List.cons.injEq,true_and,and_true]at hh;exact(hm0 h).2 (TG hh)
 have q13:CallOkX P 7 16 (Gg S1 (aV [p0,mV (dV k)] (stB s1)) (aV [p0,mV (dV k)] (stB s2)) (aV [p0,mV (dV k)] (stB s3)) B s0 s1 s2 s3 s4 ot orest (k:Int)):=by
  refine IQ (fun args bs hs hb=>?_) (fun args bs hs hb=>?_) (fun args bs hs=>?_) (fun args bs hs=>?_) (fun args bs hs=>?_)
  ·rw[hB]at hb;obtain rfl:=of_decide_eq_true hb;rw[e1];have:bs=stB s0:=by
    rw[hS1]at hs;rcases Bool.or_eq_true _ _▸hs with h | h
    ·exact(gu h).2.symm
    ·rw[Bool.and_eq_true]at h; exact(gu h.2).2.symm
   rw[this];exact hC.st1
  ·rw[e0];rw[hS1]at hs;rcases Bool.or_eq_true _ _▸hs with h | h
   ·obtain⟨rfl,rfl⟩:=gu h;rw[ba]at hb; cases hb
   ·rw[Bool.and_eq_true]at h;obtain⟨h1,h2⟩:=h;obtain⟨rfl,rfl⟩:=gu h2;have hbb:bb=false:=by cases bb with | false=>rfl | true=>cases h1
    have hbm:=(hm0 hbb).1;rw[hbm]at qm;exact KN hC.t0 hC.g0 qm
  ·obtain⟨rfl,rfl⟩:=gu hs;rw[e2]; exact hC.st2
  ·obtain⟨rfl,rfl⟩:=gu hs;rw[e3]; exact hC.st3
  ·obtain⟨rfl,rfl⟩:=gu hs;rw[e4]; exact hC.st4
 refine CRX.of (pol:=au) (fl:=[]) (ts:=[]) (n:=50) (bf _) aA (Dw q1 (aZ q2) (aZ q3) (aZ q4) q5 q6 q7 q8 (aZ hC.lo) (aZ q10) (aZ q11) gm q13) ((V6 C1 (aV [.int .i64 0, .int .i64 0,fzCms l] []) (aV [.int .i64 sh, .int .i64 ((l.length:Int)+1)] []) (aV [fzCms l, .int .i64 (k:Int), .int .i64 1, .int .i64 2] []) (aV [p0,fzCms l, .int .i64 2] l9) C6 C7 (aV [p0] (stB s1)) (aV [fzCms l,pgV ⟨2,3,0,2,k,0⟩] []) (aV [p0, .int .i64 3] (aN s4.dk)) (aV [aJ 1 ([]:List UInt8).length 0 (bc [])] []) (fun _ _=>false) S1 (aV [p0,mV (dV k)] (stB s1)) (aV [p0,mV (dV k)] (stB s2)) (aV [p0,mV (dV k)] (stB s3)) B1 B6 B (0,0) (k:Int) (dV k) m s0 s1 s2 s3 s4 ot orest l ⟨0,0,[]⟩ [] sh).trans ?_);clear q1 q2 q3 q4 q5 q6 q7 q8 q10 q11 q13 qm qh hC1 hB1 hC6 hB6 hC7 hB hS1 hm0 c7;have ht0:=hC.t0.ren;have ht1:=hC.t1.ren;have ht2:=hC.t2.ren;have ht3:=hC.t3.ren;have ht4:=hC.t4.ren;have hto:=hC.to.ren;have g0:=hC.g0;have g1:=hC.g1;have g2:=hC.g2;have g3:=hC.g3;have g4:=hC.g4;have l1:=hC.l1;have l4:=hC.l4;clear hC;have a1:dI .i64 (ak l.length) 1=(l.length:Int)+1:=by unfold dI ak; rw[wrap64 (by omega) (by omega)]
 have m30:gtI (ak m.st.length) 30=false:=by unfold gtI ak; exact decide_eq_false (by omega)
 have z0:((0:Nat):Int)=0:=rfl;have n0:f_ true=false:=rfl;have n1:f_ false=true:=rfl;have i0:eqI 0 0=true:=rfl;have kk:eqI (k:Int) (k:Int)=true:=by unfold eqI; exact decide_eq_true rfl
 have ek:eqI (ak k) (k:Int)=true:=by unfold eqI ak; exact decide_eq_true rfl
 have et:eqB false false=true:=rfl;have d0:([]:List UInt8).length=0:=rfl;have d1:bc ([]:List UInt8)=[]:=rfl;have d2:eqI (ak 0) 0=true:=rfl;have d3:([]:List CmM).length=0:=rfl;have d4:ECm.all ([]:List CmM)=[]:=rfl;have kl:ltI (k:Int) (ak l.length)=false:=by unfold ltI ak; exact decide_eq_false (by omega)
 simp only[dk_,fa_,fb_,lb_,me_,nb_,nw_,pg_,pt_,sw_,fzCms,bG,mV,fV,gG,dV,pgV,pgC,bQ,p0,ptV]at c1a c1b b1a b1b c6a c6b b6a b6b c7a c7b c7c c7d ba;simp only[dk_,fa_,fb_,lb_,me_,nb_,nw_,pg_,pt_,sw_,g0,l1,mV,dV,fV,gG,bQ,pgV,stB,pgC,cZ,rnB,srB,tbB,dkL,List.cons_append,List.nil_append,List.append_assoc,dN,aT,dP,lsV,ptV,p0,aN,dkC,bn,fzCms,cmV,di,bG,az,dG,dn,dR,dE,dF,dD,dw,dC,dB,dQ,dA,aB,aK,aP,Enc.all_ren]at s1a;by_cases hne:l=[]
 ·have f1:gtI (ak l.length) 0=false:=by rw[hne]; rfl
  cases bb with
  |true=>
   clear s1b bbF;simp (disch:=first | omega | (simp only[List.length_append,List.length_drop,List.length_take,List.length_singleton,Nat.add_eq,bJ]<;>omega) | fail) only[dk_,fa_,fb_,lb_,me_,nb_,nw_,pg_,pt_,sw_,e0,e1,e2,e3,e4,ht0,ht1,ht2,ht3,ht4,hto,g0,g1,g2,g3,g4,l1,l4,c1a,c1b,b1a,b1b,c6a,c6b,b6a,b6b,c7a,c7b,c7c,c7d,ba,s1a,a1,m30,z0,n0,n1,i0,kk,ek,et,kl,d0,d1,d2,f1,iI,kF,kG,m_,mV,dV,fV,gG,bQ,pgV,stG,stD,stB,l9,oI,pgC,show Nat.beq 3 3=true from rfl,cZ,rnB,srB,tbB,dkL,List.cons_append,List.nil_append,List.append_assoc,dN,aT,dP,lsV,ptV,p0,aN,dkC,bn,fzCms,cmV,di,bG,az,dG,dn,dR,dE,dF,dD,dw,dC,dB,dQ,dA,aB,aK,aP,Enc.all_ren,aB rfl,aK rfl,aP rfl,aT rfl,aQ,bH,bz,bu,bg,ax,aX,bD,Int.toNat_natCast,aY,aO,bF,bU,dH,bP,bW,dK,Bool.and_self,aG,aF,ay]
  |false=>
   replace s1b:=s1b rfl;replace bbF:=bbF rfl;simp only[dk_,fa_,fb_,lb_,me_,nb_,nw_,pg_,pt_,sw_,g0,l1,mV,dV,fV,gG,bQ,pgV,stB,pgC,cZ,rnB,srB,tbB,dkL,List.cons_append,List.nil_append,List.append_assoc,dN,aT,dP,lsV,ptV,p0,aN,dkC,bn,fzCms,cmV,di,bG,az,dG,dn,dR,dE,dF,dD,dw,dC,dB,dQ,dA,aB,aK,aP,Enc.all_ren]at s1b;simp only[dk_,fa_,fb_,lb_,me_,nb_,nw_,pg_,pt_,sw_,fzCms,bG,mV,fV,gG,dV,p0,ptV]at bbF;simp (disch:=first | omega | (simp only[List.length_append,List.length_drop,List.length_take,List.length_singleton,Nat.add_eq,bJ]<;>omega) | fail) only[dk_,fa_,fb_,lb_,me_,nb_,nw_,pg_,pt_,sw_,e0,e1,e2,e3,e4,ht0,ht1,ht2,ht3,ht4,hto,g0,g1,g2,g3,g4,l1,l4,c1a,c1b,b1a,b1b,c6a,c6b,b6a,b6b,c7a,c7b,c7c,c7d,ba,s1a,s1b,bbF,a1,m30,z0,n0,n1,i0,kk,ek,et,kl,d0,d1,d2,f1,iI,kF,kG,m_,mV,dV,fV,gG,bQ,pgV,stG,stD,stB,l9,oI,pgC,show Nat.beq 3 3=true from rfl,cZ,rnB,srB,tbB,dkL,List.cons_append,List.nil_append,List.append_assoc,dN,aT,dP,lsV,ptV,p0,aN,dkC,bn,fzCms,cmV,di,bG,az,dG,dn,dR,dE,dF,dD,dw,dC,dB,dQ,dA,aB,aK,aP,Enc.all_ren,aB rfl,aK rfl,aP rfl,aT rfl,aQ,bH,bz,bu,bg,ax,aX,bD,Int.toNat_natCast,aY,aO,bF,bU,dH,bP,bW,dK,Bool.and_self,aG,aF,ay]
 ·obtain⟨f1,f2,f3,f4,f5⟩:=En hl hE hne;cases bb with
  |true=>
   clear s1b bbF;simp (disch:=first | omega | (simp only[List.length_append,List.length_drop,List.length_take,List.length_singleton,Nat.add_eq,bJ]<;>omega) | fail) only[dk_,fa_,fb_,lb_,me_,nb_,nw_,pg_,pt_,sw_,e0,e1,e2,e3,e4,ht0,ht1,ht2,ht3,ht4,hto,g0,g1,g2,g3,g4,l1,l4,c1a,c1b,b1a,b1b,c6a,c6b,b6a,b6b,c7a,c7b,c7c,c7d,ba,s1a,a1,m30,z0,n0,n1,i0,kk,ek,et,kl,d0,d1,d2,f1,f2,f3,f4,f5,iI,kF,kG,m_,mV,dV,fV,gG,bQ,pgV,stG,stD,stB,l9,oI,pgC,show Nat.beq 3 3=true from rfl,cZ,rnB,srB,tbB,dkL,List.cons_append,List.nil_append,List.append_assoc,dN,aT,dP,lsV,ptV,p0,aN,dkC,bn,fzCms,cmV,di,bG,az,dG,dn,dR,dE,dF,dD,dw,dC,dB,dQ,dA,aB,aK,aP,Enc.all_ren,aB rfl,aK rfl,aP rfl,aT rfl,aQ,bH,bz,bu,bg,ax,aX,bD,Int.toNat_natCast,aY,aO,bF,bU,dH,bP,bW,dK,Bool.and_self,aG,aF,ay]
  |false=>
   replace s1b:=s1b rfl;replace bbF:=bbF rfl;simp only[dk_,fa_,fb_,lb_,me_,nb_,nw_,pg_,pt_,sw_,g0,l1,mV,dV,fV,gG,bQ,pgV,stB,pgC,cZ,rnB,srB,tbB,dkL,List.cons_append,List.nil_append,List.append_assoc,dN,aT,dP,lsV,ptV,p0,aN,dkC,bn,fzCms,cmV,di,bG,az,dG,dn,dR,dE,dF,dD,dw,dC,dB,dQ,dA,aB,aK,aP,Enc.all_ren]at s1b;simp only[dk_,fa_,fb_,lb_,me_,nb_,nw_,pg_,pt_,sw_,fzCms,bG,mV,fV,gG,dV,p0,ptV]at bbF;simp (disch:=first | omega | (simp only[List.length_append,List.length_drop,List.length_take,List.length_singleton,Nat.add_eq,bJ]<;>omega) | fail) only[dk_,fa_,fb_,lb_,me_,nb_,nw_,pg_,pt_,sw_,e0,e1,e2,e3,e4,ht0,ht1,ht2,ht3,ht4,hto,g0,g1,g2,g3,g4,l1,l4,c1a,c1b,b1a,b1b,c6a,c6b,b6a,b6b,c7a,c7b,c7c,c7d,ba,s1a,s1b,bbF,a1,m30,z0,n0,n1,i0,kk,ek,et,kl,d0,d1,d2,f1,f2,f3,f4,f5,iI,kF,kG,m_,mV,dV,fV,gG,bQ,pgV,stG,stD,stB,l9,oI,pgC,show Nat.beq 3 3=true from rfl,cZ,rnB,srB,tbB,dkL,List.cons_append,List.nil_append,List.append_assoc,dN,aT,dP,lsV,ptV,p0,aN,dkC,bn,fzCms,cmV,di,bG,az,dG,dn,dR,dE,dF,dD,dw,dC,dB,dQ,dA,aB,aK,aP,Enc.all_ren,aB rfl,aK rfl,aP rfl,aT rfl,aQ,bH,bz,bu,bg,ax,aX,bD,Int.toNat_natCast,aY,aO,bF,bU,dH,bP,bW,dK,Bool.and_self,aG,aF,ay]
theorem wW{l:List CmM}{m:MsgM}{sh:Int}{r:Int×Nat}{C1 C2:List Value->List Blk->Bool}{B1:List Value->Bool}(q1:CallOkX P 0 8 (pF C1 B1))(q2:CallOkX P 0 9 (bI C2 (.leaf (ui r,[]))))
  (h:bM P E (Iu C1 C2 (fun _ _=>false) (fun _ _=>false) (fun _ _=>false) (fun _ _=>false) (fun _ _=>false) (fun _ _=>false) (fun _ _=>false) (fun _ _=>false) (fun _ _=>false) (fun _ _=>false) (fun _ _=>false) (fun _ _=>false) (fun _ _=>false) (fun _ _=>false) B1 (fun _=>false) (fun _=>false) true r 0 (dV 0) lD lD lD lD lD tb0 [] ⟨0,0,[]⟩ [] (oI ⟨0,0,[]⟩)) 50 au [] [] 0 3 [fzCms l, .int .i64 sh,mV m] []=some (.bool true,ag [])) :
  CRX P 0 3 [fzCms l, .int .i64 sh,mV m] [] (.bool true) []:=
 CRX.of (pol:=au) (fl:=[]) (ts:=[]) (n:=50) (bf _) aA (Dw q1 q2 gm gm gm (x9 fun _ _ h=>by cases h) gm gm gm gm gm gm (IQ (fun _ _ h=>by cases h) (fun _ _ h=>by cases h) (fun _ _ h=>by cases h) (fun _ _ h=>by cases h) (fun _ _ h=>by cases h))) h
theorem law_crx{l:List CmM}{m:MsgM}{sh:Int}(h1:l.length<=9223372036854775807)(h2:m.st.length<=9223372036854775807)(h3:m.cs.length<=9223372036854775807) :
  CRX P 0 3 [fzCms l, .int .i64 sh,mV m] [] (.bool true) []:=by
 obtain⟨C1,hC1⟩:∃ C,C=(fun a b=>aV [fzCms l] [] a b || aV [fzCms m.cs] [] a b):=⟨_,rfl⟩
 obtain⟨B1,hB1⟩:∃ B,B=smB:=⟨_,rfl⟩
 have q1:CallOkX P 0 8 (pF C1 B1):=by rw[hC1,hB1]; exact QE h1 h3
 have c1a:C1 [fzCms l] []=true:=by rw[hC1]; simp only[dk_,fa_,fb_,lb_,me_,nb_,nw_,pg_,pt_,sw_,az,Bool.true_or]
 have c1b:C1 [fzCms m.cs] []=true:=by rw[hC1]; simp only[dk_,fa_,fb_,lb_,me_,nb_,nw_,pg_,pt_,sw_,az,Bool.or_true]
 have b1a:B1 [fzCms l]=lI l:=by rw[hB1,tY]
 have b1b:B1 [fzCms m.cs]=lI m.cs:=by rw[hB1,tY]
 simp only[dk_,fa_,fb_,lb_,me_,nb_,nw_,pg_,pt_,sw_,fzCms,bG]at c1a c1b b1a b1b;have n0:f_ true=false:=rfl;have n1:f_ false=true:=rfl;cases hsl:lI l with
 |false=>
  rw[hsl]at b1a;refine wW q1 (C2:=fun _ _=>false) (r:=(0,0)) gm ((rZ _ _ _ _ _ _ _ _ _ _ _ _ _ _ _ _ _ _ _ _ _ _ _ _ _ _ _ _ _ _ _ _ _ _).trans ?_);simp only[dk_,fa_,fb_,lb_,me_,nb_,nw_,pg_,pt_,sw_,c1a,b1a,n1,ay,aG]
 |true=>
  rw[hsl]at b1a;obtain⟨hl,hlo⟩:=tH hsl;cases hsm:lI m.cs with
  |false=>
   rw[hsm]at b1b;refine wW q1 (C2:=fun _ _=>false) (r:=(0,0)) gm ((rZ _ _ _ _ _ _ _ _ _ _ _ _ _ _ _ _ _ _ _ _ _ _ _ _ _ _ _ _ _ _ _ _ _ _).trans ?_);simp only[dk_,fa_,fb_,lb_,me_,nb_,nw_,pg_,pt_,sw_,c1a,b1a,c1b,b1b,n0,n1,ay,aG,aF]
  |true=>
   rw[hsm]at b1b;by_cases hst:m.st.length<=30
   ·have m30:gtI (ak m.st.length) 30=false:=by unfold gtI ak; exact decide_eq_false (by omega)
    have q2:=mX (e:=0) (n:=0) (l:=l) (by omega) (fun c hc=>by have:=hlo c hc; omega);by_cases hf:fD 0 0 0 l=(0,0)
    ·by_cases hE:dL l<=1
     ·obtain⟨k,hk,q3⟩:=Zq (x:=sh) (n:=l.length) (by omega);by_cases hkl:k<l.length
      ·exact adA hsl hsm hst hf hE hkl q3
      ·exact adD hsl hsm hst hf hE (by omega) q3
     ·have hne:l≠[]:=by
       intro h;rw[h]at hE;exact hE (by decide)
      have hp:=List.length_pos_iff.2 hne;obtain⟨_,l0,l1,l2⟩:=kz hne (by omega);have l4:=k_ (l:=l) (i:=l.length-1) (by omega);have l5:=mD (n:=l.length) (k:=1) hp (by decide);have l6:=nz hne;rw[l6]at hE;have l4':bT (ECm.all l) (Nat.add (atN ((l.length-1:Nat):Int) 3) 0) = .int .i64 (l[l.length-1]'(by omega)).e:=l4;have l5':Nat.ble (Nat.add (Nat.add (atN ((l.length-1:Nat):Int) 3) 0) 1) (Nat.mul l.length 3)=true:=l5;have gE:gtI (l[l.length-1]'(by omega)).e 1=true:=by unfold gtI; exact decide_eq_true (by omega)
      rw[hf]at q2;have z0:((0:Nat):Int)=0:=rfl;have i0:eqI 0 0=true:=rfl;refine wW q1 (aZ q2) ((rZ _ (aV [.int .i64 0, .int .i64 0,fzCms l] []) _ _ _ _ _ _ _ _ _ _ _ _ _ _ _ _ _ _ _ _ _ _ _ _ _ _ _ _ _ _ _ _).trans ?_);simp only[dk_,fa_,fb_,lb_,me_,nb_,nw_,pg_,pt_,sw_,c1a,b1a,c1b,b1b,m30,z0,i0,l0,l1,l2,l4',l5',gE,iI,kF,dw,fzCms,bG,az,n0,n1,show Nat.beq 3 3=true from rfl,Bool.and_self,ay,aG,aF]
    ·have hn:f_ (Bool.and (eqI (fD 0 0 0 l).1 0) (Bool.and (eqI ((fD 0 0 0 l).2:Int) 0) true))=true:=by
      cases h5:eqI (fD 0 0 0 l).1 0 with
      |false=>rfl
      |true=>exact absurd (xN l 0 0 0 (by simpa [eqI]using h5)) hf
     refine wW q1 (aZ q2) ((rZ _ (aV [.int .i64 0, .int .i64 0,fzCms l] []) _ _ _ _ _ _ _ _ _ _ _ _ _ _ _ _ _ _ _ _ _ _ _ _ _ _ _ _ _ _ _ _).trans ?_);simp only[dk_,fa_,fb_,lb_,me_,nb_,nw_,pg_,pt_,sw_,c1a,b1a,c1b,b1b,m30,hn,fzCms,bG,az,n0,n1,ay,aG,aF]
   ·have m30:gtI (ak m.st.length) 30=true:=by unfold gtI ak; exact decide_eq_true (by omega)
    refine wW q1 (C2:=fun _ _=>false) (r:=(0,0)) gm ((rZ _ _ _ _ _ _ _ _ _ _ _ _ _ _ _ _ _ _ _ _ _ _ _ _ _ _ _ _ _ _ _ _ _ _).trans ?_);simp only[dk_,fa_,fb_,lb_,me_,nb_,nw_,pg_,pt_,sw_,c1a,b1a,c1b,b1b,m30,n0,ay,aG,aF]
end Go.VS.Tryz
end

noncomputable section
namespace Go.VS

section
variable{P:Program}
theorem add_zero(a:Addr):a.add 0=a:=by unfold Addr.add; simp
theorem Ha{w:World}{a:Addr}{v:Value}(h:w.cell? (a.add 0)=some v):a.spot=none:=by
 rw[add_zero]at h;unfold World.cell? at h;split at h
 ·cases hs:a.spot with
  |none=>rfl
  |some s=>rw[hs]at h; cases h
 ·cases h
theorem yC{w:World}{a:Addr}{i:Nat}{v:Value}(hs:a.spot=none)(h:w.cell? (a.add i)=some v):∃ c e f,w.heap[a.block]? = some (.cells c e f)/\c[a.off+i]? = some v:=by
 have:a.add i=⟨a.block,a.off+i,none⟩:=by
  obtain⟨b,o,s⟩:=a;cases hs; simp[Addr.add]
 rw[this]at h;unfold World.cell? at h;split at h
 ·rename_i c e f hg;exact⟨c,e,f,hg,by simpa using h⟩
 ·cases h
theorem abG{w:World}{a:Addr}{cs:List Value}{n sz cap:Nat}(hsz:sz≠0)(hcap:n<=cap)(hlen:cs.length=n*sz)(hf:gX cs=true)(hc:∀ i v,cs[i]? = some v->w.cell? (a.add i)=some v)(h1:∀ v∈cs,v.oneCell'=true):VR (envOf w) (aJ sz n 0 cs) (.slice (some a) n cap):=by
 refine sV hsz ?_;unfold ji;rw[if_neg hsz];refine⟨hlen,?_⟩;by_cases hn:n=0
 ·exact Or.inr (Or.inl ⟨hn,a,cap,by rw[hn],fun h=>absurd rfl h⟩)
 ·have h0:0<cs.length:=by rw[hlen]; exact Nat.mul_pos (by omega) (by omega)
  obtain⟨v0,hv0⟩:∃ v,cs[0]? = some v:=⟨_,List.getElem?_eq_getElem h0⟩
  have g2:=Ha (hc 0 v0 hv0);obtain⟨c,e,f,g1,g3⟩:=yC g2 (hc 0 v0 hv0);have hget:∀ i v,cs[i]? = some v->c[a.off+i]? = some v:=by
   intro i v hi;obtain⟨c',e',f',k1,k3⟩:=yC g2 (hc i v hi);rw[g1]at k1;simp only[Option.some.injEq,Obj.cells.injEq]at k1;obtain⟨rfl,rfl,rfl⟩:=k1;exact k3
  have hseg:(c.toList.drop a.off).take cs.length=cs:=by
   apply List.ext_getElem?;intro i;rw[List.getElem?_take];split
   ·rename_i hi;rw[List.getElem?_drop,List.getElem?_eq_getElem hi];have:=hget i _ (List.getElem?_eq_getElem hi);rw[Array.getElem?_toList]; exact this
   ·rename_i hi;rw[List.getElem?_eq_none (by omega)]
  have hle:a.off+cs.length<=c.size:=by
   have:=hget (cs.length-1) _ (List.getElem?_eq_getElem (by omega));have:=(Array.getElem?_eq_some_iff.1 this).1;omega
  have haddr:a=⟨a.block,a.off,none⟩:=by
   obtain⟨b,o,s⟩:=a;cases g2; rfl
  have henv:envOf w (Int.negSucc a.block)=some ⟨a.block,0,0,0,some (.cells c e f),false⟩:=by simp[envOf,g1]
  refine Or.inr (Or.inr ⟨by omega,a.block,a.off,cap,c,e,f,_,by rw[<-haddr],fun h=>absurd rfl h,henv,rfl,hle,?_,?_⟩)
  ·rw[uz,hseg];exact VRL.flat_refl _ hf
  ·exact hcap
variable{H:Type}{enc:TypeId×Value->H}
open Go.ChangeShapes in
/-- A list of ints that came in. -/
theorem acr{w:World}{t e:TypeId}{k:IntKind}{v:Value}{d:DataW H}{ps:List MemPlace}{r:Reach}{b0:Nat}(ht:P.underlying t=some (.slice e))(he:P.underlying e=some (.int k))(hc:P.cellsOf e=1)
  (hval:Value.okWide P w r b0 t v) (h:DataW.Trod enc P w 0 (fun _=>true) true t v d ps) :
  ∃ zs rest:List Int,VR (envOf w) (aJ 1 zs.length 0 (zs.map (Value.int k))) v/\(d = .nil/\zs=[]\/d = .slice (lits k zs) (lits k rest))/\∀ n∈zs,(Lit.int k n).wf=true:=by
 have hv:v.cells=#[v]:=by
  unfold Value.okWide at hval;rw[ht]at hval;have:=Jc hval;cases v<;>first | rfl | simp[Value.oneCell']at this
 obtain⟨fuel,h⟩:=h;rw[hv]at h;rcases open_ints ht he hc h with⟨h1,h2⟩ | ⟨a,len,cap,zs,h1,h2,h3,h4,h5,h6,h7,h8⟩
 ·simp only[List.cons.injEq,and_true]at h1;subst h1;simp only[Prod.mk.injEq]at h2;refine⟨[],[],?_,Or.inl ⟨h2.1,rfl⟩,by simp⟩;refine sV (by decide) ?_;unfold ji;rw[if_neg (by decide)];exact⟨rfl,Or.inl ⟨rfl,by omega,rfl⟩⟩
 ·simp only[List.cons.injEq,and_true]at h1;subst h1;simp only[if_true]at h5;simp only[Prod.mk.injEq]at h6;refine⟨zs.take len,zs.drop len,?_,Or.inr h6.1,fun n hn=>h8 n (List.mem_of_mem_take hn)⟩;have hl:(zs.take len).length=len:=by rw[List.length_take]; omega
  rw[hl];refine abG (by decide) h3 (by rw[List.length_map,hl,Nat.mul_one]) ?_ ?_ ?_
  ·generalize zs.take len=l
   induction l with
   |nil=>rfl
   |cons x l ih=>simpa [gX,flat]using ih
  ·intro i v hi;rw[List.getElem?_map,Option.map_eq_some_iff]at hi;obtain⟨n,hn,rfl⟩:=hi;have hi:i<len:=by have:=(List.getElem?_eq_some_iff.1 hn).1; omega
   rw[h7 i (by omega)];rw[List.getElem?_take,if_pos hi]at hn;rw[List.getD_eq_getElem?_getD,hn]; rfl
  ·intro v hv;obtain⟨n,_,rfl⟩:=List.mem_map.1 hv
   rfl
end
section
variable{P:Program}
theorem Nz{w:World}{a:Addr}{ms cs:List Value}{n sz cap:Nat}(hsz:sz≠0)(hcap:n<=cap)(hlen:cs.length=n*sz)(hm:VRL (envOf w) ms cs)(hc:∀ i v,cs[i]? = some v->w.cell? (a.add i)=some v):VR (envOf w) (aJ sz n 0 ms) (.slice (some a) n cap):=by
 have hml:=hm.length;refine sV hsz ?_;unfold ji;rw[if_neg hsz,hml];refine⟨hlen,?_⟩;by_cases hn:n=0
 ·exact Or.inr (Or.inl ⟨hn,a,cap,by rw[hn],fun h=>absurd rfl h⟩)
 ·have h0:0<cs.length:=by rw[hlen]; exact Nat.mul_pos (by omega) (by omega)
  obtain⟨v0,hv0⟩:∃ v,cs[0]? = some v:=⟨_,List.getElem?_eq_getElem h0⟩
  have g2:=Ha (hc 0 v0 hv0);obtain⟨c,e,f,g1,g3⟩:=yC g2 (hc 0 v0 hv0);have hget:∀ i v,cs[i]? = some v->c[a.off+i]? = some v:=by
   intro i v hi;obtain⟨c',e',f',k1,k3⟩:=yC g2 (hc i v hi);rw[g1]at k1;simp only[Option.some.injEq,Obj.cells.injEq]at k1;obtain⟨rfl,rfl,rfl⟩:=k1;exact k3
  have hseg:(c.toList.drop a.off).take cs.length=cs:=by
   apply List.ext_getElem?;intro i;rw[List.getElem?_take];split
   ·rename_i hi;rw[List.getElem?_drop,List.getElem?_eq_getElem hi];have:=hget i _ (List.getElem?_eq_getElem hi);rw[Array.getElem?_toList]; exact this
   ·rename_i hi;rw[List.getElem?_eq_none (by omega)]
  have hle:a.off+cs.length<=c.size:=by
   have:=hget (cs.length-1) _ (List.getElem?_eq_getElem (by omega));have:=(Array.getElem?_eq_some_iff.1 this).1;omega
  have haddr:a=⟨a.block,a.off,none⟩:=by
   obtain⟨b,o,s⟩:=a;cases g2; rfl
  have henv:envOf w (Int.negSucc a.block)=some ⟨a.block,0,0,0,some (.cells c e f),false⟩:=by simp[envOf,g1]
  refine Or.inr (Or.inr ⟨by omega,a.block,a.off,cap,c,e,f,_,by rw[<-haddr],fun h=>absurd rfl h,henv,rfl,hle,?_,?_⟩)
  ·rw[uz,hseg];exact hm
  ·exact hcap
theorem Ky{β:Env}{α:Type}(f:α->List Value)(cs:Nat->List Value)(A:Nat->α):∀ n,(∀ i,i<n->VRL β (f (A i)) (cs i))->VRL β (((List.range n).map A).flatMap f) ((List.range n).flatMap cs)
 |0,_=>VRL.nil
 |n+1,h=>by
  rw[List.range_succ,List.map_append,List.flatMap_append,List.flatMap_append];refine(Ky f cs A n fun i hi=>h i (by omega)).append ?_;simpa using h n (by omega)
theorem flat_get{cs:Nat->List Value}{sz:Nat}(hs:sz≠0):∀ n,(∀ i,i<n->(cs i).length=sz)->((List.range n).flatMap cs).length=n*sz/\∀ j v,((List.range n).flatMap cs)[j]? = some v->∃ i k,i<n/\j=i*sz+k/\k<sz/\(cs i)[k]? = some v
 |0,_=>by simp
 |n+1,h=>by
  obtain⟨h1,h2⟩:=flat_get hs n fun i hi=>h i (by omega);rw[List.range_succ,List.flatMap_append];have hn:=h n (by omega);simp only[List.flatMap_cons,List.flatMap_nil,List.append_nil];refine⟨by rw[List.length_append,h1,hn,Nat.add_mul]; omega,fun j v hj=>?_⟩;by_cases hlt:j<n*sz
  ·rw[List.getElem?_append_left (by rw[h1]; exact hlt)]at hj;obtain⟨i,k,a,b,c,d⟩:=h2 j v hj;exact⟨i,k,by omega,b,c,d⟩
  ·rw[List.getElem?_append_right (by rw[h1]; omega),h1]at hj;have:=(List.getElem?_eq_some_iff.1 hj).1;exact⟨n,j-n*sz,by omega,by omega,by omega,hj⟩
variable{H:Type}{enc:TypeId×Value->H}
open Go.ChangeShapes Go.Deep in
/-- A list that came in: of each element it is known what it is. -/
theorem rE{α:Type}(f:α->List Value){sz:Nat}(hsz:sz≠0){good:α->Prop}{w:World}{t e:TypeId}{fuel:Nat}{cs:List Value}{x:DataW H×List MemPlace}(ht:P.underlying t=some (.slice e))(hc:P.cellsOf e=sz)
  (hel:∀ n cs' y,cs'.length=sz->DataW.trod enc P w 0 (fun _=>true) true n e cs'=some y->∃ a,VRL (envOf w) (f a) cs'/\good a)
  (h:DataW.trod enc P w 0 (fun _=>true) true fuel t cs=some x) :
  ∃ v,cs=[v]/\∃ l:List α,VR (envOf w) (aJ sz l.length 0 (l.flatMap f)) v/\(∀ a∈l,good a)/\l.length<=maxLen:=by
 rcases open_slice ht h with⟨h1,h2⟩ | ⟨a,len,cap,m,n,D,Pl,h1,_,h3,h4,h5,_,h7⟩
 ·refine⟨_,h1,[],?_,by simp,Nat.zero_le _⟩;refine sV hsz ?_;unfold ji;rw[if_neg hsz];exact⟨by simp,Or.inl ⟨rfl,by omega,rfl⟩⟩
 ·refine⟨_,h1,?_⟩;rw[hc]at h7;have hlm:len<=m:=by rw[h5]; split<;>omega
  have q:∀ i,i<len->∃ p:α×List Value,w.cells? 0 (a.add (i*sz)) sz=some p.2/\p.2.length=sz/\VRL (envOf w) (f p.1) p.2/\good p.1:=fun i hi=>by
   obtain⟨cs',k1,k2⟩:=h7 i (by omega);have hl:=(World.cells?_some k1).1;have hl:cs'.length=sz:=by first | exact hl.2 | exact hl.1 | exact hl | exact(World.cells?_some k1).2.1
   obtain⟨a0,k3,k4⟩:=hel n cs' _ hl k2;exact⟨(a0,cs'),k1,hl,k3,k4⟩
  by_cases hl0:len=0
  ·subst hl0;refine⟨[],Nz hsz h3 (by simp:([]:List Value).length=0*sz) VRL.nil (fun i v hv=>by simp at hv),by simp,Nat.zero_le _⟩
  ·have inh:Inhabited (α×List Value):=⟨(q 0 (by omega)).choose⟩
   obtain⟨A,hA⟩:=choose_lt q;refine⟨(List.range len).map fun i=>(A i).1,?_,?_,?_⟩
   ·obtain⟨l1,l2⟩:=flat_get (cs:=fun i=>(A i).2) hsz len fun i hi=>(hA i hi).2.1;rw[show((List.range len).map fun i=>(A i).1).length=len by simp];refine Nz hsz h3 l1 (Ky f (fun i=>(A i).2) (fun i=>(A i).1) len fun i hi=>(hA i hi).2.2.1) fun j v hj=>?_;obtain⟨i,k,hi,hjk,hk,hv⟩:=l2 j v hj;have hcell:=(World.cells?_some (hA i hi).1)
    subst hjk;rw[<-add_add];first | exact hcell.2.2 k v hv | (have:=hcell.2.2 k hk; rw[this]; exact hv) | (have:=hcell.2 k hk; rw[this]; exact hv) | (have:=hcell.2.2 k; rw[hv]at this; exact this)
   ·intro b hb;obtain⟨i,hi,rfl⟩:=List.mem_map.1 hb;exact(hA i (List.mem_range.1 hi)).2.2.2
   ·simp; omega
end
end Go.VS
end

noncomputable section
namespace Go.VS.Tryz
open Go.VS Go.RowKit Go.ChangeShapes
set_option maxRecDepth 1000000
section
theorem jR{α:Type}{xs:List α}{n i:Nat}(h:xs.length=n)(hi:i<n):∃ y,xs[i]? = some y:=⟨xs[i]'(by omega),List.getElem?_eq_getElem (by omega)⟩
variable{H:Type}{enc:TypeId×Value->H}
theorem aaz{W:World}{n:Nat}{cs:List Value}{y:DataW H×List MemPlace}(hl:cs.length=3)(h:DataW.trod enc P W 0 (fun _=>true) true n 143 cs=some y):∃ o:OpM,VRL (envOf W) (EOp.f o) cs/\True:=by
 match cs,hl with
 |[c0,c1,c2],_=>
  obtain⟨xs,m,_,_,_,hx,hall⟩:=DataW.trod_struct Go.Proofs.Tryz.underlying143 h;have hx:xs.length=3:=hx;have cb:P.cellsOf 4=1:=by kernel_rfl
  have cs:P.cellsOf 9=1:=by kernel_rfl
  have h0:=hall 0 _ rfl;have h1:=hall 1 _ rfl;have h2:=hall 2 _ rfl;obtain⟨y0,e0⟩:=jR hx (i:=0) (by decide);obtain⟨y1,e1⟩:=jR hx (i:=1) (by decide);obtain⟨y2,e2⟩:=jR hx (i:=2) (by decide);have h0:DataW.trod enc P W 0 (fun _=>true) true m 4 (([c0,c1,c2].drop 0).take (P.cellsOf 4))=some y0:=h0.trans e0;have h1:DataW.trod enc P W 0 (fun _=>true) true m 9 (([c0,c1,c2].drop 1).take (P.cellsOf 9))=some y1:=h1.trans e1;have h2:DataW.trod enc P W 0 (fun _=>true) true m 9 (([c0,c1,c2].drop 2).take (P.cellsOf 9))=some y2:=h2.trans e2;rw[cb]at h0;rw[cs]at h1 h2;obtain⟨p,q0,_⟩:=DataW.trod_bool Go.Proofs.Tryz.underlying4 h0;obtain⟨k,q1,_⟩:=DataW.trod_string Go.Proofs.Tryz.underlying9 h1;obtain⟨v,q2,_⟩:=DataW.trod_string Go.Proofs.Tryz.underlying9 h2;replace q0:[c0]=[.bool p]:=q0;replace q1:[c1]=[.string k]:=q1;replace q2:[c2]=[.string v]:=q2;simp only[List.cons.injEq,and_true]at q0 q1 q2;subst q0 q1 q2;exact⟨⟨p,k,v⟩,VRL.cons rfl (VRL.cons rfl (VRL.cons rfl VRL.nil)),trivial⟩
theorem YY{W:World}{n:Nat}{cs:List Value}{y:DataW H×List MemPlace}(hl:cs.length=2)(h:DataW.trod enc P W 0 (fun _=>true) true n 104 cs=some y):∃ o:Int×Int,VRL (envOf W) (ESa.f o) cs/\True:=by
 match cs,hl with
 |[c0,c1],_=>
  obtain⟨xs,m,_,_,_,hx,hall⟩:=DataW.trod_struct Go.Proofs.Tryz.underlying104 h;have hx:xs.length=2:=hx;have ci:P.cellsOf 3=1:=by kernel_rfl
  have h0:=hall 0 _ rfl;have h1:=hall 1 _ rfl;obtain⟨y0,e0⟩:=jR hx (i:=0) (by decide);obtain⟨y1,e1⟩:=jR hx (i:=1) (by decide);have h0:DataW.trod enc P W 0 (fun _=>true) true m 3 (([c0,c1].drop 0).take (P.cellsOf 3))=some y0:=h0.trans e0;have h1:DataW.trod enc P W 0 (fun _=>true) true m 3 (([c0,c1].drop 1).take (P.cellsOf 3))=some y1:=h1.trans e1;rw[ci]at h0 h1;obtain⟨p,q0,_,_⟩:=DataW.trod_int Go.Proofs.Tryz.underlying3 h0;obtain⟨k,q1,_,_⟩:=DataW.trod_int Go.Proofs.Tryz.underlying3 h1;replace q0:[c0]=[.int .i64 p]:=q0;replace q1:[c1]=[.int .i64 k]:=q1;simp only[List.cons.injEq,and_true]at q0 q1;subst q0 q1;exact⟨(p,k),VRL.cons rfl (VRL.cons rfl VRL.nil),trivial⟩
theorem Nu{W:World}{n:Nat}{cs:List Value}{y:DataW H×List MemPlace}(hl:cs.length=3)(h:DataW.trod enc P W 0 (fun _=>true) true n 35 cs=some y):∃ c:CmM,VRL (envOf W) (ECm.f c) cs/\True:=by
 match cs,hl with
 |[c0,c1,c2],_=>
  obtain⟨xs,m,_,_,_,hx,hall⟩:=DataW.trod_struct Go.Proofs.Tryz.underlying35 h;have hx:xs.length=3:=hx;have ci:P.cellsOf 3=1:=by kernel_rfl
  have co:P.cellsOf 33=1:=by kernel_rfl
  have h0:=hall 0 _ rfl;have h1:=hall 1 _ rfl;have h2:=hall 2 _ rfl;obtain⟨y0,e0⟩:=jR hx (i:=0) (by decide);obtain⟨y1,e1⟩:=jR hx (i:=1) (by decide);obtain⟨y2,e2⟩:=jR hx (i:=2) (by decide);have h0:DataW.trod enc P W 0 (fun _=>true) true m 3 (([c0,c1,c2].drop 0).take (P.cellsOf 3))=some y0:=h0.trans e0;have h1:DataW.trod enc P W 0 (fun _=>true) true m 3 (([c0,c1,c2].drop 1).take (P.cellsOf 3))=some y1:=h1.trans e1;have h2:DataW.trod enc P W 0 (fun _=>true) true m 33 (([c0,c1,c2].drop 2).take (P.cellsOf 33))=some y2:=h2.trans e2;rw[ci]at h0 h1;rw[co]at h2;obtain⟨a0,q0,_,_⟩:=DataW.trod_int Go.Proofs.Tryz.underlying3 h0;obtain⟨a1,q1,_,_⟩:=DataW.trod_int Go.Proofs.Tryz.underlying3 h1;obtain⟨v,q2,l,hv,_,_⟩:=rE EOp.f (sz:=3) (by decide) (good:=fun _=>True) Go.Proofs.Tryz.underlying33 (by kernel_rfl) (fun n cs' y hl h=>aaz hl h) h2;replace q0:[c0]=[.int .i64 a0]:=q0;replace q1:[c1]=[.int .i64 a1]:=q1;replace q2:[c2]=[v]:=q2;simp only[List.cons.injEq,and_true]at q0 q1 q2;subst q0 q1 q2;exact⟨⟨a0,a1,l⟩,VRL.cons rfl (VRL.cons rfl (VRL.cons hv VRL.nil)),trivial⟩
theorem MS{W:World}{v:Value}{r:Reach}{b0:Nat}{t e:TypeId}(ht:P.underlying t=some (.slice e))(hval:Value.okWide P W r b0 t v):v.cells=#[v]:=by
 unfold Value.okWide at hval;rw[ht]at hval;have:=Jc hval;cases v<;>first | rfl | simp[Value.oneCell']at this
theorem open_cms{W:World}{v:Value}{d:DataW H}{ps:List MemPlace}{r:Reach}{b0:Nat}(hval:Value.okWide P W r b0 22 v)(h:DataW.Trod enc P W 0 (fun _=>true) true 22 v d ps) :
  ∃ l:List CmM,VR (envOf W) (fzCms l) v/\l.length<=9223372036854775807:=by
 have hv:=MS Go.Proofs.Tryz.underlying22 hval;obtain⟨fuel,h⟩:=h;rw[hv]at h;obtain⟨v',e,l,h1,_,h3⟩:=rE ECm.f (sz:=3) (by decide) (good:=fun _=>True) Go.Proofs.Tryz.underlying22 (by kernel_rfl) (fun n cs' y hl h=>Nu hl h) h;simp only[List.cons.injEq,and_true]at e;subst e;exact⟨l,h1,h3⟩
theorem open_msg{W:World}{v:Value}{d:DataW H}{ps:List MemPlace}{r:Reach}{b0:Nat}(hval:Value.okWide P W r b0 26 v)(h:DataW.Trod enc P W 0 (fun _=>true) true 26 v d ps) :
  ∃ m:MsgM,VR (envOf W) (mV m) v/\m.st.length<=9223372036854775807/\m.cs.length<=9223372036854775807:=by
 obtain⟨cs,rfl,hsz⟩:=WideShapes.okWide_struct Go.Proofs.Tryz.underlying26 hval;have hn:P.cellsOf 26=8:=by kernel_rfl
 rw[hn]at hsz;obtain⟨cs⟩:=cs;obtain⟨fuel,h⟩:=h;have hsz:cs.length=8:=hsz
 match cs,hsz with
 |[c0,c1,c2,c3,c4,c5,c6,c7],_=>
  have h:DataW.trod enc P W 0 (fun _=>true) true fuel 26 [c0,c1,c2,c3,c4,c5,c6,c7]=some (d,ps):=h;obtain⟨xs,m,_,_,_,hx,hall⟩:=DataW.trod_struct Go.Proofs.Tryz.underlying26 h;have hx:xs.length=8:=hx;have ci:P.cellsOf 3=1:=by kernel_rfl
  have cr:P.cellsOf 23=1:=by kernel_rfl
  have co:P.cellsOf 24=1:=by kernel_rfl
  have cc:P.cellsOf 22=1:=by kernel_rfl
  obtain⟨y0,e0⟩:=jR hx (i:=0) (by decide);obtain⟨y1,e1⟩:=jR hx (i:=1) (by decide);obtain⟨y2,e2⟩:=jR hx (i:=2) (by decide);obtain⟨y3,e3⟩:=jR hx (i:=3) (by decide);obtain⟨y4,e4⟩:=jR hx (i:=4) (by decide);obtain⟨y5,e5⟩:=jR hx (i:=5) (by decide);obtain⟨y6,e6⟩:=jR hx (i:=6) (by decide);obtain⟨y7,e7⟩:=jR hx (i:=7) (by decide);have h0:=hall 0 _ rfl;have h0:DataW.trod enc P W 0 (fun _=>true) true m 3 (([c0,c1,c2,c3,c4,c5,c6,c7].drop 0).take (P.cellsOf 3))=some y0:=h0.trans e0;have h1:=hall 1 _ rfl;have h1:DataW.trod enc P W 0 (fun _=>true) true m 3 (([c0,c1,c2,c3,c4,c5,c6,c7].drop 1).take (P.cellsOf 3))=some y1:=h1.trans e1;have h2:=hall 2 _ rfl;have h2:DataW.trod enc P W 0 (fun _=>true) true m 23 (([c0,c1,c2,c3,c4,c5,c6,c7].drop 2).take (P.cellsOf 23))=some y2:=h2.trans e2;have h3:=hall 3 _ rfl;have h3:DataW.trod enc P W 0 (fun _=>true) true m 3 (([c0,c1,c2,c3,c4,c5,c6,c7].drop 3).take (P.cellsOf 3))=some y3:=h3.trans e3;have h4:=hall 4 _ rfl;have h4:DataW.trod enc P W 0 (fun _=>true) true m 24 (([c0,c1,c2,c3,c4,c5,c6,c7].drop 4).take (P.cellsOf 24))=some y4:=h4.trans e4;have h5:=hall 5 _ rfl;have h5:DataW.trod enc P W 0 (fun _=>true) true m 3 (([c0,c1,c2,c3,c4,c5,c6,c7].drop 5).take (P.cellsOf 3))=some y5:=h5.trans e5;have h6:=hall 6 _ rfl;have h6:DataW.trod enc P W 0 (fun _=>true) true m 3 (([c0,c1,c2,c3,c4,c5,c6,c7].drop 6).take (P.cellsOf 3))=some y6:=h6.trans e6;have h7:=hall 7 _ rfl;have h7:DataW.trod enc P W 0 (fun _=>true) true m 22 (([c0,c1,c2,c3,c4,c5,c6,c7].drop 7).take (P.cellsOf 22))=some y7:=h7.trans e7;rw[ci]at h0 h1 h3 h5 h6;rw[cr]at h2;rw[co]at h4;rw[cc]at h7;obtain⟨a0,q0,_,_⟩:=DataW.trod_int Go.Proofs.Tryz.underlying3 h0;obtain⟨a1,q1,_,_⟩:=DataW.trod_int Go.Proofs.Tryz.underlying3 h1;obtain⟨a2,q2,_,_⟩:=DataW.trod_int Go.Proofs.Tryz.underlying23 h2;obtain⟨a3,q3,_,_⟩:=DataW.trod_int Go.Proofs.Tryz.underlying3 h3;obtain⟨v4,q4,l4,hv4,_,m4⟩:=rE ESa.f (sz:=2) (by decide) (good:=fun _=>True) Go.Proofs.Tryz.underlying24 (by kernel_rfl) (fun n cs' y hl h=>YY hl h) h4;obtain⟨a5,q5,_,_⟩:=DataW.trod_int Go.Proofs.Tryz.underlying3 h5;obtain⟨a6,q6,_,_⟩:=DataW.trod_int Go.Proofs.Tryz.underlying3 h6;obtain⟨v7,q7,l7,hv7,_,m7⟩:=rE ECm.f (sz:=3) (by decide) (good:=fun _=>True) Go.Proofs.Tryz.underlying22 (by kernel_rfl) (fun n cs' y hl h=>Nu hl h) h7;replace q0:[c0]=[.int .i64 a0]:=q0;replace q1:[c1]=[.int .i64 a1]:=q1;replace q2:[c2]=[.int .u8 a2]:=q2;replace q3:[c3]=[.int .i64 a3]:=q3;replace q4:[c4]=[v4]:=q4;replace q5:[c5]=[.int .i64 a5]:=q5;replace q6:[c6]=[.int .i64 a6]:=q6;replace q7:[c7]=[v7]:=q7;simp only[List.cons.injEq,and_true]at q0 q1 q2 q3 q4 q5 q6 q7;subst q0 q1 q2 q3 q4 q5 q6 q7;exact⟨⟨a0,a1,a2,a3,l4,a5,a6,l7⟩,⟨_,rfl,VRL.cons rfl (VRL.cons rfl (VRL.cons rfl (VRL.cons rfl (VRL.cons hv4 (VRL.cons rfl (VRL.cons rfl (VRL.cons hv7 VRL.nil)))))))⟩,m4,m7⟩
end
end Go.VS.Tryz
end

noncomputable section
namespace Go.Proofs.YtepmajonlgbdlaaGreat.reconcileLeft
open Go.ChangeShapes Go.WideShapes Go.ChangeAt Go.RowKit
set_option maxRecDepth 1000000
theorem own:ownKnob Tryz.prog.godebug=none:=Facts.own
theorem laidOut:laidOutB Tryz.prog=true:=Facts.laid
theorem walk{l:List VS.Tryz.CmM}{m:VS.Tryz.MsgM}{sh:Int}{v0 v2:Value}(h1:l.length<=9223372036854775807)(h2:m.st.length<=9223372036854775807)(h3:m.cs.length<=9223372036854775807)(w:World)(g0:VS.VR (VS.envOf w) (VS.Tryz.fzCms l) v0)(g2:VS.VR (VS.envOf w) (VS.Tryz.mV m) v2) :
  Calls Tryz.prog 3 #[v0, .int .i64 sh,v2] w fun e w'=>e = .returned (.bool true)/\Below w.heap.size w w':=
 VS.CR.true_calls (VS.CR.ofX (VS.Tryz.law_crx (sh:=sh) h1 h2 h3)) (args':=#[v0, .int .i64 sh,v2]) (VS.VRL.cons g0 (VS.VRL.cons rfl (VS.VRL.cons g2 VS.VRL.nil)))
theorem lifted(os:Os)(started:os.Started)(H:Type)(enc:TypeId×Value->H) :
  ReturnsInHanded {} Tryz.checked os 3 .any (Rows.reconcileLeftSpec.pre6 enc Tryz.prog Tryz.f3 Rows.reconcileLeftRow.domain false) (Rows.reconcileLeftSpec.post enc Tryz.prog Tryz.f3 false true false false):=by
 refine returnsInHanded_of_change (C:=Tryz.checked) own started (by kernel_rfl) Tryz.func3
  (ChangeSpec.witness6 (enc:=enc) (C:=Tryz.checked) false ⟨#[],#[.slice none 0 0, .int .i64 0, .agg #[.int .i64 0, .int .i64 0, .int .u8 0, .int .i64 0, .slice none 0 0, .int .i64 0, .int .i64 0, .slice none 0 0]],[]⟩ 8 (by kernel_rfl) (by kernel_rfl) (by kernel_rfl) (by kernel_rfl)) ?_
 intro W base args ds gs before hval0 hW hcnd _;have hval:∀ (j:Nat) t v,Tryz.f3.params[j]? = some t->args[j]? = some v->Value.okWide Tryz.prog W .any base t v:=hval0;have hW':=hW;obtain⟨p,q,hA0,hV,rfl,hfz,hnd⟩:=hW;have hA:DataW.TrodAll enc Tryz.prog W 0 (fun _=>true) true Tryz.f3.params.toList args.toList ds p:=hA0;rw[Tryz.params3]at hA hval;obtain⟨v0,vs0,d0,ds0,p0,q0,hargs,rfl,rfl,h0,r0⟩:=trodAll_cons hA;obtain⟨v1,vs1,d1,ds1,p1,q1,rfl,rfl,rfl,h1,r1⟩:=trodAll_cons r0;obtain⟨v2,vs2,d2,ds2,p2,q2,rfl,rfl,rfl,h2,r2⟩:=trodAll_cons r1;obtain⟨rfl,rfl,rfl⟩:=trodAll_nil r2;obtain rfl:args=#[v0,v1,v2]:=by cases args; simp_all
 obtain⟨rfl,rfl⟩:=trodVars_none hV;obtain⟨l,g0,hl⟩:=VS.Tryz.open_cms (hval 0 22 v0 rfl rfl) h0;obtain⟨sh,rfl⟩:∃ n,v1 = .int .i64 n:=okWide_int Tryz.underlying3 (hval 1 3 v1 rfl rfl);obtain⟨m,g2,hm1,hm2⟩:=VS.Tryz.open_msg (hval 2 26 v2 rfl rfl) h2;clear hA0 hval0;simp only[List.append_nil]at hW';have hlt0:∀ x∈p0,x.block<W.heap.size:=fun x hx=>by simpa using hW'.lt x (by simp[hx])
 have hlt1:∀ x∈p1,x.block<W.heap.size:=fun x hx=>by simpa using hW'.lt x (by simp[hx])
 have hlt2:∀ x∈p2,x.block<W.heap.size:=fun x hx=>by simpa using hW'.lt x (by simp[hx])
 refine(walk hl hm1 hm2 W g0 g2).mono fun e W' ⟨he,hg⟩=>?_;subst he;refine⟨_,rfl,_,_,_,[],p0++(p1++p2),[],hW',?_,?_,rfl,hg.frame _,fun h=>by cases h⟩
 ·exact trodAll_cons_mk (shut_bool Tryz.underlying4 _) trodAll_mk0
 ·have T3:=(trodAll_mk0:DataW.TrodAll enc Tryz.prog W' 0 (fun b=>decide (b<W.heap.size)) true [] [] [] [])
  have T2:=trodAll_cons_mk (Below.trod laidOut (by kernel_rfl) (of_decide_eq_true (by kernel_rfl)) h2 hg hlt2) T3;have T1:=trodAll_cons_mk (Below.trod laidOut (by kernel_rfl) (of_decide_eq_true (by kernel_rfl)) h1 hg hlt1) T2;have T0:=trodAll_cons_mk (Below.trod laidOut (by kernel_rfl) (of_decide_eq_true (by kernel_rfl)) h0 hg hlt0) T1;simp only[List.append_nil]at T0;exact T0
theorem over:Rows.reconcileLeftRow.holds Tryz.pinned (OpenSpec.ofChange Rows.reconcileLeftSpec):=
 OpenClaim.holds_of_wide 3 Tryz.f3 rfl rfl rfl rfl rfl rfl rfl ⟨rfl,rfl,rfl,rfl,rfl⟩ rfl rfl rfl rfl rfl k_func Tryz.func3 closed
  (of_decide_eq_true (by kernel_rfl)) (by unfold Func.isWrapper; first | (rw[if_pos (by decide +kernel)]; kernel_rfl) | (rw[if_neg (by decide +kernel)]; exact⟨rfl,rfl⟩))
  (fun os started H enc _=>lifted os started H enc)
theorem proved:Rows.ReconcileLeftSaid:=
 over
#print axioms proved
end Go.Proofs.YtepmajonlgbdlaaGreat.reconcileLeft
end
