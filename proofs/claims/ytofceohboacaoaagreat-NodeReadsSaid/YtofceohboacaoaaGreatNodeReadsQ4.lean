/- Texts of the proof, merged. No conditions. -/
import Derived.Test.YtofceohboacaoaaGreatNodeReadsQ3
import Derived.Laws.AppendOwn
import Derived.Test.YtofceohboacaoaaGreatIter
set_option linter.unusedSimpArgs false
set_option linter.unusedVariables false
noncomputable section
namespace Go.VS.Tryz
open Go.VS
set_option maxRecDepth 1000000
def fQ:Pol:=fun t=>match Nat.beq t 86 with
 |true=>some [.val, .val, .val, .val, .val, .own, .own, .own, .own, .own]
 |false=>none
theorem ax{x:Res}:ae true x=x:=rfl
def ctF:Ct:=XV P
theorem bn:CtOk P ctF:=VE az
structure DkM where
 off:Bool
 fused:Bool
 fuse:Int
 steps:Int
 d0:List UInt8
 d1:List UInt8
 d2:List UInt8
 d3:List UInt8
 pend:List StM
def dkC(off fused:Bool)(fuse steps:Int)(n0 n1 n2 n3 np:Nat):List Value:=[.bool true, .bool off, .bool fused, .int .i64 fuse, .int .i64 steps, .slice (some ⟨1,0,none⟩) n0 18446744073709551616, .slice (some ⟨2,0,none⟩) n1 18446744073709551616, .slice (some ⟨3,0,none⟩) n2 18446744073709551616, .slice (some ⟨4,0,none⟩) n3 18446744073709551616, .slice (some ⟨5,0,none⟩) np 18446744073709551616]
def aW(m:DkM):List Blk:=[.cells (dkC m.off m.fused m.fuse m.steps m.d0.length m.d1.length m.d2.length m.d3.length m.pend.length) 86 true, .cells (bc m.d0) 5 false, .cells (bc m.d1) 5 false, .cells (bc m.d2) 5 false, .cells (bc m.d3) 5 false, .cells (ESt.all m.pend) 163 false]
def dk_(d:DkM)(a b c e f:Nat):Blk:=(Blk.cells [(Value.bool Bool.true),(Value.bool (DkM.off d)),(Value.bool (DkM.fused d)),(Value.int IntKind.i64 (DkM.fuse d)),(Value.int IntKind.i64 (DkM.steps d)),(Value.slice (Option.some (Addr.mk a 0 none)) (List.length (DkM.d0 d)) 18446744073709551616),(Value.slice (Option.some (Addr.mk b 0 none)) (List.length (DkM.d1 d)) 18446744073709551616),(Value.slice (Option.some (Addr.mk c 0 none)) (List.length (DkM.d2 d)) 18446744073709551616),(Value.slice (Option.some (Addr.mk e 0 none)) (List.length (DkM.d3 d)) 18446744073709551616),(Value.slice (Option.some (Addr.mk f 0 none)) (List.length (DkM.pend d)) 18446744073709551616)] 86 Bool.true)
def w0_(n k:Nat)(c:List Value):List Value:=c
def bk_(b:Nat->Option Nat)(W:Nat->Nat->List Value->List Value)(n k:Nat)(c:List Value):List Value:=aZ true b (W n k c)
def cz_(f:Nat->Option Nat)(W:Nat->Nat->List Value->List Value)(n k:Nat)(c:List Value):List Value:=aZ true f (takeC (Nat.mul n k) (bT 0 (W n k c)))
def dl_(W:Nat->Nat->List Value->List Value)(s:DkM)(r:List Blk):List Blk:=Blk.cells (W s.d0.length 1 (bc s.d0)) 5 false::Blk.cells (W s.d1.length 1 (bc s.d1)) 5 false::Blk.cells (W s.d2.length 1 (bc s.d2)) 5 false::Blk.cells (W s.d3.length 1 (bc s.d3)) 5 false::Blk.cells (W s.pend.length 4 (ESt.all s.pend)) 163 false::r
def dn_(W:Nat->Nat->List Value->List Value)(s:DkM)(x:Res):Res:=(ae (Nat.ble (Nat.add 0 (Nat.mul s.d0.length 1)) (W s.d0.length 1 (bc s.d0)).length) (ae (Nat.ble (Nat.add 0 (Nat.mul s.d1.length 1)) (W s.d1.length 1 (bc s.d1)).length) (ae (Nat.ble (Nat.add 0 (Nat.mul s.d2.length 1)) (W s.d2.length 1 (bc s.d2)).length) (ae (Nat.ble (Nat.add 0 (Nat.mul s.d3.length 1)) (W s.d3.length 1 (bc s.d3)).length) (ae (Nat.ble (Nat.add 0 (Nat.mul s.pend.length 4)) (W s.pend.length 4 (ESt.all s.pend)).length) x)))))
def p0:Value:= .pointer (some ⟨0,0,none⟩)
def Dwr:HeadX:=⟨1,44,[0,1,2,6],[.val, .val, .val, .val],[],fQ⟩
def Bwr:Code:=(dR P 89 0).getD .skip
theorem Um:dR P 89 0=some Bwr:=by kernel_rfl
theorem BC:Occ P 89 (.block 0 (.loop Bwr)):=fA Um
theorem Ux(off fused:Bool)(fuse steps:Int)(n0 n1 n2 n3 np:Nat)(c0 c1 c2 c3 cp:List Value)(f:Int)(n b:Nat)(c:List Value)(e:Int):bV P E ctF 50 89 Bwr Dwr [.pointer (some ⟨0,0,none⟩), .int .i64 f,aX 1 n b c, .int .i64 e] [.cells (dkC off fused fuse steps n0 n1 n2 n3 np) 86 true, .cells c0 5 false, .cells c1 5 false, .cells c2 5 false, .cells c3 5 false, .cells cp 163 false] =
 (let z:=ag n;let y:=pt_ 0;let x:=io_ f;let w:=fb_ n b c;let v:=Value.bool true;let u:=Value.bool fused;let t:=io_ fuse;let s:=io_ steps;let r:=sl_ 1 n0;let q:=sl_ 2 n1;let p:=sl_ 3 n2;let o:=sl_ 4 n3;let m:=sl_ 5 np;let l:=ro_ [0,1,6,5];let k:=lb_ l n0 1 c0 5;let j:=lb_ l n1 1 c1 5;
 let i:=lb_ l n2 1 c2 5;let h:=lb_ l n3 1 c3 5;let g:=lb_ l np 4 cp 163;let d:=Nat.beq 1 1;let a:=Bool.and d (gq 0 64 n);let Z:=bT 0 c;let Y:=takeC 64 Z;let X:=List.all Y oneCell;let W:=fq_ 64 Y 5;let V:=Nat.add np 1;let U:=Nat.ble V 4194304;let T:=Nat.beq (Nat.add 0 (Nat.mul np 4)) cp.length;
 let S:=bU m m;let R:=Bool.and d (gq 64 z n);let Q:=jR 0 cp;let O:=io_ 0;let N:=List.append Q [O,x,fb_ 64 0 (takeC 64 (bT 0 Y)),O];let M:=iV 64 z;let L:=io_ e;let K:=Value.tuple ⟨[O,y,x,fb_ M (zT b 64) (takeC (Nat.mul M 1) (bT 64 c)),L]⟩;let J:=Value.bool off;let I:=io_ (dO .i64 steps 1);
 let H:=Blk.cells [v,J,u,io_ (fH .i64 fuse 1),I,r,q,p,o,sl_ 5 V] 86 true;let G:=ro_ [0,1,24,5];let F:=lb_ G n0 1 c0 5;let D:=lb_ G n1 1 c1 5;let C:=lb_ G n2 1 c2 5;let B:=lb_ G n3 1 c3 5;let A:=lb_ G V 4 N 163;let z0:=Bool.and d (gq 0 z n);let y0:=iV 0 z;let x0:=Nat.mul y0 1;
 let w0:=takeC x0 Z;let v0:=List.all w0 oneCell;let u0:=Nat.beq 0 0;let t0:=Bool.and u0 (Bool.and u0 (Nat.ble y0 4194304));let s0:=fq_ y0 w0 5;let r0:=Bool.and d (gq z z n);let q0:=List.append Q [O,x,fb_ y0 0 (takeC x0 (bT 0 w0)),O];let p0:=Value.tuple ⟨[O,y,x,fb_ (iV z z) (zT b (Int.toNat z)) (takeC (Nat.mul (iV z z) 1) (bT (atN z 1) c)),L]⟩;
 let o0:=lb_ G V 4 q0 163;let m0:=Blk.cells [v,J,u,t,I,r,q,p,o,sl_ 5 V] 86 true;
 (ak (gtI z 0) (ak fused (ak (eqI fuse 0) (nb_ n0 1 c0 (nb_ n1 1 c1 (nb_ n2 1 c2 (nb_ n3 1 c3 (nb_ np 4 cp (some (.tuple ⟨[io_ (-1),y,x,w,io_ 6]⟩,af [.cells [v,v,u,t,s,r,q,p,o,m] 86 true,k,j,i,h,g]))))))) (ak (ltI 64 z) (ae a (ae X (ae W (ae U (ae T (ae S (ae R (nb_ n0 1 c0 (nb_ n1 1 c1 (nb_ n2 1 c2 (nb_ n3 1 c3 (nb_ V 4 N (some (K,af [H,F,D,C,B,A])))))))))))))) (ae z0 (ae v0 (ae t0 (ae s0 (ae U (ae T (ae S (ae r0 (nb_ n0 1 c0 (nb_ n1 1 c1 (nb_ n2 1 c2 (nb_ n3 1 c3 (nb_ V 4 q0 (some (p0,af [H,F,D,C,B,o0]))))))))))))))))) (ak (ltI 64 z) (ae a (ae X (ae W (ae U (ae T (ae S (ae R (nb_ n0 1 c0 (nb_ n1 1 c1 (nb_ n2 1 c2 (nb_ n3 1 c3 (nb_ V 4 N (some (K,af [m0,F,D,C,B,A])))))))))))))) (ae z0 (ae v0 (ae t0 (ae s0 (ae U (ae T (ae S (ae r0 (nb_ n0 1 c0 (nb_ n1 1 c1 (nb_ n2 1 c2 (nb_ n3 1 c3 (nb_ V 4 q0 (some (p0,af [m0,F,D,C,B,o0]))))))))))))))))) (nb_ n0 1 c0 (nb_ n1 1 c1 (nb_ n2 1 c2 (nb_ n3 1 c3 (nb_ np 4 cp (some (.tuple ⟨[io_ 1,y,x,w,L]⟩,af [.cells [v,J,u,t,s,r,q,p,o,m] 86 true,k,j,i,h,g]))))))))):=by kernel_rfl
def kL(m:DkM):Option DkM:=match m.fused,eqI m.fuse 0 with
 |false,_=>some { m with steps:=m.steps+1 }
 |true,true=>none
 |true,false=>some { m with fuse:=m.fuse-1,steps:=m.steps+1 }
structure DkOk(m:DkM):Prop where
 s0:0<=m.steps
 s1:m.steps<4611686018427387904
 f0:0<=m.fuse
 f1:m.fuse<9223372036854775808
 p1:m.pend.length<4194304
def wrV(f:Int)(b:List UInt8)(e:Int):List Value:=[p0, .int .i64 f,aX 1 b.length 0 (bc b), .int .i64 e]
def stW(f:Int)(b:List UInt8):StM:=⟨0,f,b.take 64,0⟩
theorem XU(l:List StM)(f:Int)(b:List UInt8)(n:Nat)(hn:n=(b.take 64).length):List.append (jR 0 (ESt.all l)) [.int .i64 0, .int .i64 f, .iface 18446744073709551617 (.agg ⟨.slice none n 0::bc (b.take 64)⟩), .int .i64 0]=ESt.all (l++[stW f b]):=by
 subst hn;rw[ESt.all_append,ESt.all_one,<-fzU]
 rfl
theorem WQ{m:DkM}{f e:Int}{b:List UInt8}(hb:b≠[])(hl:b.length<=4194304)(ho:DkOk m) :
  bV P E ctF 50 89 Bwr Dwr (wrV f b e) (aW m)=match kL m with
   |some m'=>some (.tuple ⟨exV .normal::wrV f (b.drop 64) e⟩,af (aW { m' with pend:=m.pend++[stW f b] }))
   |none=>some (.tuple ⟨exV .ret::wrV f b 6⟩,af (aW { m with off:=true })):=by
 obtain⟨off,fused,fuse,steps,d0,d1,d2,d3,pend⟩:=m;obtain⟨s0,s1,f0,f1,p1⟩:=ho;simp only at s0 s1 f0 f1 p1;have hlen:0<b.length:=List.length_pos_iff.2 hb;unfold wrV p0 aW;simp only;rw[Ux];have g1:gtI (ag b.length) 0=true:=by unfold gtI ag; exact decide_eq_true (by omega)
 have hs:dO .i64 steps 1=steps+1:=by unfold dO; rw[wrap64 (by omega) (by omega)]
 have hf:fH .i64 fuse 1=fuse-1:=by unfold fH; rw[wrap64 (by omega) (by omega)]
 have hp:(pend++[stW f b]).length=Nat.add pend.length 1:=by simp
 have t1:Nat.ble (Nat.add pend.length 1) 4194304=true:=Nat.ble_eq_true_of_le (by show pend.length+1<=_; omega);have b2:∀ n,Nat.ble n n=true:=fun n=>Nat.ble_eq_true_of_le (Nat.le_refl n);have b3:∀ n,Nat.beq n n=true:=Nat.beq_refl;have n4:∀ l:List StM,(ESt.all l).length=Nat.mul l.length 4:=fun l=>ESt.all_length l;have fin:∀ (A B:Res),A=B->A=B:=fun _ _ h=>h;by_cases h64:64<b.length
 ·have g2:ltI 64 (ag b.length)=true:=by unfold ltI ag; exact decide_eq_true (by omega)
  have c1:gq 0 64 b.length=true:=mW (by omega) (by omega) (by omega);have c2:gq 64 (ag b.length) b.length=true:=mW (by omega) (by unfold ag; omega) (by unfold ag; omega);have e1:64=(b.take 64).length:=by rw[List.length_take]; omega
  have e2:takeC 64 (bT 0 (bc b))=bc (b.take 64):=by rw[yw,List.drop_zero]
  have e3:takeC 64 (bT 0 (bc (b.take 64)))=bc (b.take 64):=fK e1;have e4:takeC (b.length-64) (bT 64 (bc b))=bc (b.drop 64):=by rw[yw,List.take_of_length_le (by simp)]
  have e5:(b.drop 64).length=b.length-64:=List.length_drop;have q:=QY (l:=b.take 64) e1;have sa:=XU pend f b 64 e1;have lk:iV 64 (ag b.length)=b.length-64:=abw 64 b.length;simp only[fb_,fq_,io_,lb_,nb_,pt_,sl_,g1,g2,c1,c2,e2,e3,lk,aQ,e4,e5,q,bu,cap0,dB,aG,ah,b2,b3,t1,sa,n4,hp,fK rfl,uJ rfl,uJ hp.symm,aP,Enc.all_ren,Bool.and_self,aK,ax,hs,hf];unfold aX kL;rw[fzU];cases fused with
  |false=>rfl
  |true=>
   cases hq:eqI fuse 0<;>simp only[fb_,fq_,io_,lb_,nb_,pt_,sl_,hq]<;>rfl
 ·have g2:ltI 64 (ag b.length)=false:=by unfold ltI ag; exact decide_eq_false (by omega)
  have c1:gq 0 (ag b.length) b.length=true:=mW (by omega) (by unfold ag; omega) (by unfold ag; omega);have c2:gq (ag b.length) (ag b.length) b.length=true:=mW (by unfold ag; omega) (by omega) (by unfold ag; omega);have hbt:b.take 64=b:=List.take_of_length_le (by omega);have hbd:b.drop 64=[]:=List.drop_of_length_le (by omega);have e2:takeC b.length (bT 0 (bc b))=bc b:=fK rfl;have e4:∀ k,takeC 0 (bT k (bc b))=[]:=fun k=>rfl;have q:=QY (l:=b) rfl;have sa:=XU pend f b b.length (by rw[hbt]);rw[hbt]at sa;have t2:Nat.ble b.length 4194304=true:=Nat.ble_eq_true_of_le hl;simp only[fb_,fq_,io_,lb_,nb_,pt_,sl_,g1,g2,c1,c2,e2,abx,aey,aQ,e4,q,bu,cap0,dB,aG,ah,b2,b3,t1,t2,sa,n4,hp,fK rfl,uJ rfl,uJ hp.symm,aP,Enc.all_ren,Bool.and_self,aK,aH,ax,hs,hf,hbd];unfold aX kL;rw[fzU];cases fused with
  |false=>rfl
  |true=>
   cases hq:eqI fuse 0<;>simp only[fb_,fq_,io_,lb_,nb_,pt_,sl_,hq]<;>rfl
theorem Ud{m:DkM}{f e:Int}:bV P E ctF 50 89 Bwr Dwr (wrV f [] e) (aW m)=some (.tuple ⟨exV (.exit 0)::wrV f [] e⟩,af (aW m)):=by
 obtain⟨off,fused,fuse,steps,d0,d1,d2,d3,pend⟩:=m;unfold wrV p0 aW;simp only;show bV P E ctF 50 _ Bwr Dwr [.pointer (some ⟨0,0,none⟩), .int .i64 f,aX 1 0 0 [], .int .i64 e] _=_;rw[Ux];have b2:∀ n,Nat.ble n n=true:=fun n=>Nat.ble_eq_true_of_le (Nat.le_refl n);have n4:∀ l:List StM,(ESt.all l).length=Nat.mul l.length 4:=fun l=>ESt.all_length l;have g1:gtI (ag 0) 0=false:=rfl;simp only[fb_,fq_,io_,lb_,nb_,pt_,sl_,g1,aQ,aG,ah,b2,n4,fK rfl,uJ rfl,aP,Enc.all_ren,Bool.and_self,aH,ax];unfold aX;rw[fzU]
 rfl
def wrM:Nat->DkM->Int->List UInt8->DkM×List UInt8×Bool
 |0,m,_,b=>(m,b,true)
 |k+1,m,f,b=>match b with
  |[]=>(m,[],true)
  |_::_=>match kL m with
   |none=>({ m with off:=true },b,false)
   |some m'=>wrM k { m' with pend:=m.pend++[stW f b] } f (b.drop 64)
def oQ(m:DkM)(k:Nat):Prop:=0<=m.steps/\m.steps+k<4611686018427387904/\0<=m.fuse/\m.fuse<9223372036854775808/\m.pend.length+k<4194304
theorem oQ.ok{m:DkM}{k:Nat}(h:oQ m (k+1)):DkOk m:=⟨h.1,by have:=h.2.1; omega,h.2.2.1,h.2.2.2.1,by have:=h.2.2.2.2; omega⟩
theorem Sz{m m':DkM}{k:Nat}{x:StM}(h:oQ m (k+1))(hm:kL m=some m'):oQ { m' with pend:=m.pend++[x] } k:=by
 obtain⟨h1,h2,h3,h4,h5⟩:=h;unfold kL at hm;split at hm
 ·obtain rfl:=Option.some.inj hm;exact⟨by show 0<=m.steps+1; omega,by show m.steps+1+k<_; omega,h3,h4,by show(m.pend++[x]).length+k<_; rw[List.length_append]; simp; omega⟩
 ·cases hm
 ·rename_i hq;obtain rfl:=Option.some.inj hm;have:m.fuse≠0:=by simpa [eqI]using hq
  exact⟨by show 0<=m.steps+1; omega,by show m.steps+1+k<_; omega,by show 0<=m.fuse-1; omega,by show m.fuse-1<_; omega,by show(m.pend++[x]).length+k<_; rw[List.length_append]; simp; omega⟩
theorem Oc(f e:Int):∀ (k:Nat) (m:DkM) (b:List UInt8),b.length<=64*k->b.length<=4194304->oQ m k->
  LRX P 89 0 Bwr Dwr.head (wrV f b e) (aW m) (match(wrM k m f b).2.2 with | true=> .normal | false=> .ret)
   (match(wrM k m f b).2.2 with | true=>wrV f [] e | false=>wrV f (wrM k m f b).2.1 6) (aW (wrM k m f b).1)
 |0,m,b,hl,hb,hr=>by
  obtain rfl:b=[]:=List.length_eq_zero_iff.1 (by omega);exact LRX.stop (n:=50) (bf ctF) az bn BC (e:= .exit 0) Ud (by intro h; cases h)
 |k+1,m,b,hl,hb,hr=>by
  cases b with
  |nil=>exact LRX.stop (n:=50) (bf ctF) az bn BC (e:= .exit 0) Ud (by intro h; cases h)
  |cons x b=>
   have q:=WQ (f:=f) (e:=e) (b:=x::b) (by simp) hb hr.ok;cases hm:kL m with
   |none=>
    rw[hm]at q;have ew:wrM (k+1) m f (x::b)=({ m with off:=true },x::b,false):=by rw[wrM]; simp only[hm]
    rw[ew];exact LRX.stop (n:=50) (bf ctF) az bn BC (e:= .ret) q (by intro h; cases h)
   |some m'=>
    rw[hm]at q;have ew:wrM (k+1) m f (x::b)=wrM k { m' with pend:=m.pend++[stW f (x::b)] } f ((x::b).drop 64):=by rw[wrM]; simp only[hm]
    rw[ew];exact LRX.again (n:=50) (bf ctF) az bn BC q (Oc f e k _ _ (by rw[List.length_drop]; omega) (by rw[List.length_drop]; omega) (Sz hr hm))
structure WrS where
 m:DkM
 f:Int
 b:List UInt8
 e:Int
theorem sV{a b:DkM}(h:aW a=aW b):a=b:=by
 obtain⟨a1,a2,a3,a4,a5,a6,a7,a8,a9⟩:=a;obtain⟨b1,b2,b3,b4,b5,b6,b7,b8,b9⟩:=b;unfold aW dkC at h;simp only[List.cons.injEq,Blk.cells.injEq,Value.bool.injEq,Value.int.injEq,and_true,true_and]at h;obtain⟨⟨h1,h2,h3,h4,_⟩,h5,h6,h7,h8,h9⟩:=h;subst h1 h2 h3 h4;obtain rfl:=uM h5;obtain rfl:=uM h6;obtain rfl:=uM h7;obtain rfl:=uM h8;obtain rfl:=ESt.all_inj _ _ h9
 rfl
def nD(n:Nat):Nat:=(n+63) / 64
def dk0:DkM:=⟨false,false,0,0,[],[],[],[],[]⟩
def kWr:Con WrS where
 enc s:=(wrV s.f s.b s.e,aW s.m)
 ok s:=s.b.length<=4194304/\oQ s.m (nD s.b.length)
 inj a b h:=by
  obtain⟨a1,a2,a3,a4⟩:=a;obtain⟨b1,b2,b3,b4⟩:=b;simp only[Prod.mk.injEq]at h;obtain⟨h1,h2⟩:=h;obtain rfl:=sV h2;unfold wrV at h1;simp only[List.cons.injEq,Value.int.injEq,true_and,and_true]at h1;obtain⟨rfl,h3,rfl⟩:=h1;obtain rfl:=uM (oO h3)
  rfl
 dflt:=⟨dk0,0,[],0⟩
def QJ(W:WrS->DkM×List UInt8×Bool)(s:WrS):DT (Ex×List Value×List Blk):=
 .ite (W s).2.2 (.leaf (.normal,wrV s.f [] s.e,aW (W s).1)) (.leaf (.ret,wrV s.f (W s).2.1 6,aW (W s).1))
def wrW(s:WrS):DkM×List UInt8×Bool:=wrM (nD s.b.length) s.m s.f s.b
theorem UD:LoopOkX P 89 0 Bwr Dwr.head (Dn kWr.C kWr.D (QJ wrW)):=
 yE kWr (dL Um) fun s ho e vs' bs' hev=>by
  have:=Oc s.f s.e (nD s.b.length) s.m s.b (by unfold nD; omega) ho.1 ho.2;unfold QJ wrW at hev;cases hq:(wrM (nD s.b.length) s.m s.f s.b).2.2 with
  |true=>
   rw[hq]at hev this;simp only[DT.eval,Option.some.injEq,Prod.mk.injEq]at hev;obtain⟨rfl,rfl,rfl⟩:=hev;exact this
  |false=>
   rw[hq]at hev this;simp only[DT.eval,Option.some.injEq,Prod.mk.injEq]at hev;obtain⟨rfl,rfl,rfl⟩:=hev;exact this
def ctW(C:List Value->List Blk->Bool)(ok:Bool)(v1 v2:List Value)(b1 b2:List Blk):Ct:=eY P 89 0 Dwr (gX C (.ite ok (.leaf (.normal,v1,b1)) (.leaf (.ret,v2,b2)))) ctF
theorem Uf(C:List Value->List Blk->Bool)(ok off1 fused1 off2 fused2:Bool)(fuse1 fuse2 steps1 steps2:Int)(m0 m1 m2 m3 mp k0 k1 k2 k3 kp:Nat)(d0 d1 d2 d3 dp e0 e1 e2 e3 ep:List Value)(y z:Value)(off fused:Bool)(fuse steps:Int)(n0 n1 n2 n3 np:Nat)(c0 c1 c2 c3 cp:List Value)(f:Int)(n b:Nat)(c:List Value):dD P E (ctW C ok [.pointer (some ⟨0,0,none⟩), .int .i64 f,aX 1 0 0 [], .int .i64 0] [.pointer (some ⟨0,0,none⟩), .int .i64 f,z, .int .i64 6] [.cells (dkC off1 fused1 fuse1 steps1 m0 m1 m2 m3 mp) 86 true, .cells d0 5 false, .cells d1 5 false, .cells d2 5 false, .cells d3 5 false, .cells dp 163 false] [.cells (dkC off2 fused2 fuse2 steps2 k0 k1 k2 k3 kp) 86 true, .cells e0 5 false, .cells e1 5 false, .cells e2 5 false, .cells e3 5 false, .cells ep 163 false]) 50 fQ [] [] 1 89 [.pointer (some ⟨0,0,none⟩), .int .i64 f,aX 1 n b c] [.cells (dkC off fused fuse steps n0 n1 n2 n3 np) 86 true, .cells c0 5 false, .cells c1 5 false, .cells c2 5 false, .cells c3 5 false, .cells cp 163 false] =
 (let x:=Value.bool true;let w:=ro_ [0,1,6,5];let v:=[Blk.cells [x, .bool off, .bool fused,io_ fuse,io_ steps,sl_ 1 n0,sl_ 2 n1,sl_ 3 n2,sl_ 4 n3,sl_ 5 np] 86 true,lb_ w n0 1 c0 5,lb_ w n1 1 c1 5,lb_ w n2 1 c2 5,lb_ w n3 1 c3 5,lb_ w np 4 cp 163];let u:=nb_ n0 1 c0 (nb_ n1 1 c1 (nb_ n2 1 c2 (nb_ n3 1 c3 (nb_ np 4 cp (some (io_ 2,af v))))));
 let t:=bH [0] 11;let s:=aZ true t d0;let r:=aZ true t d1;let q:=aZ true t d2;let p:=aZ true t d3;let o:=aZ true t dp;let m:=ro_ [0,1,16,5];let l:=aZ true t e0;let k:=aZ true t e1;let j:=aZ true t e2;let i:=aZ true t e3;let h:=aZ true t ep;
 (ak off (nb_ n0 1 c0 (nb_ n1 1 c1 (nb_ n2 1 c2 (nb_ n3 1 c3 (nb_ np 4 cp (some (io_ 6,af v))))))) (ak (geI f 0) (ak (fM (ltI f 4)) u (nb_ n0 1 c0 (nb_ n1 1 c1 (nb_ n2 1 c2 (nb_ n3 1 c3 (nb_ np 4 cp (ae (C [pt_ 0,io_ f,fb_ n b c,io_ 0] v) (ak ok (nb_ m0 1 s (nb_ m1 1 r (nb_ m2 1 q (nb_ m3 1 p (nb_ mp 4 o (some (io_ 0,af [.cells [x, .bool off1, .bool fused1,io_ fuse1,io_ steps1,sl_ 1 m0,sl_ 2 m1,sl_ 3 m2,sl_ 4 m3,sl_ 5 mp] 86 true,lb_ m m0 1 s 5,lb_ m m1 1 r 5,lb_ m m2 1 q 5,lb_ m m3 1 p 5,lb_ m mp 4 o 163]))))))) (nb_ k0 1 l (nb_ k1 1 k (nb_ k2 1 j (nb_ k3 1 i (nb_ kp 4 h (some (io_ 6,af [.cells [x, .bool off2, .bool fused2,io_ fuse2,io_ steps2,sl_ 1 k0,sl_ 2 k1,sl_ 3 k2,sl_ 4 k3,sl_ 5 kp] 86 true,lb_ m k0 1 l 5,lb_ m k1 1 k 5,lb_ m k2 1 j 5,lb_ m k3 1 i 5,lb_ m kp 4 h 163]))))))))))))))) u))):=by kernel_rfl
theorem rW{σ:Type}{k:Con σ}{s:σ}{vs:List Value}{bs:List Blk}{x r:Res}(h1:(k.enc s).1=vs)(h2:(k.enc s).2=bs)(h:x=r):ae (k.at s vs bs) x=r:=by
 rw[k.at_true h1 h2]; exact h
structure WcS where
 m:DkM
 f:Int
 b:List UInt8
def WcS.w(s:WcS):WrS:=⟨s.m,s.f,s.b,0⟩
def kWc:Con WcS where
 enc s:=([p0, .int .i64 s.f,aX 1 s.b.length 0 (bc s.b)],aW s.m)
 ok s:=s.b.length<=4194304/\oQ s.m (nD s.b.length)
 inj a b h:=by
  obtain⟨a1,a2,a3⟩:=a;obtain⟨b1,b2,b3⟩:=b;simp only[Prod.mk.injEq]at h;obtain⟨h1,h2⟩:=h;obtain rfl:=sV h2;simp only[List.cons.injEq,Value.int.injEq,true_and,and_true]at h1;obtain⟨rfl,h3⟩:=h1;obtain rfl:=uM (oO h3)
  rfl
 dflt:=⟨dk0,0,[]⟩
def writeM(s:WcS):Int×DkM:=match s.m.off,geI s.f 0,ltI s.f 4 with
 |true,_,_=>(6,s.m)
 |false,true,true=>match(wrW s.w).2.2 with
  |true=>(0,(wrW s.w).1)
  |false=>(6,(wrW s.w).1)
 |false,_,_=>(2,s.m)
def adm(s:WcS):Ct:=eY P 89 0 Dwr (gX (kWr.at s.w) (QJ wrW s.w)) ctF
theorem Vg(s:WcS):dD P E (adm s) 50 fQ [] [] 1 89 (kWc.enc s).1 (kWc.enc s).2=some (.int .i64 (writeM s).1,af (aW (writeM s).2)):=by
 obtain⟨m,f,b⟩:=s;have q:=Uf (kWr.at (WcS.w ⟨m,f,b⟩)) (wrW (WcS.w ⟨m,f,b⟩)).2.2 (wrW (WcS.w ⟨m,f,b⟩)).1.off (wrW (WcS.w ⟨m,f,b⟩)).1.fused (wrW (WcS.w ⟨m,f,b⟩)).1.off (wrW (WcS.w ⟨m,f,b⟩)).1.fused
  (wrW (WcS.w ⟨m,f,b⟩)).1.fuse (wrW (WcS.w ⟨m,f,b⟩)).1.fuse (wrW (WcS.w ⟨m,f,b⟩)).1.steps (wrW (WcS.w ⟨m,f,b⟩)).1.steps
  (wrW (WcS.w ⟨m,f,b⟩)).1.d0.length (wrW (WcS.w ⟨m,f,b⟩)).1.d1.length (wrW (WcS.w ⟨m,f,b⟩)).1.d2.length (wrW (WcS.w ⟨m,f,b⟩)).1.d3.length (wrW (WcS.w ⟨m,f,b⟩)).1.pend.length
  (wrW (WcS.w ⟨m,f,b⟩)).1.d0.length (wrW (WcS.w ⟨m,f,b⟩)).1.d1.length (wrW (WcS.w ⟨m,f,b⟩)).1.d2.length (wrW (WcS.w ⟨m,f,b⟩)).1.d3.length (wrW (WcS.w ⟨m,f,b⟩)).1.pend.length
  (bc (wrW (WcS.w ⟨m,f,b⟩)).1.d0) (bc (wrW (WcS.w ⟨m,f,b⟩)).1.d1) (bc (wrW (WcS.w ⟨m,f,b⟩)).1.d2) (bc (wrW (WcS.w ⟨m,f,b⟩)).1.d3) (ESt.all (wrW (WcS.w ⟨m,f,b⟩)).1.pend)
  (bc (wrW (WcS.w ⟨m,f,b⟩)).1.d0) (bc (wrW (WcS.w ⟨m,f,b⟩)).1.d1) (bc (wrW (WcS.w ⟨m,f,b⟩)).1.d2) (bc (wrW (WcS.w ⟨m,f,b⟩)).1.d3) (ESt.all (wrW (WcS.w ⟨m,f,b⟩)).1.pend)
  (.bool true) (aX 1 (wrW (WcS.w ⟨m,f,b⟩)).2.1.length 0 (bc (wrW (WcS.w ⟨m,f,b⟩)).2.1)) m.off m.fused m.fuse m.steps m.d0.length m.d1.length m.d2.length m.d3.length m.pend.length (bc m.d0) (bc m.d1) (bc m.d2) (bc m.d3) (ESt.all m.pend) f b.length 0 (bc b)
 refine Eq.trans ?_ (q.trans ?_)
 ·rfl
 have b2:∀ n,Nat.ble n n=true:=fun n=>Nat.ble_eq_true_of_le (Nat.le_refl n);have n4:∀ l:List StM,(ESt.all l).length=Nat.mul l.length 4:=fun l=>ESt.all_length l;clear q;simp only[fb_,io_,lb_,nb_,pt_,sl_,aQ,aG,ah,aP,Enc.all_ren,n4,b2,fK rfl,uJ rfl,ax];unfold writeM;obtain⟨off,fused,fuse,steps,d0,d1,d2,d3,pend⟩:=m;cases off with
 |true=>rfl
 |false=>
  simp only[fb_,io_,lb_,nb_,pt_,sl_,aH];cases geI f 0 with
  |false=>rfl
  |true=>
   cases ltI f 4 with
   |false=>rfl
   |true=>
    simp only[fb_,io_,lb_,nb_,pt_,sl_,fM,Bool.not_true,aK,aH];refine rW (k:=kWr) (s:=WcS.w ⟨⟨false,fused,fuse,steps,d0,d1,d2,d3,pend⟩,f,b⟩) (by show wrV f b 0=_; unfold wrV aX; rw[fzU]; rfl) rfl ?_;cases hW:(wrW (WcS.w ⟨⟨false,fused,fuse,steps,d0,d1,d2,d3,pend⟩,f,b⟩)).2.2<;>rfl
def JO(s:WcS):DT (Value×List Blk):= .leaf (.int .i64 (writeM s).1,aW (writeM s).2)
theorem KZ:CallOkX P 1 89 (yc kWc.C kWc.D JO):=wV kWc fun s ho v bs' hev=>by
 simp only[JO,DT.eval,Option.some.injEq,Prod.mk.injEq]at hev;obtain⟨rfl,rfl⟩:=hev;exact CRX.of (bf (adm s)) az (dV bn (BA kWr UD (s:=s.w) ho)) (Vg s)
def WY(O:Bool->ByteArray->ByteArray->Bool):Ct:=kG P 47 (Gn O) ctF
def ctB:Ct:=WY pG
theorem wY:CtOk P ctB:=ji bn VB
def Dbc:HeadX:=⟨0,26,[2,14,15,16],[.val, .val, .val, .val],[],fQ⟩
def Bbc:Code:=(dR P 33 1).getD .skip
theorem Js:dR P 33 1=some Bbc:=by kernel_rfl
theorem Gg:Occ P 33 (.block 1 (.loop Bbc)):=fA Js
theorem TP(O:Bool->ByteArray->ByteArray->Bool)(n b:Nat)(c:List Value)(r z i:Int):bV P E (WY O) 50 33 Bbc Dbc [.int .i64 r,aX 3 n b c, .int .i64 z, .int .i64 i] [] =
 (ak (ltI i z)
 (ae (Bool.and (Nat.beq 3 3) (inI i n))
 (ae (Bool.and (Nat.ble (Nat.add (atN i 3) 3) (List.length c)) (iq [Eta.bool,Eta.string,Eta.string] c (atN i 3)))
 (ak (O (asB (aU c (atN i 3))) (asS (aU c (Nat.add (atN i 3) 1))) (asS (aU c (Nat.add (Nat.add (atN i 3) 1) 1))))
 (some ((Value.tuple (Array.mk [(Value.int IntKind.i64 (0:Int)),(Value.int IntKind.i64 r),(Value.iface 18446744073709551619 (Value.agg (Array.mk ((Value.slice none n b)::c)))),(Value.int IntKind.i64 z),(Value.int IntKind.i64 (dO IntKind.i64 i (1:Int)))])),(af [])))
 (some ((Value.tuple (Array.mk [(Value.int IntKind.i64 (-1:Int)),(Value.int IntKind.i64 (2:Int)),(Value.iface 18446744073709551619 (Value.agg (Array.mk ((Value.slice none n b)::c)))),(Value.int IntKind.i64 z),(Value.int IntKind.i64 i)])),(af []))))))
 (some ((Value.tuple (Array.mk [(Value.int IntKind.i64 (2:Int)),(Value.int IntKind.i64 r),(Value.iface 18446744073709551619 (Value.agg (Array.mk ((Value.slice none n b)::c)))),(Value.int IntKind.i64 z),(Value.int IntKind.i64 i)])),(af [])))):=by kernel_rfl
theorem Oo(C:List Value->List Blk->Bool)(ok:Bool)(r:Int)(z:Value)(y1 y2 y3:Int)(n b:Nat)(c:List Value):dD P E (eY P 33 1 Dbc (gX C (.ite ok (.leaf (.normal,[.int .i64 0,z, .int .i64 y1, .int .i64 y2],[])) (.leaf (.ret,[.int .i64 r,z, .int .i64 y1, .int .i64 y3],[])))) ctF) 50 fQ [] [] 0 33 [aX 3 n b c] [] =
 (ak (eqI (ag n) (0:Int))
 (some ((Value.int IntKind.i64 (2:Int)),(af [])))
 (ak (gtI (ag n) (8:Int))
 (some ((Value.int IntKind.i64 (3:Int)),(af [])))
 (ae (C [(Value.int IntKind.i64 (0:Int)),(Value.iface 18446744073709551619 (Value.agg (Array.mk ((Value.slice none n b)::c)))),(Value.int IntKind.i64 (ag n)),(Value.int IntKind.i64 (0:Int))] [])
 (ak ok
 (some ((Value.int IntKind.i64 (0:Int)),(af [])))
 (some ((Value.int IntKind.i64 r),(af []))))))):=by kernel_rfl
def E9(o:OpM):Bool:=pG o.p o.k o.v
def aJ(l:List OpM):Value:=aX 3 l.length 0 (EOp.all l)
def bcV(r:Int)(l:List OpM)(i:Int):List Value:=[.int .i64 r,aJ l, .int .i64 (ag l.length), .int .i64 i]
theorem qy{l:List OpM}{i:Nat}(h:i<l.length):iq [.bool, .string, .string] (EOp.all l) (atN (i:Int) 3)=true:=by
 show and (eu .bool (aU (EOp.all l) (atN (i:Int) 3))) (and (eu .string (aU (EOp.all l) (Nat.add (atN (i:Int) 3) 1))) (and (eu .string (aU (EOp.all l) (Nat.add (Nat.add (atN (i:Int) 3) 1) 1))) true))=true;rw[ve h,qh h,vk h]; rfl
theorem XC{l:List OpM}{i:Nat}(hi:i<l.length)(hl:l.length<4194304):bV P E ctB 50 33 Bbc Dbc (bcV 0 l i) []=match E9 l[i]with
  |true=>some (.tuple ⟨exV .normal::bcV 0 l ((i+1:Nat):Int)⟩,af [])
  |false=>some (.tuple ⟨exV .ret::bcV 2 l i⟩,af []):=by
 unfold bcV aJ ctB;rw[TP];have n3:∀ l:List OpM,(EOp.all l).length=Nat.mul l.length 3:=fun l=>EOp.all_length l;have g1:ltI (i:Int) (ag l.length)=true:=by unfold ltI ag; exact decide_eq_true (by omega)
 have g2:inI (i:Int) l.length=true:=by unfold inI; exact decide_eq_true (by omega)
 have g3:Nat.ble (Nat.add (atN (i:Int) 3) 3) (Nat.mul l.length 3)=true:=Nat.ble_eq_true_of_le (by
  show(i:Int).toNat*3+3<=l.length*3;have:(i:Int).toNat=i:=by omega
  omega)
 have g4:=qy hi;have a1:dO .i64 (i:Int) 1=((i+1:Nat):Int):=by unfold dO; rw[wrap64 (by omega) (by omega)]; omega
 have ab:∀ b,asB (.bool b)=b:=fun _=>rfl;have aS:∀ b,asS (.string b)=b:=fun _=>rfl;have b3:∀ n,Nat.beq n n=true:=Nat.beq_refl;simp only[n3,g1,g2,g3,g4,ve hi,qh hi,vk hi,ab,aS,a1,b3,Bool.and_self,aK,ax];unfold aX E9;rw[tJ];cases pG l[i].p l[i].k l[i].v<;>rfl
theorem acT{l:List OpM}:bV P E ctB 50 33 Bbc Dbc (bcV 0 l l.length) []=some (.tuple ⟨exV (.exit 1)::bcV 0 l l.length⟩,af []):=by
 unfold bcV aJ ctB;rw[TP];have g1:ltI (l.length:Int) (ag l.length)=false:=by unfold ltI ag; exact decide_eq_false (by omega)
 simp only[g1,aH];unfold aX;rw[tJ]
 rfl
def badM:Nat->List OpM->Option Nat
 |_,[]=>none
 |i,o::l=>match E9 o with
  |true=>badM (i+1) l
  |false=>some i
theorem OT(l:List OpM)(hl:l.length<4194304):∀ (k i:Nat),i+k=l.length->
  LRX P 33 1 Bbc Dbc.head (bcV 0 l i) [] (match badM i (l.drop i)with | none=> .normal | some _=> .ret) (match badM i (l.drop i)with | none=>bcV 0 l l.length | some j=>bcV 2 l j) []
 |0,i,h=>by
  obtain rfl:i=l.length:=by omega
  rw[List.drop_length];exact LRX.stop (n:=50) (bf ctB) az wY Gg (e:= .exit 1) acT (by intro h; cases h)
 |k+1,i,h=>by
  have hi:i<l.length:=by omega
  have q:=XC hi hl;rw[List.drop_eq_getElem_cons hi];simp only[badM];cases ho:E9 l[i]with
  |true=>
   rw[ho]at q;exact LRX.again (n:=50) (bf ctB) az wY Gg q (OT l hl k (i+1) (by omega))
  |false=>
   rw[ho]at q;exact LRX.stop (n:=50) (bf ctB) az wY Gg (e:= .ret) q (by intro h; cases h)
def kBc:Con (List OpM) where
 enc l:=(bcV 0 l 0,[])
 ok l:=l.length<4194304
 inj a b h:=by
  unfold bcV aJ at h;simp only[Prod.mk.injEq,List.cons.injEq,Value.int.injEq,true_and,and_true]at h;exact EOp.all_inj _ _ (oO h.1)
 dflt:=[]
def Rh(l:List OpM):DT (Ex×List Value×List Blk):= .ite (badM 0 l).isNone (.leaf (.normal,bcV 0 l l.length,[])) (.leaf (.ret,bcV 2 l ((badM 0 l).getD 0),[]))
theorem Tv:LoopOkX P 33 1 Bbc Dbc.head (Dn kBc.C kBc.D Rh):=
 yE kBc (dL Js) fun l ho e vs' bs' hev=>by
  have q:=OT l ho l.length 0 (by omega);rw[List.drop_zero]at q;unfold Rh at hev;cases hb:badM 0 l with
  |none=>
   rw[hb]at hev q;simp only[Option.isNone_none,DT.eval,Option.some.injEq,Prod.mk.injEq]at hev;obtain⟨rfl,rfl,rfl⟩:=hev;exact q
  |some j=>
   rw[hb]at hev q;simp only[Option.isNone_some,Option.getD_some,DT.eval,Option.some.injEq,Prod.mk.injEq]at hev;obtain⟨rfl,rfl,rfl⟩:=hev;exact q
def uG(l:List OpM):Int:=match eqI (ag l.length) 0,gtI (ag l.length) 8,(badM 0 l).isNone with
 |true,_,_=>2
 |false,true,_=>3
 |false,false,true=>0
 |false,false,false=>2
def kBk:Con (List OpM) where
 enc l:=([aJ l],[])
 ok l:=l.length<4194304
 inj a b h:=by
  unfold aJ at h;simp only[Prod.mk.injEq,List.cons.injEq,true_and,and_true]at h;exact EOp.all_inj _ _ (oO h)
 dflt:=[]
def abu(l:List OpM):Ct:=eY P 33 1 Dbc (gX (kBc.at l) (Rh l)) ctF
theorem aaw(l:List OpM):dD P E (abu l) 50 fQ [] [] 0 33 (kBk.enc l).1 (kBk.enc l).2=some (.int .i64 (uG l),af []):=by
 have q:=Oo (kBc.at l) (badM 0 l).isNone 2 (aJ l) (ag l.length) l.length (((badM 0 l).getD 0:Nat):Int) l.length 0 (EOp.all l);refine Eq.trans ?_ (q.trans ?_)
 ·rfl
 clear q;unfold uG;cases eqI (ag l.length) 0 with
 |true=>rfl
 |false=>
  simp only[aH];cases gtI (ag l.length) 8 with
  |true=>rfl
  |false=>
   simp only[aH];refine rW (k:=kBc) (s:=l) (by show bcV 0 l 0=_; unfold bcV aJ aX; rw[tJ]) rfl ?_;cases (badM 0 l).isNone<;>rfl
theorem U8:CallOkX P 0 33 (yc kBk.C kBk.D fun l=> .leaf (.int .i64 (uG l),[])):=wV kBk fun l ho v bs' hev=>by
 simp only[DT.eval,Option.some.injEq,Prod.mk.injEq]at hev;obtain⟨rfl,rfl⟩:=hev;exact CRX.of (bf (abu l)) az (dV bn (BA kBc Tv (s:=l) ho)) (aaw l)
def Dsh:HeadX:=⟨0,26,[0,1,4,5,12,13],[.val, .val, .val, .val, .val, .val],[],fQ⟩
def Bsh:Code:=(dR P 134 0).getD .skip
theorem SK:dR P 134 0=some Bsh:=by kernel_rfl
theorem GK:Occ P 134 (.block 0 (.loop Bsh)):=fA SK
theorem Uc(a b:ByteArray)(r x z i:Int):bV P E ctF 50 134 Bsh Dsh [.string a, .string b, .int .i64 r, .int .i64 x, .int .i64 z, .int .i64 i] [] =
 (ak (ltI i z)
 (ae (inI i (ByteArray.size a))
 (ae (inI i (ByteArray.size b))
 (ak (neI (bAt a i) (bAt b i))
 (some ((Value.tuple (Array.mk [(Value.int IntKind.i64 (-1:Int)),(Value.string a),(Value.string b),(Value.int IntKind.i64 i),(Value.int IntKind.i64 x),(Value.int IntKind.i64 z),(Value.int IntKind.i64 i)])),(af [])))
 (some ((Value.tuple (Array.mk [(Value.int IntKind.i64 (0:Int)),(Value.string a),(Value.string b),(Value.int IntKind.i64 r),(Value.int IntKind.i64 x),(Value.int IntKind.i64 z),(Value.int IntKind.i64 (dO IntKind.i64 i (1:Int)))])),(af []))))))
 (some ((Value.tuple (Array.mk [(Value.int IntKind.i64 (1:Int)),(Value.string a),(Value.string b),(Value.int IntKind.i64 r),(Value.int IntKind.i64 x),(Value.int IntKind.i64 z),(Value.int IntKind.i64 i)])),(af [])))):=by kernel_rfl
theorem ZK(C:List Value->List Blk->Bool)(ok:Bool)(r x z i r1 x1 z1 i1:Int)(a b:ByteArray):dD P E (eY P 134 0 Dsh (gX C (.ite ok (.leaf (.normal,[.string a, .string b, .int .i64 r, .int .i64 x, .int .i64 z, .int .i64 i],[])) (.leaf (.ret,[.string a, .string b, .int .i64 r1, .int .i64 x1, .int .i64 z1, .int .i64 i1],[])))) ctF) 50 fQ [] [] 0 134 [.string a, .string b] [] =
 (ak (ltI (ag (ByteArray.size b)) (ag (ByteArray.size a)))
 (ae (C [(Value.string a),(Value.string b),(Value.int IntKind.i64 (0:Int)),(Value.int IntKind.i64 (ag (ByteArray.size b))),(Value.int IntKind.i64 (ag (ByteArray.size b))),(Value.int IntKind.i64 (0:Int))] [])
 (ak ok
 (some ((Value.int IntKind.i64 x),(af [])))
 (some ((Value.int IntKind.i64 r1),(af [])))))
 (ae (C [(Value.string a),(Value.string b),(Value.int IntKind.i64 (0:Int)),(Value.int IntKind.i64 (ag (ByteArray.size a))),(Value.int IntKind.i64 (ag (ByteArray.size a))),(Value.int IntKind.i64 (0:Int))] [])
 (ak ok
 (some ((Value.int IntKind.i64 x),(af [])))
 (some ((Value.int IntKind.i64 r1),(af [])))))):=by kernel_rfl
def oL(a b:ByteArray):Nat->Nat->Option Nat
 |0,_=>none
 |k+1,i=>match neI (bAt a (i:Int)) (bAt b (i:Int))with
  |true=>some i
  |false=>oL a b k (i+1)
def gV(a b:ByteArray):Nat:=match ltI (ag b.size) (ag a.size)with
 |true=>b.size
 |false=>a.size
theorem OM(a b:ByteArray):gV a b<=a.size/\gV a b<=b.size:=by
 unfold gV;cases h:ltI (ag b.size) (ag a.size)with
 |true=>have:ag b.size<ag a.size:=of_decide_eq_true h; unfold ag at this; exact⟨by simp only; omega,Nat.le_refl _⟩
 |false=>have:¬ag b.size<ag a.size:=of_decide_eq_false h; unfold ag at this; exact⟨Nat.le_refl _,by simp only; omega⟩
structure ShS where
 a:ByteArray
 b:ByteArray
def shV(s:ShS)(r i:Int):List Value:=[.string s.a, .string s.b, .int .i64 r, .int .i64 (ag (gV s.a s.b)), .int .i64 (ag (gV s.a s.b)), .int .i64 i]
theorem VO{s:ShS}{i:Nat}(hi:i<gV s.a s.b)(hl:gV s.a s.b<4611686018427387904):bV P E ctF 50 134 Bsh Dsh (shV s 0 i) []=match neI (bAt s.a (i:Int)) (bAt s.b (i:Int))with
  |true=>some (.tuple ⟨exV .ret::shV s i i⟩,af [])
  |false=>some (.tuple ⟨exV .normal::shV s 0 ((i+1:Nat):Int)⟩,af []):=by
 obtain⟨h1,h2⟩:=OM s.a s.b;unfold shV;rw[Uc];have g1:ltI (i:Int) (ag (gV s.a s.b))=true:=by unfold ltI ag; exact decide_eq_true (by omega)
 have g2:inI (i:Int) s.a.size=true:=by unfold inI; exact decide_eq_true (by omega)
 have g3:inI (i:Int) s.b.size=true:=by unfold inI; exact decide_eq_true (by omega)
 have a1:dO .i64 (i:Int) 1=((i+1:Nat):Int):=by unfold dO; rw[wrap64 (by omega) (by omega)]; omega
 simp only[g1,g2,g3,a1,aK,ax];cases neI (bAt s.a (i:Int)) (bAt s.b (i:Int))<;>rfl
theorem abA{s:ShS}:bV P E ctF 50 134 Bsh Dsh (shV s 0 (gV s.a s.b)) []=some (.tuple ⟨exV (.exit 0)::shV s 0 (gV s.a s.b)⟩,af []):=by
 unfold shV;rw[Uc];have g1:ltI (gV s.a s.b:Int) (ag (gV s.a s.b))=false:=by unfold ltI ag; exact decide_eq_false (by omega)
 simp only[g1,aH]
 rfl
theorem N_(s:ShS)(hl:gV s.a s.b<4611686018427387904):∀ (k i:Nat),i+k=gV s.a s.b->
  LRX P 134 0 Bsh Dsh.head (shV s 0 i) [] (match oL s.a s.b k i with | none=> .normal | some _=> .ret) (match oL s.a s.b k i with | none=>shV s 0 (gV s.a s.b) | some j=>shV s j j) []
 |0,i,h=>by
  have e:i=gV s.a s.b:=by omega
  rw[e];exact LRX.stop (n:=50) (bf ctF) az bn GK (e:= .exit 0) abA (by intro h; cases h)
 |k+1,i,h=>by
  have q:=VO (s:=s) (i:=i) (by omega) hl;simp only[oL];cases ho:neI (bAt s.a (i:Int)) (bAt s.b (i:Int))with
  |false=>
   rw[ho]at q;exact LRX.again (n:=50) (bf ctF) az bn GK q (N_ s hl k (i+1) (by omega))
  |true=>
   rw[ho]at q;exact LRX.stop (n:=50) (bf ctF) az bn GK (e:= .ret) q (by intro h; cases h)
def kSh:Con ShS where
 enc s:=(shV s 0 0,[])
 ok s:=gV s.a s.b<4611686018427387904
 inj a b h:=by
  obtain⟨a1,a2⟩:=a;obtain⟨b1,b2⟩:=b;unfold shV at h;simp only[Prod.mk.injEq,List.cons.injEq,Value.string.injEq,and_true]at h;obtain⟨rfl,rfl,_⟩:=h
  rfl
 dflt:=⟨⟨#[]⟩,⟨#[]⟩⟩
def QQ(s:ShS):DT (Ex×List Value×List Blk):= .ite (oL s.a s.b (gV s.a s.b) 0).isNone (.leaf (.normal,shV s 0 (gV s.a s.b),[])) (.leaf (.ret,shV s ((oL s.a s.b (gV s.a s.b) 0).getD 0:Nat) ((oL s.a s.b (gV s.a s.b) 0).getD 0:Nat),[]))
theorem Va:LoopOkX P 134 0 Bsh Dsh.head (Dn kSh.C kSh.D QQ):=
 yE kSh (dL SK) fun s ho e vs' bs' hev=>by
  have q:=N_ s ho (gV s.a s.b) 0 (by omega);unfold QQ at hev;cases hb:oL s.a s.b (gV s.a s.b) 0 with
  |none=>
   rw[hb]at hev q;simp only[Option.isNone_none,DT.eval,Option.some.injEq,Prod.mk.injEq]at hev;obtain⟨rfl,rfl,rfl⟩:=hev;exact q
  |some j=>
   rw[hb]at hev q;simp only[Option.isNone_some,Option.getD_some,DT.eval,Option.some.injEq,Prod.mk.injEq]at hev;obtain⟨rfl,rfl,rfl⟩:=hev;exact q
def qx(a b:ByteArray):Nat:=(oL a b (gV a b) 0).getD (gV a b)
def kSk:Con ShS where
 enc s:=([.string s.a, .string s.b],[])
 ok s:=gV s.a s.b<4611686018427387904
 inj a b h:=by
  obtain⟨a1,a2⟩:=a;obtain⟨b1,b2⟩:=b;simp only[Prod.mk.injEq,List.cons.injEq,Value.string.injEq,and_true]at h;obtain⟨rfl,rfl⟩:=h
  rfl
 dflt:=⟨⟨#[]⟩,⟨#[]⟩⟩
def ab7(s:ShS):Ct:=eY P 134 0 Dsh (gX (kSh.at s) (QQ s)) ctF
theorem YG(s:ShS):dD P E (ab7 s) 50 fQ [] [] 0 134 (kSk.enc s).1 (kSk.enc s).2=some (.int .i64 (qx s.a s.b),af []):=by
 obtain⟨a,b⟩:=s;have q:=ZK (kSh.at ⟨a,b⟩) (oL a b (gV a b) 0).isNone 0 (ag (gV a b)) (ag (gV a b)) (gV a b) ((oL a b (gV a b) 0).getD 0:Nat) (ag (gV a b)) (ag (gV a b)) ((oL a b (gV a b) 0).getD 0:Nat) a b;refine Eq.trans ?_ (q.trans ?_)
 ·rfl
 clear q;have fin:∀ x:Nat,x=gV a b->ae (kSh.at ⟨a,b⟩ [.string a, .string b, .int .i64 0, .int .i64 (ag x), .int .i64 (ag x), .int .i64 0] []) (ak (oL a b (gV a b) 0).isNone (some (.int .i64 (ag (gV a b)),af [])) (some (.int .i64 (((oL a b (gV a b) 0).getD 0:Nat):Int),af [])))=some (.int .i64 (qx a b),af []):=by
  intro x hx;subst hx;refine rW (k:=kSh) (s:=⟨a,b⟩) rfl rfl ?_;unfold qx;cases oL a b (gV a b) 0<;>rfl
 cases h:ltI (ag b.size) (ag a.size)with
 |true=>exact fin b.size (by unfold gV; rw[h])
 |false=>exact fin a.size (by unfold gV; rw[h])
theorem acA:CallOkX P 0 134 (yc kSk.C kSk.D fun s=> .leaf (.int .i64 (qx s.a s.b),[])):=wV kSk fun s ho v bs' hev=>by
 simp only[DT.eval,Option.some.injEq,Prod.mk.injEq]at hev;obtain⟨rfl,rfl⟩:=hev;exact CRX.of (bf (ab7 s)) az (dV bn (BA kSh Va (s:=s) ho)) (YG s)
end Go.VS.Tryz
end

noncomputable section
namespace Go.VS
open Go.RowKit
section
variable{P:Program}{ct:Ct}
def nO(P:Program)(g:FuncId)(ct:Ct):Ct where
 call:=fun g' args st=>match Nat.beq g' g with
  |true=>some (rE P 100 (QR P g) args st fun args1 st1=>match ct.call g args1 st1 with
   |some t=>t
   |none=> .fail)
  |false=>ct.call g' args st
 loop:=ct.loop
 op:=ct.op
theorem mF{g:FuncId}(hct:CtOk P ct):CtOk P (nO P g ct) where
 opc:=hct.opc
 op:=hct.op
 loop:=hct.loop
 call:=by
  intro K g' args st v st' hl β w args' cs ha hr;simp only[nO]at hl;split at hl
  ·rename_i hb;obtain rfl:=Nat.eq_of_beq_eq_true hb;simp only[Option.bind_some]at hl;obtain⟨args1,st1,h1,h2,h3,h4⟩:=kT _ _ _ _ _ hl;split at h1
   ·rename_i t ht;obtain⟨β1,a1,a2,a3⟩:=h4 K β w args'.toList hr ha;obtain⟨β2,fr,w2,v',b1,b2,b3,b4,b5,b6⟩:=hct.call K _ args1 st1 v st' (by rw[ht]; exact h1) β1 w args' cs a3 a2;exact⟨β2,fr,w2,v',b1,a1.trans b2,b3,b4,b5,b6⟩
   ·cases h1
  ·exact hct.call K g' args st v st' hl β w args' cs ha hr
end
end Go.VS
end

noncomputable section
namespace Go.VS.Tryz
open Go.VS
set_option maxRecDepth 1000000
def WE(K:ByteArray->ByteArray->Bool)(S:ByteArray->ByteArray->Int):iW:=fun args bs=>match args,bs with
 |[.string a, .string b],[]=>some (.ite (K a b) (.leaf (.int .i64 (S a b),[])) .fail)
 |_,_=>none
def Yl(V:Nat->List UInt8)(C:Int->Bool)(K:ByteArray->ByteArray->Bool)(S:ByteArray->ByteArray->Int):Ct:=
 aT P fQ 0 134 (WE K S) (nO P 50 (kG P 50 (sK V C) ctF))
def Dap:HeadX:=⟨0,70,[7,8,23,24,25],[.own, .val, .val, .val, .val],[57,0,0,0,0],fQ⟩
def Bap:Code:=(dR P 96 0).getD .skip
theorem UZ:dR P 96 0=some Bap:=by kernel_rfl
theorem aay:Occ P 96 (.block 0 (.loop Bap)):=fA UZ
theorem S9(V:Nat->List UInt8)(C:Int->Bool)(K:ByteArray->ByteArray->Bool)(S:ByteArray->ByteArray->Int)(nd:Nat)(cd:List Value)(k:ByteArray)(n b:Nat)(c:List Value)(z i:Int):bV P E (Yl V C K S) 50 96 Bap Dap [.slice (some ⟨0,0,none⟩) nd 18446744073709551616, .string k,aX 3 n b c, .int .i64 z, .int .i64 i] [.cells cd 5 false] =
 (let y:=atN i 3;let x:=Nat.add y 1;let w:=asS (aU c x);let v:=asB (aU c y);let u:=Nat.add nd 1;let t:=Nat.ble u 4194304;let s:=Nat.beq (Nat.add 0 (Nat.mul nd 1)) cd.length;let r:=jR 0 cd;let q:=List.append r [.int .u8 1];let p:=Nat.mul u 1;let o:=takeC p (bT 0 q);let m:=S k w;let l:=cvI .u64 m;
 let j:=V (Int.toNat l);let h:=HAppend.hAppend (List.map byteOf o) j;let g:=h.length;let f:=aZ false (fF 4) (bc h);let e:=takeC (Nat.mul g 1) (bT 0 f);let d:=ag w.size;let a:=cvI .u64 (fH .i64 d m);let Z:=gq m d w.size;let Y:=Dx w m d;let X:=Go.byteCells Y;let W:=List.all X oneCell;
 let U:=V (Int.toNat a);let T:=HAppend.hAppend (List.map byteOf e) U;let R:=Nat.add T.length Y.size;let Q:=fF 19;let O:=aZ false Q (bc T);let N:=Value.string w;let M:=Value.string Y;let L:=List.append (jR 0 O) X;let J:=takeC (Nat.mul R 1) (bT 0 L);let I:=asS (aU c (Nat.add x 1));
 let H:=cvI .u64 (ag I.size);let G:=Go.byteCells I;let F:=List.all G oneCell;let D:=V (Int.toNat H);let B:=HAppend.hAppend (List.map byteOf J) D;let A:=Nat.add B.length I.size;let z0:=fF 31;let y0:=aZ false z0 (bc B);let x0:=Value.string I;let w0:=bU x0 x0;let v0:=List.append (jR 0 y0) G;
 let u0:=io_ 0;let t0:=fa_ n b c;let s0:=io_ z;let r0:=io_ (dO .i64 i 1);let q0:=bY 0 [33];let p0:=bY 0 [21];let o0:=List.append r [.int .u8 0];let n0:=takeC p (bT 0 o0);let m0:=HAppend.hAppend (List.map byteOf n0) j;let l0:=m0.length;let k0:=aZ false (fF 4) (bc m0);let j0:=takeC (Nat.mul l0 1) (bT 0 k0);
 let i0:=HAppend.hAppend (List.map byteOf j0) U;let h0:=Nat.add i0.length Y.size;let g0:=aZ false Q (bc i0);let f0:=List.append (jR 0 g0) X;let e0:=takeC (Nat.mul h0 1) (bT 0 f0);let d0:=HAppend.hAppend (List.map byteOf e0) D;let c0:=Nat.add d0.length I.size;let b0:=aZ false z0 (bc d0);
 let a0:=List.append (jR 0 b0) G;
 (ak (ltI i z) (ae (Bool.and (Nat.beq 3 3) (inI i n)) (ae (Bool.and (Nat.ble (Nat.add y 3) c.length) (iq [.bool, .string, .string] c y)) (ae (K k w) (ak v (ae t (ae s (ae (fq_ u q 5) (ae (Bool.and (fw_ u o) (C l)) (ae (fq_ g f 5) (ae (Bool.and (fw_ g e) (C a)) (ae Z (ae W (ae (Nat.ble R 4194304) (ae (Nat.beq (Nat.add 0 (Nat.mul T.length 1)) O.length) (ae (bU N N) (ae Z (ae (bU M M) (ak v (ae (fq_ R L 5) (ae (Bool.and (fw_ R J) (C H)) (ae F (ae (Nat.ble A 4194304) (ae (Nat.beq (Nat.add 0 (Nat.mul B.length 1)) y0.length) (ae w0 (nb_ A 1 v0 (some (.tuple ⟨[u0,sl_ 0 A,N,t0,s0,r0]⟩,af [lb_ q0 A 1 v0 5]))))))))) (nb_ R 1 L (some (.tuple ⟨[u0,sl_ 0 R,N,t0,s0,r0]⟩,af [lb_ p0 R 1 L 5]))))))))))))))))) (ae t (ae s (ae (fq_ u o0 5) (ae (Bool.and (fw_ u n0) (C l)) (ae (fq_ l0 k0 5) (ae (Bool.and (fw_ l0 j0) (C a)) (ae Z (ae W (ae (Nat.ble h0 4194304) (ae (Nat.beq (Nat.add 0 (Nat.mul i0.length 1)) g0.length) (ae (bU N N) (ae Z (ae (bU M M) (ak v (ae (fq_ h0 f0 5) (ae (Bool.and (fw_ h0 e0) (C H)) (ae F (ae (Nat.ble c0 4194304) (ae (Nat.beq (Nat.add 0 (Nat.mul d0.length 1)) b0.length) (ae w0 (nb_ c0 1 a0 (some (.tuple ⟨[u0,sl_ 0 c0,N,t0,s0,r0]⟩,af [lb_ q0 c0 1 a0 5]))))))))) (nb_ h0 1 f0 (some (.tuple ⟨[u0,sl_ 0 h0,N,t0,s0,r0]⟩,af [lb_ p0 h0 1 f0 5]))))))))))))))))))))) (nb_ nd 1 cd (some (.tuple ⟨[io_ 1,sl_ 0 nd, .string k,t0,s0,io_ i]⟩,af [lb_ (bY 0 [1]) nd 1 cd 5]))))):=by kernel_rfl
theorem u8n{n:Nat}(h:n<256):(UInt8.ofNat n).toNat=n:=by simp only[UInt8.toNat_ofNat']; omega
theorem Xl(i:Nat):2^(7*(i+1))=128*2^(7*i):=by rw[show 7*(i+1)=7+7*i by omega,Nat.pow_add]
theorem nine{i n X:Nat}(h9:i=9)(h:X+n*2^(7*i)<18446744073709551616):n<=1:=by
 subst h9;have e:2^(7*9)=9223372036854775808:=by decide
 rw[e]at h;omega
theorem We:∀ (k n i X:Nat) (r:List UInt8),n<128^(k+1)->i<=9->X<2^(7*i)->X+n*2^(7*i)<18446744073709551616->(0<i->0<n)->
  iC i X (hiM k n++UInt8.ofNat (lC k n)::r)=(true,X+n*2^(7*i),i+(hiM k n).length+1):=by
 intro k;have last:∀ (n i X:Nat) (r:List UInt8),n<128->i<=9->X+n*2^(7*i)<18446744073709551616->(0<i->0<n)->iC i X (UInt8.ofNat n::r)=(true,X+n*2^(7*i),i+0+1):=by
  intro n i X r hn hi hs h0;have hu:(UInt8.ofNat n).toNat=n:=u8n (by omega);rw[iC,hu,decide_eq_false (by rintro ⟨h9,h1⟩; have:=nine h9 hs; omega),decide_eq_false (by omega),decide_eq_false (by rintro ⟨h1,h2⟩; have:=h0 h2; omega)];simp only[lH];have hm:n % 128=n:=Nat.mod_eq_of_lt hn;have hp:0<=X:=Nat.zero_le _;rw[hm,Nat.mod_eq_of_lt (by omega)]
 induction k with
 |zero=>
  intro n i X r hn hi hX hs h0;show iC i X (UInt8.ofNat n::r)=_;exact last n i X r (by simpa using hn) hi hs h0
 |succ k ih=>
  intro n i X r hn hi hX hs h0;by_cases hb:128<=n
  ·have e1:hiM (k+1) n=UInt8.ofNat (n % 128+128)::hiM k (n / 128):=by rw[hiM,Nat.ble_eq_true_of_le hb]
   have e2:lC (k+1) n=lC k (n / 128):=by rw[lC,Nat.ble_eq_true_of_le hb]
   have hi9:i≠9:=fun h9=>by have:=nine h9 hs; omega
   have hu:(UInt8.ofNat (n % 128+128)).toNat=n % 128+128:=u8n (by omega);have hpos:0<2^(7*i):=Nat.pow_pos (by decide);have hdm:n=n / 128*128+n % 128:=by omega
   have hval:X+n % 128*2^(7*i)+n / 128*(128*2^(7*i))=X+n*2^(7*i):=by
    conv=>rhs; rw[hdm]
    rw[Nat.add_mul,Nat.mul_assoc]; omega
   have hlt:n % 128*2^(7*i)<18446744073709551616:=by
    have:n % 128*2^(7*i)<=n*2^(7*i):=Nat.mul_le_mul_right _ (Nat.mod_le _ _);omega
   rw[e1,e2,List.cons_append,iC,hu,decide_eq_false (by rintro ⟨h9,_⟩; exact hi9 h9),decide_eq_true (show 128<=n % 128+128 by omega)];have hst:lH X i (n % 128+128)=X+n % 128*2^(7*i):=by
    unfold lH;have:(n % 128+128) % 128=n % 128:=by omega
    rw[this,Nat.mod_eq_of_lt hlt]
   simp only[hst];rw[ih (n / 128) (i+1) (X+n % 128*2^(7*i)) r (by rw[Nat.div_lt_iff_lt_mul (by decide)]; rw[Nat.pow_succ]at hn; exact hn) (by omega) ?_ (by rw[Xl,hval]; exact hs) (fun _=>by omega)]
   ·rw[Xl,hval,List.length_cons];simp only[Prod.mk.injEq,true_and];omega
   ·rw[Xl];have:n % 128*2^(7*i)<=127*2^(7*i):=Nat.mul_le_mul_right _ (by omega);omega
  ·have hf:Nat.ble 128 n=false:=by
    cases hx:Nat.ble 128 n with
    |false=>rfl
    |true=>exact absurd (Nat.le_of_ble_eq_true hx) hb
   have e1:hiM (k+1) n=[]:=by rw[hiM,hf]
   have e2:lC (k+1) n=n:=by rw[lC,hf]
   rw[e1,e2];exact last n i X r (by omega) hi hs h0
theorem aa5{n:Nat}(h:n<18446744073709551616)(r:List UInt8):gZ (dP n++r)=(n,(dP n).length,0):=by
 have h1:=We 10 n 0 0 r (Nat.lt_of_lt_of_le h (by decide)) (by decide) (by decide) (by simpa using h) (fun h=>absurd h (by decide));unfold gZ dP;rw[List.append_assoc,List.singleton_append,h1];simp
def shN:List UInt8->List UInt8->Nat
 |x::r,y::s=>match decide (x=y)with
  |true=>shN r s+1
  |false=>0
 |_,_=>0
theorem ac3:∀ (r s:List UInt8),shN r s<=r.length
 |[],_=>by simp[shN]
 |x::r,[]=>by simp[shN]
 |x::r,y::s=>by
  unfold shN;have:=ac3 r s;split<;>simp<;>omega
def lst(s:ByteArray):List UInt8:=s.data.toList
def txt(l:List UInt8):ByteArray:=⟨⟨l⟩⟩
theorem Zf(s:ByteArray):txt (lst s)=s:=rfl
theorem bg(s:ByteArray):(lst s).length=s.size:=(size_eq s).symm
def okO(o:OpM):Bool:=pG o.p o.k o.v
theorem xh{o:OpM}(h:okO o=true):1<=o.k.size/\o.k.size<=16/\o.v.size<=32/\(o.p=true\/o.v=txt []):=by
 unfold okO pG at h;simp only[Bool.and_eq_true,decide_eq_true_eq,Bool.or_eq_true,beq_iff_eq]at h;refine⟨h.1.1.1,h.1.1.2,h.1.2,?_⟩;rcases h.2 with h | h
 ·exact Or.inl h
 ·exact Or.inr (by rw[<-Zf o.v]; unfold lst; rw[h])
def jb(l:List OpM):Int:=match l with
 |[]=>2
 |_=>match decide (8<l.length),l.all okO with
  |true,_=>3
  |false,true=>0
  |false,false=>2
theorem jc{l:List OpM}:jb l=0↔1<=l.length/\l.length<=8/\l.all okO=true:=by
 cases l with
 |nil=>simp[jb]
 |cons o l=>
  unfold jb;by_cases h:8<(o::l).length
  ·rw[decide_eq_true h];simp only[show(3:Int)=0↔False by simp,false_iff];omega
  ·rw[decide_eq_false h];cases ha:(o::l).all okO<;>simp<;>simp at h<;>omega
def uF(last:List UInt8)(o:OpM):List UInt8:=(bif o.p then 1 else 0)::(dP (shN last (lst o.k))++(dP (o.k.size-shN last (lst o.k))++(lst o.k).drop (shN last (lst o.k))))++(bif o.p then dP o.v.size++lst o.v else [])
def pR:List UInt8->List OpM->List UInt8
 |_,[]=>[]
 |last,o::r=>uF last o++pR (lst o.k) r
def yJ(l:List OpM):List UInt8:=dP l.length++pR [] l
def qj(b:List UInt8)(a:Nat)(bad:Bool)(m:Nat):Nat×Nat×Bool:=match bad with
 |true=>(0,a,true)
 |false=>match pK (b.drop a) m with
  |true=>((gZ (b.drop a)).1,a+(gZ (b.drop a)).2.1,false)
  |false=>(0,a,true)
def Eu(b:List UInt8)(a:Nat)(bad:Bool)(m:Nat):List UInt8×Nat×Bool:=match(qj b a bad m).2.2 || decide (b.length<(qj b a bad m).2.1+(qj b a bad m).1)with
 |true=>([],(qj b a bad m).2.1,true)
 |false=>((b.drop (qj b a bad m).2.1).take (qj b a bad m).1,(qj b a bad m).2.1+(qj b a bad m).1,false)
theorem zY:∀ (r s:List UInt8),shN r s<=s.length
 |[],s=>by simp[shN]
 |x::r,[]=>by simp[shN]
 |x::r,y::s=>by
  unfold shN;have:=zY r s;split<;>simp<;>omega
end Go.VS.Tryz
end

noncomputable section
namespace Go.VS.Tryz

theorem TF{s:ByteArray}{i:Nat}(h:i<(lst s).length):bAt s (i:Int)=(((lst s)[i]).toNat:Int):=by
 unfold bAt;show(((lst s).getD (i:Int).toNat 0).toNat:Int)=_;rw[show(i:Int).toNat=i by omega,List.getD_eq_getElem?_getD,List.getElem?_eq_getElem h,Option.getD_some]
theorem Oz(a b:ByteArray):∀ (k i:Nat),i+k=min (lst a).length (lst b).length->(oL a b k i).getD (i+k)=i+shN ((lst a).drop i) ((lst b).drop i)
 |0,i,h=>by
  have hz:shN ((lst a).drop i) ((lst b).drop i)=0:=by
   rcases Nat.le_total (lst a).length (lst b).length with hl | hl
   ·rw[Nat.min_eq_left hl]at h;rw[List.drop_of_length_le (by omega:(lst a).length<=i)];simp[shN]
   ·rw[Nat.min_eq_right hl]at h;rw[List.drop_of_length_le (by omega:(lst b).length<=i)];simp[shN]
  rw[hz]
  rfl
 |k+1,i,h=>by
  have h1:i<(lst a).length:=by omega
  have h2:i<(lst b).length:=by omega
  rw[List.drop_eq_getElem_cons h1,List.drop_eq_getElem_cons h2];simp only[oL,shN];rw[TF h1,TF h2];by_cases hx:(lst a)[i]=(lst b)[i]
  ·have e:neI (((lst a)[i]).toNat:Int) (((lst b)[i]).toNat:Int)=false:=by rw[hx]; unfold neI; simp
   rw[e,decide_eq_true hx];have ih:=Oz a b k (i+1) (by omega);simp only;rw[show i+(k+1)=i+1+k by omega,ih];omega
  ·have e:neI (((lst a)[i]).toNat:Int) (((lst b)[i]).toNat:Int)=true:=by
    unfold neI;simp only[bne_iff_ne,ne_eq];intro hh;exact hx (UInt8.toNat_inj.1 (by omega))
   rw[e,decide_eq_false hx]
   rfl
theorem Ff(a b:ByteArray):qx a b=shN (lst a) (lst b):=by
 have hm:gV a b=min (lst a).length (lst b).length:=by
  rw[bg,bg];unfold gV;cases h:ltI (ag b.size) (ag a.size)with
  |true=>have:ag b.size<ag a.size:=of_decide_eq_true h; unfold ag at this; simp only; omega
  |false=>have:¬ag b.size<ag a.size:=of_decide_eq_false h; unfold ag at this; simp only; omega
 have:=Oz a b (gV a b) 0 (by omega);rw[Nat.zero_add,Nat.zero_add,List.drop_zero,List.drop_zero]at this;exact this
end Go.VS.Tryz
end

noncomputable section
namespace Go.VS.Tryz
open Go.VS
set_option maxRecDepth 1000000
def within(x a b:Int):Bool:=decide (a<=x)&&decide (x<=b)
theorem within_iff{x a b:Int}:within x a b=true↔a<=x/\x<=b:=by unfold within; simp
theorem zk:∀ (i:Nat) (l:List OpM),badM i l=none↔l.all okO=true
 |_,[]=>by simp[badM]
 |i,o::l=>by
  unfold badM;have e:E9 o=okO o:=rfl;rw[e,List.all_cons];cases okO o with
  |true=>simp only[Bool.true_and]; exact zk (i+1) l
  |false=>simp
theorem Ae(l:List OpM):uG l=jb l:=by
 have hb:(badM 0 l).isNone=l.all okO:=by
  cases h:l.all okO with
  |true=>rw[(zk 0 l).2 h]; rfl
  |false=>
   cases hq:badM 0 l with
   |none=>rw[(zk 0 l).1 hq]at h; cases h
   |some i=>rfl
 unfold uG;rw[hb];cases l with
 |nil=>rfl
 |cons o l=>
  have h0:eqI (ag (o::l).length) 0=false:=by unfold eqI ag; exact decide_eq_false (by simp; omega)
  rw[h0];unfold jb;by_cases h:8<(o::l).length
  ·have h8:gtI (ag (o::l).length) 8=true:=by unfold gtI ag; exact decide_eq_true (by omega)
   rw[h8,decide_eq_true h]
  ·have h8:gtI (ag (o::l).length) 8=false:=by unfold gtI ag; exact decide_eq_false (by omega)
   rw[h8,decide_eq_false h];cases (o::l).all okO<;>rfl
def cmE(c:CmM):Int:=match within c.e 1 1048576&&within c.n 1 1048576 with
 |true=>uG c.ops
 |false=>2
theorem lZ{c:CmM}:cmE c=0↔(1<=c.e/\c.e<=1048576)/\(1<=c.n/\c.n<=1048576)/\jb c.ops=0:=by
 unfold cmE;rw[Ae];cases h:within c.e 1 1048576&&within c.n 1 1048576 with
 |true=>
  simp only[Bool.and_eq_true,within_iff]at h;simp only[h,true_and,and_self]
 |false=>
  have:¬((1<=c.e/\c.e<=1048576)/\(1<=c.n/\c.n<=1048576)):=by
   intro⟨a,b⟩;rw[within_iff.2 a,within_iff.2 b]at h;cases h
  simp only[show(2:Int)=0↔False by simp,false_iff];intro⟨a,b,_⟩;exact this ⟨a,b⟩
def jJ:Int->Int->Nat->List CmM->Int×Nat
 |_,_,_,[]=>(0,0)
 |e,n,i,c::l=>match eqI (cmE c) 0 with
  |false=>(cmE c,i)
  |true=>match neI (c.n-1) n || ltI c.e e with
   |true=>(15,i)
   |false=>jJ c.e c.n (i+1) l
def jd(c:CmM):List UInt8:=dP c.e.toNat++(dP c.n.toNat++yJ c.ops)
def frM(r:List UInt8):List UInt8:=dP r.length++r
structure SecM where
 e:Int
 f:Int
 cs:List CmM
def eG(l:List CmM):Int:=(l.getLast?.map CmM.e).getD 0
theorem eH{n:Nat}:(dP n).length<=11:=by
 unfold dP;have:=uf 10 n;rw[List.length_append];simp;omega
end Go.VS.Tryz
end

noncomputable section
namespace Go.VS

section
variable{P:Program}{ct:Ct}
open Classical in
def bM(a0:List Value)(b0:List Blk):List Value->List Blk->Bool:=fun vs bs=>decide (a0=vs/\b0=bs)
open Classical in
theorem Ic{a0 vs:List Value}{b0 bs:List Blk}(h1:a0=vs)(h2:b0=bs):bM a0 b0 vs bs=true:=by
 unfold bM; exact decide_eq_true ⟨h1,h2⟩
open Classical in
theorem BQ{a0 vs:List Value}{b0 bs:List Blk}(h:bM a0 b0 vs bs=true):a0=vs/\b0=bs:=by
 unfold bM at h; exact of_decide_eq_true h
theorem mZ{a0 vs:List Value}{b0 bs:List Blk}{x r:Res}(h1:a0=vs)(h2:b0=bs)(h:x=r):ae (bM a0 b0 vs bs) x=r:=by
 rw[Ic h1 h2]; exact h
theorem bF{N:Nat}{g:FuncId}{a0:List Value}{b0:List Blk}{v:Value}{b1:List Blk}(h:CRX P N g a0 b0 v b1):CallOkX P N g (cu (bM a0 b0) (.leaf (v,b1))):=by
 refine⟨fun args bs t hR v' bs' hev=>?_⟩;unfold cu at hR;obtain rfl:=Option.some.inj hR;cases hc:bM a0 b0 args bs with
 |false=>rw[hc]at hev; cases hev
 |true=>
  rw[hc]at hev;obtain⟨rfl,rfl⟩:=BQ hc;have hev:(DT.leaf (v,b1)).eval=some (v',bs'):=hev;simp only[DT.eval,Option.some.injEq,Prod.mk.injEq]at hev;obtain⟨rfl,rfl⟩:=hev;exact h
theorem fG{fid id:Nat}{B:Code}{H:Head}{a0:List Value}{b0:List Blk}{e:Ex}{v:List Value}{b1:List Blk}(hocc:∀ c,Occ P fid (.block id c)->c = .loop B)(h:LRX P fid id B H a0 b0 e v b1):LoopOkX P fid id B H (gX (bM a0 b0) (.leaf (e,v,b1))) where
 occ:=hocc
 run:=by
  intro vs bs t hR e' vs' bs' hev;unfold gX at hR;obtain rfl:=Option.some.inj hR;cases hc:bM a0 b0 vs bs with
  |false=>rw[hc]at hev; cases hev
  |true=>
   rw[hc]at hev;obtain⟨rfl,rfl⟩:=BQ hc;have hev:(DT.leaf (e,v,b1)).eval=some (e',vs',bs'):=hev;simp only[DT.eval,Option.some.injEq,Prod.mk.injEq]at hev;obtain⟨rfl,rfl,rfl⟩:=hev;exact h
theorem CallOkX.at{σ:Type}{k:Con σ}{N:Nat}{g:FuncId}{res:σ->DT (Value×List Blk)}(h:CallOkX P N g (yc k.C k.D res)){s:σ}(ho:k.ok s){v:Value}{b:List Blk}(hv:(res s).eval=some (v,b)):CRX P N g (k.enc s).1 (k.enc s).2 v b:=
 h.run _ _ _ rfl v b (by rw[k.C_enc rfl ho,k.D_enc rfl]; exact hv)
theorem LRX.rounds{E:Eng}(hE:EngOk P ct E)(hN:noNum P=true)(hct:CtOk P ct){n fid id:Nat}{B:Code}{D:HeadX}(hocc:Occ P fid (.block id (.loop B))){vs:Nat->List Value}{bs:Nat->List Blk}{e:Ex}{vs':List Value}{bs':List Blk}(m:Nat)
  (h:∀ i,i<m->bV P E ct n fid B D (vs i) (bs i)=some (.tuple ⟨exV .normal::vs (i+1)⟩,af (bs (i+1)))) (hs:bV P E ct n fid B D (vs m) (bs m)=some (.tuple ⟨exV e::vs'⟩,af bs')) (he:e≠ .normal):LRX P fid id B D.head (vs 0) (bs 0) (jM id e) vs' bs':=
 LRX.iter hE hN hct hocc m h (LRX.stop hE hN hct hocc hs he)
end
end Go.VS
end

noncomputable section
namespace Go.VS.Tryz
open Go.VS
set_option maxRecDepth 1000000
theorem UJ(s:ByteArray)(a b:Nat):(Dx s (a:Int) (b:Int)).data.toList=(s.data.toList.drop a).take (b-a):=by
 unfold Dx;simp[ByteArray.extract,ByteArray.copySlice,List.extract_eq_take_drop]
def shK(a b:ByteArray):Bool:=decide (gV a b<4611686018427387904)
def shS(a b:ByteArray):Int:=(qx a b:Int)
theorem abW:CallOkX P 0 134 (WE shK shS):=⟨fun args bs t hR v bs' hev=>by
 unfold WE at hR;split at hR
 ·rename_i a b;obtain rfl:=Option.some.inj hR;cases hc:shK a b with
  |false=>rw[hc]at hev; cases hev
  |true=>
   rw[hc]at hev;unfold shK at hc;have ho:gV a b<4611686018427387904:=of_decide_eq_true hc;exact acA.run _ _ _ rfl v bs' (by rw[kSk.C_enc (s:=⟨a,b⟩) rfl ho,kSk.D_enc (s:=⟨a,b⟩) rfl]; exact hev)
 ·cases hR⟩
def Gu:Ct:=Yl dP jK shK shS
theorem Zc:CtOk P Gu:=aj (mF (ji bn tC)) abW
theorem aar{s:ByteArray}{a:Nat}(h:a<=s.size):Go.byteCells (Dx s (a:Int) (ag s.size))=bc ((lst s).drop a)/\(Dx s (a:Int) (ag s.size)).size=s.size-a:=by
 have e:(Dx s (a:Int) (ag s.size)).data.toList=(lst s).drop a:=by
  unfold ag lst;rw[UJ,List.take_of_length_le (by rw[List.length_drop,<-size_eq]; exact Nat.le_refl _)]
 refine⟨?_,?_⟩
 ·unfold Go.byteCells bc;rw[e]
 ·rw[size_eq,e,List.length_drop,bg]
theorem Ik(s:ByteArray):Go.byteCells s=bc (lst s):=rfl
theorem bz{x:List UInt8}{n:Nat}(h:n=x.length):takeC n (bT 0 (bc x))=bc x:=fK h
theorem bK{x:List UInt8}{n:Nat}(h:n=x.length):j_ P 0 n 18446744073709551616 (bc x) 5=true:=QY h
theorem b_{x:List UInt8}{n:Nat}(h:n=x.length)(h2:x.length+64<=4194304):fzB 18446744073709551617 n (bc x)=true:=by
 rw[<-fz1]; exact wZ h h2
theorem bJ{n m:Nat}(h:n<=m):Nat.ble n m=true:=Nat.ble_eq_true_of_le h
theorem bP{n m:Nat}(h:n=m):Nat.beq n m=true:=Gv.2 h
def apV(o:List UInt8)(last:ByteArray)(l:List OpM)(i:Nat):List Value:=[.slice (some ⟨0,0,none⟩) o.length 18446744073709551616, .string last,aJ l, .int .i64 (ag l.length), .int .i64 i]
def apB(o:List UInt8):List Blk:=[.cells (bc o) 5 false]
theorem VF{o:List UInt8}{last:ByteArray}{l:List OpM}{i:Nat}(hi:i<l.length)(hl:l.length<=8)(hok:okO l[i]=true)(ho:o.length+256<=4194304)(hla:last.size<=16) :
  bV P E Gu 50 96 Bap Dap (apV o last l i) (apB o)=some (.tuple ⟨exV .normal::apV (o++uF (lst last) l[i]) l[i].k l (i+1)⟩,af (apB (o++uF (lst last) l[i]))):=by
 obtain⟨k1,k2,v1,pv⟩:=xh hok;have hs1:qx last l[i].k<=l[i].k.size:=by
  rw[Ff,<-bg]; exact zY _ _
 have hs2:qx last l[i].k=shN (lst last) (lst l[i].k):=Ff _ _;have hl1:=bg last;have hl2:=bg l[i].k;have hl3:=bg l[i].v;generalize hsh:shN (lst last) (lst l[i].k)=s at hs2;have hsl:s<=l[i].k.size:=by rw[<-hs2]; exact hs1
 have b3:∀ n,Nat.beq n n=true:=Nat.beq_refl;have n3:∀ l:List OpM,(EOp.all l).length=Nat.mul l.length 3:=fun l=>EOp.all_length l;have g1:ltI (i:Int) (ag l.length)=true:=by unfold ltI ag; exact decide_eq_true (by omega)
 have g2:inI (i:Int) l.length=true:=by unfold inI; exact decide_eq_true (by omega)
 have g3:Nat.ble (Nat.add (atN (i:Int) 3) 3) (Nat.mul l.length 3)=true:=Nat.ble_eq_true_of_le (by
  show(i:Int).toNat*3+3<=l.length*3;have:(i:Int).toNat=i:=by omega
  omega)
 have g4:=qy hi;have a1:dO .i64 (i:Int) 1=((i+1:Nat):Int):=by unfold dO; rw[wrap64 (by omega) (by omega)]; omega
 have ab:∀ b,asB (.bool b)=b:=fun _=>rfl;have aS:∀ b,asS (.string b)=b:=fun _=>rfl;have hK:shK last l[i].k=true:=by unfold shK; exact decide_eq_true (by have:=(OM last l[i].k).1; omega)
 have hS:shS last l[i].k=(s:Int):=by unfold shS; rw[hs2]
 have c1:cvI .u64 (s:Int)=(s:Int):=gY (by omega);have c2:cvI .u64 (fH .i64 (ag l[i].k.size) (s:Int))=((l[i].k.size-s:Nat):Int):=by
  have:fH .i64 (ag l[i].k.size) (s:Int)=((l[i].k.size-s:Nat):Int):=by unfold fH ag; rw[wrap64 (by omega) (by omega)]; omega
  rw[this]; exact gY (by omega)
 have c3:cvI .u64 (ag l[i].v.size)=(l[i].v.size:Int):=gY (by omega);have cK:=aar hsl;have g5:gq (s:Int) (ag l[i].k.size) l[i].k.size=true:=mW (by omega) (by unfold ag; omega) (by unfold ag; omega);have cV:=Ik l[i].v;have d1:=eH (n:=s);have d2:=eH (n:=l[i].k.size-s);have d3:=eH (n:=l[i].v.size);have u1:jK (s:Int)=true:=jk (by omega) (by omega);have u2:jK ((l[i].k.size-s:Nat):Int)=true:=jk (by omega) (by omega);have u3:jK (l[i].v.size:Int)=true:=jk (by omega) (by omega);unfold apV apB aJ Gu;rw[S9];simp only[fa_,fq_,fw_,io_,lb_,nb_,sl_,n3,g1,g2,g3,g4,ve hi,qh hi,vk hi,ab,aS,a1,hK,hS,c1,c2,c3,cK.1,cK.2,cV,g5,u1,u2,u3,b3,dm,aA,bC,aV,a_,aO,ah,aP,bu,Int.toNat_natCast,aQ,aG,Bool.and_self,aK,ax];simp (disch:=first | omega | (simp only[List.length_append,List.length_drop,List.length_singleton,Nat.add_eq,bg]<;>omega) | fail) only[fa_,fq_,fw_,io_,lb_,nb_,sl_,bz,bK,b_,bJ,bP,aO,ah,aP,Bool.and_self,ax];unfold aX;rw[tJ];cases hp:l[i].p with
 |true=>
  have e:o++uF (lst last) l[i]=o++[1]++dP s++dP (l[i].k.size-s)++(lst l[i].k).drop s++dP l[i].v.size++lst l[i].v:=by unfold uF; rw[hsh,hp]; simp
  rw[e,List.length_append (bs:=lst l[i].v),hl3]
  rfl
 |false=>
  have e:o++uF (lst last) l[i]=o++[0]++dP s++dP (l[i].k.size-s)++(lst l[i].k).drop s:=by unfold uF; rw[hsh,hp]; simp
  rw[e,List.length_append (bs:=(lst l[i].k).drop s),List.length_drop,hl2]
  rfl
theorem ach{o:List UInt8}{last:ByteArray}{l:List OpM}:bV P E Gu 50 96 Bap Dap (apV o last l l.length) (apB o)=some (.tuple ⟨exV (.exit 0)::apV o last l l.length⟩,af (apB o)):=by
 unfold apV apB aJ Gu;rw[S9];have g1:ltI (l.length:Int) (ag l.length)=false:=by unfold ltI ag; exact decide_eq_false (by omega)
 have b2:∀ n,Nat.ble n n=true:=fun n=>Nat.ble_eq_true_of_le (Nat.le_refl n);simp only[fa_,fq_,fw_,io_,lb_,nb_,sl_,g1,b2,aQ,aG,ah,aP,bz rfl,aH,ax];unfold aX;rw[tJ]
 rfl
def apO(b:List UInt8)(l:List OpM)(i:Nat):List UInt8:=b++pR [] (l.take i)
def apL(l:List OpM)(i:Nat):ByteArray:=((l.take i).getLast?.map OpM.k).getD ⟨#[]⟩
theorem Ee(o:OpM):∀ (l:List OpM) (w:List UInt8),pR w (l++[o])=pR w l++uF ((l.getLast?.map fun x=>lst x.k).getD w) o
 |[],w=>by simp[pR]
 |x::l,w=>by
  rw[List.cons_append,pR,Ee o l,pR,List.append_assoc];congr 3;cases l with
  |nil=>rfl
  |cons y l=>
   obtain⟨z,hz⟩:∃ z,(y::l).getLast? = some z:=⟨_,List.getLast?_eq_some_getLast (by simp)⟩
   rw[List.getLast?_cons_cons,hz]; rfl
theorem Wq{b:List UInt8}{l:List OpM}{i:Nat}(hi:i<l.length):apO b l (i+1)=apO b l i++uF (lst (apL l i)) l[i]/\apL l (i+1)=l[i].k:=by
 have e:l.take (i+1)=l.take i++[l[i]]:=by rw[List.take_succ_eq_append_getElem hi]
 refine⟨?_,?_⟩
 ·unfold apO apL;rw[e,Ee,List.append_assoc];congr 3;cases (l.take i).getLast?<;>rfl
 ·unfold apL;rw[e,List.getLast?_concat]; rfl
theorem Xz{w:List UInt8}{o:OpM}(h:okO o=true):(uF w o).length<=96:=by
 obtain⟨h1,h2,h3,h4⟩:=xh h;have d1:=eH (n:=shN w (lst o.k));have d2:=eH (n:=o.k.size-shN w (lst o.k));have d3:=eH (n:=o.v.size);have hk:=bg o.k;have hv:=bg o.v;unfold uF;cases o.p<;>simp[hk,hv]<;>omega
theorem vW:∀ (l:List OpM) (w:List UInt8),l.all okO=true->(pR w l).length<=96*l.length
 |[],w,_=>by simp[pR]
 |o::l,w,h=>by
  simp only[List.all_cons,Bool.and_eq_true]at h;have:=Xz (w:=w) h.1;have:=vW l (lst o.k) h.2;simp[pR];omega
theorem acJ{l:List OpM}(h:l.all okO=true)(i:Nat):(apL l i).size<=16:=by
 unfold apL;cases hq:(l.take i).getLast? with
 |none=>exact Nat.zero_le _
 |some o=>
  have:=List.mem_of_mem_take (List.mem_of_getLast? hq);exact(xh (List.all_eq_true.1 h o this)).2.1
theorem aaN{b:List UInt8}{l:List OpM}(h:jb l=0)(hb:b.length+2048<=4194304):LRX P 96 0 Bap Dap.head (apV b ⟨#[]⟩ l 0) (apB b) .normal (apV (apO b l l.length) (apL l l.length) l l.length) (apB (apO b l l.length)):=by
 obtain⟨h1,h2,h3⟩:=jc.1 h;have q:=LRX.rounds (n:=50) (bf Gu) az Zc aay (vs:=fun i=>apV (apO b l i) (apL l i) l i) (bs:=fun i=>apB (apO b l i)) (e:= .exit 0) l.length (fun i hi=>by
  have hh:=Wq (b:=b) hi;have hlen:=vW (l.take i) [] (List.all_eq_true.2 fun x hx=>List.all_eq_true.1 h3 x (List.mem_of_mem_take hx));have q:=VF (o:=apO b l i) (last:=apL l i) hi h2 (List.all_eq_true.1 h3 _ (List.getElem_mem hi)) (by
   unfold apO;rw[List.length_append];rw[List.length_take]at hlen
   omega) (acJ h3 i)
  rw[<-hh.1,<-hh.2]at q
  exact q) ach (by intro h; cases h)
 have e:apO b l 0=b:=by unfold apO; simp[pR]
 simp only[e]at q;exact q
def adK(V:Nat->List UInt8)(C:Int->Bool)(C1 C2:List Value->List Blk->Bool)(o:List UInt8)(k:ByteArray)(l:List OpM):Ct:=
 aT P fQ 0 33 (cu C1 (.leaf (.int .i64 0,[]))) (eY P 96 0 Dap (gX C2 (.leaf (.normal,apV o k l l.length,apB o))) (nO P 50 (kG P 50 (sK V C) ctF)))
theorem Yv(V:Nat->List UInt8)(C:Int->Bool)(C1 C2:List Value->List Blk->Bool)(o:List UInt8)(k:ByteArray)(l:List OpM)(n b:Nat)(c:List Value):dD P E (adK V C C1 C2 o k l) 50 fQ [.val, .val] [57,0] 0 96 [aX 1 n b c,aJ l] [] =
 (let z:=fa_ l.length 0 (Enc.all EOp l);let y:=ag l.length;let x:=cvI .u64 y;let w:=HAppend.hAppend (List.map byteOf c) (V (Int.toNat x));let v:=w.length;let u:=aZ false (fF 0) (bc w);let t:=o.length;let s:=aZ true (bH [] 2) (bc o);
 (ae (C1 [z] []) (ae (Bool.and (fw_ n c) (C x)) (nb_ v 1 u (ae (C2 [sl_ 0 v, .string (ByteArray.mk #[]),z,io_ y,io_ 0] [lb_ (bY 0 [1]) v 1 u 5]) (ae (fq_ t s 5) (some (.tuple ⟨[fb_ t 0 (takeC (Nat.mul t 1) (bT 0 s)),io_ 0]⟩,af [])))))))):=by kernel_rfl
theorem adk{b:List UInt8}{l:List OpM}(h:jb l=0)(hb:b.length+2064<=4194304)(bb:Nat):CRX P 0 96 [aX 1 b.length bb (bc b),aJ l] [] (.tuple ⟨[aX 1 (b++yJ l).length 0 (bc (b++yJ l)), .int .i64 0]⟩) []:=by
 obtain⟨h1,h2,h3⟩:=jc.1 h;have d1:=eH (n:=l.length);have hc:CRX P 0 33 [aJ l] [] (.int .i64 0) []:=by
  have q:=U8.at (s:=l) (by show l.length<4194304; omega) rfl;rw[Ae,h]at q;exact q
 have hloop:=aaN (b:=b++dP l.length) h (by rw[List.length_append]; omega);refine CRX.of (pol:=fQ) (fl:=[.val, .val]) (ts:=[57,0]) (n:=50) (bf _) az (aj (pol:=fQ) (dV (mF (g:=50) (ji bn tC)) (fG (dL UZ) hloop)) (bF hc)) ?_;refine(Yv dP jK (bM _ _) (bM _ _) _ _ l b.length bb (bc b)).trans ?_;have e:apO (b++dP l.length) l l.length=b++yJ l:=by unfold apO yJ; rw[List.take_length,List.append_assoc]
 have hlen:=vW l [] h3;have he:(yJ l).length<=11+96*8:=by unfold yJ; rw[List.length_append]; omega
 have c1:cvI .u64 (ag l.length)=(l.length:Int):=gY (by omega);have u1:jK (l.length:Int)=true:=jk (by omega) (by omega);rw[e];simp (disch:=first | omega | (simp only[List.length_append,Nat.add_eq]<;>omega) | fail) only[fa_,fb_,fq_,fw_,io_,lb_,nb_,sl_,c1,u1,Int.toNat_natCast,aO,aP,ah,aQ,aG,bz,bK,b_,bJ,Bool.and_self,ax];refine mZ (by unfold aJ aX; rw[tJ]) rfl (mZ (by unfold apV aJ aX; rw[tJ]; rfl) rfl ?_);unfold aX;rw[fzU]
theorem KT:∀ {c:List Value},(∀ x∈c,bU x x=true)->jg c c=true
 |[],_=>rfl
 |x::c,h=>by
  simp only[jg,Bool.and_eq_true];exact⟨h x (List.mem_cons_self ..),KT fun y hy=>h y (List.mem_cons_of_mem _ hy)⟩
theorem TZ{a b:List Value}(ha:jg a a=true)(hb:jg b b=true):jg (a++b) (a++b)=true:=by
 induction a with
 |nil=>exact hb
 |cons x a ih=>
  simp only[jg,Bool.and_eq_true]at ha;simp only[List.cons_append,jg,Bool.and_eq_true];exact⟨ha.1,ih ha.2⟩
theorem Jp{t n b:Nat}{c:List Value}(h:jg c c=true):bU (.iface t (.agg ⟨.slice none n b::c⟩)) (.iface t (.agg ⟨.slice none n b::c⟩))=true:=by simp[bU,wo,jg,h]
theorem Enc.beq{α:Type}(E:Enc α)(h:∀ a,jg (E.f a) (E.f a)=true):∀ l,jg (E.all l) (E.all l)=true
 |[]=>rfl
 |a::l=>by rw[E.all_cons]; exact TZ (h a) (Enc.beq E h l)
theorem adq(l:List UInt8):jg (bc l) (bc l)=true:=KT fun x hx=>by
 unfold bc at hx;obtain⟨b,_,rfl⟩:=List.mem_map.1 hx;simp[bU]
theorem Ba(l:List OpM):jg (EOp.all l) (EOp.all l)=true:=Enc.beq EOp (fun a=>by simp[EOp,bU,jg]) l
theorem YU(l:List CmM):jg (ECm.all l) (ECm.all l)=true:=Enc.beq ECm (fun a=>by simp[ECm,aX,bU,wo,jg,Ba]) l
theorem dF(t n b:Nat)(l:List UInt8):bU (.iface t (.agg ⟨.slice none n b::bc l⟩)) (.iface t (.agg ⟨.slice none n b::bc l⟩))=true:=Jp (adq l)
theorem dE(t n b:Nat)(l:List OpM):bU (.iface t (.agg ⟨.slice none n b::EOp.all l⟩)) (.iface t (.agg ⟨.slice none n b::EOp.all l⟩))=true:=Jp (Ba l)
theorem dG(t n b:Nat)(l:List CmM):bU (.iface t (.agg ⟨.slice none n b::ECm.all l⟩)) (.iface t (.agg ⟨.slice none n b::ECm.all l⟩))=true:=Jp (YU l)
def cmV(c:CmM):Value:= .agg ⟨[.int .i64 c.e, .int .i64 c.n,aJ c.ops]⟩
theorem fzO(l:List OpM):aJ l = .iface 18446744073709551619 (.agg ⟨.slice none l.length 0::EOp.all l⟩):=by unfold aJ aX; rw[tJ]
theorem Ze(C1:List Value->List Blk->Bool)(r:Int)(c:CmM):dD P E (aT P fQ 0 33 (cu C1 (.leaf (.int .i64 r,[]))) ctF) 50 fQ [] [] 0 95 [cmV c] [] =
 (let q_0:=(Value.int IntKind.i64 (2:Int))
(ak (geI (CmM.e c) (1:Int))
 (ak (fM (leI (CmM.e c) (1048576:Int)))
 (some (q_0,(af [])))
 (ak (geI (CmM.n c) (1:Int))
 (ak (fM (leI (CmM.n c) (1048576:Int)))
 (some (q_0,(af [])))
 (ae (C1 [(Value.iface 18446744073709551619 (Value.agg (Array.mk ((Value.slice none (List.length (CmM.ops c)) 0)::(Enc.all EOp (CmM.ops c))))))] [])
 (some ((Value.int IntKind.i64 r),(af [])))))
 (some (q_0,(af [])))))
 (some (q_0,(af []))))):=by kernel_rfl
theorem NF{l:List OpM}(h:l.length<4194304):CRX P 0 33 [aJ l] [] (.int .i64 (uG l)) []:=U8.at (s:=l) h rfl
theorem H_(x a b:Int):within x a b=(geI x a&&leI x b):=rfl
theorem F_{c:CmM}(h:c.ops.length<4194304):CRX P 0 95 [cmV c] [] (.int .i64 (cmE c)) []:=by
 refine CRX.of (pol:=fQ) (fl:=[]) (ts:=[]) (n:=50) (bf _) az (aj (pol:=fQ) bn (bF (NF h))) ((Ze (bM _ _) _ c).trans ?_);unfold cmE;rw[H_,H_];cases geI c.e 1<;>cases leI c.e 1048576<;>cases geI c.n 1<;>cases leI c.n 1048576<;>first | rfl | exact mZ (by rw[fzO]) rfl rfl
def cmK(t k b:Nat)(c:List Value):Bool:=EOp.fz 4194303 t k c&&Nat.beq b 0
def cmR(e n:Int)(c:List Value):Int:=cmE ⟨e,n,EOp.dec c⟩
def VD(K:Nat->Nat->Nat->List Value->Bool)(R:Int->Int->List Value->Int):iW:=fun args bs=>match args,bs with
 |[.agg ⟨[.int .i64 e, .int .i64 n, .iface t (.agg ⟨.slice none k b::c⟩)]⟩],[]=>some (.ite (K t k b c) (.leaf (.int .i64 (R e n c),[])) .fail)
 |_,_=>none
theorem EN:CallOkX P 0 95 (VD cmK cmR):=⟨fun args bs t hR v bs' hev=>by
 unfold VD at hR;split at hR
 ·rename_i e n t0 k b c;obtain rfl:=Option.some.inj hR;cases hc:cmK t0 k b c with
  |false=>rw[hc]at hev; cases hev
  |true=>
   rw[hc]at hev;unfold cmK at hc;simp only[Bool.and_eq_true,Gv]at hc;obtain⟨hc,rfl⟩:=hc;obtain⟨l,h1,rfl,rfl,h2,h3⟩:=EOp.fz_of hc;have h1:t0=FZ+3:=h1;subst h1;simp only[DT.eval,Option.some.injEq,Prod.mk.injEq,cmR,h3]at hev;obtain⟨rfl,rfl⟩:=hev;exact F_ (c:=⟨e,n,l⟩) (by show l.length<_; omega)
 ·cases hR⟩
def aem(V:Nat->List UInt8)(C:Int->Bool)(C1 C2:List Value->List Blk->Bool)(r:Int)(x:List UInt8):Ct:=
 aT P fQ 0 95 (cu C1 (.leaf (.int .i64 r,[]))) (aT P fQ 0 96 (cu C2 (.leaf (.tuple ⟨[aX 1 x.length 0 (bc x), .int .i64 0]⟩,[]))) (nO P 50 (kG P 50 (sK V C) ctF)))
theorem ZM(V:Nat->List UInt8)(C:Int->Bool)(C1 C2:List Value->List Blk->Bool)(r:Int)(x:List UInt8)(c:CmM):dD P E (aem V C C1 C2 r x) 50 fQ [.val, .val] [57,0] 0 51 [cmV c] [] =
 (let q_0:=(Value.int IntKind.i64 (CmM.n c))
 let q_1:=(Value.iface 18446744073709551619 (Value.agg (Array.mk ((Value.slice none (List.length (CmM.ops c)) 0)::(Enc.all EOp (CmM.ops c))))))
 let q_2:=(cvI IntKind.u64 (CmM.e c))
 let q_3:=(HAppend.hAppend [] (V (Int.toNat q_2)))
 let q_4:=(aZ Bool.false (fF 16) (bc q_3))
 let q_5:=(takeC (Nat.mul (List.length q_3) 1) (bT 0 q_4))
 let q_6:=(cvI IntKind.u64 (CmM.n c))
 let q_7:=(HAppend.hAppend (List.map byteOf q_5) (V (Int.toNat q_6)))
 let q_8:=(aZ Bool.false (fF 17) (bc q_7))
 let q_9:=(Value.int IntKind.u64 q_6)
(ae (C1 [(Value.agg (Array.mk [(Value.int IntKind.i64 (CmM.e c)),q_0,q_1]))] [])
 (ak (neI r (0:Int))
 (some ((Value.tuple (Array.mk [(Value.iface 18446744073709551617 (Value.agg (Array.mk [(Value.slice none 0 0)]))),(Value.int IntKind.i64 r)])),(af [])))
 (ae (Bool.and (fzB 18446744073709551617 0 []) (C q_2))
 (ae (j_ P 0 (List.length q_3) 18446744073709551616 q_4 5)
 (ae (Bool.and (fzB 18446744073709551617 (List.length q_3) q_5) (C q_6))
 (ae (j_ P 0 (List.length q_7) 18446744073709551616 q_8 5)
 (ae (C2 [(Value.iface 18446744073709551617 (Value.agg (Array.mk ((Value.slice none (List.length q_7) 0)::(takeC (Nat.mul (List.length q_7) 1) (bT 0 q_8)))))),q_1] [])
 (ae (bU q_0 q_0)
 (ae (bU q_9 q_9)
 (ae (bU q_1 q_1)
 (ae (bU q_1 q_1)
 (some ((Value.tuple (Array.mk [(Value.iface 18446744073709551617 (Value.agg (Array.mk ((Value.slice none (List.length x) 0)::(bc x))))),(Value.int IntKind.i64 (0:Int))])),(af []))))))))))))))):=by kernel_rfl
def Dfo:HeadX:=⟨1,49,[0,1,6,10,11,12],[.val, .val, .val, .val, .val, .val],[],fQ⟩
def Bfo:Code:=(dR P 74 0).getD .skip
theorem JJ:dR P 74 0=some Bfo:=by kernel_rfl
theorem BD:Occ P 74 (.block 0 (.loop Bfo)):=fA JJ
def WP(K:Nat->Nat->Nat->List Value->Bool)(R:Int->Int->List Value->Int):Ct:=aT P fQ 0 95 (VD K R) ctF
theorem UY(K:Nat->Nat->Nat->List Value->Bool)(R:Int->Int->List Value->Int)(e n z i r1 r2:Int)(k b:Nat)(c:List Value):bV P E (WP K R) 50 74 Bfo Dfo [.int .i64 e, .int .i64 n, .pointer (some ⟨0,0,none⟩),aX 3 k b c, .int .i64 z, .int .i64 i] [.cells [.int .i64 r1, .int .i64 r2] 131 true] =
 (let q_0:=(Eta.int IntKind.i64)
 let q_1:=(Nat.add (atN i 3) 1)
 let q_2:=(aU c (Nat.add q_1 1))
 let q_3:=(asI (aU c (atN i 3)))
 let q_4:=(asI (aU c q_1))
 let q_5:=(R q_3 q_4 (zC q_2))
 let q_6:=(Value.pointer (Option.some (Addr.mk 0 0 none)))
 let q_7:=(Value.iface 18446744073709551619 (Value.agg (Array.mk ((Value.slice none k b)::c))))
 let q_8:=(Value.int IntKind.i64 z)
 let q_9:=[(Value.int IntKind.i64 i)]
 let q_10:=[(Value.int IntKind.i64 e),(Value.int IntKind.i64 n),q_6,q_7,q_8,(Value.int IntKind.i64 i)]
 let q_11:=(Value.tuple (Array.mk [(Value.int IntKind.i64 (-1:Int)),(Value.int IntKind.i64 e),(Value.int IntKind.i64 n),q_6,q_7,q_8,(Value.int IntKind.i64 i)]))
 let q_12:=(af [(Blk.cells [(Value.int IntKind.i64 (15:Int)),(Value.int IntKind.i64 i)] 131 Bool.true)])
 let q_13:=(fM (Bool.and (eqI q_5 (0:Int)) (Bool.and (eqI i i) Bool.true)))
 let q_14:=(af [(Blk.cells [(Value.int IntKind.i64 q_5),(Value.int IntKind.i64 i)] 131 Bool.true)])
 let q_15:=(Value.tuple (Array.mk [(Value.int IntKind.i64 (0:Int)),(Value.int IntKind.i64 q_3),(Value.int IntKind.i64 q_4),q_6,q_7,q_8,(Value.int IntKind.i64 (dO IntKind.i64 i (1:Int)))]))
 let q_16:=(af [(Blk.cells [(Value.int IntKind.i64 r1),(Value.int IntKind.i64 r2)] 131 Bool.true)])
 let t_0:=(ak q_13
 (some (q_11,q_14))
 (some (q_15,q_16)))
(ak (ltI i z)
 (ae (Bool.and (Nat.beq 3 3) (inI i k))
 (ae (Bool.and (Nat.ble (Nat.add (atN i 3) 3) (List.length c)) (iq [q_0,q_0,(Eta.slice 3)] c (atN i 3)))
 (ae (K 18446744073709551619 (zN q_2) (zB q_2) (zC q_2))
 (ak (eqI q_5 (0:Int))
 (ak (neI (fH IntKind.i64 q_4 (1:Int)) n)
 (some (q_11,q_12))
 (ak (ltI q_3 e)
 (some (q_11,q_12))
 t_0))
 t_0))))
 (some ((Value.tuple (Array.mk [(Value.int IntKind.i64 (1:Int)),(Value.int IntKind.i64 e),(Value.int IntKind.i64 n),q_6,q_7,q_8,(Value.int IntKind.i64 i)])),q_16)))):=by kernel_rfl
theorem O5{c:CmM}(h:cmE c=0):CRX P 0 51 [cmV c] [] (.tuple ⟨[aX 1 (jd c).length 0 (bc (jd c)), .int .i64 0]⟩) []:=by
 obtain⟨⟨e1,e2⟩,⟨n1,n2⟩,hb⟩:=lZ.1 h;obtain⟨b1,b2,b3⟩:=jc.1 hb;have d1:=eH (n:=c.e.toNat);have d2:=eH (n:=c.n.toNat);have q:=F_ (c:=c) (by omega);rw[h]at q;have qa:=adk (b:=dP c.e.toNat++dP c.n.toNat) hb (by rw[List.length_append]; omega) 0;have ee:dP c.e.toNat++dP c.n.toNat++yJ c.ops=jd c:=by unfold jd; rw[List.append_assoc]
 rw[ee]at qa;refine CRX.of (pol:=fQ) (fl:=[.val, .val]) (ts:=[57,0]) (n:=50) (bf _) az (aj (pol:=fQ) (aj (pol:=fQ) (mF (g:=50) (ji bn tC)) (bF qa)) (bF q)) ((ZM dP jK (bM _ _) (bM _ _) 0 (jd c) c).trans ?_);have c1:cvI .u64 c.e=(c.e.toNat:Int):=by rw[<-Int.toNat_of_nonneg (by omega:0<=c.e)]; exact gY (by omega)
 have c2:cvI .u64 c.n=(c.n.toNat:Int):=by rw[<-Int.toNat_of_nonneg (by omega:0<=c.n)]; exact gY (by omega)
 have u1:jK (c.e.toNat:Int)=true:=jk (by omega) (by omega);have u2:jK (c.n.toNat:Int)=true:=jk (by omega) (by omega);have z:fzB 18446744073709551617 0 []=true:=by rw[<-fz1]; exact wZ (l:=[]) rfl (by simp)
 have i0:neI (0:Int) 0=false:=rfl;simp (disch:=first | omega | (simp only[List.length_append,List.length_drop,List.length_take,List.length_singleton,Nat.add_eq,bg]<;>omega) | fail) only[c1,c2,u1,u2,z,i0,dU,dE,List.nil_append,aA,bC,aV,a_,aO,ah,aP,bu,Int.toNat_natCast,aQ,aG,bz,bK,b_,bJ,bP,dm,Bool.and_self,aK,aH,ax];refine mZ (by unfold cmV; rw[fzO]) rfl (mZ (by rw[fzO]; unfold aX; rw[fzU]) rfl ?_);unfold aX;rw[fzU]
def bG(l:List CmM):Value:=aX 3 l.length 0 (ECm.all l)
theorem ac0(l:List CmM):bG l = .iface 18446744073709551619 (.agg ⟨.slice none l.length 0::ECm.all l⟩):=by unfold bG aX; rw[tJ]
def foV(e n:Int)(l:List CmM)(i:Int):List Value:=[.int .i64 e, .int .i64 n, .pointer (some ⟨0,0,none⟩),bG l, .int .i64 (ag l.length), .int .i64 i]
def foB(r:Int×Int):List Blk:=[.cells [.int .i64 r.1, .int .i64 r.2] 131 true]
theorem rJ{l:List CmM}{i:Nat}(h:i<l.length):iq [.int .i64, .int .i64, .slice 3] (ECm.all l) (atN (i:Int) 3)=true:=by
 show and (eu (.int .i64) (aU (ECm.all l) (atN (i:Int) 3))) (and (eu (.int .i64) (aU (ECm.all l) (Nat.add (atN (i:Int) 3) 1))) (and (eu (.slice 3) (aU (ECm.all l) (Nat.add (Nat.add (atN (i:Int) 3) 1) 1))) true))=true;rw[pI h,Az h,xP h];simp only[eu,En (s:=3) (by decide)]
 rfl
theorem acB{l:List OpM}(h:l.length<4194304):cmK 18446744073709551619 l.length 0 (EOp.all l)=true:=by
 unfold cmK;rw[EOp.fz_all (by omega) (by unfold FZ; rfl) rfl]; rfl
theorem adw(e n:Int)(l:List OpM):cmR e n (EOp.all l)=cmE ⟨e,n,l⟩:=by unfold cmR; rw[EOp.dec_all]
theorem Vt{e n:Int}{l:List CmM}{i:Nat}(hi:i<l.length)(hl:l.length<4194304)(ho:l[i].ops.length<4194304) :
  bV P E (WP cmK cmR) 50 74 Bfo Dfo (foV e n l i) (foB (0,0))=match eqI (cmE l[i]) 0,neI (fH .i64 l[i].n 1) n || ltI l[i].e e with
   |false,_=>some (.tuple ⟨exV .ret::foV e n l i⟩,af (foB (cmE l[i],i)))
   |true,true=>some (.tuple ⟨exV .ret::foV e n l i⟩,af (foB (15,i)))
   |true,false=>some (.tuple ⟨exV .normal::foV l[i].e l[i].n l ((i+1:Nat):Int)⟩,af (foB (0,0))):=by
 unfold foV foB bG;rw[UY];have n3:∀ l:List CmM,(ECm.all l).length=Nat.mul l.length 3:=fun l=>ECm.all_length l;have g1:ltI (i:Int) (ag l.length)=true:=by unfold ltI ag; exact decide_eq_true (by omega)
 have g2:inI (i:Int) l.length=true:=by unfold inI; exact decide_eq_true (by omega)
 have g3:Nat.ble (Nat.add (atN (i:Int) 3) 3) (Nat.mul l.length 3)=true:=Nat.ble_eq_true_of_le (by
  show(i:Int).toNat*3+3<=l.length*3;have:(i:Int).toNat=i:=by omega
  omega)
 have g4:=rJ hi;have a1:dO .i64 (i:Int) 1=((i+1:Nat):Int):=by unfold dO; rw[wrap64 (by omega) (by omega)]; omega
 have aI:∀ k b,asI (.int k b)=b:=fun _ _=>rfl;have ii:eqI (i:Int) i=true:=by unfold eqI; exact decide_eq_true rfl
 have z1:∀ (n b:Nat) (c:List Value),zN (aX 3 n b c)=n:=fun _ _ _=>Be (by decide);have z2:∀ (n b:Nat) (c:List Value),zB (aX 3 n b c)=b:=fun _ _ _=>Yj (by decide);have z3:∀ (n b:Nat) (c:List Value),zC (aX 3 n b c)=c:=fun _ _ _=>IQ (by decide);simp only[n3,g1,g2,g3,g4,pI hi,Az hi,xP hi,aI,a1,ii,z1,z2,z3,acB ho,adw,aA,bC,aV,a_,aO,ah,aP,bu,Int.toNat_natCast,aQ,aG,bz,bK,b_,bJ,bP,dm,Bool.and_self,aK,aH,ax];unfold aX;rw[tJ];cases eqI (cmE l[i]) 0<;>cases neI (fH .i64 l[i].n 1) n<;>cases ltI l[i].e e<;>rfl
theorem ab5{e n:Int}{l:List CmM}:bV P E (WP cmK cmR) 50 74 Bfo Dfo (foV e n l l.length) (foB (0,0))=some (.tuple ⟨exV (.exit 0)::foV e n l l.length⟩,af (foB (0,0))):=by
 unfold foV foB bG;rw[UY];have g1:ltI (l.length:Int) (ag l.length)=false:=by unfold ltI ag; exact decide_eq_false (by omega)
 simp only[g1,aH];unfold aX;rw[tJ]
 rfl
def Ji:Int->Int->Nat->List CmM->Int×Int×Nat
 |e,n,i,[]=>(e,n,i)
 |e,n,i,c::l=>match eqI (cmE c) 0,neI (c.n-1) n || ltI c.e e with
  |true,false=>Ji c.e c.n (i+1) l
  |_,_=>(e,n,i)
theorem abQ{c:CmM}(h:eqI (cmE c) 0=true):fH .i64 c.n 1=c.n-1:=by
 obtain⟨_,⟨n1,n2⟩,_⟩:=lZ.1 (show cmE c=0 by simpa [eqI]using h);unfold fH;rw[wrap64 (by omega) (by omega)]
def Dw(r:Int×Int):Ex:=match eqI r.1 0 with | true=> .normal | false=> .ret
def nI(r:Int×Nat):Int×Int:=(r.1,r.2)
theorem NT{l:List CmM}(hl:l.length<4194304)(ho:∀ c∈l,c.ops.length<4194304):∀ (k i:Nat) (e n:Int),i+k=l.length->
  LRX P 74 0 Bfo Dfo.head (foV e n l i) (foB (0,0)) (Dw (nI (jJ e n i (l.drop i)))) (foV (Ji e n i (l.drop i)).1 (Ji e n i (l.drop i)).2.1 l (Ji e n i (l.drop i)).2.2) (foB (nI (jJ e n i (l.drop i))))
 |0,i,e,n,h=>by
  obtain rfl:i=l.length:=by omega
  rw[List.drop_length];exact LRX.stop (n:=50) (bf _) az (aj (pol:=fQ) bn EN) BD (e:= .exit 0) ab5 (by intro h; cases h)
 |k+1,i,e,n,h=>by
  have hi:i<l.length:=by omega
  have q:=Vt (e:=e) (n:=n) hi hl (ho _ (List.getElem_mem hi));rw[List.drop_eq_getElem_cons hi];simp only[jJ,Ji];cases h1:eqI (cmE l[i]) 0 with
  |false=>
   rw[h1]at q;have hx:Dw (nI (cmE l[i],i)) = .ret:=by unfold Dw nI; simp only[h1]
   simp only[hx];exact LRX.stop (n:=50) (bf _) az (aj (pol:=fQ) bn EN) BD (e:= .ret) q (by intro h; cases h)
  |true=>
   rw[h1,abQ h1]at q;cases h2:neI (l[i].n-1) n || ltI l[i].e e with
   |true=>
    rw[h2]at q;exact LRX.stop (n:=50) (bf _) az (aj (pol:=fQ) bn EN) BD (e:= .ret) q (by intro h; cases h)
   |false=>
    rw[h2]at q;exact LRX.again (n:=50) (bf _) az (aj (pol:=fQ) bn EN) BD q (NT hl ho k (i+1) _ _ (by omega))
def abS(C:List Value->List Blk->Bool)(x:Ex)(e n i:Int)(l:List CmM)(r:Int×Int):Ct:=eY P 74 0 Dfo (gX C (.leaf (x,foV e n l i,foB r))) ctF
theorem Za(C:List Value->List Blk->Bool)(e n e1 n1 i1:Int)(l:List CmM)(r:Int×Int):dD P E (abS C .normal e1 n1 i1 l r) 50 fQ [.val] [0] 0 74 [.int .i64 e, .int .i64 n,bG l] [] =
 (let q_0:=(Value.int IntKind.i64 (0:Int))
(ae (C [(Value.int IntKind.i64 e),(Value.int IntKind.i64 n),(Value.pointer (Option.some (Addr.mk 0 0 none))),(Value.iface 18446744073709551619 (Value.agg (Array.mk ((Value.slice none (List.length l) 0)::(Enc.all ECm l))))),(Value.int IntKind.i64 (ag (List.length l))),q_0] [(Blk.cells [q_0,q_0] 131 Bool.true)])
 (some ((Value.agg (Array.mk [q_0,q_0])),(af []))))):=by kernel_rfl
theorem Z9(C:List Value->List Blk->Bool)(e n e1 n1 i1:Int)(l:List CmM)(r:Int×Int):dD P E (abS C .ret e1 n1 i1 l r) 50 fQ [.val] [0] 0 74 [.int .i64 e, .int .i64 n,bG l] [] =
 (let q_0:=(Value.int IntKind.i64 (0:Int))
(ae (C [(Value.int IntKind.i64 e),(Value.int IntKind.i64 n),(Value.pointer (Option.some (Addr.mk 0 0 none))),(Value.iface 18446744073709551619 (Value.agg (Array.mk ((Value.slice none (List.length l) 0)::(Enc.all ECm l))))),(Value.int IntKind.i64 (ag (List.length l))),q_0] [(Blk.cells [q_0,q_0] 131 Bool.true)])
 (some ((Value.agg (Array.mk [(Value.int IntKind.i64 (Prod.fst r)),(Value.int IntKind.i64 (Prod.snd r))])),(af []))))):=by kernel_rfl
def Xd(r:Int×Nat):Value:= .agg ⟨[.int .i64 r.1, .int .i64 r.2]⟩
theorem J5:∀ (l:List CmM) (e n:Int) (i:Nat),(jJ e n i l).1=0->jJ e n i l=(0,0)
 |[],e,n,i,_=>rfl
 |c::l,e,n,i,h=>by
  unfold jJ at h ⊢;cases h1:eqI (cmE c) 0 with
  |false=>rw[h1]at h; exact absurd (show cmE c=0 from h) (by simpa [eqI]using h1)
  |true=>
   rw[h1]at h;cases h2:neI (c.n-1) n || ltI c.e e with
   |true=>rw[h2]at h; cases h
   |false=>rw[h2]at h; exact J5 l _ _ _ h
theorem UF{e n:Int}{l:List CmM}(hl:l.length<4194304)(ho:∀ c∈l,c.ops.length<4194304):CRX P 0 74 [.int .i64 e, .int .i64 n,bG l] [] (Xd (jJ e n 0 l)) []:=by
 have q:=NT hl ho l.length 0 e n (by omega);rw[List.drop_zero]at q;cases hx:eqI (jJ e n 0 l).1 0 with
 |true=>
  have h0:=J5 l e n 0 (by simpa [eqI]using hx);have hX:Dw (nI (jJ e n 0 l)) = .normal:=by unfold Dw nI; simp only[hx]
  rw[hX]at q;refine CRX.of (pol:=fQ) (fl:=[.val]) (ts:=[0]) (n:=50) (bf _) az (dV bn (fG (dL JJ) q)) ((Za (bM _ _) e n _ _ _ l _).trans ?_);rw[h0];exact mZ (by unfold foV; rw[ac0]; rfl) rfl rfl
 |false=>
  have hX:Dw (nI (jJ e n 0 l)) = .ret:=by unfold Dw nI; simp only[hx]
  rw[hX]at q;refine CRX.of (pol:=fQ) (fl:=[.val]) (ts:=[0]) (n:=50) (bf _) az (dV bn (fG (dL JJ) q)) ((Z9 (bM _ _) e n _ _ _ l _).trans ?_);exact mZ (by unfold foV; rw[ac0]; rfl) rfl rfl
theorem ZO(n b:Nat)(c:List Value):dD P E ctF 50 fQ [.val] [33] 0 120 [aX 3 (Nat.succ n) b c] [] =
 (let q_0:=(Nat.add 0 (Nat.succ n))
(ae (List.all c oneCell)
 (ae (Nat.ble q_0 4194304)
 (ae (j_ P 0 q_0 18446744073709551616 (List.append [] c) 74)
 (some ((Value.iface 18446744073709551619 (Value.agg (Array.mk ((Value.slice none q_0 0)::(takeC (Nat.mul q_0 3) (bT 0 (List.append [] c))))))),(af []))))))):=by kernel_rfl
theorem aaV(C:List Value->List Blk->Bool)(c:CmM)(x:Value):dD P E (aT P fQ 0 120 (cu C (.leaf (aJ c.ops,[]))) ctF) 50 fQ [.val] [0] 0 81 [cmV c] [] =
 (let q_0:=[(Value.iface 18446744073709551619 (Value.agg (Array.mk ((Value.slice none (List.length (CmM.ops c)) 0)::(Enc.all EOp (CmM.ops c))))))]
(ae (C q_0 [])
 (some ((Value.agg (Array.mk [(Value.int IntKind.i64 (CmM.e c)),(Value.int IntKind.i64 (CmM.n c)),(Value.iface 18446744073709551619 (Value.agg (Array.mk ((Value.slice none (List.length (CmM.ops c)) 0)::(Enc.all EOp (CmM.ops c))))))])),(af []))))):=by kernel_rfl
theorem Z8(V:Nat->List UInt8)(C:Int->Bool)(n b:Nat)(c:List Value):dD P E (nO P 50 (kG P 50 (sK V C) ctF)) 50 fQ [.val, .val] [57,0] 0 88 [aX 1 0 0 [],aX 1 n b c] [] =
 (let q_0:=(cvI IntKind.u64 (ag n))
 let q_1:=(HAppend.hAppend [] (V (Int.toNat q_0)))
 let q_2:=(Nat.add (List.length q_1) n)
 let q_3:=(aZ Bool.false (fF 0) (bc q_1))
 let q_4:=(List.append (jR 0 q_3) c)
(ak (gtI (ag n) (131072:Int))
 (some ((Value.tuple (Array.mk [(Value.iface 18446744073709551617 (Value.agg (Array.mk [(Value.slice none 0 0)]))),(Value.int IntKind.i64 (3:Int))])),(af [])))
 (ae (Bool.and (fzB 18446744073709551617 0 []) (C q_0))
 (ae (List.all c oneCell)
 (ae (Nat.ble q_2 4194304)
 (ae (Nat.beq (Nat.add 0 (Nat.mul (List.length q_1) 1)) (List.length q_3))
 (ae (j_ P 0 q_2 18446744073709551616 q_4 5)
 (some ((Value.tuple (Array.mk [(Value.iface 18446744073709551617 (Value.agg (Array.mk ((Value.slice none q_2 0)::(takeC (Nat.mul q_2 1) (bT 0 q_4)))))),(Value.int IntKind.i64 (0:Int))])),(af [])))))))))):=by kernel_rfl
theorem Zn(l:List OpM):(EOp.all l).all oneCell=true:=List.all_eq_true.2 fun x hx=>by
 unfold Enc.all at hx;obtain⟨o,_,h⟩:=List.mem_flatMap.1 hx;simp only[EOp,List.mem_cons,List.not_mem_nil,or_false]at h;rcases h with rfl | rfl | rfl<;>rfl
theorem adC{l:List OpM}{n:Nat}(h:n=l.length):j_ P 0 n 18446744073709551616 (EOp.all l) 74=true:=by
 subst h;have he:esz P 74=3:=by kernel_rfl
 unfold j_;rw[he,EOp.all_nr,EOp.all_length];have h2:Nat.ble (Nat.add 0 (Nat.mul l.length 3)) (l.length*EOp.sz)=true:=Nat.ble_eq_true_of_le (by show 0+l.length*3<=l.length*3; omega);rw[h2]; rfl
theorem acZ{l:List OpM}{n:Nat}(h:n=l.length):takeC (Nat.mul n 3) (bT 0 (EOp.all l))=EOp.all l:=by subst h; exact EOp.all_self l
theorem NG{l:List OpM}(h1:1<=l.length)(h2:l.length<=4194304)(b:Nat):CRX P 0 120 [aX 3 l.length b (EOp.all l)] [] (aJ l) []:=by
 refine CRX.of (pol:=fQ) (fl:=[.val]) (ts:=[33]) (n:=50) (bf _) az bn ?_;obtain⟨n,hn⟩:∃ n,l.length=Nat.succ n:=⟨l.length-1,by omega⟩
 rw[hn];refine(ZO n b (EOp.all l)).trans ?_;have e:List.append [] (EOp.all l)=EOp.all l:=rfl;simp (disch:=omega) only[Zn,e,aG,<-hn,adC rfl,acZ rfl,bJ,ax];rw[fzO]
theorem xn{c:CmM}(h1:1<=c.ops.length)(h2:c.ops.length<=4194304):CRX P 0 81 [cmV c] [] (cmV c) []:=by
 refine CRX.of (pol:=fQ) (fl:=[.val]) (ts:=[0]) (n:=50) (bf _) az (aj (pol:=fQ) bn (bF (NG h1 h2 0))) ((aaV (bM _ _) c .nilFunc).trans ?_);refine mZ (by show [aJ c.ops]=_; rw[fzO]) rfl ?_;unfold cmV;rw[fzO]
theorem GV{r:List UInt8}(h:r.length<=131072):CRX P 0 88 [aX 1 0 0 [],aX 1 r.length 0 (bc r)] [] (.tuple ⟨[aX 1 (frM r).length 0 (bc (frM r)), .int .i64 0]⟩) []:=by
 refine CRX.of (pol:=fQ) (fl:=[.val, .val]) (ts:=[57,0]) (n:=50) (bf _) az (mF (g:=50) (ji bn tC)) ((Z8 dP jK r.length 0 (bc r)).trans ?_);have g1:gtI (ag r.length) 131072=false:=by unfold gtI ag; exact decide_eq_false (by omega)
 have d1:=eH (n:=r.length);have c1:cvI .u64 (ag r.length)=(r.length:Int):=gY (by omega);have u1:jK (r.length:Int)=true:=jk (by omega) (by omega);have z:fzB 18446744073709551617 0 []=true:=by rw[<-fz1]; exact wZ (l:=[]) rfl (by simp)
 simp (disch:=first | omega | (simp only[List.length_append,List.length_drop,List.length_take,List.length_singleton,Nat.add_eq,bg]<;>omega) | fail) only[g1,c1,u1,z,List.map_nil,List.nil_append,aA,bC,aV,a_,aO,ah,aP,bu,Int.toNat_natCast,aQ,aG,bz,bK,b_,bJ,bP,dm,Bool.and_self,aK,aH,ax];unfold aX frM;rw[fzU,List.length_append]
 rfl
def aeA:Pol:=fun t=>match Nat.beq t 86 with
 |true=>some [.val, .val, .val, .val, .val, .own, .own, .own, .own, .keep]
 |false=>none
def Dst:HeadX:=⟨1,42,[0,1,11,12,13],[.val, .val, .keep, .val, .val],[],aeA⟩
def Bst:Code:=(dR P 129 0).getD .skip
theorem UH:dR P 129 0=some Bst:=by kernel_rfl
theorem Ol:Occ P 129 (.block 0 (.loop Bst)):=fA UH
theorem RX(off fused:Bool)(fuse steps:Int)(n0 n1 n2 n3 np:Nat)(c0 c1 c2 c3 cp:List Value)(n:Nat)(q m i:Int):bV P E ctF 50 129 Bst Dst [.pointer (some ⟨0,0,none⟩), .int .i64 q, .slice (some ⟨5,0,none⟩) n 18446744073709551616, .int .i64 m, .int .i64 i] [.cells (dkC off fused fuse steps n0 n1 n2 n3 np) 86 true, .cells c0 5 false, .cells c1 5 false, .cells c2 5 false, .cells c3 5 false, .cells cp 163 false] =
 (let z:=Nat.add 0 (atN i 4);let y:=Eta.int .i64;let x:=Nat.add z 1;let w:=asI (aU cp x);let v:=eqI w 0;let u:=asI (aU cp z);let t:=eqI u 0;let s:=Nat.add x 1;let r:=aU cp s;let p:=zC r;let o:=List.all p oneCell;let l:=zN r;let k:=Nat.add n0 l;let j:=bU (io_ w) (io_ w);let h:=List.append (jR 0 c0) p;
 let g:=Value.tuple ⟨[io_ 0,pt_ 0,io_ q,sl_ 5 n,io_ m,io_ (dO .i64 i 1)]⟩;let f:=Value.bool true;let e:=Value.bool off;let d:=Value.bool fused;let c:=io_ fuse;let b:=io_ steps;let a:=sl_ 2 n1;let Z:=sl_ 3 n2;let Y:=sl_ 4 n3;let X:=sl_ 5 np;let W:=bY 0 [0,25,26,27,28,5];let V:=lb_ W n1 1 c1 5;
 let U:=lb_ W n2 1 c2 5;let T:=lb_ W n3 1 c3 5;let S:=Blk.cells (aZ true W cp) 163 false;let R:=eqI w 1;let Q:=nb_ n3 1 c3 none;let O:=nb_ n2 1 c2 Q;let N:=eqI w 2;let M:=eqI w 3;let L:=eqI u 1;let K:=asI (aU cp (Nat.add s 1));let J:=Nat.div (Nat.sub c0.length 0) 1;let I:=iV 0 K;let H:=bY 0 [0,24,25,26,27,5];
 let G:=lb_ H n1 1 c1 5;let F:=lb_ H n2 1 c2 5;let D:=lb_ H n3 1 c3 5;let C:=Blk.cells (aZ true H cp) 163 false;let B:=ae j (nb_ n0 1 c0 O);let A:=nb_ n1 1 c1 Q;let z0:=ae j (nb_ n0 1 c0 A);let y0:=nb_ n2 1 c2 none;let x0:=nb_ n1 1 c1 y0;let w0:=ae M (ae j (nb_ n0 1 c0 x0));let v0:=ak N z0 w0;
 let u0:=ak R B v0;let t0:=Blk.cells [] 5 false;let s0:=sl_ 1 n0;let r0:=Blk.cells [f,e,d,c,b,s0,a,Z,Y,X] 86 true;let q0:=lb_ H n0 1 c0 5;let p0:=ae j (nb_ n0 1 c0 (nb_ n1 1 c1 (nb_ n2 1 c2 (nb_ n3 1 c3 (some (g,af [r0,q0,G,F,D,C]))))));let o0:=Nat.add n1 l;let m0:=List.append (jR 0 c1) p;
 let l0:=lb_ W n0 1 c0 5;let k0:=Nat.div (Nat.sub c1.length 0) 1;let j0:=Nat.add n2 l;let i0:=List.append (jR 0 c2) p;let h0:=Nat.div (Nat.sub c2.length 0) 1;let g0:=Nat.add n3 l;let f0:=List.append (jR 0 c3) p;let e0:=Nat.div (Nat.sub c3.length 0) 1;let d0:=bY 0 [0,6,7,8,9,5];
 (ak (ltI i m) (ae (inI i n) (ae (Bool.and (Nat.ble (Nat.add z 4) cp.length) (iq [y,y, .slice 1,y] cp z)) (ak v (ak t (ae o (ae (Nat.ble k 4194304) (ae (Nat.beq (Nat.add 0 (Nat.mul n0 1)) c0.length) (ak v (ae j (nb_ k 1 h (nb_ n1 1 c1 (nb_ n2 1 c2 (nb_ n3 1 c3 (some (g,af [.cells [f,e,d,c,b,sl_ 1 k,a,Z,Y,X] 86 true,lb_ W k 1 h 5,V,U,T,S]))))))) (ak R (ae j (nb_ k 1 h O)) (ak N (ae j (nb_ n1 1 c1 (nb_ k 1 h Q))) (ae M (ae j (nb_ n1 1 c1 (nb_ n2 1 c2 (nb_ k 1 h none))))))))))) (ak L (ae (gq 0 K J) (ak (Nat.ble 1 J) (ak v (ae j (nb_ I 1 c0 (nb_ n1 1 c1 (nb_ n2 1 c2 (nb_ n3 1 c3 (some (g,af [.cells [f,e,d,c,b,sl_ 1 I,a,Z,Y,X] 86 true,lb_ H I 1 c0 5,G,F,D,C]))))))) u0) (ak v (ae j (nb_ n1 1 c1 (nb_ n2 1 c2 (nb_ n3 1 c3 (some (g,af [.cells [f,e,d,c,b,sl_ 1 0,a,Z,Y,X] 86 true,t0,G,F,D,C])))))) u0))) (ak v p0 u0))) (ak R (ak t (ae o (ae (Nat.ble o0 4194304) (ae (Nat.beq (Nat.add 0 (Nat.mul n1 1)) c1.length) (ak v (ae j (nb_ o0 1 m0 O)) (ak R (ae j (nb_ n0 1 c0 (nb_ o0 1 m0 (nb_ n2 1 c2 (nb_ n3 1 c3 (some (g,af [.cells [f,e,d,c,b,s0,sl_ 2 o0,Z,Y,X] 86 true,l0,lb_ W o0 1 m0 5,U,T,S]))))))) (ak N (ae j (nb_ n0 1 c0 (nb_ o0 1 m0 Q))) (ae M (ae j (nb_ n0 1 c0 (nb_ n2 1 c2 (nb_ o0 1 m0 none))))))))))) (ak L (ae (gq 0 K k0) (ak (Nat.ble 1 k0) (ak v (ae j (nb_ I 1 c1 O)) (ak R (ae j (nb_ n0 1 c0 (nb_ I 1 c1 (nb_ n2 1 c2 (nb_ n3 1 c3 (some (g,af [.cells [f,e,d,c,b,s0,sl_ 2 I,Z,Y,X] 86 true,q0,lb_ H I 1 c1 5,F,D,C]))))))) v0)) (ak v (ae j O) (ak R (ae j (nb_ n0 1 c0 (nb_ n2 1 c2 (nb_ n3 1 c3 (some (g,af [.cells [f,e,d,c,b,s0,sl_ 2 0,Z,Y,X] 86 true,q0,t0,F,D,C])))))) v0)))) (ak v (ae j (nb_ n1 1 c1 O)) (ak R p0 v0)))) (ak N (ak t (ae o (ae (Nat.ble j0 4194304) (ae (Nat.beq (Nat.add 0 (Nat.mul n2 1)) c2.length) (ak v (ae j (nb_ j0 1 i0 A)) (ak R (ae j (nb_ n0 1 c0 (nb_ j0 1 i0 Q))) (ak N (ae j (nb_ n0 1 c0 (nb_ n1 1 c1 (nb_ j0 1 i0 (nb_ n3 1 c3 (some (g,af [.cells [f,e,d,c,b,s0,a,sl_ 3 j0,Y,X] 86 true,l0,V,lb_ W j0 1 i0 5,T,S]))))))) (ae M (ae j (nb_ n0 1 c0 (nb_ n1 1 c1 (nb_ j0 1 i0 none))))))))))) (ak L (ae (gq 0 K h0) (ak (Nat.ble 1 h0) (ak v (ae j (nb_ I 1 c2 A)) (ak R (ae j (nb_ n0 1 c0 (nb_ I 1 c2 Q))) (ak N (ae j (nb_ n0 1 c0 (nb_ n1 1 c1 (nb_ I 1 c2 (nb_ n3 1 c3 (some (g,af [.cells [f,e,d,c,b,s0,a,sl_ 3 I,Y,X] 86 true,q0,G,lb_ H I 1 c2 5,D,C]))))))) w0))) (ak v (ae j A) (ak R (ae j (nb_ n0 1 c0 Q)) (ak N (ae j (nb_ n0 1 c0 (nb_ n1 1 c1 (nb_ n3 1 c3 (some (g,af [.cells [f,e,d,c,b,s0,a,sl_ 3 0,Y,X] 86 true,q0,G,t0,D,C])))))) w0))))) (ak v (ae j (nb_ n2 1 c2 A)) (ak R B (ak N p0 w0))))) (ae M (ak t (ae o (ae (Nat.ble g0 4194304) (ae (Nat.beq (Nat.add 0 (Nat.mul n3 1)) c3.length) (ak v (ae j (nb_ g0 1 f0 x0)) (ak R (ae j (nb_ n0 1 c0 (nb_ g0 1 f0 y0))) (ak N (ae j (nb_ n0 1 c0 (nb_ n1 1 c1 (nb_ g0 1 f0 none)))) (ae M (ae j (nb_ n0 1 c0 (nb_ n1 1 c1 (nb_ n2 1 c2 (nb_ g0 1 f0 (some (g,af [.cells [f,e,d,c,b,s0,a,Z,sl_ 4 g0,X] 86 true,l0,V,U,lb_ W g0 1 f0 5,S])))))))))))))) (ak L (ae (gq 0 K e0) (ak (Nat.ble 1 e0) (ak v (ae j (nb_ I 1 c3 x0)) (ak R (ae j (nb_ n0 1 c0 (nb_ I 1 c3 y0))) (ak N (ae j (nb_ n0 1 c0 (nb_ n1 1 c1 (nb_ I 1 c3 none)))) (ae M (ae j (nb_ n0 1 c0 (nb_ n1 1 c1 (nb_ n2 1 c2 (nb_ I 1 c3 (some (g,af [.cells [f,e,d,c,b,s0,a,Z,sl_ 4 I,X] 86 true,q0,G,F,lb_ H I 1 c3 5,C]))))))))))) (ak v (ae j x0) (ak R (ae j (nb_ n0 1 c0 y0)) (ak N (ae j (nb_ n0 1 c0 (nb_ n1 1 c1 none))) (ae M (ae j (nb_ n0 1 c0 (nb_ n1 1 c1 (nb_ n2 1 c2 (some (g,af [.cells [f,e,d,c,b,s0,a,Z,sl_ 4 0,X] 86 true,q0,G,F,t0,C])))))))))))) (ak v (ae j (nb_ n3 1 c3 x0)) (ak R (ae j (nb_ n0 1 c0 (nb_ n3 1 c3 y0))) (ak N z0 (ae M p0)))))))))))) (nb_ n0 1 c0 (nb_ n1 1 c1 (nb_ n2 1 c2 (nb_ n3 1 c3 (some (.tuple ⟨[io_ 1,pt_ 0,io_ q,sl_ 5 n,io_ m,io_ i]⟩,af [r0,lb_ d0 n0 1 c0 5,lb_ d0 n1 1 c1 5,lb_ d0 n2 1 c2 5,lb_ d0 n3 1 c3 5, .cells (aZ true d0 cp) 163 false])))))))):=by kernel_rfl
def l_(d:List UInt8)(s:StM):List UInt8:=match eqI s.kind 0,eqI s.kind 1 with
 |true,_=>d++s.bytes
 |false,true=>d.take s.len.toNat
 |false,false=>d
def iK(m:DkM)(f:Int):List UInt8:=match eqI f 0,eqI f 1,eqI f 2 with
 |true,_,_=>m.d0
 |false,true,_=>m.d1
 |false,false,true=>m.d2
 |false,false,false=>m.d3
def setF(m:DkM)(f:Int)(d:List UInt8):DkM:=match eqI f 0,eqI f 1,eqI f 2 with
 |true,_,_=>{ m with d0:=d }
 |false,true,_=>{ m with d1:=d }
 |false,false,true=>{ m with d2:=d }
 |false,false,false=>{ m with d3:=d }
def fE(m:DkM)(s:StM):DkM:=setF m s.file (l_ (iK m s.file) s)
structure uN(m:DkM)(s:StM):Prop where
 file:0<=s.file/\s.file<4
 len:0<=s.len/\(eqI s.kind 0=false->eqI s.kind 1=true->s.len.toNat<=(iK m s.file).length)
 size:(iK m s.file).length+s.bytes.length<=4194304
def stV(n:Nat)(i:Int):List Value:=[p0, .int .i64 (ag n), .slice (some ⟨5,0,none⟩) n 18446744073709551616, .int .i64 (ag n), .int .i64 i]
theorem abz(n:Nat):Nat.div (Nat.sub n 0) 1=n:=by show(n-0) / 1=n; omega
theorem ad9(z:Int):iV 0 z=z.toNat:=by unfold iV; omega
theorem aaL{l:List StM}{i:Nat}(h:i<l.length):iq [.int .i64, .int .i64, .slice 1, .int .i64] (ESt.all l) (atN (i:Int) 4)=true:=by
 show and (eu (.int .i64) (aU (ESt.all l) (atN (i:Int) 4))) (and (eu (.int .i64) (aU (ESt.all l) (Nat.add (atN (i:Int) 4) 1))) (and (eu (.slice 1) (aU (ESt.all l) (Nat.add (Nat.add (atN (i:Int) 4) 1) 1))) (and (eu (.int .i64) (aU (ESt.all l) (Nat.add (Nat.add (Nat.add (atN (i:Int) 4) 1) 1) 1))) true)))=true;rw[acw h,abJ h,acW h,acU h];have:eu (.slice 1) (aX 1 l[i].bytes.length 0 (bc l[i].bytes))=true:=En (by decide);rw[this]; rfl
theorem Wx{m:DkM}{n i:Nat}(hi:i<n)(hn:n<=m.pend.length)(hm:m.pend.length<4194304)(ho:uN m (m.pend[i]'(by omega))) :
  bV P E ctF 50 129 Bst Dst (stV n i) (aW m)=some (.tuple ⟨exV .normal::stV n ((i+1:Nat):Int)⟩,af (aW (fE m (m.pend[i]'(by omega))))):=by
 obtain⟨off,fused,fuse,steps,d0,d1,d2,d3,pend⟩:=m;simp only at hn hm;have hp:i<pend.length:=by omega
 obtain⟨⟨f0,f1⟩,⟨l0,l1⟩,sz⟩:=ho;simp only at f0 f1 l0 l1 sz;obtain⟨R,hR⟩:∃ R:Res,R=some (.tuple ⟨exV .normal::stV n ((i+1:Nat):Int)⟩,af (aW (fE ⟨off,fused,fuse,steps,d0,d1,d2,d3,pend⟩ pend[i]))):=⟨_,rfl⟩
 refine Eq.trans ?_ hR;unfold stV p0 aW;simp only;rw[RX];have b2:∀ n,Nat.ble n n=true:=fun n=>Nat.ble_eq_true_of_le (Nat.le_refl n);have b3:∀ n,Nat.beq n n=true:=Nat.beq_refl;have n4:∀ l:List StM,(ESt.all l).length=Nat.mul l.length 4:=fun l=>ESt.all_length l;have g1:ltI (i:Int) (ag n)=true:=by unfold ltI ag; exact decide_eq_true (by omega)
 have g2:inI (i:Int) n=true:=by unfold inI; exact decide_eq_true (by omega)
 have g3:Nat.ble (Nat.add (atN (i:Int) 4) 4) (Nat.mul pend.length 4)=true:=Nat.ble_eq_true_of_le (by
  show(i:Int).toNat*4+4<=pend.length*4;have:(i:Int).toNat=i:=by omega
  omega)
 have g4:=aaL hp;have a1:dO .i64 (i:Int) 1=((i+1:Nat):Int):=by unfold dO; rw[wrap64 (by omega) (by omega)]; omega
 have hv:∀ x:Int,bU (.int .i64 x) (.int .i64 x)=true:=fun x=>by simp[bU]
 have ai:∀ (k:IntKind) (n:Int),asI (.int k n)=n:=fun _ _=>rfl;have zn:∀ l:List UInt8,zN (aX 1 l.length 0 (bc l))=l.length:=fun l=>Be (by decide);have zc:∀ l:List UInt8,zC (aX 1 l.length 0 (bc l))=bc l:=fun l=>IQ (by decide);simp only[io_,lb_,nb_,pt_,sl_,aG,n4,g1,g2,g3,g4,acw hp,abJ hp,acW hp,acU hp,ai,zn,zc,a1,hv,bu,aQ,ah,b2,b3,aA,a_,fK rfl,aP,Enc.all_ren,abz,ad9,Bool.and_self,aK,ax];generalize pend[i]=s at *;obtain⟨kind,file,bytes,len⟩:=s;simp only at f0 f1 l0 l1 sz;have apl:∀ a b:List UInt8,(a++b).length=Nat.add a.length b.length:=fun _ _=>List.length_append;rcases(show file=0\/file=1\/file=2\/file=3 by omega)with rfl | rfl | rfl | rfl
 ·have q0:eqI (0:Int) 0=true:=rfl;have q1:eqI (0:Int) 1=false:=rfl;have q2:eqI (0:Int) 2=false:=rfl;have q3:eqI (0:Int) 3=false:=rfl;have sz:d0.length+bytes.length<=4194304:=sz;have l1:eqI kind 0=false->eqI kind 1=true->len.toNat<=d0.length:=l1;have t1:Nat.ble (Nat.add d0.length bytes.length) 4194304=true:=Nat.ble_eq_true_of_le sz;have ct:takeC (Nat.add d0.length bytes.length) (bT 0 (bc (d0++bytes)))=bc (d0++bytes):=fK (apl _ _).symm;have ck:takeC len.toNat (bT 0 (bc d0))=bc (d0.take len.toNat):=by rw[yw,List.drop_zero]
  cases k0:eqI kind 0 with
  |true=>
   simp only[io_,lb_,nb_,pt_,sl_,q0,q1,q2,q3,k0,t1,ct,b2,b3,apl,ah,aP,Enc.all_ren,aG,aQ,a_,fK rfl,aK,aH,ax];rw[hR,show fE ⟨off,fused,fuse,steps,d0,d1,d2,d3,pend⟩ ⟨kind,0,bytes,len⟩=⟨off,fused,fuse,steps,d0++bytes,d1,d2,d3,pend⟩ from by unfold fE l_; simp only[io_,lb_,nb_,pt_,sl_,k0]; rfl];unfold aW stV p0;simp only[io_,lb_,nb_,pt_,sl_,apl]
   rfl
  |false=>
   cases k1:eqI kind 1 with
   |true=>
    have hl:=l1 k0 k1;have t2:gq 0 len d0.length=true:=mW (by omega) l0 (by omega);have t3:Nat.ble len.toNat d0.length=true:=Nat.ble_eq_true_of_le hl;have tl:(d0.take len.toNat).length=len.toNat:=by rw[List.length_take]; omega
    cases hz:Nat.ble 1 d0.length with
    |true=>
     simp only[io_,lb_,nb_,pt_,sl_,q0,q1,q2,q3,k0,k1,t2,t3,ck,hz,b2,b3,apl,ah,aP,Enc.all_ren,aG,aQ,a_,fK rfl,aK,aH,ax];rw[hR,show fE ⟨off,fused,fuse,steps,d0,d1,d2,d3,pend⟩ ⟨kind,0,bytes,len⟩=⟨off,fused,fuse,steps,d0.take len.toNat,d1,d2,d3,pend⟩ from by unfold fE l_; simp only[io_,lb_,nb_,pt_,sl_,k0,k1]; rfl];unfold aW stV p0;simp only[io_,lb_,nb_,pt_,sl_,tl]
     rfl
    |false=>
     have hz0:d0.length=0:=by
      have:¬1<=d0.length:=fun h=>by rw[Nat.ble_eq_true_of_le h]at hz; cases hz
      omega
     have hl0:len.toNat=0:=by omega
     obtain rfl:=List.length_eq_zero_iff.1 hz0;simp only[io_,lb_,nb_,pt_,sl_,q0,q1,q2,q3,k0,k1,t2,hl0,hz,b2,b3,apl,ah,aP,Enc.all_ren,aG,aQ,a_,fK rfl,aK,aH,ax];rw[hR,show fE ⟨off,fused,fuse,steps,[],d1,d2,d3,pend⟩ ⟨kind,0,bytes,len⟩=⟨off,fused,fuse,steps,[],d1,d2,d3,pend⟩ from by unfold fE l_; simp only[io_,lb_,nb_,pt_,sl_,k0,k1]; show setF _ _ (List.take _ [])=_; rw[List.take_nil]; rfl];unfold aW stV p0;simp only[io_,lb_,nb_,pt_,sl_,List.length_nil]
     rfl
   |false=>
    simp only[io_,lb_,nb_,pt_,sl_,q0,q1,q2,q3,k0,k1,b2,b3,apl,ah,aP,Enc.all_ren,aG,aQ,a_,fK rfl,aK,aH,ax];rw[hR,show fE ⟨off,fused,fuse,steps,d0,d1,d2,d3,pend⟩ ⟨kind,0,bytes,len⟩=⟨off,fused,fuse,steps,d0,d1,d2,d3,pend⟩ from by unfold fE l_; simp only[io_,lb_,nb_,pt_,sl_,k0,k1]; rfl];unfold aW stV p0
    rfl
 ·have q0:eqI (1:Int) 0=false:=rfl;have q1:eqI (1:Int) 1=true:=rfl;have q2:eqI (1:Int) 2=false:=rfl;have q3:eqI (1:Int) 3=false:=rfl;have sz:d1.length+bytes.length<=4194304:=sz;have l1:eqI kind 0=false->eqI kind 1=true->len.toNat<=d1.length:=l1;have t1:Nat.ble (Nat.add d1.length bytes.length) 4194304=true:=Nat.ble_eq_true_of_le sz;have ct:takeC (Nat.add d1.length bytes.length) (bT 0 (bc (d1++bytes)))=bc (d1++bytes):=fK (apl _ _).symm;have ck:takeC len.toNat (bT 0 (bc d1))=bc (d1.take len.toNat):=by rw[yw,List.drop_zero]
  cases k0:eqI kind 0 with
  |true=>
   simp only[io_,lb_,nb_,pt_,sl_,q0,q1,q2,q3,k0,t1,ct,b2,b3,apl,ah,aP,Enc.all_ren,aG,aQ,a_,fK rfl,aK,aH,ax];rw[hR,show fE ⟨off,fused,fuse,steps,d0,d1,d2,d3,pend⟩ ⟨kind,1,bytes,len⟩=⟨off,fused,fuse,steps,d0,d1++bytes,d2,d3,pend⟩ from by unfold fE l_; simp only[io_,lb_,nb_,pt_,sl_,k0]; rfl];unfold aW stV p0;simp only[io_,lb_,nb_,pt_,sl_,apl]
   rfl
  |false=>
   cases k1:eqI kind 1 with
   |true=>
    have hl:=l1 k0 k1;have t2:gq 0 len d1.length=true:=mW (by omega) l0 (by omega);have t3:Nat.ble len.toNat d1.length=true:=Nat.ble_eq_true_of_le hl;have tl:(d1.take len.toNat).length=len.toNat:=by rw[List.length_take]; omega
    cases hz:Nat.ble 1 d1.length with
    |true=>
     simp only[io_,lb_,nb_,pt_,sl_,q0,q1,q2,q3,k0,k1,t2,t3,ck,hz,b2,b3,apl,ah,aP,Enc.all_ren,aG,aQ,a_,fK rfl,aK,aH,ax];rw[hR,show fE ⟨off,fused,fuse,steps,d0,d1,d2,d3,pend⟩ ⟨kind,1,bytes,len⟩=⟨off,fused,fuse,steps,d0,d1.take len.toNat,d2,d3,pend⟩ from by unfold fE l_; simp only[io_,lb_,nb_,pt_,sl_,k0,k1]; rfl];unfold aW stV p0;simp only[io_,lb_,nb_,pt_,sl_,tl]
     rfl
    |false=>
     have hz0:d1.length=0:=by
      have:¬1<=d1.length:=fun h=>by rw[Nat.ble_eq_true_of_le h]at hz; cases hz
      omega
     have hl0:len.toNat=0:=by omega
     obtain rfl:=List.length_eq_zero_iff.1 hz0;simp only[io_,lb_,nb_,pt_,sl_,q0,q1,q2,q3,k0,k1,t2,hl0,hz,b2,b3,apl,ah,aP,Enc.all_ren,aG,aQ,a_,fK rfl,aK,aH,ax];rw[hR,show fE ⟨off,fused,fuse,steps,d0,[],d2,d3,pend⟩ ⟨kind,1,bytes,len⟩=⟨off,fused,fuse,steps,d0,[],d2,d3,pend⟩ from by unfold fE l_; simp only[io_,lb_,nb_,pt_,sl_,k0,k1]; show setF _ _ (List.take _ [])=_; rw[List.take_nil]; rfl];unfold aW stV p0;simp only[io_,lb_,nb_,pt_,sl_,List.length_nil]
     rfl
   |false=>
    simp only[io_,lb_,nb_,pt_,sl_,q0,q1,q2,q3,k0,k1,b2,b3,apl,ah,aP,Enc.all_ren,aG,aQ,a_,fK rfl,aK,aH,ax];rw[hR,show fE ⟨off,fused,fuse,steps,d0,d1,d2,d3,pend⟩ ⟨kind,1,bytes,len⟩=⟨off,fused,fuse,steps,d0,d1,d2,d3,pend⟩ from by unfold fE l_; simp only[io_,lb_,nb_,pt_,sl_,k0,k1]; rfl];unfold aW stV p0
    rfl
 ·have q0:eqI (2:Int) 0=false:=rfl;have q1:eqI (2:Int) 1=false:=rfl;have q2:eqI (2:Int) 2=true:=rfl;have q3:eqI (2:Int) 3=false:=rfl;have sz:d2.length+bytes.length<=4194304:=sz;have l1:eqI kind 0=false->eqI kind 1=true->len.toNat<=d2.length:=l1;have t1:Nat.ble (Nat.add d2.length bytes.length) 4194304=true:=Nat.ble_eq_true_of_le sz;have ct:takeC (Nat.add d2.length bytes.length) (bT 0 (bc (d2++bytes)))=bc (d2++bytes):=fK (apl _ _).symm;have ck:takeC len.toNat (bT 0 (bc d2))=bc (d2.take len.toNat):=by rw[yw,List.drop_zero]
  cases k0:eqI kind 0 with
  |true=>
   simp only[io_,lb_,nb_,pt_,sl_,q0,q1,q2,q3,k0,t1,ct,b2,b3,apl,ah,aP,Enc.all_ren,aG,aQ,a_,fK rfl,aK,aH,ax];rw[hR,show fE ⟨off,fused,fuse,steps,d0,d1,d2,d3,pend⟩ ⟨kind,2,bytes,len⟩=⟨off,fused,fuse,steps,d0,d1,d2++bytes,d3,pend⟩ from by unfold fE l_; simp only[io_,lb_,nb_,pt_,sl_,k0]; rfl];unfold aW stV p0;simp only[io_,lb_,nb_,pt_,sl_,apl]
   rfl
  |false=>
   cases k1:eqI kind 1 with
   |true=>
    have hl:=l1 k0 k1;have t2:gq 0 len d2.length=true:=mW (by omega) l0 (by omega);have t3:Nat.ble len.toNat d2.length=true:=Nat.ble_eq_true_of_le hl;have tl:(d2.take len.toNat).length=len.toNat:=by rw[List.length_take]; omega
    cases hz:Nat.ble 1 d2.length with
    |true=>
     simp only[io_,lb_,nb_,pt_,sl_,q0,q1,q2,q3,k0,k1,t2,t3,ck,hz,b2,b3,apl,ah,aP,Enc.all_ren,aG,aQ,a_,fK rfl,aK,aH,ax];rw[hR,show fE ⟨off,fused,fuse,steps,d0,d1,d2,d3,pend⟩ ⟨kind,2,bytes,len⟩=⟨off,fused,fuse,steps,d0,d1,d2.take len.toNat,d3,pend⟩ from by unfold fE l_; simp only[io_,lb_,nb_,pt_,sl_,k0,k1]; rfl];unfold aW stV p0;simp only[io_,lb_,nb_,pt_,sl_,tl]
     rfl
    |false=>
     have hz0:d2.length=0:=by
      have:¬1<=d2.length:=fun h=>by rw[Nat.ble_eq_true_of_le h]at hz; cases hz
      omega
     have hl0:len.toNat=0:=by omega
     obtain rfl:=List.length_eq_zero_iff.1 hz0;simp only[io_,lb_,nb_,pt_,sl_,q0,q1,q2,q3,k0,k1,t2,hl0,hz,b2,b3,apl,ah,aP,Enc.all_ren,aG,aQ,a_,fK rfl,aK,aH,ax];rw[hR,show fE ⟨off,fused,fuse,steps,d0,d1,[],d3,pend⟩ ⟨kind,2,bytes,len⟩=⟨off,fused,fuse,steps,d0,d1,[],d3,pend⟩ from by unfold fE l_; simp only[io_,lb_,nb_,pt_,sl_,k0,k1]; show setF _ _ (List.take _ [])=_; rw[List.take_nil]; rfl];unfold aW stV p0;simp only[io_,lb_,nb_,pt_,sl_,List.length_nil]
     rfl
   |false=>
    simp only[io_,lb_,nb_,pt_,sl_,q0,q1,q2,q3,k0,k1,b2,b3,apl,ah,aP,Enc.all_ren,aG,aQ,a_,fK rfl,aK,aH,ax];rw[hR,show fE ⟨off,fused,fuse,steps,d0,d1,d2,d3,pend⟩ ⟨kind,2,bytes,len⟩=⟨off,fused,fuse,steps,d0,d1,d2,d3,pend⟩ from by unfold fE l_; simp only[io_,lb_,nb_,pt_,sl_,k0,k1]; rfl];unfold aW stV p0
    rfl
 ·have q0:eqI (3:Int) 0=false:=rfl;have q1:eqI (3:Int) 1=false:=rfl;have q2:eqI (3:Int) 2=false:=rfl;have q3:eqI (3:Int) 3=true:=rfl;have sz:d3.length+bytes.length<=4194304:=sz;have l1:eqI kind 0=false->eqI kind 1=true->len.toNat<=d3.length:=l1;have t1:Nat.ble (Nat.add d3.length bytes.length) 4194304=true:=Nat.ble_eq_true_of_le sz;have ct:takeC (Nat.add d3.length bytes.length) (bT 0 (bc (d3++bytes)))=bc (d3++bytes):=fK (apl _ _).symm;have ck:takeC len.toNat (bT 0 (bc d3))=bc (d3.take len.toNat):=by rw[yw,List.drop_zero]
  cases k0:eqI kind 0 with
  |true=>
   simp only[io_,lb_,nb_,pt_,sl_,q0,q1,q2,q3,k0,t1,ct,b2,b3,apl,ah,aP,Enc.all_ren,aG,aQ,a_,fK rfl,aK,aH,ax];rw[hR,show fE ⟨off,fused,fuse,steps,d0,d1,d2,d3,pend⟩ ⟨kind,3,bytes,len⟩=⟨off,fused,fuse,steps,d0,d1,d2,d3++bytes,pend⟩ from by unfold fE l_; simp only[io_,lb_,nb_,pt_,sl_,k0]; rfl];unfold aW stV p0;simp only[io_,lb_,nb_,pt_,sl_,apl]
   rfl
  |false=>
   cases k1:eqI kind 1 with
   |true=>
    have hl:=l1 k0 k1;have t2:gq 0 len d3.length=true:=mW (by omega) l0 (by omega);have t3:Nat.ble len.toNat d3.length=true:=Nat.ble_eq_true_of_le hl;have tl:(d3.take len.toNat).length=len.toNat:=by rw[List.length_take]; omega
    cases hz:Nat.ble 1 d3.length with
    |true=>
     simp only[io_,lb_,nb_,pt_,sl_,q0,q1,q2,q3,k0,k1,t2,t3,ck,hz,b2,b3,apl,ah,aP,Enc.all_ren,aG,aQ,a_,fK rfl,aK,aH,ax];rw[hR,show fE ⟨off,fused,fuse,steps,d0,d1,d2,d3,pend⟩ ⟨kind,3,bytes,len⟩=⟨off,fused,fuse,steps,d0,d1,d2,d3.take len.toNat,pend⟩ from by unfold fE l_; simp only[io_,lb_,nb_,pt_,sl_,k0,k1]; rfl];unfold aW stV p0;simp only[io_,lb_,nb_,pt_,sl_,tl]
     rfl
    |false=>
     have hz0:d3.length=0:=by
      have:¬1<=d3.length:=fun h=>by rw[Nat.ble_eq_true_of_le h]at hz; cases hz
      omega
     have hl0:len.toNat=0:=by omega
     obtain rfl:=List.length_eq_zero_iff.1 hz0;simp only[io_,lb_,nb_,pt_,sl_,q0,q1,q2,q3,k0,k1,t2,hl0,hz,b2,b3,apl,ah,aP,Enc.all_ren,aG,aQ,a_,fK rfl,aK,aH,ax];rw[hR,show fE ⟨off,fused,fuse,steps,d0,d1,d2,[],pend⟩ ⟨kind,3,bytes,len⟩=⟨off,fused,fuse,steps,d0,d1,d2,[],pend⟩ from by unfold fE l_; simp only[io_,lb_,nb_,pt_,sl_,k0,k1]; show setF _ _ (List.take _ [])=_; rw[List.take_nil]; rfl];unfold aW stV p0;simp only[io_,lb_,nb_,pt_,sl_,List.length_nil]
     rfl
   |false=>
    simp only[io_,lb_,nb_,pt_,sl_,q0,q1,q2,q3,k0,k1,b2,b3,apl,ah,aP,Enc.all_ren,aG,aQ,a_,fK rfl,aK,aH,ax];rw[hR,show fE ⟨off,fused,fuse,steps,d0,d1,d2,d3,pend⟩ ⟨kind,3,bytes,len⟩=⟨off,fused,fuse,steps,d0,d1,d2,d3,pend⟩ from by unfold fE l_; simp only[io_,lb_,nb_,pt_,sl_,k0,k1]; rfl];unfold aW stV p0
    rfl
theorem abP{m:DkM}{n:Nat}(hn:n<=m.pend.length):bV P E ctF 50 129 Bst Dst (stV n n) (aW m)=some (.tuple ⟨exV (.exit 0)::stV n n⟩,af (aW m)):=by
 obtain⟨off,fused,fuse,steps,d0,d1,d2,d3,pend⟩:=m;unfold stV p0 aW;simp only;rw[RX];have b2:∀ n,Nat.ble n n=true:=fun n=>Nat.ble_eq_true_of_le (Nat.le_refl n);have n4:∀ l:List StM,(ESt.all l).length=Nat.mul l.length 4:=fun l=>ESt.all_length l;have g1:ltI (n:Int) (ag n)=false:=by unfold ltI ag; exact decide_eq_false (by omega)
 simp only[io_,lb_,nb_,pt_,sl_,aG,n4,g1,aQ,ah,b2,fK rfl,aP,Enc.all_ren,Bool.and_self,aK,aH,ax]
 rfl
def lT(m:DkM)(l:List StM):DkM:=l.foldl fE m
def qF:DkM->List StM->Prop
 |_,[]=>True
 |m,s::l=>uN m s/\qF (fE m s) l
theorem TW(m:DkM)(f:Int)(d:List UInt8):(setF m f d).pend=m.pend:=by
 unfold setF;split<;>rfl
theorem CB(m:DkM)(s:StM):(fE m s).pend=m.pend:=TW _ _ _
theorem Oi(n:Nat):∀ (k i:Nat) (m:DkM),i+k=n->n<=m.pend.length->m.pend.length<4194304->qF m ((m.pend.drop i).take k)->
  LRX P 129 0 Bst Dst.head (stV n i) (aW m) .normal (stV n n) (aW (lT m ((m.pend.drop i).take k)))
 |0,i,m,h1,h2,h3,h4=>by
  obtain rfl:i=n:=by omega
  exact LRX.stop (n:=50) (bf ctF) az bn Ol (e:= .exit 0) (abP h2) (by intro h; cases h)
 |k+1,i,m,h1,h2,h3,h4=>by
  have hp:i<m.pend.length:=by omega
  have hd:(m.pend.drop i).take (k+1)=m.pend[i]::(m.pend.drop (i+1)).take k:=by rw[List.drop_eq_getElem_cons hp,List.take_succ_cons]
  rw[hd]at h4 ⊢;have q:=Wx (by omega) h2 h3 h4.1;have e:=CB m m.pend[i];have ih:=Oi n k (i+1) (fE m m.pend[i]) (by omega) (by rw[e]; exact h2) (by rw[e]; exact h3) (by rw[e]; exact h4.2);rw[e]at ih;exact LRX.again (n:=50) (bf ctF) az bn Ol q ih
structure StS where
 m:DkM
 n:Nat
def kSt:Con StS where
 enc s:=(stV s.n 0,aW s.m)
 ok s:=s.n<=s.m.pend.length/\s.m.pend.length<4194304/\qF s.m (s.m.pend.take s.n)
 inj a b h:=by
  obtain⟨a1,a2⟩:=a;obtain⟨b1,b2⟩:=b;simp only[Prod.mk.injEq]at h;obtain⟨h1,h2⟩:=h;obtain rfl:=sV h2;unfold stV at h1;simp only[List.cons.injEq,Value.slice.injEq,true_and,and_true]at h1;obtain⟨_,rfl,_⟩:=h1
  rfl
 dflt:=⟨dk0,0⟩
def Qs(s:StS):DT (Ex×List Value×List Blk):= .leaf (.normal,stV s.n s.n,aW (lT s.m (s.m.pend.take s.n)))
theorem U2:LoopOkX P 129 0 Bst Dst.head (Dn kSt.C kSt.D Qs):=
 yE kSt (dL UH) fun s ho e vs' bs' hev=>by
  simp only[Qs,DT.eval,Option.some.injEq,Prod.mk.injEq]at hev;obtain⟨rfl,rfl,rfl⟩:=hev;exact Oi s.n s.n 0 s.m (by omega) ho.1 ho.2.1 (by rw[List.drop_zero]; exact ho.2.2)
def aen(C:List Value->List Blk->Bool)(v:List Value)(b:List Blk):Ct:=eY P 129 0 Dst (gX C (.leaf (.normal,v,b))) ctF
theorem Q_(C:List Value->List Blk->Bool)(off1 fused1:Bool)(fuse1 steps1:Int)(m0 m1 m2 m3 mp:Nat)(d0 d1 d2 d3 dp:List Value)(y1:Nat)(y0 y2 y3:Int)(off fused:Bool)(fuse steps:Int)(n0 n1 n2 n3 np:Nat)(c0 c1 c2 c3 cp:List Value)(n:Int):dD P E (aen C [.pointer (some ⟨0,0,none⟩), .int .i64 y0, .slice (some ⟨5,0,none⟩) y1 18446744073709551616, .int .i64 y2, .int .i64 y3] [.cells (dkC off1 fused1 fuse1 steps1 m0 m1 m2 m3 mp) 86 true, .cells d0 5 false, .cells d1 5 false, .cells d2 5 false, .cells d3 5 false, .cells dp 163 false]) 50 fQ [] [] 1 129 [.pointer (some ⟨0,0,none⟩), .int .i64 n] [.cells (dkC off fused fuse steps n0 n1 n2 n3 np) 86 true, .cells c0 5 false, .cells c1 5 false, .cells c2 5 false, .cells c3 5 false, .cells cp 163 false] =
 (let z:=Nat.div (Nat.sub cp.length 0) 4;let y:=io_ 0;let x:=Value.bool true;let w:=bY 0 [0,6,7,8,9,5];let v:=[Blk.cells [x, .bool off, .bool fused,io_ fuse,io_ steps,sl_ 1 n0,sl_ 2 n1,sl_ 3 n2,sl_ 4 n3,sl_ 5 np] 86 true,lb_ w n0 1 c0 5,lb_ w n1 1 c1 5,lb_ w n2 1 c2 5,lb_ w n3 1 c3 5,Blk.cells (aZ true w cp) 163 false];
 let u:=bH [0] 10;let t:=aZ true u dp;let s:=t.length;let r:=Nat.div (Nat.sub s 0) 4;let q:=Int.toNat y0;let p:=aZ true u d0;let o:=aZ true u d1;let m:=aZ true u d2;let l:=aZ true u d3;let k:=Addr.mk 5 0 none;let j:=Go.Addr.off (yH ⟨14,0,Addr.spot k⟩ (atN y0 4));let i:=iV y0 (ag mp);
 let h:=Nat.mul i 4;let g:=Value.tuple ⟨[]⟩;let f:=Value.bool off1;let e:=Value.bool fused1;let d:=io_ fuse1;let c:=io_ steps1;let b:=sl_ 1 m0;let a:=sl_ 2 m1;let Z:=sl_ 3 m2;let Y:=sl_ 4 m3;let X:=ro_ [0,1,15,5];let W:=lb_ X m0 1 p 5;let V:=lb_ X m1 1 o 5;let U:=lb_ X m2 1 m 5;let T:=lb_ X m3 1 l 5;
 let S:=some (g,af [.cells [x,f,e,d,c,b,a,Z,Y,sl_ 5 0] 86 true,W,V,U,T, .cells [] 163 false]);let R:=Nat.add 18446744073709551616 q;let Q:=bY 0 [0,15,16,17,18,14];let O:=ae (gq y0 (ag mp) r) (ak (Nat.ble (Nat.add q 1) r) (nb_ m0 1 p (nb_ m1 1 o (nb_ m2 1 m (nb_ m3 1 l (ae (Nat.ble (Nat.add j h) s) (some (g,af [.cells [x,f,e,d,c,b,a,Z,Y,sl_ 5 i] 86 true,W,V,U,T, .cells (aZ true X (takeC h (bT j t))) 163 false]))))))) (ak (Nat.beq q 0) (nb_ m0 1 p (nb_ m1 1 o (nb_ m2 1 m (nb_ m3 1 l S)))) (nb_ m0 1 p (nb_ m1 1 o (nb_ m2 1 m (nb_ m3 1 l (ak (Nat.beq R 18446744073709551616) S (ak (Nat.ble 18446744073709551616 R) S (ak (Bool.and (Nat.ble 0 R) (Nat.ble (Nat.add 0 (Nat.mul R 4)) s)) S (some (g,af [.cells [x,f,e,d,c,b,a,Z,Y, .slice (some k) 0 R] 86 true,lb_ Q m0 1 p 5,lb_ Q m1 1 o 5,lb_ Q m2 1 m 5,lb_ Q m3 1 l 5, .cells (aZ true Q t) 163 false])))))))))));
 (ae (gq 0 n z) (ak (Nat.ble 1 z) (nb_ n0 1 c0 (nb_ n1 1 c1 (nb_ n2 1 c2 (nb_ n3 1 c3 (ae (C [pt_ 0,io_ n,sl_ 5 (iV 0 n),io_ (ag (iV 0 n)),y] v) O))))) (nb_ n0 1 c0 (nb_ n1 1 c1 (nb_ n2 1 c2 (nb_ n3 1 c3 (ae (C [pt_ 0,io_ n,sl_ 5 0,y,y] v) O)))))))):=by kernel_rfl
theorem G8:∀ (l:List StM) (m:DkM),(lT m l).pend=m.pend
 |[],m=>rfl
 |s::l,m=>by
  show(lT (fE m s) l).pend=_;rw[G8 l,CB]
def o7(s:StS):DkM:={ lT s.m (s.m.pend.take s.n)with pend:=s.m.pend.drop s.n }
def kSe:Con StS where
 enc s:=([p0, .int .i64 (ag s.n)],aW s.m)
 ok s:=s.n<=s.m.pend.length/\s.m.pend.length<4194304/\qF s.m (s.m.pend.take s.n)
 inj a b h:=by
  obtain⟨a1,a2⟩:=a;obtain⟨b1,b2⟩:=b;simp only[Prod.mk.injEq]at h;obtain⟨h1,h2⟩:=h;obtain rfl:=sV h2;simp only[List.cons.injEq,Value.int.injEq,true_and,and_true]at h1;have:a2=b2:=by unfold ag at h1; omega
  subst this
  rfl
 dflt:=⟨dk0,0⟩
def abL(s:StS):Ct:=eY P 129 0 Dst (gX (kSt.at s) (Qs s)) ctF
theorem aeq(n:Nat):Nat.div (Nat.sub (Nat.mul n 4) 0) 4=n:=by show(n*4-0) / 4=n; omega
theorem adD(a b:Nat):iV (ag a) (ag b)=b-a:=by simp[iV,ag]
theorem tnL(n:Nat):Int.toNat (ag n)=n:=by simp[ag]
theorem aeJ(b k:Nat):(yH (Addr.mk b 0 none) k).off=k:=by show Nat.add 0 k=k; exact Nat.zero_add k
theorem Qy(s:StS)(hn:s.n<=s.m.pend.length):dD P E (abL s) 50 fQ [] [] 1 129 (kSe.enc s).1 (kSe.enc s).2=some (.tuple ⟨[]⟩,af (aW (o7 s))):=by
 obtain⟨m,n⟩:=s;simp only at hn;have hp:(lT m (m.pend.take n)).pend=m.pend:=G8 _ _;have q:=Q_ (kSt.at ⟨m,n⟩) (lT m (m.pend.take n)).off (lT m (m.pend.take n)).fused (lT m (m.pend.take n)).fuse (lT m (m.pend.take n)).steps
  (lT m (m.pend.take n)).d0.length (lT m (m.pend.take n)).d1.length (lT m (m.pend.take n)).d2.length (lT m (m.pend.take n)).d3.length (lT m (m.pend.take n)).pend.length
  (bc (lT m (m.pend.take n)).d0) (bc (lT m (m.pend.take n)).d1) (bc (lT m (m.pend.take n)).d2) (bc (lT m (m.pend.take n)).d3) (ESt.all (lT m (m.pend.take n)).pend)
  n (ag n) (ag n) n m.off m.fused m.fuse m.steps m.d0.length m.d1.length m.d2.length m.d3.length m.pend.length (bc m.d0) (bc m.d1) (bc m.d2) (bc m.d3) (ESt.all m.pend) (ag n)
 refine Eq.trans ?_ (q.trans ?_)
 ·rfl
 clear q;obtain⟨R,hR⟩:∃ R:Res,R=some (.tuple ⟨[]⟩,af (aW (o7 ⟨m,n⟩))):=⟨_,rfl⟩
 refine Eq.trans ?_ hR;rw[hp];have b2:∀ n,Nat.ble n n=true:=fun n=>Nat.ble_eq_true_of_le (Nat.le_refl n);have n4:∀ l:List StM,(ESt.all l).length=Nat.mul l.length 4:=fun l=>ESt.all_length l;have c1:gq 0 (ag n) m.pend.length=true:=mW (by omega) (by unfold ag; omega) (by unfold ag; omega);have c2:gq (ag n) (ag m.pend.length) m.pend.length=true:=mW (by unfold ag; omega) (by unfold ag; omega) (by unfold ag; omega);simp only[io_,lb_,nb_,pt_,sl_,aG,n4,aeq,c1,c2,abx,adD,tnL,aeJ,aQ,ah,b2,fK rfl,aP,Enc.all_ren,Bool.and_self,aK,ax];by_cases h0:m.pend.length=0
 ·have hpe:m.pend=[]:=List.length_eq_zero_iff.1 h0;obtain rfl:n=0:=by omega
  have z1:Nat.ble 1 m.pend.length=false:=by rw[h0]; rfl
  have z2:Nat.ble (Nat.add 0 1) m.pend.length=false:=by rw[h0]; rfl
  have z3:Nat.beq 0 0=true:=rfl;simp only[io_,lb_,nb_,pt_,sl_,z1,z2,z3,aH,aK];refine rW (k:=kSt) (s:=⟨m,0⟩) rfl rfl ?_;rw[hR];unfold o7 aW;simp only[io_,lb_,nb_,pt_,sl_,hpe]
  rfl
 ·have hz:Nat.ble 1 m.pend.length=true:=Nat.ble_eq_true_of_le (by omega);simp only[io_,lb_,nb_,pt_,sl_,hz,aK];refine rW (k:=kSt) (s:=⟨m,n⟩) rfl rfl ?_;by_cases hlt:n<m.pend.length
  ·have t1:Nat.ble (Nat.add n 1) m.pend.length=true:=Nat.ble_eq_true_of_le hlt;have ea:atN (ag n) 4=n*4:=by unfold atN; rw[tnL]
   have t2:Nat.ble (Nat.add (n*4) (Nat.mul (m.pend.length-n) 4)) (Nat.mul m.pend.length 4)=true:=Nat.ble_eq_true_of_le (by show n*4+(m.pend.length-n)*4<=m.pend.length*4; omega);have el:(m.pend.drop n).length=m.pend.length-n:=List.length_drop;have ed:takeC (Nat.mul (m.pend.length-n) 4) (bT (n*4) (ESt.all m.pend))=ESt.all (m.pend.drop n):=by
    have e1:bT (n*4) (ESt.all m.pend)=ESt.all (m.pend.drop n):=ESt.all_drop n m.pend;rw[e1,<-el];exact ESt.all_self _
   simp only[io_,lb_,nb_,pt_,sl_,t1,ea,t2,ed,Enc.all_ren,aK,ax];rw[hR];unfold o7 aW;simp only[io_,lb_,nb_,pt_,sl_,el]
   rfl
  ·have hn2:n=m.pend.length:=by omega
   have t1:Nat.ble (Nat.add n 1) m.pend.length=false:=by
    cases hb:Nat.ble (Nat.add n 1) m.pend.length with
    |false=>rfl
    |true=>have:n+1<=m.pend.length:=Nat.le_of_ble_eq_true hb; omega
   have t3:Nat.beq n 0=false:=by
    cases hb:Nat.beq n 0 with
    |false=>rfl
    |true=>have:=Nat.eq_of_beq_eq_true hb; omega
   have t4:Nat.beq (Nat.add 18446744073709551616 n) 18446744073709551616=false:=by
    cases hb:Nat.beq (Nat.add 18446744073709551616 n) 18446744073709551616 with
    |false=>rfl
    |true=>have:18446744073709551616+n=18446744073709551616:=Nat.eq_of_beq_eq_true hb; omega
   have t5:Nat.ble 18446744073709551616 (Nat.add 18446744073709551616 n)=true:=Nat.ble_eq_true_of_le (by show 18446744073709551616<=18446744073709551616+n; omega);have ed:m.pend.drop n=[]:=List.drop_of_length_le (by omega);simp only[io_,lb_,nb_,pt_,sl_,t1,t3,t4,t5,aK,aH,ax];rw[hR];unfold o7 aW;simp only[io_,lb_,nb_,pt_,sl_,ed]
   rfl
def vJ(s:StS):DT (Value×List Blk):= .leaf (.tuple ⟨[]⟩,aW (o7 s))
theorem TI:CallOkX P 1 129 (yc kSe.C kSe.D vJ):=wV kSe fun s ho v bs' hev=>by
 simp only[vJ,DT.eval,Option.some.injEq,Prod.mk.injEq]at hev;obtain⟨rfl,rfl⟩:=hev;exact CRX.of (bf (abL s)) az (dV bn (BA kSt U2 (s:=s) ho)) (Qy s ho.1)
theorem V_(C:List Value->List Blk->Bool)(off1 fused1:Bool)(fuse1 steps1:Int)(m0 m1 m2 m3 mp:Nat)(d0 d1 d2 d3 dp:List Value)(off fused:Bool)(fuse steps:Int)(n0 n1 n2 n3 np:Nat)(c0 c1 c2 c3 cp:List Value):dD P E (aT P fQ 1 129 (cu C (.leaf (.tuple ⟨[]⟩,[.cells (dkC off1 fused1 fuse1 steps1 m0 m1 m2 m3 mp) 86 true, .cells d0 5 false, .cells d1 5 false, .cells d2 5 false, .cells d3 5 false, .cells dp 163 false]))) ctF) 50 fQ [] [] 1 90 [.pointer (some ⟨0,0,none⟩)] [.cells (dkC off fused fuse steps n0 n1 n2 n3 np) 86 true, .cells c0 5 false, .cells c1 5 false, .cells c2 5 false, .cells c3 5 false, .cells cp 163 false] =
 (let z:=Value.bool true;let y:=Value.bool off;let x:=Value.bool fused;let w:=io_ fuse;let v:=io_ steps;let u:=sl_ 1 n0;let t:=sl_ 2 n1;let s:=sl_ 3 n2;let r:=sl_ 4 n3;let q:=sl_ 5 np;let p:=ro_ [0,1,6,5];let o:=lb_ p n0 1 c0 5;let n:=lb_ p n1 1 c1 5;let m:=lb_ p n2 1 c2 5;let l:=lb_ p n3 1 c3 5;
 let k:=lb_ p np 4 cp 163;let j:=[pt_ 0,io_ (ag np)];let i:=io_ (dO .i64 steps 1);let h:=bH [0] 11;let g:=aZ true h d0;let f:=aZ true h d1;let e:=aZ true h d2;let d:=aZ true h d3;let c:=aZ true h dp;let b:=ro_ [0,1,16,5];let a:=nb_ m0 1 g (nb_ m1 1 f (nb_ m2 1 e (nb_ m3 1 d (nb_ mp 4 c (some (io_ 0,af [.cells [z, .bool off1, .bool fused1,io_ fuse1,io_ steps1,sl_ 1 m0,sl_ 2 m1,sl_ 3 m2,sl_ 4 m3,sl_ 5 mp] 86 true,lb_ b m0 1 g 5,lb_ b m1 1 f 5,lb_ b m2 1 e 5,lb_ b m3 1 d 5,lb_ b mp 4 c 163]))))));
 (ak off (nb_ n0 1 c0 (nb_ n1 1 c1 (nb_ n2 1 c2 (nb_ n3 1 c3 (nb_ np 4 cp (some (io_ 6,af [.cells [z,y,x,w,v,u,t,s,r,q] 86 true,o,n,m,l,k]))))))) (ak fused (ak (eqI fuse 0) (nb_ n0 1 c0 (nb_ n1 1 c1 (nb_ n2 1 c2 (nb_ n3 1 c3 (nb_ np 4 cp (some (io_ 6,af [.cells [z,z,x,w,v,u,t,s,r,q] 86 true,o,n,m,l,k]))))))) (nb_ n0 1 c0 (nb_ n1 1 c1 (nb_ n2 1 c2 (nb_ n3 1 c3 (nb_ np 4 cp (ae (C j [.cells [z,y,x,io_ (fH .i64 fuse 1),i,u,t,s,r,q] 86 true,o,n,m,l,k]) a))))))) (nb_ n0 1 c0 (nb_ n1 1 c1 (nb_ n2 1 c2 (nb_ n3 1 c3 (nb_ np 4 cp (ae (C j [.cells [z,y,x,w,i,u,t,s,r,q] 86 true,o,n,m,l,k]) a))))))))):=by kernel_rfl

structure HeS where
 m:DkM
 f:Int
 d:List UInt8
structure HcS where
 m:DkM
 f:Int
def HcS.h(s:HcS):HeS:=⟨s.m,s.f,iK s.m s.f⟩
def mf(m:DkM):Int×DkM:=match m.off,kL m with
 |true,_=>(6,m)
 |false,none=>(6,{ m with off:=true })
 |false,some m'=>(0,o7 ⟨m',m'.pend.length⟩)
def kSy:Con DkM where
 enc m:=([p0],aW m)
 ok m:=DkOk m/\∀ m',kL m=some m'->qF m' m'.pend
 inj a b h:=by
  simp only[Prod.mk.injEq,true_and]at h;exact sV h
 dflt:=dk0
def syS(m:DkM):StS:=match kL m with
 |none=>⟨m,0⟩
 |some m'=>⟨m',m'.pend.length⟩
def Wh(m:DkM):Ct:=aT P fQ 1 129 (cu (kSe.at (syS m)) (vJ (syS m))) ctF
theorem Wy(m:DkM)(ho:DkOk m):dD P E (Wh m) 50 fQ [] [] 1 90 (kSy.enc m).1 (kSy.enc m).2=some (.int .i64 (mf m).1,af (aW (mf m).2)):=by
 obtain⟨off,fused,fuse,steps,d0,d1,d2,d3,pend⟩:=m;obtain⟨s0,s1,f0,f1,p1⟩:=ho;simp only at s0 s1 f0 f1 p1;obtain⟨S,hS⟩:∃ S,S=syS ⟨off,fused,fuse,steps,d0,d1,d2,d3,pend⟩:=⟨_,rfl⟩
 obtain⟨M,hM⟩:∃ M,M=o7 S:=⟨_,rfl⟩
 have q:=V_ (kSe.at S) M.off M.fused M.fuse M.steps M.d0.length M.d1.length M.d2.length M.d3.length M.pend.length (bc M.d0) (bc M.d1) (bc M.d2) (bc M.d3) (ESt.all M.pend) off fused fuse steps d0.length d1.length d2.length d3.length pend.length (bc d0) (bc d1) (bc d2) (bc d3) (ESt.all pend);unfold Wh vJ;rw[<-hS,<-hM];refine Eq.trans ?_ (q.trans ?_)
 ·rfl
 clear q;have b2:∀ n,Nat.ble n n=true:=fun n=>Nat.ble_eq_true_of_le (Nat.le_refl n);have n4:∀ l:List StM,(ESt.all l).length=Nat.mul l.length 4:=fun l=>ESt.all_length l;have hs:dO .i64 steps 1=steps+1:=by unfold dO; rw[wrap64 (by omega) (by omega)]
 have hf:fH .i64 fuse 1=fuse-1:=by unfold fH; rw[wrap64 (by omega) (by omega)]
 simp only[io_,lb_,nb_,pt_,sl_,aG,n4,aQ,ah,b2,hs,hf,fK rfl,uJ rfl,aP,Enc.all_ren,Bool.and_self,aK,ax];cases off with
 |true=>rfl
 |false=>
  simp only[io_,lb_,nb_,pt_,sl_,aH];cases fused with
  |false=>
   simp only[io_,lb_,nb_,pt_,sl_,aH];have e:S=⟨⟨false,false,fuse,steps+1,d0,d1,d2,d3,pend⟩,pend.length⟩:=hS;refine rW (k:=kSe) (s:=S) (by rw[e]; rfl) (by rw[e]; rfl) ?_;rw[show mf ⟨false,false,fuse,steps,d0,d1,d2,d3,pend⟩=(0,M) from by rw[hM,e]; rfl]
   rfl
  |true=>
   simp only[io_,lb_,nb_,pt_,sl_,aK];cases hq:eqI fuse 0 with
   |true=>
    rw[show mf ⟨false,true,fuse,steps,d0,d1,d2,d3,pend⟩=(6,⟨true,true,fuse,steps,d0,d1,d2,d3,pend⟩) from by unfold mf kL; simp only[io_,lb_,nb_,pt_,sl_,hq]]
    rfl
   |false=>
    simp only[io_,lb_,nb_,pt_,sl_,aH];have e:S=⟨⟨false,true,fuse-1,steps+1,d0,d1,d2,d3,pend⟩,pend.length⟩:=by rw[hS]; unfold syS kL; simp only[io_,lb_,nb_,pt_,sl_,hq]
    refine rW (k:=kSe) (s:=S) (by rw[e]; rfl) (by rw[e]; rfl) ?_;rw[show mf ⟨false,true,fuse,steps,d0,d1,d2,d3,pend⟩=(0,M) from by rw[hM,e]; unfold mf kL; simp only[io_,lb_,nb_,pt_,sl_,hq]]
    rfl
theorem PL:CallOkX P 1 90 (yc kSy.C kSy.D fun m=> .leaf (.int .i64 (mf m).1,aW (mf m).2)):=wV kSy fun m ho v bs' hev=>by
 simp only[DT.eval,Option.some.injEq,Prod.mk.injEq]at hev;obtain⟨rfl,rfl⟩:=hev;refine CRX.of (bf (Wh m)) az (aj bn (ZI kSe TI (s:=syS m) ?_)) (Wy m ho.1);unfold syS;cases hb:kL m with
 |none=>
  exact⟨Nat.zero_le _,ho.1.p1,trivial⟩
 |some m'=>
  have:=ho.2 m' hb;refine⟨Nat.le_refl _,?_,?_⟩
  ·have hp:m'.pend=m.pend:=by
    unfold kL at hb;split at hb
    ·obtain rfl:=Option.some.inj hb; rfl
    ·cases hb
    ·obtain rfl:=Option.some.inj hb; rfl
   show m'.pend.length<4194304;rw[hp]; exact ho.1.p1
  ·show qF m' (m'.pend.take m'.pend.length);rw[List.take_length]; exact this
structure CuS where
 m:DkM
 f:Int
 l:Int
def CuS.c(s:CuS):HcS:=⟨s.m,s.f⟩
def EIn:Enc Int where
 sz:=1
 f n:=[.int .i64 n]
 len _:=rfl
 pos:=by decide
 inj a b h:=by simpa using h
 nr _:=rfl
def au:Pol:=fun t=>match Nat.beq t 86,Nat.beq t 170,Nat.beq t 168,Nat.beq t 174,Nat.beq t 128 with
 |true,_,_,_,_=>some [.val, .val, .val, .val, .val, .own, .own, .own, .own, .own]
 |_,true,_,_,_=>some [.val, .val, .own, .own]
 |_,_,true,_,_=>some [.val, .val, .own]
 |_,_,_,true,_=>some [.val, .val, .own]
 |_,_,_,_,true=>some [.val, .val, .val, .val, .val, .val, .val, .val, .own, .val, .val, .val, .val]
 |_,_,_,_,_=>none
def lsV(k n:Nat):Value:= .slice (some ⟨k,0,none⟩) n 18446744073709551616
def ptV(k:Nat):Value:= .pointer (some ⟨k,0,none⟩)
def dM(a b c d e:Nat)(m:DkM):List Value:=[.bool true, .bool m.off, .bool m.fused, .int .i64 m.fuse, .int .i64 m.steps,lsV a m.d0.length,lsV b m.d1.length,lsV c m.d2.length,lsV d m.d3.length,lsV e m.pend.length]
def dkL(m:DkM):List Blk:=[.cells (bc m.d0) 5 false, .cells (bc m.d1) 5 false, .cells (bc m.d2) 5 false, .cells (bc m.d3) 5 false, .cells (ESt.all m.pend) 163 false]
structure WalM where
 dk:DkM
 br:Bool
 cs:List CmM
 es:List Int
def dI(w:WalM):List Blk:=[.cells [ptV 1, .bool w.br,lsV 7 w.cs.length,lsV 8 w.es.length] 170 true, .cells (dM 2 3 4 5 6 w.dk) 86 true,
 .cells (bc w.dk.d0) 5 false, .cells (bc w.dk.d1) 5 false, .cells (bc w.dk.d2) 5 false, .cells (bc w.dk.d3) 5 false, .cells (ESt.all w.dk.pend) 163 false, .cells (ECm.all w.cs) 47 false, .cells (EIn.all w.es) 3 false]
def okD(d:DkM):DkM:={ d with off:=false }
theorem abf(w:WalM):dD P E ctF 50 au [] [] 2 116 [p0] (dI w) =
 (let z:=w.cs.length;let y:=Enc.all ECm w.cs;let x:=w.es.length;let v:=Enc.all EIn w.es;let u:=Blk.cells [pt_ 1, .bool w.br,sl_ 7 z,sl_ 8 x] 170 true;let t:=dk_ w.dk 2 3 4 5 6;let s:=ro_ [0,2,11,5,9,2];let r:=fH .i64 (ag z) 1;let q:=Nat.add 0 (atN r 3);let p:=ro_ [0,2,25,5,23,2];
 (ak (eqI (ag z) 0) (nb_ z 3 y (nb_ x 1 v (dn_ w0_ w.dk (some (io_ 0,af (u::t::dl_ (cz_ s w0_) w.dk [lb_ s z 3 y 47,lb_ s x 1 v 3])))))) (ae (inI r z) (ae (Bool.and (Nat.ble (Nat.add q 1) y.length) (eu (.int .i64) (aU y q))) (nb_ z 3 y (nb_ x 1 v (dn_ w0_ w.dk (some (io_ (asI (aU y q)),af (u::t::dl_ (cz_ p w0_) w.dk [lb_ p z 3 y 47,lb_ p x 1 v 3])))))))))):=by kernel_rfl
theorem ay{l:List CmM}{n:Nat}(h:n=l.length):takeC (Nat.mul n 3) (bT 0 (ECm.all l))=ECm.all l:=by subst h; exact ECm.all_self l
theorem aC{l:List Int}{n:Nat}(h:n=l.length):takeC n (bT 0 (EIn.all l))=EIn.all l:=by
 subst h;have:=EIn.all_self l;rw[show l.length*EIn.sz=l.length from Nat.mul_one _]at this;exact this
theorem aF{l:List StM}{n:Nat}(h:n=l.length):takeC (Nat.mul n 4) (bT 0 (ESt.all l))=ESt.all l:=by subst h; exact ESt.all_self l
theorem cZ(l:List CmM):(ECm.all l).length=Nat.mul l.length 3:=ECm.all_length l
theorem dC(l:List StM):(ESt.all l).length=Nat.mul l.length 4:=ESt.all_length l
theorem dw(l:List Int):(EIn.all l).length=l.length:=by rw[EIn.all_length]; exact Nat.mul_one _
theorem dS(n:Nat):Nat.ble n n=true:=Nat.ble_eq_true_of_le (Nat.le_refl n)
theorem dn(n:Nat):Nat.beq n n=true:=Nat.beq_refl n
def mO(l:List Int):Int:=l.getLast?.getD 0
theorem aeG{l:List Int}{i:Nat}(h:i<l.length):aU (EIn.all l) i = .int .i64 l[i]:=by
 have e:=EIn.nth (i:=i) (j:=0) h (by decide);rw[show i*EIn.sz+0=i from Nat.mul_one i]at e;rw[e]; rfl
def AU(t n b:Nat)(c:List Value):Bool:=EIn.fz 4194304 t n c
def I9(c:List Value):Int:=mO (EIn.dec c)
def Ql(K:Nat->Nat->Nat->List Value->Bool)(L:List Value->Int):kY:=fun args=>match args with
 |[.iface t (.agg ⟨.slice none n b::c⟩)]=>some (.ite (K t n b c) (.leaf (.int .i64 (L c),[])) .fail)
 |_=>none
theorem aa8(n b:Nat)(c:List Value):lQ P E rZ 50 119 [aX 1 n b c] =
 (let z:=fH .i64 (ag n) 1;let y:=aU c (atN z 1);
 (ak (eqI (ag n) 0) (some (io_ 0,af [])) (ae (Bool.and (Nat.beq 1 1) (inI z n)) (ae (Bool.and (Nat.ble (Nat.add (atN z 1) 1) c.length) (eu (.int .i64) y)) (some (io_ (asI y),af [])))))):=by kernel_rfl
theorem last_at{α:Type}(l:List α)(h:l≠[]):l.getLast? = some (l[l.length-1]'(by have:=List.length_pos_iff.2 h; omega)):=by
 rw[List.getLast?_eq_some_getLast h,List.getLast_eq_getElem]
theorem acp:CallOkR P 119 (Ql AU I9):=Eo (qE P) (n:=50) fun args t hR v bs hev=>by
 unfold Ql at hR;split at hR
 ·rename_i t0 n b c;obtain rfl:=Option.some.inj hR;cases hc:AU t0 n b c with
  |false=>rw[hc]at hev; cases hev
  |true=>
   rw[hc]at hev;obtain⟨l,h1,rfl,rfl,h2,h3⟩:=EIn.fz_of hc;have h1:t0=FZ+1:=h1;subst h1;simp only[io_,DT.eval,Option.some.injEq,Prod.mk.injEq,I9,h3]at hev;obtain⟨rfl,rfl⟩:=hev;refine(aa8 l.length b (EIn.all l)).trans ?_;have hf:aX 1 l.length b (EIn.all l)=aX 1 l.length b (EIn.all l):=rfl;by_cases h0:l=[]
   ·subst h0; rfl
   ·have hp:=List.length_pos_iff.2 h0;have g0:eqI (ag l.length) 0=false:=by unfold eqI ag; exact decide_eq_false (by omega)
    have g1:fH .i64 (ag l.length) 1=((l.length-1:Nat):Int):=by unfold fH ag; rw[wrap64 (by omega) (by omega)]; omega
    have g2:inI ((l.length-1:Nat):Int) l.length=true:=jk (by omega) (by omega);have g3:atN ((l.length-1:Nat):Int) 1=l.length-1:=by simp[atN]
    have g4:aU (EIn.all l) (l.length-1) = .int .i64 (l[l.length-1]'(by omega)):=aeG (by omega);have g5:Nat.ble (Nat.add (l.length-1) 1) l.length=true:=Nat.ble_eq_true_of_le (by show l.length-1+1<=_; omega);have g6:mO l=l[l.length-1]'(by omega):=by unfold mO; rw[last_at l h0]; rfl
    have g7:∀ x:Int,eu (.int .i64) (.int .i64 x)=true:=fun _=>rfl;simp only[io_,g0,g1,g2,g3,g4,dw,g5,g7,dn,Bool.and_self,aH,ax];rw[g6]; rfl
 ·cases hR
def aeI(K:Nat->Nat->Nat->List Value->Bool)(L:List Value->Int)(C0 C1 C2 C3 C4 C5:List Value->List Blk->Bool)(e:Int)(x f:List UInt8)(r:Int)(d2:DkM)(w:WalM)(c:CmM):Ct:=
 aT P au 2 116 (cu C0 (.leaf (.int .i64 e,dI w))) (aT P au 0 51 (cu C1 (.leaf (.tuple ⟨[aX 1 x.length 0 (bc x), .int .i64 0]⟩,[]))) (aT P au 0 74 (cu C2 (.leaf (Xd (0,0),[])))
 (aT P au 0 88 (cu C3 (.leaf (.tuple ⟨[aX 1 f.length 0 (bc f), .int .i64 0]⟩,[]))) (aT P au 1 89 (cu C4 (.leaf (.int .i64 r,aW d2))) (aT P au 0 81 (cu C5 (.leaf (cmV c,[]))) (kG P 119 (Ql K L) ctF))))))
theorem Zk(K:Nat->Nat->Nat->List Value->Bool)(L:List Value->Int)(C0 C1 C2 C3 C4 C5:List Value->List Blk->Bool)(e:Int)(x f:List UInt8)(r:Int)(d d2:DkM)(cs:List CmM)(es:List Int)(c:CmM):dD P E (aeI K L C0 C1 C2 C3 C4 C5 e x f r d2 ⟨okD d,false,cs,es⟩ c) 50 au [] [] 2 79 [p0,cmV c] (dI ⟨okD d,false,cs,es⟩) =
 (let z:=fa_ c.ops.length 0 (Enc.all EOp c.ops);let y:=[io_ c.e,io_ c.n,z];let w:=Value.agg ⟨y⟩;let v:=WalM.mk (okD d) false cs es;let u:=v.cs.length;let t:=Enc.all ECm v.cs;let s:=v.es.length;let q:=Enc.all EIn v.es;let p:=v.dk;let o:=pt_ 1;let n:=Value.bool v.br;let m:=Blk.cells [o,n,sl_ 7 u,sl_ 8 s] 170 true;
 let l:=ro_ [0,2,21,5,19,2];let k:=bH [0,1] 26;let j:=bk_ k w0_;let i:=io_ 0;let h:=neI r 0;let g:=aZ true k t;let b:=aZ true k q;let a:=bk_ (bH [1] 38) w0_;let Z:=Value.bool true;let Y:=dk_ d2 2 3 4 5 6;let X:=ro_ [0,2,45,5,43,2];let W:=Y::dl_ (cz_ X a) d2 [lb_ X u 3 g 47,lb_ X s 1 b 3];
 let V:=C5 [w] [];let U:=Nat.add u 1;let T:=Nat.ble U 4194304;let S:=Nat.beq (Nat.add 0 (Nat.mul u 3)) g.length;let R:=bU (sl_ 31 u) (sl_ 31 u);let Q:=Nat.mul s 1;let O:=Nat.add 0 Q;let N:=Bool.and (Nat.ble O b.length) (Nat.ble 1 1);let M:=takeC Q (bT 0 b);let J:=K 18446744073709551617 s 0 M;
 let I:=Nat.add s 1;let H:=Nat.ble I 4194304;let G:=Nat.beq O b.length;let F:=bU (sl_ 32 s) (sl_ 32 s);let D:=ag f.length;let C:=bU (io_ D) (io_ D);let B:=List.append (jR 0 g) y;let A:=List.append (jR 0 b) [io_ (dO .i64 (L M) D)];let z0:=ro_ [0,2,77,5,75,2];let y0:=Y::dl_ (cz_ z0 a) d2 [lb_ z0 U 3 B 47,lb_ z0 I 1 A 3];
 (ae (C1 [w] []) (nb_ u 3 t (nb_ s 1 q (dn_ w0_ p (ae (C0 [pt_ 0] (m::dk_ p 2 3 4 5 6::dl_ (cz_ l w0_) p [lb_ l u 3 t 47,lb_ l s 1 q 3])) (ae (C2 [io_ e,io_ (ag u), .iface 18446744073709551619 (.agg ⟨[.slice none 1 0,io_ c.e,io_ c.n,z]⟩)] []) (ae (bU w w) (ae (bU w w) (ae (C3 [fb_ 0 0 [],fb_ x.length 0 (bc x)] []) (dn_ j p (ae (C4 [pt_ 0,i,fb_ f.length 0 (bc f)] (dk_ p 1 2 3 4 5::dl_ (cz_ (ro_ [1,1,33,5]) j) p [])) (ak h (ak h (nb_ u 3 g (nb_ s 1 b (dn_ a d2 (some (io_ r,af (.cells [o,Z,sl_ 7 u,sl_ 8 s] 170 true::W)))))) (ae V (ae T (ae S (ae R (ae N (ae (gy M) (ae J (ae H (ae G (ae F (ae C (nb_ U 3 B (nb_ I 1 A (dn_ a d2 (some (i,af (.cells [o,Z,sl_ 7 U,sl_ 8 I] 170 true::y0)))))))))))))))))) (ak h (nb_ u 3 g (nb_ s 1 b (dn_ a d2 (some (io_ r,af (m::W)))))) (ae V (ae T (ae S (ae R (ae N (ae (gy M) (ae J (ae H (ae G (ae F (ae C (nb_ U 3 B (nb_ I 1 A (dn_ a d2 (some (i,af (.cells [o,n,sl_ 7 U,sl_ 8 I] 170 true::y0))))))))))))))))))))))))))))))):=by kernel_rfl
theorem aa0{w:WalM}(hl:w.cs.length<4194304):CRX P 2 116 [p0] (dI w) (.int .i64 (eG w.cs)) (dI w):=by
 refine CRX.of (pol:=au) (fl:=[]) (ts:=[]) (n:=50) (bf _) az bn ((abf w).trans ?_);have nt:=fun(l:List CmM) (i:Nat) (h:i<l.length)=>pI h;by_cases h0:w.cs=[]
 ·have e0:w.cs.length=0:=by rw[h0]; rfl
  have g0:eqI (ag w.cs.length) 0=true:=by unfold eqI ag; exact decide_eq_true (by omega)
  have g6:eG w.cs=0:=by rw[h0]; rfl
  simp only[cz_,dk_,dl_,dn_,io_,lb_,nb_,pt_,sl_,w0_,g0,cZ,dC,dw,dS,ay rfl,aC rfl,aF rfl,Enc.all_ren,aA,bC,aV,a_,aO,ah,aP,bu,Int.toNat_natCast,aQ,aG,bz,bK,b_,bJ,bP,dm,Bool.and_self,aK,aH,ax];rw[g6]; rfl
 ·have hp:=List.length_pos_iff.2 h0;have g0:eqI (ag w.cs.length) 0=false:=by unfold eqI ag; exact decide_eq_false (by omega)
  have g1:fH .i64 (ag w.cs.length) 1=((w.cs.length-1:Nat):Int):=by unfold fH ag; rw[wrap64 (by omega) (by omega)]; omega
  have g2:inI ((w.cs.length-1:Nat):Int) w.cs.length=true:=jk (by omega) (by omega);have g4:=pI (l:=w.cs) (i:=w.cs.length-1) (by omega);have g5:Nat.ble (Nat.add (atN ((w.cs.length-1:Nat):Int) 3) 1) (Nat.mul w.cs.length 3)=true:=Nat.ble_eq_true_of_le (by
   show((w.cs.length-1:Nat):Int).toNat*3+1<=w.cs.length*3
   omega)
  have g6:eG w.cs=(w.cs[w.cs.length-1]'(by omega)).e:=by unfold eG; rw[last_at w.cs h0]; rfl
  have g7:∀ x:Int,eu (.int .i64) (.int .i64 x)=true:=fun _=>rfl;have aI:∀ k b,asI (.int k b)=b:=fun _ _=>rfl;simp only[cz_,dk_,dl_,dn_,io_,lb_,nb_,pt_,sl_,w0_,g0,g1,g2,g4,g5,g7,aI,cZ,dC,dw,dS,ay rfl,aC rfl,aF rfl,Enc.all_ren,aA,bC,aV,a_,aO,ah,aP,bu,Int.toNat_natCast,aQ,aG,bz,bK,b_,bJ,bP,dm,Bool.and_self,aK,aH,ax];rw[g6]; rfl
def Ll(w:WalM)(c:CmM):Int×WalM:=match eqI (writeM ⟨w.dk,0,frM (jd c)⟩).1 0 with
 |true=>(0,⟨(writeM ⟨w.dk,0,frM (jd c)⟩).2,w.br,w.cs++[c],w.es++[mO w.es+((frM (jd c)).length:Int)]⟩)
 |false=>((writeM ⟨w.dk,0,frM (jd c)⟩).1,⟨(writeM ⟨w.dk,0,frM (jd c)⟩).2,true,w.cs,w.es⟩)
theorem KJ{c:CmM}(h:cmE c=0):(jd c).length<=1024:=by
 obtain⟨_,_,hb⟩:=lZ.1 h;obtain⟨b1,b2,b3⟩:=jc.1 hb;have d1:=eH (n:=c.e.toNat);have d2:=eH (n:=c.n.toNat);have d3:=eH (n:=c.ops.length);have d4:=vW c.ops [] b3;unfold jd yJ;simp only[List.length_append];omega
theorem dA(n b:Nat)(c:List Value):aX 1 n b c = .iface 18446744073709551617 (.agg ⟨.slice none n b::c⟩):=by unfold aX; rw[fzU]
theorem bQ(n b:Nat)(c:List Value):aX 3 n b c = .iface 18446744073709551619 (.agg ⟨.slice none n b::c⟩):=by unfold aX; rw[tJ]
theorem aN(a:List Value)(b:List Blk):bM a b a b=true:=Ic rfl rfl
theorem dH(a b:Int)(t n k:Nat)(l:List OpM):bU (.agg ⟨[.int .i64 a, .int .i64 b, .iface t (.agg ⟨.slice none n k::EOp.all l⟩)]⟩) (.agg ⟨[.int .i64 a, .int .i64 b, .iface t (.agg ⟨.slice none n k::EOp.all l⟩)]⟩)=true:=by simp[bU,wo,jg,Ba]
theorem BM(c:CmM):ECm.all [c]=[.int .i64 c.e, .int .i64 c.n,aX 3 c.ops.length 0 (EOp.all c.ops)]:=by rw[ECm.all_one]; rfl
theorem YH(n:Int):EIn.all [n]=[.int .i64 n]:=by rw[EIn.all_one]; rfl
theorem FC{d:DkM}(h:d.off=false):okD d=d:=by cases d; simp only at h; subst h; rfl
theorem aco{l:List CmM}{n:Nat}(h:n=l.length):j_ P 0 n 18446744073709551616 (ECm.all l) 47=true:=by
 subst h;have he:esz P 47=3:=by kernel_rfl
 unfold j_;rw[he,ECm.all_nr,ECm.all_length];have h2:Nat.ble (Nat.add 0 (Nat.mul l.length 3)) (l.length*ECm.sz)=true:=Nat.ble_eq_true_of_le (by show 0+l.length*3<=l.length*3; omega);rw[h2]; rfl
theorem ab2(l:List Int):gy (EIn.all l)=true:=by
 induction l with
 |nil=>rfl
 |cons n l ih=>rw[EIn.all_cons]; exact ih
theorem Y_{l:List Int}(h:l.length<=4194304):AU 18446744073709551617 l.length 0 (EIn.all l)=true:=by
 unfold AU;rw[<-fz1];exact EIn.fz_all h rfl rfl
theorem ZV(l:List Int):I9 (EIn.all l)=mO l:=by unfold I9; rw[EIn.dec_all]
theorem Bg(l:List CmM)(c:CmM):List.append (ECm.all l) [.int .i64 c.e, .int .i64 c.n, .iface 18446744073709551619 (.agg ⟨.slice none c.ops.length 0::EOp.all c.ops⟩)]=ECm.all (l++[c]):=by
 rw[ECm.all_append,BM,bQ]; rfl
theorem ad2(l:List Int)(n:Int):List.append (EIn.all l) [.int .i64 n]=EIn.all (l++[n]):=by rw[EIn.all_append,YH]; rfl
theorem Y8{w:WalM}{c:CmM}(hoff:w.dk.off=false)(hbr:w.br=false)(hc:cmE c=0)(hf:jJ (eG w.cs) (w.cs.length:Int) 0 [c]=(0,0))(hd:oQ w.dk 20)(hn:w.cs.length<4194300)(hm:w.es.length<4194300)(he:0<=mO w.es/\mO w.es<4611686018427387904) :
  CRX P 2 79 [p0,cmV c] (dI w) (.int .i64 (Ll w c).1) (dI (Ll w c).2):=by
 obtain⟨dk,br,cs,es⟩:=w;simp only at hoff hbr hf hd hn hm he;subst hbr;obtain⟨_,_,hb⟩:=lZ.1 hc;obtain⟨b1,b2,b3⟩:=jc.1 hb;have hl:=KJ hc;have hfl:(frM (jd c)).length<=1035:=by unfold frM; rw[List.length_append]; have:=eH (n:=(jd c).length); omega
 have q0:=aa0 (w:=⟨dk,false,cs,es⟩) (by show cs.length<_; omega);have q1:=O5 hc;have q2:=UF (e:=eG cs) (n:=(cs.length:Int)) (l:=[c]) (by show 1<4194304; decide) (by intro x hx; obtain rfl:=List.mem_singleton.1 hx; omega);have q3:=GV (r:=jd c) (by omega);have q4:=KZ.at (s:=⟨dk,0,frM (jd c)⟩) ⟨by show(frM (jd c)).length<=_; omega,by
  show oQ dk (nD (frM (jd c)).length);have:nD (frM (jd c)).length<=20:=by unfold nD; omega
  exact⟨hd.1,by have:=hd.2.1; omega,hd.2.2.1,hd.2.2.2.1,by have:=hd.2.2.2.2; omega⟩⟩ rfl
 have q5:=xn (c:=c) b1 (by omega);rw[hf]at q2;have q:=Zk AU I9 (bM [p0] (dI ⟨dk,false,cs,es⟩)) (bM [cmV c] []) (bM [.int .i64 (eG cs), .int .i64 (cs.length:Int),bG [c]] []) (bM [aX 1 0 0 [],aX 1 (jd c).length 0 (bc (jd c))] []) (bM [p0, .int .i64 0,aX 1 (frM (jd c)).length 0 (bc (frM (jd c)))] (aW dk)) (bM [cmV c] [])
  (eG cs) (jd c) (frM (jd c)) (writeM ⟨dk,0,frM (jd c)⟩).1 dk (writeM ⟨dk,0,frM (jd c)⟩).2 cs es c
 rw[FC hoff]at q;refine CRX.of (pol:=au) (fl:=[]) (ts:=[]) (n:=50) (bf _) az (aj (pol:=au) (aj (pol:=au) (aj (pol:=au) (aj (pol:=au) (aj (pol:=au) (aj (pol:=au) (ji bn acp) (bF q5)) (bF q4)) (bF q3)) (bF q2)) (bF q1)) (bF q0)) (q.trans ?_);clear q q0 q1 q2 q3 q4 q5;unfold Ll;simp only;generalize writeM ⟨dk,0,frM (jd c)⟩=W;obtain⟨r,d2⟩:=W;have hcn:(ag cs.length:Int)=(cs.length:Int):=rfl;have ha:dO .i64 (mO es) (ag (frM (jd c)).length)=mO es+((frM (jd c)).length:Int):=by unfold dO ag; rw[wrap64 (by omega) (by omega)]
 have h1:(cs++[c]).length=Nat.add cs.length 1:=by simp
 have h2:∀ x:Int,(es++[x]).length=Nat.add es.length 1:=fun x=>by simp
 have hk:=Y_ (l:=es) (by omega);simp (disch:=first | omega | (simp only[List.length_append,List.length_drop,List.length_take,List.length_singleton,Nat.add_eq,bg]<;>omega) | fail) only[bk_,cz_,dk_,dl_,dn_,fa_,fb_,io_,lb_,nb_,pt_,sl_,w0_,hcn,BM,hoff,Bg,ad2,ab2,hk,ZV,ha,dI,dM,lsV,ptV,p0,aW,dkC,aJ,bG,cmV,dA,bQ,aN,dH,dB,dU,dE,dG,dF,cZ,dC,dw,dS,dn,ay,aC,aF,Enc.all_ren,aA,bC,aV,a_,aO,ah,aP,bu,Int.toNat_natCast,aQ,aG,bz,bK,b_,bJ,bP,dm,Bool.and_self,aK,aH,ax,List.length_singleton,ay h1.symm,aC (h2 _).symm,h1,h2];cases hr:eqI r 0 with
 |true=>
  have hn:neI r 0=false:=by unfold neI; unfold eqI at hr; simpa using hr
  simp only[bk_,cz_,dk_,dl_,dn_,fa_,fb_,io_,lb_,nb_,pt_,sl_,w0_,hn,aH,dI,dM,lsV,ptV,p0,aW,dkC,aJ,bG,cmV,dA,bQ,aN,dH,dB,dU,dE,dG,dF,cZ,dC,dw,dS,dn,ay,aC,aF,Enc.all_ren,h1,h2]
 |false=>
  have hn:neI r 0=true:=by unfold neI; unfold eqI at hr; simpa using hr
  simp only[bk_,cz_,dk_,dl_,dn_,fa_,fb_,io_,lb_,nb_,pt_,sl_,w0_,hn,aK,dI,dM,lsV,ptV,p0,aW,dkC,aJ,bG,cmV,dA,bQ,aN,dH,dB,dU,dE,dG,dF,cZ,dC,dw,dS,dn,ay,aC,aF,Enc.all_ren]
def WH(e:MapEntry):Bool:=match e.key with | .string _=>true | _=>false
def Qr(es:List MapEntry):Bool:=es.all WH
theorem J_{k:ByteArray}:∀ {es:List MapEntry} (i:Nat),Qr es=true->∃ r,Instr.findNow .string (.string k) es i=some r
 |[],i,_=>⟨none,rfl⟩
 |e::es,i,h=>by
  simp only[Qr,List.all_cons,Bool.and_eq_true]at h;obtain⟨h1,h2⟩:=h;unfold WH at h1;split at h1
  ·rename_i s hs;obtain⟨r,hr⟩:=J_ (k:=k) (es:=es) (i+1) h2;have hq:∃ b,Instr.sameNow .string (.string k) e.key=some b:=by rw[hs]; exact⟨_,rfl⟩
   obtain⟨b,hb⟩:=hq;cases b with
   |true=>exact⟨some (i,e.val),by simp only[Instr.findNow,hb]⟩
   |false=>exact⟨r,by simp only[Instr.findNow,hb]; exact hr⟩
  ·cases h1
theorem AL{es:List MapEntry}(h:Qr es=true)(k:ByteArray):uo es k=true:=by
 obtain⟨r,hr⟩:=J_ (k:=k) 0 h;unfold uo;rw[hr]; rfl
structure TbM where
 es:List MapEntry
 ck:Nat
def tbV(o:OpM):Value:= .agg ⟨[.string o.v, .bool o.p]⟩
def tb1(t:TbM)(o:OpM):TbM:=⟨(Ap t.es t.ck o.k (tbV o)).1,(Ap t.es t.ck o.k (tbV o)).2⟩
def tbM(t:TbM)(l:List OpM):TbM:=l.foldl tb1 t
def tbB(t:TbM):List Blk:=[.cells [.map (some 1)] 98 true, .map t.es t.ck]
def Dt1:HeadX:=⟨2,39,[0,1,4,11,12,13],[.val, .val, .val, .val, .val, .val],[],au⟩
def Bt1:Code:=(dR P 20 0).getD .skip
theorem Vm:dR P 20 0=some Bt1:=by kernel_rfl
theorem abk:Occ P 20 (.block 0 (.loop Bt1)):=fA Vm
def Dt2:HeadX:=⟨2,39,[0,4,21,22,23],[.val, .val, .val, .val, .val],[],au⟩
def Bt2:Code:=(dR P 20 2).getD .skip
theorem RP:dR P 20 2=some Bt2:=by kernel_rfl
theorem aaA:Occ P 20 (.block 2 (.loop Bt2)):=fA RP
theorem TQ(O:Bool->ByteArray->ByteArray->Bool)(t:TbM)(r z i:Int)(n b n' b':Nat)(c c':List Value):bV P E (WY O) 50 20 Bt1 Dt1 [p0,aX 3 n' b' c', .int .i64 r,aX 3 n b c, .int .i64 z, .int .i64 i] (tbB t) =
 (let y:=atN i 3;let x:=Nat.add y 1;let w:=pt_ 0;let v:=fa_ n' b' c';let u:=fa_ n b c;let s:=io_ z;let q:=af [tb_ 1, .map (bD true (bY 0 [0,1]) t.es) t.ck];
 (ak (ltI i z) (ae (Bool.and (Nat.beq 3 3) (inI i n)) (ae (Bool.and (Nat.ble (Nat.add y 3) c.length) (iq [.bool, .string, .string] c y)) (ak (O (asB (aU c y)) (asS (aU c x)) (asS (aU c (Nat.add x 1)))) (some (.tuple ⟨[io_ 0,w,v,io_ r,u,s,io_ (dO .i64 i 1)]⟩,q)) (some (.tuple ⟨[io_ (-1),w,v,io_ 2,u,s,io_ i]⟩,q))))) (some (.tuple ⟨[io_ 1,w,v,io_ r,u,s,io_ i]⟩,q)))):=by kernel_rfl
theorem UA(t:TbM)(r z i:Int)(n b:Nat)(c:List Value):bV P E ctF 50 20 Bt2 Dt2 [p0, .int .i64 r,aX 3 n b c, .int .i64 z, .int .i64 i] (tbB t) =
 (let y:=atN i 3;let x:=Nat.add y 1;let w:=asS (aU c x);let v:=fa_ n b c;let u:=bY 0 [0,1];let s:=Ap t.es t.ck w (.agg ⟨[.string (asS (aU c (Nat.add x 1))), .bool (asB (aU c y))]⟩);
 (ak (ltI i z) (ae (Bool.and (Nat.beq 3 3) (inI i n)) (ae (Bool.and (Nat.ble (Nat.add y 3) c.length) (iq [.bool, .string, .string] c y)) (ae (uo t.es w) (some (.tuple ⟨[io_ 0,pt_ 0,io_ r,v,io_ z,io_ (dO .i64 i 1)]⟩,af [tb_ 1, .map (bD true u (Prod.fst s)) (Prod.snd s)]))))) (some (.tuple ⟨[io_ 3,pt_ 0,io_ r,v,io_ z,io_ i]⟩,af [tb_ 1, .map (bD true u t.es) t.ck])))):=by kernel_rfl
def aes(C1 C2:List Value->List Blk->Bool)(t:TbM)(l:List OpM):Ct:=eY P 20 0 Dt1 (gX C1 (.leaf (.normal,[p0,aJ l, .int .i64 0,aJ l, .int .i64 (ag l.length), .int .i64 (l.length:Int)],tbB t)))
 (eY P 20 2 Dt2 (gX C2 (.leaf (.normal,[p0, .int .i64 0,aJ l, .int .i64 (ag l.length), .int .i64 (l.length:Int)],tbB (tbM t l)))) ctF)
theorem adA(C1 C2:List Value->List Blk->Bool)(t:TbM)(l:List OpM):dD P E (aes C1 C2 t l) 50 au [] [] 2 20 [p0,aJ l] (tbB t) =
 (let z:=fa_ l.length 0 (Enc.all EOp l);let y:=io_ 0;let x:=io_ (ag l.length);let w:=tb_ 1;let v:=bY 0 [0,1];let u:=bH [0,1] 2;
 (ae (C1 [pt_ 0,z,y,z,x,y] [w, .map (bD true v t.es) t.ck]) (ae (C2 [pt_ 0,y,z,x,y] [w, .map (bD true v (bD true u t.es)) t.ck]) (some (y,af [w, .map (bD true v (bD true u (TbM.es (tbM t l)))) (TbM.ck (tbM t l))]))))):=by kernel_rfl
def tbE(e:MapEntry):Prop:=∃ k v b,e.key = .string k/\e.val = .agg ⟨[.string v, .bool b]⟩
def fJ(t:TbM):Prop:=∀ e∈t.es,tbE e
theorem fJ.str{t:TbM}(h:fJ t):Qr t.es=true:=List.all_eq_true.2 fun e he=>by
 obtain⟨k,v,b,h1,_⟩:=h e he;unfold WH; rw[h1]
theorem fJ.ren{t:TbM}(h:fJ t)(ρ:Nat->Option Nat):bD true ρ t.es=t.es:=by
 obtain⟨es,ck⟩:=t;unfold fJ at h;simp only at h ⊢
 induction es with
 |nil=>rfl
 |cons e es ih=>
  obtain⟨k,v,b,h1,h2⟩:=h e (List.mem_cons_self ..);obtain⟨ek,ev,eb⟩:=e;simp only at h1 h2;subst h1 h2;have:=ih fun e he=>h e (List.mem_cons_of_mem _ he);simp[bD,eP,rG,aZ,this]
theorem fJ.put{t:TbM}(h:fJ t)(o:OpM):fJ (tb1 t o):=by
 unfold tb1 fJ Ap;simp only;split
 ·unfold nY;simp only[if_true];intro e he;obtain⟨j,hj,rfl⟩:=List.mem_iff_getElem.1 he;rw[List.getElem_modify];split
  ·exact⟨_,_,_,rfl,rfl⟩
  ·exact h _ (List.getElem_mem _)
 ·unfold nY;simp only[Bool.false_eq_true,if_false];intro e he;rcases List.mem_append.1 he with he | he
  ·exact h e he
  ·obtain rfl:=List.mem_singleton.1 he;exact⟨_,_,_,rfl,rfl⟩
theorem fJ.all{t:TbM}(h:fJ t)(l:List OpM):fJ (tbM t l):=by
 induction l generalizing t with
 |nil=>exact h
 |cons o l ih=>exact ih (h.put o)
theorem VK{t:TbM}(ht:fJ t){l:List OpM}{i:Nat}(hi:i<l.length)(hl:l.length<=8)(ho:okO l[i]=true)(l':List OpM):bV P E ctB 50 20 Bt1 Dt1 [p0,aJ l', .int .i64 0,aJ l, .int .i64 (ag l.length), .int .i64 (i:Int)] (tbB t)=some (.tuple ⟨exV .normal::[p0,aJ l', .int .i64 0,aJ l, .int .i64 (ag l.length), .int .i64 ((i+1:Nat):Int)]⟩,af (tbB t)):=by
 unfold ctB aJ;rw[TQ];have n3:∀ l:List OpM,(EOp.all l).length=Nat.mul l.length 3:=fun l=>EOp.all_length l;have g1:ltI (i:Int) (ag l.length)=true:=by unfold ltI ag; exact decide_eq_true (by omega)
 have g2:inI (i:Int) l.length=true:=by unfold inI; exact decide_eq_true (by omega)
 have g3:Nat.ble (Nat.add (atN (i:Int) 3) 3) (Nat.mul l.length 3)=true:=Nat.ble_eq_true_of_le (by
  show(i:Int).toNat*3+3<=l.length*3;have:(i:Int).toNat=i:=by omega
  omega)
 have g4:=qy hi;have a1:dO .i64 (i:Int) 1=((i+1:Nat):Int):=by unfold dO; rw[wrap64 (by omega) (by omega)]; omega
 have ab:∀ b,asB (.bool b)=b:=fun _=>rfl;have aS:∀ b,asS (.string b)=b:=fun _=>rfl;have ho':pG l[i].p l[i].k l[i].v=true:=ho;simp only[fa_,io_,pt_,tb_,n3,g1,g2,g3,g4,ve hi,qh hi,vk hi,ab,aS,a1,ho',ht.ren,dn,bQ,aA,bC,aV,a_,aO,ah,aP,bu,Int.toNat_natCast,aQ,aG,bz,bK,b_,bJ,bP,dm,Bool.and_self,aK,aH,ax]
 rfl
theorem abv{t:TbM}(ht:fJ t){l l':List OpM}:bV P E ctB 50 20 Bt1 Dt1 [p0,aJ l', .int .i64 0,aJ l, .int .i64 (ag l.length), .int .i64 (l.length:Int)] (tbB t)=some (.tuple ⟨exV (.exit 0)::[p0,aJ l', .int .i64 0,aJ l, .int .i64 (ag l.length), .int .i64 (l.length:Int)]⟩,af (tbB t)):=by
 unfold ctB aJ;rw[TQ];have g1:ltI (l.length:Int) (ag l.length)=false:=by unfold ltI ag; exact decide_eq_false (by omega)
 simp only[fa_,io_,pt_,tb_,g1,ht.ren,bQ,aA,bC,aV,a_,aO,ah,aP,bu,Int.toNat_natCast,aQ,aG,bz,bK,b_,bJ,bP,dm,Bool.and_self,aK,aH,ax]
 rfl
theorem WF{t:TbM}(ht:fJ t){l:List OpM}{i:Nat}(hi:i<l.length)(hl:l.length<=8):bV P E ctF 50 20 Bt2 Dt2 [p0, .int .i64 0,aJ l, .int .i64 (ag l.length), .int .i64 (i:Int)] (tbB t)=some (.tuple ⟨exV .normal::[p0, .int .i64 0,aJ l, .int .i64 (ag l.length), .int .i64 ((i+1:Nat):Int)]⟩,af (tbB (tb1 t l[i]))):=by
 unfold aJ;rw[UA];have n3:∀ l:List OpM,(EOp.all l).length=Nat.mul l.length 3:=fun l=>EOp.all_length l;have g1:ltI (i:Int) (ag l.length)=true:=by unfold ltI ag; exact decide_eq_true (by omega)
 have g2:inI (i:Int) l.length=true:=by unfold inI; exact decide_eq_true (by omega)
 have g3:Nat.ble (Nat.add (atN (i:Int) 3) 3) (Nat.mul l.length 3)=true:=Nat.ble_eq_true_of_le (by
  show(i:Int).toNat*3+3<=l.length*3;have:(i:Int).toNat=i:=by omega
  omega)
 have g4:=qy hi;have a1:dO .i64 (i:Int) 1=((i+1:Nat):Int):=by unfold dO; rw[wrap64 (by omega) (by omega)]; omega
 have ab:∀ b,asB (.bool b)=b:=fun _=>rfl;have aS:∀ b,asS (.string b)=b:=fun _=>rfl;have hr:=(ht.put l[i]).ren;unfold tb1 tbV at hr;simp only at hr;simp only[fa_,io_,pt_,tb_,n3,g1,g2,g3,g4,ve hi,qh hi,vk hi,ab,aS,a1,AL ht.str,hr,dn,bQ,aA,bC,aV,a_,aO,ah,aP,bu,Int.toNat_natCast,aQ,aG,bz,bK,b_,bJ,bP,dm,Bool.and_self,aK,aH,ax]
 rfl
theorem ab8{t:TbM}(ht:fJ t){l:List OpM}:bV P E ctF 50 20 Bt2 Dt2 [p0, .int .i64 0,aJ l, .int .i64 (ag l.length), .int .i64 (l.length:Int)] (tbB t)=some (.tuple ⟨exV (.exit 2)::[p0, .int .i64 0,aJ l, .int .i64 (ag l.length), .int .i64 (l.length:Int)]⟩,af (tbB t)):=by
 unfold aJ;rw[UA];have g1:ltI (l.length:Int) (ag l.length)=false:=by unfold ltI ag; exact decide_eq_false (by omega)
 simp only[fa_,io_,pt_,tb_,g1,ht.ren,bQ,aA,bC,aV,a_,aO,ah,aP,bu,Int.toNat_natCast,aQ,aG,bz,bK,b_,bJ,bP,dm,Bool.and_self,aK,aH,ax]
 rfl
theorem XD(t:TbM)(l:List OpM)(o:OpM):tbM t (l++[o])=tb1 (tbM t l) o:=by unfold tbM; rw[List.foldl_append]; rfl
theorem E_{t:TbM}(ht:fJ t){l:List OpM}(h:jb l=0):CRX P 2 20 [p0,aJ l] (tbB t) (.int .i64 0) (tbB (tbM t l)):=by
 obtain⟨b1,b2,b3⟩:=jc.1 h;have q1:=LRX.rounds (n:=50) (bf _) az wY abk (vs:=fun i=>[p0,aJ l, .int .i64 0,aJ l, .int .i64 (ag l.length), .int .i64 (i:Int)]) (bs:=fun _=>tbB t) (e:= .exit 0) l.length (fun i hi=>VK ht hi b2 (List.all_eq_true.1 b3 _ (List.getElem_mem hi)) l) (abv ht) (by intro h; cases h);have q2:=LRX.rounds (n:=50) (bf _) az bn aaA (vs:=fun i=>[p0, .int .i64 0,aJ l, .int .i64 (ag l.length), .int .i64 (i:Int)]) (bs:=fun i=>tbB (tbM t (l.take i))) (e:= .exit 2) l.length (fun i hi=>by
  have e:l.take (i+1)=l.take i++[l[i]]:=by rw[List.take_succ_eq_append_getElem hi]
  rw[e,XD]
  exact WF (ht.all _) hi b2) (ab8 (ht.all _)) (by intro h; cases h)
 simp only[fa_,io_,pt_,tb_,List.take_length]at q2;refine CRX.of (pol:=au) (fl:=[]) (ts:=[]) (n:=50) (bf _) az (dV (dV bn (fG (dL RP) q2)) (fG (dL Vm) q1)) ((adA (bM _ _) (bM _ _) t l).trans ?_);have hr:=(ht.all l).ren;simp only[fa_,io_,pt_,tb_,ht.ren,hr,aJ,bQ,p0,tbB,List.take_zero,aN,aA,bC,aV,a_,aO,ah,aP,bu,Int.toNat_natCast,aQ,aG,bz,bK,b_,bJ,bP,dm,Bool.and_self,aK,aH,ax];exact mZ rfl rfl (mZ rfl rfl rfl)
end Go.VS.Tryz
end

noncomputable section
namespace Go.VS
open Go.RowKit
section
variable{P:Program}{ct:Ct}
theorem Rel.below{K:Prot}{β:Env}{st:St}{w w':World}(hr:Rel P K β st w)(hb:Below w.heap.size w w'):Rel P K β st w'/\Bel K w w':=
 ⟨hr.more hb.size hb.block,⟨hb.os,hb.tape,hb.output,hb.size,fun k hk=>hb.block k (hr.base k hk)⟩⟩
def AB(β:Env)(A:Nat)(o:Obj):Env
 | .ofNat i=>β (.ofNat i)
 | .negSucc k=>if k=A then some ⟨A,0,0,0,some o,false⟩else β (.negSucc k)
theorem Cf(β:Env)(A:Nat)(o:Obj):AB β A o (Int.negSucc A)=some ⟨A,0,0,0,some o,false⟩:=if_pos rfl
theorem qX(β:Env){A k:Nat}(o:Obj)(h:k≠A):AB β A o (Int.negSucc k)=β (Int.negSucc k):=if_neg h
theorem Rel.freezeNew{K:Prot}{β:Env}{st:St}{w w':World}(hr:Rel P K β st w)(hb:Below w.heap.size w w'){A:Nat}(hA:w.heap.size<=A){cs:Array Value}{e:TypeId}{f:Nat×Nat}(hc:w'.heap[A]? = some (.cells cs e f)) :
  β.le (AB β A (.cells cs e f))/\Rel P K (AB β A (.cells cs e f)) st w':=by
 have hr':=(hr.below hb).1;have hn:β (Int.negSucc A)=none:=by
  cases hx:β (Int.negSucc A)with
  |none=>rfl
  |some l=>have:=qJ hr hx; omega
 have hle:β.le (AB β A (.cells cs e f)):=by
  intro i l hi;cases i with
  |ofNat i=>exact hi
  |negSucc k=>
   have hk:k≠A:=by rintro rfl; rw[hn]at hi; cases hi
   rw[qX _ _ hk]; exact hi
 refine⟨hle,hr'.base,fun i l hi=>hr'.dom i l hi,fun i b hi hl=>?_,fun i j bi bj li lj hi hbi hj hbj hli hlj=>hr'.inj i j bi bj li lj hi hbi hj hbj hli hlj,fun i hi=>hr'.res i hi,fun k l hk=>?_,fun k l hk=>?_,?_⟩
 ·obtain⟨l,a,b,c⟩:=hr'.blk i b hi hl;exact⟨l,hle _ _ a,b,c.mono hle⟩
 ·by_cases e:k=A
  ·subst e;intro hz;have:=hr.base k (K.sub k hz);omega
  ·rw[qX _ _ e]at hk;exact hr'.nofz k l hk
 ·by_cases e:k=A
  ·subst e;rw[Cf]at hk;obtain rfl:=Option.some.inj hk;refine⟨⟨rfl,rfl⟩,hc,fun j bj lj hj hbj hlj hv hk=>?_⟩;have:=(hr.dom j lj hlj).2 hv;omega
  ·rw[qX _ _ e]at hk;obtain⟨f1,f2,f3⟩:=hr'.frz k l hk;exact⟨f1,f2,fun j bj lj hj hbj hlj=>f3 j bj lj hj hbj hlj⟩
 ·refine hr.objs.step rfl hle hb.size (fun k l hk=>hb.block k (qJ hr hk)) (fun i o=>Iff.rfl) (fun i k o l h1 h2 hk hK hf hj=>⟨hb.block k hk,hK,?_,fun j bj lj hj1 hj2 hj3=>hj j bj lj hj1 hj2 hj3⟩);rw[qX _ _ (by omega)]; exact hf
theorem adf{β:Env}{A n cap sz:Nat}{cs:Array Value}{e:TypeId}{f:Nat×Nat}{c:List Value}(hsz:sz≠0)(h:β (Int.negSucc A)=some ⟨A,0,0,0,some (.cells cs e f),false⟩)(hl:c.length=n*sz)(hc:VRL (nM β) c (cs.toList.take (n*sz)))(hcap:n<=cap) :
  VR β (aX sz n 0 c) (.slice (some ⟨A,0,none⟩) n cap):=by
 unfold aX;simp only[VR];rw[if_neg (Nat.not_lt_of_le (Nat.le_add_right FZ sz))];simp only[VZ,VZA,VZL];refine⟨n,0,rfl,?_⟩;have e1:FZ+sz-FZ=sz:=by omega
 rw[e1];unfold iU;rw[if_neg hsz];refine⟨hl,?_⟩;cases n with
 |zero=>exact Or.inr (Or.inl ⟨rfl,⟨A,0,none⟩,cap,rfl,fun h=>absurd rfl h⟩)
 |succ n=>
  refine Or.inr (Or.inr ⟨Nat.succ_pos n,A,0,cap,cs,e,f,_,rfl,fun h=>absurd rfl h,h,rfl,?_,?_,hcap⟩)
  ·have:=hc.length;rw[List.length_take,Array.length_toList]at this;have h2:c.length=_:=this;rw[h2,Nat.zero_add];exact Nat.min_le_right _ _
  ·rw[List.drop_zero,hl]; exact hc
theorem ER{β:Env}:∀ {c:List Value},gy c=true->VRL β c c
 |[],_=>VRL.nil
 |v::l,h=>by
  simp only[gy,Bool.and_eq_true]at h;exact VRL.cons (VR.flat_refl _ h.1) (ER h.2)
theorem CR.calls{g:FuncId}{args:List Value}{v:Value}{bs:List Blk}(hv:flat v=true)(h:CR P g args v bs){w:World}{args':Array Value}(hG:GW w)(ha:VRL (envOf w) args args'.toList) :
  Calls P g args' w fun e w'=>e = .returned v/\Below w.heap.size w w':=by
 intro cs;obtain⟨β',fr,w',v',h1,h2,h3,h4,h5,h6⟩:=h w args' cs XT hG ha;exact⟨.returned v',w',fr,⟨by rw[VR.of_flat _ _ hv h5],h4.below⟩,h1,h6.2.2.2.1,h6.1,h6.2.1,h6.2.2.1,by rw[h6.2.2.2.1]; exact h6.2.2.2.2⟩
end
end Go.VS
end

noncomputable section
namespace Go.VS.Tryz
open Go.VS Go.Maps Go.Proofs Go.WideElems
set_option maxRecDepth 1000000
def FW(o:OpM)(i:Nat):MapEntry:=⟨.string o.k,tbV o,i⟩
def je:List OpM->Nat->List MapEntry
 |[],_=>[]
 |o::l,i=>FW o i::je l (i+1)
def eX(l:List OpM):TbM:=⟨je l 0,l.length⟩
def lS:List OpM->OpM->List OpM
 |[],o=>[o]
 |x::l,o=>if x.k=o.k then o::l else x::lS l o
def ndK(l:List OpM):Prop:=(l.map OpM.k).Nodup
theorem wB:∀ (l:List OpM) (i:Nat),(je l i).length=l.length
 |[],_=>rfl
 |o::l,i=>by rw[je,List.length_cons,wB l,List.length_cons]
theorem rF:∀ {l:List OpM} {i:Nat} {e:MapEntry},e∈je l i->∃ o∈l,e.key = .string o.k/\e.val=tbV o/\i<=e.born/\e.born<i+l.length
 |[],_,_,h=>by cases h
 |o::l,i,e,h=>by
  rcases List.mem_cons.1 h with rfl | h
  ·exact⟨o,List.mem_cons_self ..,rfl,rfl,Nat.le_refl _,by show i<_; rw[List.length_cons]; omega⟩
  ·obtain⟨x,h1,h2,h3,h4,h5⟩:=rF h;exact⟨x,List.mem_cons_of_mem _ h1,h2,h3,by omega,by rw[List.length_cons]; omega⟩
theorem wI(a b:ByteArray):Instr.sameNow .string (.string a) (.string b)=some (a == b):=rfl
theorem Fb(a b:ByteArray):(a == b)=decide (a=b):=by
 obtain⟨⟨a⟩⟩:=a;obtain⟨⟨b⟩⟩:=b;show((⟨a⟩:Array UInt8) == ⟨b⟩)=_;by_cases h:a=b
 ·subst h; simp
 ·have:¬(⟨⟨a⟩⟩:ByteArray)=⟨⟨b⟩⟩:=fun e=>h (by injection e with e; injection e);rw[decide_eq_false this];simp[h]
theorem LX{k:ByteArray}:∀ (l:List OpM) (i j:Nat),Instr.findNow .string (.string k) (je l i) j=some ((l.findIdx? fun x=>x.k=k).map fun m=>(j+m,tbV (l[m]?.getD ⟨false,k,k⟩)))
 |[],i,j=>rfl
 |o::l,i,j=>by
  show Instr.findNow .string (.string k) (⟨.string o.k,tbV o,i⟩::je l (i+1)) j=_;simp only[Instr.findNow,wI];by_cases h:o.k=k
  ·have:(k == o.k)=true:=by rw[Fb,h]; exact decide_eq_true rfl
   rw[this];simp[List.findIdx?_cons,h]
  ·have h2:(k == o.k)=false:=by rw[Fb]; exact decide_eq_false fun e=>h e.symm
   rw[h2];simp only;rw[LX l (i+1) (j+1),List.findIdx?_cons];simp only[h,decide_false,Bool.false_eq_true,if_false];cases l.findIdx? fun x=>decide (x.k=k)with
   |none=>rfl
   |some m=>simp[Nat.add_assoc,Nat.add_comm 1]
theorem KQ:∀ (l:List OpM) (o:OpM) (i:Nat),je (l++[o]) i=je l i++[FW o (i+l.length)]
 |[],_,_=>rfl
 |x::l,o,i=>by
  rw[List.cons_append,je,KQ l,je,List.cons_append,List.length_cons,show i+1+l.length=i+(l.length+1) by omega]
theorem KA(o:OpM):∀ (l:List OpM) (m i:Nat),(je l i).modify m (fun e=>{ e with key:= .string o.k,val:=tbV o })=je (l.set m o) i
 |[],m,_=>by cases m<;>rfl
 |x::l,0,i=>rfl
 |x::l,m+1,i=>by
  show FW x i::(je l (i+1)).modify m _=_;rw[KA o l m]; rfl
theorem Ia{o:OpM}:∀ {l:List OpM},(l.findIdx? fun x=>x.k=o.k)=none->lS l o=l++[o]
 |[],_=>rfl
 |x::l,h=>by
  rw[List.findIdx?_cons]at h;by_cases hx:x.k=o.k
  ·simp[hx]at h
  ·simp only[hx,decide_false,Bool.false_eq_true,if_false,Option.map_eq_none_iff]at h;rw[lS,if_neg hx,Ia h]; rfl
theorem Ha{o:OpM}:∀ {l:List OpM} {m:Nat},(l.findIdx? fun x=>x.k=o.k)=some m->lS l o=l.set m o
 |[],_,h=>by simp at h
 |x::l,m,h=>by
  rw[List.findIdx?_cons]at h;by_cases hx:x.k=o.k
  ·simp only[hx,decide_true,if_true,Option.some.injEq]at h;subst h;rw[lS,if_pos hx]; rfl
  ·simp only[hx,decide_false,Bool.false_eq_true,if_false,Option.map_eq_some_iff]at h;obtain⟨j,hj,rfl⟩:=h;rw[lS,if_neg hx,Ha hj]; rfl
theorem adB(l:List OpM)(o:OpM):tb1 (eX l) o=eX (lS l o):=by
 unfold tb1 Ap eX;simp only[LX];cases h:l.findIdx? fun x=>x.k=o.k with
 |none=>
  rw[Ia h];simp only[Option.map_none,nY,Bool.false_eq_true,if_false];rw[KQ,List.length_append];simp[FW]
 |some m=>
  rw[Ha h];simp only[Option.map_some,nY,if_true,Nat.zero_add];rw[KA,List.length_set]
def kP(l:List OpM)(ops:List OpM):List OpM:=ops.foldl lS l
theorem SY(ops:List OpM):∀ l:List OpM,tbM (eX l) ops=eX (kP l ops):=by
 induction ops with
 |nil=>intro l; rfl
 |cons o ops ih=>intro l; show tbM (tb1 (eX l) o) ops=_; rw[adB,ih]; rfl
theorem DY{o:OpM}:∀ {l:List OpM} {x:OpM},x∈lS l o->x=o\/x∈l
 |[],x,h=>Or.inl (List.mem_singleton.1 h)
 |y::l,x,h=>by
  unfold lS at h;split at h
  ·rcases List.mem_cons.1 h with rfl | h
   ·exact Or.inl rfl
   ·exact Or.inr (List.mem_cons_of_mem _ h)
  ·rcases List.mem_cons.1 h with rfl | h
   ·exact Or.inr (List.mem_cons_self ..)
   ·exact(DY h).imp id (List.mem_cons_of_mem _)
theorem Pn{o:OpM}:∀ {l:List OpM},ndK l->ndK (lS l o)
 |[],_=>by unfold ndK lS; simp
 |y::l,h=>by
  unfold ndK at h;rw[List.map_cons,List.nodup_cons]at h;unfold lS;split
  ·rename_i he;unfold ndK;rw[List.map_cons,List.nodup_cons,<-he];exact h
  ·rename_i he;unfold ndK;rw[List.map_cons,List.nodup_cons];refine⟨fun hm=>?_,Pn h.2⟩;obtain⟨x,hx,hxe⟩:=List.mem_map.1 hm;rcases DY hx with rfl | hx
   ·exact he hxe.symm
   ·exact h.1 (List.mem_map.2 ⟨x,hx,hxe⟩)
theorem Xo(ops:List OpM):∀ {l:List OpM},ndK l->ndK (kP l ops):=by
 induction ops with
 |nil=>intro l h; exact h
 |cons o ops ih=>intro l h; exact ih (Pn h)
theorem V8{p:OpM->Prop}(ops:List OpM):∀ {l:List OpM},(∀ o∈l,p o)->(∀ o∈ops,p o)->∀ o∈kP l ops,p o:=by
 induction ops with
 |nil=>intro l h _; exact h
 |cons x ops ih=>
  intro l h h2;refine ih (fun o ho=>?_) fun o ho=>h2 o (List.mem_cons_of_mem _ ho);rcases DY ho with rfl | ho
  ·exact h2 _ (List.mem_cons_self ..)
  ·exact h _ ho
theorem Xa(l:List OpM)(o:OpM):(lS l o).length<=l.length+1:=by
 induction l with
 |nil=>simp[lS]
 |cons x l ih=>unfold lS; split<;>simp; omega
theorem WT(ops:List OpM):∀ l:List OpM,(kP l ops).length<=l.length+ops.length:=by
 induction ops with
 |nil=>intro l; exact Nat.le_refl _
 |cons o ops ih=>intro l; have:=ih (lS l o); have h2:=Xa l o; show(kP (lS l o) ops).length<=_; rw[List.length_cons]; omega
theorem jv(l:List OpM):fJ (eX l):=fun e he=>by
 obtain⟨o,_,h1,h2,_⟩:=rF he;exact⟨o.k,o.v,o.p,h1,h2⟩
abbrev kB(k:ByteArray):List UInt8:=k.data.toList
abbrev kS(b:List UInt8):ByteArray:=⟨⟨b⟩⟩
def lh(l:List OpM):List (List UInt8):=(l.map fun o=>kB o.k).mergeSort leB
theorem Aq:∀ {l:List OpM} {i:Nat},ndK l->((je l i).map (·.born)).Nodup/\((je l i).map (·.key)).Nodup
 |[],_,_=>⟨List.nodup_nil,List.nodup_nil⟩
 |o::l,i,h=>by
  unfold ndK at h;rw[List.map_cons,List.nodup_cons]at h;obtain⟨h1,h2⟩:=Aq (l:=l) (i:=i+1) h.2;refine⟨?_,?_⟩
  ·show(i::(je l (i+1)).map (·.born)).Nodup;rw[List.nodup_cons];refine⟨fun hm=>?_,h1⟩;obtain⟨e,he,hb⟩:=List.mem_map.1 hm;obtain⟨_,_,_,_,h4,_⟩:=rF he;omega
  ·show(Value.string o.k::(je l (i+1)).map (·.key)).Nodup;rw[List.nodup_cons];refine⟨fun hm=>?_,h2⟩;obtain⟨e,he,hb⟩:=List.mem_map.1 hm;obtain⟨x,hx,h4,_⟩:=rF he;rw[h4]at hb;have hb:Value.string x.k=Value.string o.k:=hb;injection hb with hb;exact h.1 (List.mem_map.2 ⟨x,hx,hb⟩)
theorem PD{β:Env}:∀ {l:List OpM} {i:Nat} {es:List MapEntry},ERL β (je l i) es->es.map (·.key)=(je l i).map (·.key)/\es.map (·.born)=(je l i).map (·.born)
 |[],_,_,h=>by
  have h:_=[]:=h;rw[h]; exact⟨rfl,rfl⟩
 |o::l,i,es,h=>by
  obtain⟨y,ys,rfl,h1,h2,_,h3⟩:∃ y ys,es=y::ys/\i=y.born/\VR β (.string o.k) y.key/\VR β (tbV o) y.val/\ERL β (je l (i+1)) ys:=h;obtain⟨e1,e2⟩:=PD h3;have h2:y.key = .string o.k:=by simpa only[VR]using h2
  rw[List.map_cons,List.map_cons,e1,e2,h2,<-h1];exact⟨rfl,rfl⟩
theorem Lc{H:Type}(x:Lit×DataW H):∀ l:List (Lit×DataW H),(DataW.insert x l).Perm (x::l)
 |[]=> .refl _
 |y::r=>by
  unfold DataW.insert;split
  ·exact .refl _
  ·exact((Lc x r).cons y).trans (.swap x y r)
theorem AO{H:Type}:∀ l:List (Lit×DataW H),(l.foldr DataW.insert []).Perm l
 |[]=> .refl _
 |x::l=>(Lc x _).trans ((AO l).cons x)
theorem ab1:P.underlying 9=some .string:=by kernel_rfl
theorem acu{s:ByteArray}(h:s.size<=maxLen):keyOf P 9 (.string s)=some (.string s.data.toList):=by
 unfold keyOf;rw[ab1];simp[mapKey,ab1,h]
theorem G7:∀ l:List (List UInt8),gy (l.map encStr)=true
 |[]=>rfl
 |x::l=>by show(flat (encStr x)&&gy (l.map encStr))=true; rw[G7 l]; rfl
theorem aaB{l:List OpM}(hn:ndK l)(hl:l.length<=100000)(hk:∀ o∈l,o.k.size<=16):CRX P 2 195 [.func (.func 215) #[] #[ptV 0]]
  [.cells [.map (some 1)] 96 true, .map (je l 0) l.length] (aX 1 l.length 0 ((lh l).map encStr)) [.cells [.map (some 1)] 96 true, .map (je l 0) l.length]:=by
 intro K β w args' cs hid ha hr;obtain⟨l0,b1,b2,b3⟩:=hr.blk 0 (.cells [.map (some 1)] 96 true) (by rw[oN]; rfl) rfl;obtain⟨l1,c1,c2,c3⟩:=hr.blk 1 (.map (je l 0) l.length) (by rw[oN]; rfl) rfl;obtain⟨y,ys,e1,hy,e2⟩:∃ y ys,args'.toList=y::ys/\VR β (.func (.func 215) #[] #[ptV 0]) y/\ys=[]:=ha;subst e2;obtain⟨f',a',b',rfl,hf,ha1,hb1⟩:∃ f' a' b',y = .func f' a' b'/\f' = .func 215/\a'.toList=[]/\∃ z zs,b'.toList=z::zs/\VR β (ptV 0) z/\zs=[]:=by
  simp only[VR,VRA]at hy;obtain⟨f',a',b',h1,h2,h3,h4⟩:=hy;exact⟨f',a',b',h1,h2,h3,h4⟩
 obtain⟨z,zs,hz,hz2,rfl⟩:=hb1;obtain⟨_,l0',hl0,rfl⟩:_/\∃ l,β ((0:Nat):Int)=some l/\z = .pointer (some ⟨l.blk,l.base+0,none⟩):=hz2;obtain rfl:l0=l0':=by rw[hl0]at b1; exact(Option.some.inj b1).symm
 rcases b3 with⟨_,_,q⟩ | ⟨v0,cc,f,q1,q2,q3,q4,q5,q6,q7⟩
 ·cases q
 ·obtain⟨q8,q9,q10⟩:=q5 rfl;have hbl:=(hr.dom 0 _ b1).2 v0;obtain⟨v1,es,m1,m2⟩:=c3;have hsz:cc.size=1:=by rw[q10,<-q8]; rfl
  obtain⟨x,hx⟩:∃ x,cc=#[x]:=Array.size_eq_one_iff.1 hsz;subst hx;rw[q9]at q6;obtain⟨x',xs,e3,hx,_⟩:∃ y ys,(List.take 1 [x])=y::ys/\VR β (.map (some 1)) y/\ys=[]:=q6;obtain rfl:x=x':=by simpa using(List.cons.inj e3).1
  obtain⟨l1',hl1,rfl⟩:∃ l,β ((1:Nat):Int)=some l/\x = .map (some l.blk):=hx;obtain rfl:l1=l1':=by rw[hl1]at c1; exact(Option.some.inj c1).symm
  obtain⟨k1,k2⟩:=PD m2;obtain⟨s1,s2⟩:=Aq (i:=0) hn;have hlen:es.size=l.length:=by
   have:=congrArg List.length k1;rw[List.length_map,List.length_map,wB,Array.length_toList]at this;exact this
  have hkey:∀ x∈es.toList,∃ o∈l,x.key = .string o.k:=by
   intro x hx;have:x.key∈(je l 0).map (·.key):=by rw[<-k1]; exact List.mem_map.2 ⟨x,hx,rfl⟩
   obtain⟨e,he,hee⟩:=List.mem_map.1 this;obtain⟨o,ho,h1,_⟩:=rF he;exact⟨o,ho,by rw[<-hee,h1]⟩
  have hrd:∀ x∈es.toList,∃ o∈l,x.key = .string o.k/\rd P 9 (fun _=>some ((DataW.nil:DataW Unit),[])) x=some (.string o.k.data.toList, .nil):=by
   intro x hx;obtain⟨o,ho,h1⟩:=hkey x hx;obtain⟨xk,xv,xb⟩:=x;simp only at h1;subst h1;exact⟨o,ho,rfl,rd_mk (yv:=((DataW.nil:DataW Unit),[])) (acu (s:=o.k) (by have:=hk o ho; unfold maxLen; omega)) rfl⟩
  have hown:w.ownsMap P 9 (fun _=>some ((DataW.nil:DataW Unit),[])) l1.blk l.length (.map ((es.toList.map (rg P 9 (fun _=>some ((DataW.nil:DataW Unit),[])))).foldr DataW.insert [])):=
   ⟨es,l.length,m1,⟨by rw[hlen]; unfold maxLen; omega,⟨fun x hx=>by
    have:x.born∈(je l 0).map (·.born):=by rw[<-k2]; exact List.mem_map.2 ⟨x,hx,rfl⟩
    obtain⟨e,he,hee⟩:=List.mem_map.1 this;obtain⟨_,_,_,_,_,h5⟩:=rF he
    omega,by rw[k2]; exact s1,by rw[k1]; exact s2⟩,fun x hx=>by obtain⟨o,_,_,h⟩:=hrd x hx; exact⟨_,h⟩⟩,by omega,rfl⟩
  have hperm:(strKeys (.map ((es.toList.map (rg P 9 (fun _=>some ((DataW.nil:DataW Unit),[])))).foldr DataW.insert []))).Perm (l.map fun o=>kB o.k):=by
   refine((AO _).map fun p=>strOf p.1).trans ?_;rw[List.map_map];have:es.toList.map ((fun p:Lit×DataW Unit=>strOf p.1)∘rg P 9 (fun _=>some ((DataW.nil:DataW Unit),[])))=l.map fun o=>kB o.k:=by
    have e1:es.toList.map ((fun p:Lit×DataW Unit=>strOf p.1)∘rg P 9 (fun _=>some ((DataW.nil:DataW Unit),[])))=(es.toList.map (·.key)).map fun v=>match v with | .string s=>kB s | _=>[]:=by
     rw[List.map_map];apply List.map_congr_left;intro x hx;obtain⟨o,_,h1,h2⟩:=hrd x hx;simp only[Function.comp,rg_of h2,h1,strOf]
    rw[e1,k1,List.map_map];have e2:∀ (l:List OpM) (i:Nat),(je l i).map ((fun v=>match v with | .string s=>kB s | _=>[])∘fun x:MapEntry=>x.key)=l.map fun o=>kB o.k:=by
     intro l
     induction l with
     |nil=>intro i; rfl
     |cons o l ih=>intro i; rw[je,List.map_cons,ih,List.map_cons]; rfl
    exact e2 l 0
   rw[this]
  have hsize:Maps.size (.map ((es.toList.map (rg P 9 (fun _=>some ((DataW.nil:DataW Unit),[])))).foldr DataW.insert []))=l.length:=by
   rw[Maps.size_eq,(AO _).length_eq,List.length_map,Array.length_toList,hlen]
  have hcell:w.cell? ⟨l0.blk,0,none⟩=some (.map (some l1.blk)):=by
   unfold World.cell?;simp[q1]
  have harg:args'=#[.func (.func 215) #[] #[.pointer (some ⟨l0.blk,0,none⟩)]]:=by
   apply Array.ext';rw[e1,hf];have h1:a'=#[]:=by apply Array.ext'; rw[ha1]
   have h2:b'=#[.pointer (some ⟨l0.blk,0,none⟩)]:=by apply Array.ext'; rw[hz,q9]
   rw[h1,h2]
  obtain⟨e,w',fr,⟨v,ss,rfl,hp,hrow,hnil,hb⟩,hc,h1,g1,g2,g3,fn,g4,g5⟩:=Tryz.sorted_at l0.blk l1.blk l.length _ _ w hbl hcell hown (by rw[hsize]; unfold maxLen; omega) (by rw[hsize]; omega) cs;have hss:ss.mergeSort (fun x y=>decide (x<=y))=lh l:=mergeSort_of_perm (hp.trans hperm);have hsl:ss.length=l.length:=by rw[(hp.trans hperm).length_eq,List.length_map]
  rw[hss,hsl]at hrow;rw[harg];obtain⟨hl',⟨e1,e0⟩ | ⟨g',cap,cur,e1,hge,hcl,hcp,_,_,htake⟩⟩:=hrow
  ·obtain⟨r1,r2⟩:=hr.below hb;have hl0:l=[]:=List.length_eq_zero_iff.1 e0;subst e1 hl0;refine⟨⟨β,fr,w',_,hc,(Env.le.refl β).leN _,r1,r2,?_,g1,g2,g3,h1,fn,by rw[<-h1]; exact g4,g5⟩,Nat.le_refl 2⟩;unfold aX;simp only[VR];rw[if_neg (Nat.not_lt_of_le (Nat.le_add_right FZ 1))];simp only[VZ,VZA,VZL];refine⟨0,0,rfl,?_⟩;unfold iU;have e1:FZ+1-FZ=1:=by omega
   rw[e1,if_neg (by decide)];exact⟨by simp[lh],Or.inl ⟨rfl,by decide,rfl⟩⟩
  ·obtain⟨b1',b2'⟩:=hr.freezeNew hb hge hcl;subst e1;refine⟨⟨_,fr,w',_,hc,b1'.leN _,b2',(hr.below hb).2,adf (by decide) (Cf _ _ _) hl' (by rw[htake]; exact ER (G7 _)) hcp,g1,g2,g3,h1,fn,by rw[<-h1]; exact g4,g5⟩,Nat.le_refl 2⟩
end Go.VS.Tryz
end

noncomputable section
namespace Go.VS.Tryz
open Go.VS
set_option maxRecDepth 1000000
def bI(l:List RunM):Int:=(l.getLast?.map RunM.b).getD 0
structure RnM where
 dk:DkM
 br:Bool
 rs:List RunM
def rnB(r:RnM):List Blk:=[.cells [ptV 1, .bool r.br,lsV 7 r.rs.length] 168 true, .cells (dM 2 3 4 5 6 r.dk) 86 true]++dkL r.dk++[.cells (eF.all r.rs) 161 false]
theorem aB{l:List RunM}{n:Nat}(h:n=l.length):takeC (Nat.mul n 3) (bT 0 (eF.all l))=eF.all l:=by subst h; exact eF.all_self l
theorem dJ(l:List RunM):(eF.all l).length=Nat.mul l.length 3:=eF.all_length l
theorem ZH(r:RnM):dD P E ctF 50 au [] [] 2 77 [p0] (rnB r) =
 (let z:=r.rs.length;let y:=Enc.all eF r.rs;let x:=Blk.cells [pt_ 1, .bool r.br,sl_ 7 z] 168 true;let w:=dk_ r.dk 2 3 4 5 6;let v:=ro_ [0,2,9,5,8,1];let u:=fH .i64 (ag z) 1;let t:=Nat.add (Nat.add 0 (atN u 3)) 1;let s:=ro_ [0,2,23,5,22,1];
 (ak (eqI (ag z) 0) (nb_ z 3 y (dn_ w0_ r.dk (some (io_ 0,af (x::w::dl_ (cz_ v w0_) r.dk [lb_ v z 3 y 161]))))) (ae (inI u z) (ae (Bool.and (Nat.ble (Nat.add t 1) y.length) (eu (.int .i64) (aU y t))) (nb_ z 3 y (dn_ w0_ r.dk (some (io_ (asI (aU y t)),af (x::w::dl_ (cz_ s w0_) r.dk [lb_ s z 3 y 161]))))))))):=by kernel_rfl
structure SrM where
 tb:TbM
 rn:RnM
 rest:List CmM
def srB(s:SrM):List Blk:=[.cells [ptV 1,ptV 3,lsV 11 s.rest.length] 174 true, .cells [.map (some 2)] 98 true, .map s.tb.es s.tb.ck, .cells [ptV 4, .bool s.rn.br,lsV 10 s.rn.rs.length] 168 true, .cells (dM 5 6 7 8 9 s.rn.dk) 86 true]++dkL s.rn.dk++[.cells (eF.all s.rn.rs) 161 false, .cells (ECm.all s.rest) 47 false]
def aew(C1 C2 C3 C4:List Value->List Blk->Bool)(e:Int)(rn:RnM)(tb:TbM)(c:CmM):Ct:=aT P au 0 95 (cu C1 (.leaf (.int .i64 0,[]))) (aT P au 2 77 (cu C2 (.leaf (.int .i64 e,rnB rn))) (aT P au 0 81 (cu C3 (.leaf (cmV c,[]))) (aT P au 2 20 (cu C4 (.leaf (.int .i64 0,tbB tb))) ctF)))
theorem ac1(C1 C2 C3 C4:List Value->List Blk->Bool)(e:Int)(tb:TbM)(s:SrM)(c:CmM):dD P E (aew C1 C2 C3 C4 e s.rn tb c) 50 au [] [] 5 82 [p0,cmV c] (srB s) =
 (let z:=io_ c.n;let y:=fa_ c.ops.length 0 (Enc.all EOp c.ops);let x:=[io_ c.e,z,y];let w:=s.rn.rs.length;let v:=Enc.all eF s.rn.rs;let u:=s.rn.dk;let t:=Value.bool s.rn.br;let r:=ro_ [3,2,50,5,49,1];let q:=s.rest.length;let p:=bU (sl_ 11 q) (sl_ 11 q);let o:=ag q;let n:=bU z z;
 let m:=Enc.all ECm s.rest;let l:=bH [3,4] 55;let k:=aZ true l v;let j:=bk_ l w0_;let i:=ro_ [0,5,63,5,62,1,61,1];let h:=Blk.cells [pt_ 4,t,sl_ 10 w] 168 true;let g:=dk_ u 5 6 7 8 9;let f:=nb_ q 3 m (nb_ w 3 k (dn_ j u (some (io_ 15,af (so_ 1 3 11 q::tb_ 2:: .map (bD true i s.tb.es) s.tb.ck::h::g::dl_ (cz_ i j) u [lb_ i w 3 k 161,lb_ i q 3 m 47])))));
 let d:=fH .i64 o 1;let b:=Nat.add 0 (atN d 3);let a:=Nat.add q 1;let Z:=List.append (jR 0 m) x;let Y:=ro_ [0,5,84,5,83,1,82,1];let X:=ae (C3 [.agg ⟨x⟩] []) (ae (Nat.ble a 4194304) (ae (Nat.beq (Nat.add 0 (Nat.mul q 3)) m.length) (ae p (ae (C4 [pt_ 0,y] [tb_ 1, .map (bD true (bY 0 [1,2]) s.tb.es) s.tb.ck]) (nb_ a 3 Z (nb_ w 3 k (dn_ j u (some (io_ 0,af (so_ 1 3 11 a::tb_ 2:: .map (bD true Y (bD true (bH [1,2] 82) tb.es)) tb.ck::h::g::dl_ (cz_ Y j) u [lb_ Y w 3 k 161,lb_ Y a 3 Z 47]))))))))));
 (ae (C1 [.agg ⟨x⟩] []) (nb_ w 3 v (dn_ w0_ u (ae (C2 [pt_ 0] (.cells [pt_ 1,t,sl_ 7 w] 168 true::dk_ u 2 3 4 5 6::dl_ (cz_ r w0_) u [lb_ r w 3 v 161])) (ae p (ae (bU (io_ o) (io_ o)) (ak (neI (fH .i64 c.n 1) (dO .i64 e o)) (ae n f) (ak (gtI o 0) (ae (inI d q) (ae (Bool.and (Nat.ble (Nat.add b 1) m.length) (eu (.int .i64) (aU m b))) (ae n (ak (ltI c.e (asI (aU m b))) f X)))) (ae n X)))))))))):=by kernel_rfl
end Go.VS.Tryz
end

noncomputable section
namespace Go.VS

section
variable{P:Program}{ct:Ct}
/-- An iterator's loop: its own slots; the caller's slots,of what kind the lists are that they hold. -/
structure HeadY where
 N:Nat
 nt:Nat
 L:List Tmp
 fl:List Fl
 ts:List TypeId
 pol:Pol
 Lo:List Tmp
 flo:List Fl
 tso:List TypeId
def HeadY.head(D:HeadY):Head:=⟨D.N,D.nt,D.L,[]⟩
def yieldOf:List Value->Option Nat
 | .func (.yield l) _ _::_=>some l
 |_::vs=>yieldOf vs
 |[]=>none
def yl{α:Type}(P:Program)(D:HeadY)(s:Trie Value)(st:St)(k:List Nat->List Nat->St->List Value->List Blk->DT α):DT α:=
 kX P 60 D.fl D.ts (D.L.map (lM s)) st fun vs1 ps st1=>match yieldOf vs1 with
  |none=> .fail
  |some l=>match dZ (path l) st1.heap with
   |some (.loop R)=>kX P 60 D.flo D.tso (D.Lo.map (lM R.slots)) st1 fun vo po st2=>match dZ (path l) st2.heap with
    |some (.loop R2)=>qf P D.pol 200 (List.append ps po) [] ⟨dX (path l) st2.heap (.loop { R2 with slots:=mkS R2.ntmps D.Lo vo }),st2.next⟩ fun st3=>
     lK (jB st3) 1000 vs1 [] [] fun X L=>match Nat.beq X.length D.N,iI 0 (X.append L) (fun i=>dZ (path i) st3.heap) (X.append L)with
     |true,some ms=>k X L st3 (vs1.map (eP true (bY 0 (X.append L)))) ms
     |_,_=> .fail
    |_=> .fail
   |_=> .fail
theorem yO{α:Type}{r:α}{D:HeadY}{s:Trie Value}{st:St}{k:List Nat->List Nat->St->List Value->List Blk->DT α}(h:(yl P D s st k).eval=some r) :
  ∃ X L st2 vs1 ms,(k X L st2 (vs1.map (eP true (bY 0 (X++L)))) ms).eval=some r/\X.length=D.N/\iI 0 (X++L) (fun i=>st2.heap.get i) (X++L)=some ms/\
   ∀ (K:Prot) (β:Env) (w:World) (n:Nat) (tmps:Array Value),Rel P K β st w->h_ β s n tmps->∃ β1,β.le β1/\Rel P K β1 st2 w/\VRL β1 vs1 (D.L.map fun t=>tmps.getD t undef):=by
 unfold yl at h;obtain⟨vs1,ps,st1,h1,h3,h4⟩:=iQ _ _ _ _ _ _ h;split at h1
 ·cases h1
 ·rename_i l hl;split at h1
  ·rename_i R hR;obtain⟨vo,po,st2,g1,g3,g4⟩:=iQ _ _ _ _ _ _ h1;split at g1
   ·rename_i R2 hR2;rw[dQ]at hR hR2;obtain⟨st3,k1,k2⟩:=jq _ _ _ _ _ g1;obtain⟨X,L,hX⟩:=jE (jB st3) 1000 vs1 [] [] fun X L=>match Nat.beq X.length D.N,iI 0 (X.append L) (fun i=>dZ (path i) st3.heap) (X.append L)with
     |true,some ms=>k X L st3 (vs1.map (eP true (bY 0 (X.append L)))) ms
     |_,_=> .fail
    rw[hX]at k1;split at k1
    ·rename_i ms hn hm;refine⟨X,L,st3,vs1,ms,k1,Nat.eq_of_beq_eq_true hn,by simp only[dQ]at hm; exact hm,fun K β w n tmps hr hs=>?_⟩;obtain⟨β1,a1,a2,a3⟩:=h4 K β w _ hr (uj hs D.L);obtain⟨ll,hll,_,hv,hocc,y,hy,hlr⟩:=a2.blk l _ hR rfl;obtain⟨β2,b1,b2,b3⟩:=g4 K β1 w _ a2 (uj hlr.slots D.Lo);obtain⟨ll2,hll2,_,hv2,hocc2,y2,hy2,hlr2⟩:=b2.blk l _ hR2 rfl;have e1:ll2=ll:=by have:=b1 _ _ hll; rw[hll2]at this; exact Option.some.inj this
     subst e1;have e2:y2=y:=by rw[hy]at hy2; cases hy2; rfl
     subst e2;have hrel:Rel P K β2 ⟨dX (path l) st2.heap (.loop { R2 with slots:=mkS R2.ntmps D.Lo vo }),st2.next⟩ w:=by
      rw[dY];exact b2.update (b':= .loop { R2 with slots:=mkS R2.ntmps D.Lo vo }) hR2 rfl rfl rfl hll2 rfl (fun _ _=>rfl) ⟨hv2,hocc2,y2,hy2,⟨hlr2.state,hlr2.pending,hlr2.fn,hlr2.params,hlr2.assign,hlr2.body,sD hlr2.slots.1 b3,hlr2.defers⟩⟩
     obtain⟨β3,c1,c2⟩:=k2 K β2 w hrel;exact⟨β3,(a1.trans b1).trans c1,c2,(a3.mono b1).mono c1⟩
    ·cases k1
   ·cases g1
  ·cases h1
def Tn(P:Program)(D:HeadY):Ex->Trie Value->List Deferred->St->Res:=fun e s d st=>match d with
 |[]=>DT.run (yl P D s st fun X _ _ vs ms=>match upTo D.N X 0 with
  |true=> .leaf (vs,ms)
  |false=> .fail) fun r=>some (.tuple ⟨exV e::r.1⟩,af r.2)
 |_=>none
def lW(P:Program)(E:Eng)(ct:Ct)(n:Nat)(fid:Nat)(B:Code)(D:HeadY)(vs:List Value)(bs:List Blk):Res:=
 pF P E ct n (o9 P E ct n n) fid D.nt none B (mkS D.nt D.L vs) [] (af bs) (Tn P D)
theorem zX{E:Eng}(hE:EngOk P ct E)(hN:noNum P=true)(hct:CtOk P ct){n fid id:Nat}{B:Code}{D:HeadY}(hocc:Occ P fid (.block id (.loop B))){vs vs1:List Value}{bs bs1:List Blk}{e:Ex}
  (h:lW P E ct n fid B D vs bs=some (.tuple ⟨exV e::vs1⟩,af bs1)) (K:Prot) (β:Env) (w:World) (fr:Frame) (cs:List Frame) (k:List Item) (hid:∀ i,¬K.id i) (ht:fr.todo = .code B::k) (hfid:fr.fn=fid) (hf:FrR β (D.head.fr vs) fr) (hr:Rel P K β (af bs) w) :
  xq D.head.N P K β fr cs w e k (D.head.fr vs1) (af bs1)/\D.head.N<=bs1.length:=by
 unfold lW at h;obtain⟨m,e1,s1,d1,st1,h1,h2⟩:=jQ hE (jP hE n n) n fid D.nt none B _ _ _ _ _ h;unfold Tn at h2;split at h2
 ·obtain⟨r,hc,h2⟩:=DT.run_spec h2;obtain⟨X,L,st2,vs2,ms,hc1,hlen,hm,hc2⟩:=yO hc;split at hc1
  ·rename_i hup;simp only[DT.eval,Option.some.injEq]at hc1;subst hc1;simp only[Option.some.injEq,Prod.mk.injEq,Value.tuple.injEq,Array.mk.injEq,List.cons.injEq]at h2;obtain⟨⟨he,rfl⟩,hst⟩:=h2;obtain rfl:=Bl he;obtain⟨β1,fr1,w1,a1,a2,a3,a4,a5,a6,a7,a8,a9⟩:=(gU hN hct m K).code fid B _ _ _ _ _ h1 (hocc.sub (.block (.loop (.refl _)))) β w fr cs k ht hfid hf hr;obtain⟨β2,b1,b2,b3⟩:=hc2 K β1 w1 _ _ a3 a5.slots;obtain⟨m1,m2,m3⟩:=ig hm;have hmid:=iZ (N:=0) (src:=X++L) b2 (fun i hi=>(hid i hi).elim) (Nat.zero_le _) m1 m2;have hren:=m_ (X++L) β2;have hms:(af ms).next=bs1.length:=by rw[hst]; rfl
   have hmsl:ms.length=bs1.length:=hms;refine⟨⟨gu 0 (X++L) β2,fr1,w1,a1,(a2.trans b1 |>.leN _).trans (qB hup),?_,a4,⟨sD a5.slots.1 ?_,by have:=a5.defers; unfold l9 at this; rw[this]; rfl,by have:=a5.round; exact this,a5.mode⟩,a6,a7,a8,a9⟩,?_⟩
   ·rw[<-hst,m3]; exact hmid
   ·exact b3.mapr fun v _ x hx=>fO hren v x hx
   ·rw[<-hmsl,m3,List.length_map,List.length_append];show D.N<=_;omega
  ·cases hc1
 ·cases h2
theorem LRX.againY{E:Eng}(hE:EngOk P ct E)(hN:noNum P=true)(hct:CtOk P ct){n fid id:Nat}{B:Code}{D:HeadY}(hocc:Occ P fid (.block id (.loop B))){vs vs1 vs':List Value}{bs bs1 bs':List Blk}{e:Ex}
  (h:lW P E ct n fid B D vs bs=some (.tuple ⟨exV .normal::vs1⟩,af bs1)) (hl:LRX P fid id B D.head vs1 bs1 e vs' bs'):LRX P fid id B D.head vs bs e vs' bs':=by
 intro K β w fr cs k hid ht hfid hf hr;obtain⟨⟨β1,fr1,w1,a1,a2,a3,a4,a5,a6,a7,a8,a9⟩,_⟩:=zX hE hN hct hocc h K β w fr cs _ hid ht hfid hf hr;have a9:fr1.todo = .inLoop B:: .inBlock id::k:=a9;have hs:=uX (P:=P) (cs:=cs) (w:=w1) a5.mode a9;obtain⟨⟨β2,fr2,w2,b1,b2,b3,b4,b5,b6,b7,b8,b9⟩,hb⟩:=hl K β1 w1 { fr1 with todo:= .code B:: .inLoop B:: .inBlock id::k } cs k hid rfl (a7.trans hfid) ⟨a5.slots,a5.defers,a5.round,a5.mode⟩ a3;exact⟨⟨β2,fr2,w2,a1.trans (.head hs b1),a2.trans b2,b3,a4.trans b4,b5,b6.trans a6,b7.trans a7,b8.trans a8,b9⟩,hb⟩
theorem LRX.stopY{E:Eng}(hE:EngOk P ct E)(hN:noNum P=true)(hct:CtOk P ct){n fid id:Nat}{B:Code}{D:HeadY}(hocc:Occ P fid (.block id (.loop B))){vs vs1:List Value}{bs bs1:List Blk}{e:Ex}
  (h:lW P E ct n fid B D vs bs=some (.tuple ⟨exV e::vs1⟩,af bs1)) (he:e≠ .normal):LRX P fid id B D.head vs bs (jM id e) vs1 bs1:=by
 intro K β w fr cs k hid ht hfid hf hr;obtain⟨⟨β1,fr1,w1,a1,a2,a3,a4,a5,a6,a7,a8,a9⟩,hb⟩:=zX hE hN hct hocc h K β w fr cs _ hid ht hfid hf hr;refine⟨?_,hb⟩;have a9:=a9.under he (fun i e=>by cases e);cases e with
 |normal=>exact absurd rfl he
 |ret=>exact⟨β1,fr1,w1,a1,a2,a3,a4,a5,a6,a7,a8,a9⟩
 |exit i=>
  obtain⟨k2,h1,h2⟩:=a9;cases hb:Nat.beq i id with
  |true=>
   have hx2:jM id (.exit i) = .normal:=by simp only[jM,hb]
   rw[hx2];have:=Nat.eq_of_beq_eq_true hb;subst this;have hx:exitTo i k2=some k:=by rw[h2]; simp[exitTo]
   exact⟨β1,{ fr1 with todo:=k },w1,a1.trans (.one (s_exit a5.mode h1 hx)),a2,a3,a4,a5.todo k,a6,a7,a8,rfl⟩
  |false=>
   have hx2:jM id (.exit i) = .exit i:=by simp only[jM,hb]
   rw[hx2];have:=Nat.ne_of_beq_eq_false hb;refine⟨β1,fr1,w1,a1,a2,a3,a4,a5,a6,a7,a8,k2,h1,?_⟩;rw[h2];have:(id == i)=false:=by simp; exact fun ee=>this ee.symm
   simp[exitTo,this]
theorem LRX.iterY{E:Eng}(hE:EngOk P ct E)(hN:noNum P=true)(hct:CtOk P ct){n fid id:Nat}{B:Code}{D:HeadY}(hocc:Occ P fid (.block id (.loop B))){vs:Nat->List Value}{bs:Nat->List Blk}{e:Ex}{vs':List Value}{bs':List Blk}(m:Nat)
  (h:∀ i,i<m->lW P E ct n fid B D (vs i) (bs i)=some (.tuple ⟨exV .normal::vs (i+1)⟩,af (bs (i+1)))) (hl:LRX P fid id B D.head (vs m) (bs m) e vs' bs'):LRX P fid id B D.head (vs 0) (bs 0) e vs' bs':=by
 induction m generalizing vs bs with
 |zero=>exact hl
 |succ m ih=>exact LRX.againY hE hN hct hocc (h 0 (by omega)) (ih (vs:=fun i=>vs (i+1)) (bs:=fun i=>bs (i+1)) (fun i hi=>h (i+1) (by omega)) hl)
def OE(P:Program)(D:HeadY)(R:jO)(f:Fr)(st:St):Option (DT (Ex×Trie Value×St)):=
 match f.defers,f.roundOf,Nat.beq f.ntmps D.nt with
 |[],none,true=>some (yl P D f.slots st fun X L st2 vs ms=>match R vs ms with
  |some t=>t.map fun x=>(x.1,mkS D.nt D.L (x.2.1.map (eP true (bH X st2.next))),oV X L st2 x.2.2)
  |none=> .fail)
 |_,_,_=>none
def uY(P:Program)(fid id:Nat)(D:HeadY)(R:jO)(ct:Ct):Ct where
 call:=ct.call
 loop:=fun fid' id' f st=>match and (Nat.beq fid' fid) (Nat.beq id' id)with
  |true=>OE P D R f st
  |false=>ct.loop fid' id' f st
 op:=ct.op
theorem wG{fid id:Nat}{B:Code}{D:HeadY}{R:jO}(hct:CtOk P ct)(h:LoopOkX P fid id B D.head R):CtOk P (uY P fid id D R ct) where
 opc:=hct.opc
 op:=hct.op
 call:=hct.call
 loop:=by
  intro K fid' id' c f st e s' st' hl hocc β w fr cs k ht hfid hf hr;simp only[uY]at hl;split at hl
  ·rename_i hb;simp only[Bool.and_eq_true]at hb;obtain rfl:=Nat.eq_of_beq_eq_true hb.1;obtain rfl:=Nat.eq_of_beq_eq_true hb.2;obtain rfl:=h.occ c hocc;unfold OE at hl;split at hl
   ·rename_i hd hro hnt;have hnt:=Nat.eq_of_beq_eq_true hnt;simp only[Option.bind_some]at hl;obtain⟨X,L,st2,vs1,ms,hk,hXN,hm,hrel⟩:=yO hl;split at hk
    ·rename_i t hR;obtain⟨⟨e1,vs2,bs2⟩,hev,heq⟩:=DT.map_eval hk;simp only[Prod.mk.injEq]at heq;obtain⟨rfl,rfl,rfl⟩:=heq;obtain⟨β0,b1,b2,b3⟩:=hrel K β w _ _ hr hf.slots;obtain⟨m1,m2,m3⟩:=ig hm;obtain⟨K',k1,k2,k3,k4⟩:=sW b2 m1 m2;have hslots:h_ (gu 0 (X++L) β0) (mkS D.nt D.L (vs1.map (eP true (bY 0 (X++L))))) D.nt fr.tmps:=
      sD (by rw[hf.slots.1]; exact hnt) (b3.mapr fun v _ x hx=>fO (m_ (X++L) β0) v x hx)
     have s1:=wQ (P:=P) (cs:=cs) (w:=w) hf.mode ht;have s2:=zA (P:=P) (fr:={ fr with todo:= .code (.loop B):: .inBlock id'::k }) (cs:=cs) (w:=w) hf.mode rfl;have hdf:fr.defers=[]:=by have:=hf.defers; rw[hd]at this; exact this
     have hrf:fr.roundOf=none:=by have:=hf.round; rw[hro]at this; exact this
     obtain⟨⟨β1,fr1,w1,a1,a2,a3,a4,a5,a6,a7,a8,a9⟩,a10⟩:=h.run _ _ t hR _ _ _ hev K' (gu 0 (X++L) β0) w { fr with todo:= .code B:: .inLoop B:: .inBlock id'::k } cs k k2 rfl hfid ⟨hslots,hdf,hrf,hf.mode⟩ (by rw[m3]; exact k3);have a2:leN X.length (gu 0 (X++L) β0) β1:=by rw[hXN]; exact a2
     have a10:X.length<=bs2.length:=by rw[hXN]; exact a10
     obtain⟨c1,c2,c3⟩:=k4 β1 bs2 w1 a2 a10 a3 a4;refine⟨_,fr1,w1, .head s1 (.head s2 a1),b1.trans c1,c2,a4.mono k1,⟨⟨by rw[a5.slots.1]; exact hnt.symm,fun i=>?_⟩,?_,?_,a5.mode⟩,a6,a7,a8,a9⟩
     ·show VR _ (((mkS D.nt D.L (vs2.map (eP true (bH X st2.next)))).get i).getD undef) _;rw[BO rfl sS];exact fO c3 _ _ (a5.slots.2 i)
     ·show l9 _ f.defers _;rw[hd]; exact a5.defers
     ·show nG _ f.roundOf _;rw[hro]; exact a5.round
    ·cases hk
   ·cases hl
  ·exact hct.loop K fid' id' c f st e s' st' hl hocc β w fr cs k ht hfid hf hr
def lpB(R:ALoop)(L:List Tmp)(vs:List Value)(d:Nat)(st:LoopState)(p:Option Code):Blk:= .loop { R with state:=st,pending:=p,slots:=mkS R.ntmps L vs,defers:=d }
def O_(P:Program)(fid id nt:Nat):ALoop:=match qQ P fid with
 |some fb=>match jo id fb.2 with
  |[.rangeFunc _ ps a b]=>⟨.ready,none,fid, .leaf,nt,ps,a,b,0⟩
  |_=>⟨.ready,none,fid, .leaf,nt,#[], .skip, .skip,0⟩
 |none=>⟨.ready,none,fid, .leaf,nt,#[], .skip, .skip,0⟩
end
end Go.VS
end

noncomputable section
namespace Go.VS.Tryz
open Go.VS
set_option maxRecDepth 1000000
def WB:Pol:=fun t=>match Nat.beq t 33 with
 |true=>some [.own]
 |false=>au t
def Lm:ALoop:=O_ P 168 0 13
def FB:List Tmp:=[2]
def Dvl:HeadY:=⟨3,16,[0,5,6,7],[.val, .val, .val, .val],[],WB,FB,[.val],[]⟩
def Bvl:Code:=(dR P 194 0).getD .skip
theorem TR:dR P 194 0=some Bvl:=by kernel_rfl
theorem O7:Occ P 194 (.block 0 (.loop Bvl)):=fA TR
def vlB(m:Nat)(l:List Value):List Blk:=[lpB Lm FB [ptV 1] 2 .ready none, .cells [lsV 3 m] 33 true, .deferred, .cells l 74 false]
def ylV(n:Nat):Value:= .func (.yield n) #[] #[]
theorem Uj(l acc:List OpM)(z i:Int):lW P E ctF 50 194 Bvl Dvl [ylV 0,aJ l, .int .i64 z, .int .i64 i] (vlB acc.length (EOp.all acc)) =
 (let y:=atN i 3;let x:=Enc.all EOp l;let w:=acc.length;let v:=Nat.add w 1;let u:=Enc.all EOp acc;let t:=Nat.add y 1;let s:=List.append (jR 0 u) [.bool (asB (aU x y)), .string (asS (aU x t)), .string (asS (aU x (Nat.add t 1)))];let r:=Value.func (Go.Fn.yield 0) ⟨[]⟩ ⟨[]⟩;let q:=fa_ l.length 0 x;
 let p:=lpB Lm FB [pt_ 1] 2 Go.LoopState.ready none;
 (ak (ltI i z) (ae (Bool.and (Nat.beq 3 3) (inI i l.length)) (ae (Bool.and (Nat.ble (Nat.add y 3) x.length) (iq [.bool, .string, .string] x y)) (ae (Nat.ble v 4194304) (ae (Nat.beq (Nat.add 0 (Nat.mul w 3)) u.length) (nb_ v 3 s (some (.tuple ⟨[io_ 0,r,q,io_ z,io_ (dO .i64 i 1)]⟩,af [p, .cells [sl_ 3 v] 33 true, .deferred,lb_ (bY 0 [0,1,2,8]) v 3 s 74]))))))) (nb_ w 3 u (some (.tuple ⟨[io_ 1,r,q,io_ z,io_ i]⟩,af [p, .cells [sl_ 3 w] 33 true, .deferred,lb_ (bY 0 [0,1,2,4]) w 3 u 74]))))):=by kernel_rfl
theorem YM(C:List Value->List Blk->Bool)(l acc:List OpM)(z i:Int):dD P E (uY P 194 0 Dvl (gX C (.leaf (.normal,[ylV 0,aJ l, .int .i64 z, .int .i64 i],vlB acc.length (EOp.all acc)))) ctF) 50 WB [.val] [33] 1 140 [.func (.func 194) #[] #[ptV 0]] [.cells [aJ l] 33 true] =
 (let y:=fa_ l.length 0 (Enc.all EOp l);let x:=acc.length;let w:=aZ true (bH [3,1,2] 5) (Enc.all EOp acc);
 (ae (C [.func (Go.Fn.yield 0) ⟨[]⟩ ⟨[]⟩,y,io_ (ag l.length),io_ 0] [lpB Lm FB [pt_ 1] 2 Go.LoopState.ready none, .cells [sl_ 3 0] 33 true, .deferred, .cells [] 74 false]) (ae (fq_ x w 74) (some (fa_ x 0 (takeC (Nat.mul x 3) (bT 0 w)),af [.cells [y] 33 true]))))):=by kernel_rfl
theorem DR{l:List RunM}{i:Nat}(h:i<l.length):aU (eF.all l) (Nat.add (atN (i:Int) 3) 1) = .int .i64 l[i].b:=by
 have e:Nat.add (atN (i:Int) 3) 1=i*eF.sz+1:=by simp[atN]; rfl
 rw[e,eF.nth h (by decide)]; rfl
theorem nR{α:Type}{l:List α}(h0:l≠[])(hl:l.length<4194304):eqI (ag l.length) 0=false/\gtI (ag l.length) 0=true/\fH .i64 (ag l.length) 1=((l.length-1:Nat):Int)/\inI ((l.length-1:Nat):Int) l.length=true:=by
 have hp:=List.length_pos_iff.2 h0;refine⟨by unfold eqI ag; exact decide_eq_false (by omega),by unfold gtI ag; exact decide_eq_true (by omega),by unfold fH ag; rw[wrap64 (by omega) (by omega)]; omega,jk (by omega) (by omega)⟩
theorem oW{n k:Nat}(h:0<n)(hk:k<=3):Nat.ble (Nat.add (atN ((n-1:Nat):Int) 3) k) (Nat.mul n 3)=true:=Nat.ble_eq_true_of_le (by
 show((n-1:Nat):Int).toNat*3+k<=n*3
 omega)
theorem sG(x:Int):eu (.int .i64) (.int .i64 x)=true:=rfl
theorem jI(k:IntKind)(b:Int):asI (.int k b)=b:=rfl
theorem qG{r:RnM}(hl:r.rs.length<4194304):CRX P 2 77 [p0] (rnB r) (.int .i64 (bI r.rs)) (rnB r):=by
 refine CRX.of (pol:=au) (fl:=[]) (ts:=[]) (n:=50) (bf _) az bn ((ZH r).trans ?_);by_cases h0:r.rs=[]
 ·have e0:r.rs.length=0:=by rw[h0]; rfl
  have g0:eqI (ag r.rs.length) 0=true:=by unfold eqI ag; exact decide_eq_true (by omega)
  have g6:bI r.rs=0:=by rw[h0]; rfl
  simp only[cz_,dk_,dl_,dn_,io_,lb_,nb_,pt_,sl_,w0_,g0,g6,dI,rnB,srB,tbB,dkL,List.cons_append,List.nil_append,List.append_assoc,dJ,aB,dM,lsV,ptV,p0,aW,dkC,aJ,bG,cmV,dA,bQ,aN,dH,dB,dU,dE,dG,dF,cZ,dC,dw,dS,dn,ay,aC,aF,Enc.all_ren,ay rfl,aC rfl,aF rfl,aB rfl,aA,bC,aV,a_,aO,ah,aP,bu,Int.toNat_natCast,aQ,aG,bz,bK,b_,bJ,bP,dm,Bool.and_self,aK,aH,ax]
 ·obtain⟨g0,_,g1,g2⟩:=nR h0 hl;have hp:=List.length_pos_iff.2 h0;have g4:=DR (l:=r.rs) (i:=r.rs.length-1) (by omega);have g5:Nat.ble (Nat.add (Nat.add (atN ((r.rs.length-1:Nat):Int) 3) 1) 1) (Nat.mul r.rs.length 3)=true:=oW (k:=2) hp (by decide);have g6:bI r.rs=(r.rs[r.rs.length-1]'(by omega)).b:=by unfold bI; rw[last_at r.rs h0]; rfl
  simp only[cz_,dk_,dl_,dn_,io_,lb_,nb_,pt_,sl_,w0_,g0,g1,g2,g4,g5,sG,jI,g6,dI,rnB,srB,tbB,dkL,List.cons_append,List.nil_append,List.append_assoc,dJ,aB,dM,lsV,ptV,p0,aW,dkC,aJ,bG,cmV,dA,bQ,aN,dH,dB,dU,dE,dG,dF,cZ,dC,dw,dS,dn,ay,aC,aF,Enc.all_ren,ay rfl,aC rfl,aF rfl,aB rfl,aA,bC,aV,a_,aO,ah,aP,bu,Int.toNat_natCast,aQ,aG,bz,bK,b_,bJ,bP,dm,Bool.and_self,aK,aH,ax]
theorem abN{s:SrM}{c:CmM}(ht:fJ s.tb)(hc:cmE c=0)(hn:c.n-1=bI s.rn.rs+s.rest.length)(he:s.rest=[]\/eG s.rest<=c.e)(hr:s.rn.rs.length<4194304)(hl:s.rest.length<4194300)(h0:0<=bI s.rn.rs) :
  CRX P 5 82 [p0,cmV c] (srB s) (.int .i64 0) (srB ⟨tbM s.tb c.ops,s.rn,s.rest++[c]⟩):=by
 obtain⟨⟨_,_⟩,⟨n1,n2⟩,hb⟩:=lZ.1 hc;obtain⟨b1,b2,b3⟩:=jc.1 hb;have q1:=F_ (c:=c) (by omega);rw[hc]at q1;have q2:=qG hr;have q3:=xn (c:=c) b1 (by omega);have q4:=E_ ht hb;have q:=ac1 (bM [cmV c] []) (bM [p0] (rnB s.rn)) (bM [cmV c] []) (bM [p0,aJ c.ops] (tbB s.tb)) (bI s.rn.rs) (tbM s.tb c.ops) s c;refine CRX.of (pol:=au) (fl:=[]) (ts:=[]) (n:=50) (bf _) az (aj (pol:=au) (aj (pol:=au) (aj (pol:=au) (aj (pol:=au) bn (bF q4)) (bF q3)) (bF q2)) (bF q1)) (q.trans ?_);clear q q1 q2 q3 q4;have hr2:=(ht.all c.ops).ren;have a1:fH .i64 c.n 1=c.n-1:=by unfold fH; rw[wrap64 (by omega) (by omega)]
 have a2:dO .i64 (bI s.rn.rs) (ag s.rest.length)=c.n-1:=by unfold dO ag; rw[wrap64 (by omega) (by omega)]; omega
 have a3:neI (c.n-1) (c.n-1)=false:=by unfold neI; simp
 have h1:(s.rest++[c]).length=Nat.add s.rest.length 1:=by simp
 by_cases h0:s.rest=[]
 ·have g0:gtI (ag s.rest.length) 0=false:=by rw[h0]; rfl
  simp (disch:=first | omega | (simp only[List.length_append,List.length_drop,List.length_take,List.length_singleton,Nat.add_eq,bg]<;>omega) | fail) only[bk_,cz_,dk_,dl_,dn_,fa_,io_,lb_,nb_,pt_,sl_,so_,tb_,w0_,a1,a2,a3,g0,ht.ren,hr2,BM,Bg,dI,rnB,srB,tbB,dkL,List.cons_append,List.nil_append,List.append_assoc,dJ,aB,dM,lsV,ptV,p0,aW,dkC,aJ,bG,cmV,dA,bQ,aN,dH,dB,dU,dE,dG,dF,cZ,dC,dw,dS,dn,ay,aC,aF,Enc.all_ren,ay rfl,ay h1.symm,aC rfl,aF rfl,aB rfl,h1,aA,bC,aV,a_,aO,ah,aP,bu,Int.toNat_natCast,aQ,aG,bz,bK,b_,bJ,bP,dm,Bool.and_self,aK,aH,ax]
 ·obtain⟨_,g0,g1,g2⟩:=nR h0 (by omega);have hp:=List.length_pos_iff.2 h0;have g4:=pI (l:=s.rest) (i:=s.rest.length-1) (by omega);have g5:=oW (n:=s.rest.length) (k:=1) hp (by decide);have g6:eG s.rest=(s.rest[s.rest.length-1]'(by omega)).e:=by unfold eG; rw[last_at s.rest h0]; rfl
  have g7:ltI c.e (eG s.rest)=false:=by
   unfold ltI;rcases he with he | he
   ·exact absurd he h0
   ·exact decide_eq_false (by omega)
  rw[g6]at g7;simp (disch:=first | omega | (simp only[List.length_append,List.length_drop,List.length_take,List.length_singleton,Nat.add_eq,bg]<;>omega) | fail) only[bk_,cz_,dk_,dl_,dn_,fa_,io_,lb_,nb_,pt_,sl_,so_,tb_,w0_,a1,a2,a3,g0,g1,g2,g4,g5,g7,sG,jI,ht.ren,hr2,BM,Bg,dI,rnB,srB,tbB,dkL,List.cons_append,List.nil_append,List.append_assoc,dJ,aB,dM,lsV,ptV,p0,aW,dkC,aJ,bG,cmV,dA,bQ,aN,dH,dB,dU,dE,dG,dF,cZ,dC,dw,dS,dn,ay,aC,aF,Enc.all_ren,ay rfl,ay h1.symm,aC rfl,aF rfl,aB rfl,h1,aA,bC,aV,a_,aO,ah,aP,bu,Int.toNat_natCast,aQ,aG,bz,bK,b_,bJ,bP,dm,Bool.and_self,aK,aH,ax]
structure PgM where
 ep:Int
 ro:Int
 ac:Int
 ph:Int
 fo:Int
 ba:Int
def pgC(p:PgM):List Value:=[.int .i64 p.ep, .int .u8 p.ro, .int .i64 p.ac, .int .u8 p.ph, .int .i64 p.fo, .int .i64 p.ba]
def pgV(p:PgM):Value:= .agg ⟨pgC p⟩
def pg_(p:PgM):Value:=(Value.agg (Array.mk [(Value.int IntKind.i64 (PgM.ep p)),(Value.int IntKind.u8 (PgM.ro p)),(Value.int IntKind.i64 (PgM.ac p)),(Value.int IntKind.u8 (PgM.ph p)),(Value.int IntKind.i64 (PgM.fo p)),(Value.int IntKind.i64 (PgM.ba p))]))
theorem aae(p:PgM):dD P E ctF 50 au [] [] 0 71 [pgV p] [] =
 (let z:=eqI p.ro 1;let y:=leI p.ep 1048576;let x:=some (io_ 2,af []);let w:=some (io_ 0,af []);let v:=ak (eqI p.fo 0) (ak (fM (eqI p.ba 0)) x w) x;let u:=ak (eqI p.ph 0) v x;let t:=eqI p.ro 2;let s:=eqI p.ac 0;let r:=eqI p.ro 3;let q:=eqI p.ph 2;let o:=ak (geI p.fo 0) (ak (leI p.fo 1048576) (ak (geI p.ba 0) (ak (fM (leI p.ba 1073741824)) x w) x) x) x;
 let n:=eqI p.ph 3;
 (ak (geI p.ep 1) (ak z (ak y (ak (geI p.ac 0) (ak (leI p.ac 1048576) u x) x) x) (ak t (ak y (ak s u x) x) (ak r (ak y (ak s (ak (eqI p.ph 1) v (ak q (ak q o x) (ak n (ak n o x) (ak (eqI p.ph 4) o x)))) x) x) x))) (ak z x (ak t x (ak r x x))))):=by kernel_rfl
def aeB(V:Nat->List UInt8)(C:Int->Bool)(C1:List Value->List Blk->Bool):Ct:=aT P au 0 71 (cu C1 (.leaf (.int .i64 0,[]))) (nO P 50 (kG P 50 (sK V C) ctF))
theorem Y4(V:Nat->List UInt8)(C:Int->Bool)(C1:List Value->List Blk->Bool)(p:PgM):dD P E (aeB V C C1) 80 au [.val, .val] [57,0] 0 87 [pgV p] [] =
 (let z:=cvI .u64 p.ep;let y:=HAppend.hAppend [] (V (Int.toNat z));let x:=y.length;let w:=aZ false (fF 3) (bc y);let v:=takeC (Nat.mul x 1) (bT 0 w);let u:=cvI .u64 (cvI .i64 p.ro);let t:=HAppend.hAppend (List.map byteOf v) (V (Int.toNat u));let s:=t.length;let r:=aZ false (fF 4) (bc t);
 let q:=takeC (Nat.mul s 1) (bT 0 r);let o:=cvI .u64 p.ac;let n:=HAppend.hAppend (List.map byteOf q) (V (Int.toNat o));let m:=n.length;let l:=aZ false (fF 5) (bc n);let k:=takeC (Nat.mul m 1) (bT 0 l);let j:=cvI .u64 (cvI .i64 p.ph);let i:=HAppend.hAppend (List.map byteOf k) (V (Int.toNat j));
 let h:=i.length;let g:=aZ false (fF 6) (bc i);let f:=takeC (Nat.mul h 1) (bT 0 g);let e:=cvI .u64 p.fo;let d:=HAppend.hAppend (List.map byteOf f) (V (Int.toNat e));let c:=d.length;let b:=aZ false (fF 7) (bc d);let a:=takeC (Nat.mul c 1) (bT 0 b);let Z:=cvI .u64 p.ba;let Y:=HAppend.hAppend (List.map byteOf a) (V (Int.toNat Z));
 let X:=Y.length;let W:=aZ false (fF 8) (bc Y);
 (ae (C1 [pg_ p] []) (ae (Bool.and (fw_ 0 []) (C z)) (ae (fq_ x w 5) (ae (Bool.and (fw_ x v) (C u)) (ae (fq_ s r 5) (ae (Bool.and (fw_ s q) (C o)) (ae (fq_ m l 5) (ae (Bool.and (fw_ m k) (C j)) (ae (fq_ h g 5) (ae (Bool.and (fw_ h f) (C e)) (ae (fq_ c b 5) (ae (Bool.and (fw_ c a) (C Z)) (ae (fq_ X W 5) (some (.tuple ⟨[fb_ X 0 (takeC (Nat.mul X 1) (bT 0 W)),io_ 0]⟩,af [])))))))))))))))):=by kernel_rfl
def Gs(p:PgM):Bool:=geI p.ep 1&&leI p.ep 1048576&&(match eqI p.ro 1,eqI p.ro 2,eqI p.ro 3 with
 |true,_,_=>geI p.ac 0&&leI p.ac 1048576&&eqI p.ph 0&&eqI p.fo 0&&eqI p.ba 0
 |false,true,_=>eqI p.ac 0&&eqI p.ph 0&&eqI p.fo 0&&eqI p.ba 0
 |false,false,true=>eqI p.ac 0&&(match eqI p.ph 1,eqI p.ph 2 || eqI p.ph 3 || eqI p.ph 4 with
  |true,_=>eqI p.fo 0&&eqI p.ba 0
  |false,true=>geI p.fo 0&&leI p.fo 1048576&&geI p.ba 0&&leI p.ba 1073741824
  |false,false=>false)
 |false,false,false=>false)
def pgE(p:PgM):Int:=match Gs p with | true=>0 | false=>2
theorem uq(p:PgM):CRX P 0 71 [pgV p] [] (.int .i64 (pgE p)) []:=by
 refine CRX.of (pol:=au) (fl:=[]) (ts:=[]) (n:=50) (bf _) az bn ((aae p).trans ?_);unfold pgE Gs;simp only;cases geI p.ep 1
 ·cases eqI p.ro 1<;>cases eqI p.ro 2<;>cases eqI p.ro 3<;>rfl
 ·cases leI p.ep 1048576
  ·cases eqI p.ro 1<;>cases eqI p.ro 2<;>cases eqI p.ro 3<;>rfl
  ·cases eqI p.ro 1
   ·cases eqI p.ro 2
    ·cases eqI p.ro 3
     ·rfl
     ·cases eqI p.ac 0
      ·rfl
      ·cases eqI p.ph 1
       ·cases geI p.fo 0<;>cases leI p.fo 1048576<;>cases geI p.ba 0<;>cases leI p.ba 1073741824<;>cases eqI p.ph 2<;>cases eqI p.ph 3<;>cases eqI p.ph 4<;>rfl
       ·cases eqI p.fo 0<;>cases eqI p.ba 0<;>rfl
    ·cases eqI p.ac 0<;>cases eqI p.ph 0<;>cases eqI p.fo 0<;>cases eqI p.ba 0<;>rfl
   ·cases geI p.ac 0<;>cases leI p.ac 1048576<;>cases eqI p.ph 0<;>cases eqI p.fo 0<;>cases eqI p.ba 0<;>rfl
def lN(p:PgM):List UInt8:=dP p.ep.toNat++dP p.ro.toNat++dP p.ac.toNat++dP p.ph.toNat++dP p.fo.toNat++dP p.ba.toNat
structure PgR(p:PgM):Prop where
 e:0<=p.ep/\p.ep<=1073741824
 r:0<=p.ro/\p.ro<=255
 a:0<=p.ac/\p.ac<=1073741824
 h:0<=p.ph/\p.ph<=255
 f:0<=p.fo/\p.fo<=1073741824
 b:0<=p.ba/\p.ba<=1073741824
theorem acL{p:PgM}(h:pgE p=0):PgR p:=by
 have h:Gs p=true:=by
  unfold pgE at h;cases hq:Gs p with
  |true=>rfl
  |false=>rw[hq]at h; cases h
 unfold Gs at h;simp only[Bool.and_eq_true,geI,leI,decide_eq_true_eq]at h;obtain⟨⟨h1,h2⟩,h3⟩:=h;split at h3<;>simp only[Bool.and_eq_true,geI,leI,eqI,beq_iff_eq,decide_eq_true_eq,Bool.false_eq_true]at *
 ·exact⟨by omega,by omega,by omega,by omega,by omega,by omega⟩
 ·exact⟨by omega,by omega,by omega,by omega,by omega,by omega⟩
 ·obtain⟨h4,h5⟩:=h3;split at h5<;>simp only[Bool.and_eq_true,Bool.or_eq_true,geI,leI,eqI,beq_iff_eq,decide_eq_true_eq,Bool.false_eq_true]at *
  ·exact⟨by omega,by omega,by omega,by omega,by omega,by omega⟩
  ·exact⟨by omega,by omega,by omega,by omega,by omega,by omega⟩
theorem cvN{x:Int}(h:0<=x/\x<=1073741824):cvI .u64 x=(x.toNat:Int):=by rw[<-Int.toNat_of_nonneg h.1]; exact gY (by omega)
theorem cvS{x:Int}(h:0<=x/\x<=255):cvI .i64 x=x:=by unfold cvI; exact wrap64 (by omega) (by omega)
theorem G9(p:PgM):(lN p).length<=66:=by
 have d1:=eH (n:=p.ep.toNat);have d2:=eH (n:=p.ro.toNat);have d3:=eH (n:=p.ac.toNat);have d4:=eH (n:=p.ph.toNat);have d5:=eH (n:=p.fo.toNat);have d6:=eH (n:=p.ba.toNat);unfold lN;simp only[List.length_append];omega
theorem aas{p:PgM}(h:pgE p=0):CRX P 0 87 [pgV p] [] (.tuple ⟨[aX 1 (lN p).length 0 (bc (lN p)), .int .i64 0]⟩) []:=by
 have q:=uq p;rw[h]at q;obtain⟨r1,r2,r3,r4,r5,r6⟩:=acL h;have d1:=eH (n:=p.ep.toNat);have d2:=eH (n:=p.ro.toNat);have d3:=eH (n:=p.ac.toNat);have d4:=eH (n:=p.ph.toNat);have d5:=eH (n:=p.fo.toNat);have d6:=eH (n:=p.ba.toNat);refine CRX.of (pol:=au) (fl:=[.val, .val]) (ts:=[57,0]) (n:=80) (bf _) az (aj (pol:=au) (mF (g:=50) (ji bn tC)) (bF q)) ((Y4 dP jK (bM _ _) p).trans ?_);have c2:=cvS r2;have c4:=cvS r4;have uu:∀ n:Nat,n<=1073741824->jK (n:Int)=true:=fun n hn=>jk (by omega) (by omega);have u1:=uu p.ep.toNat (by omega);have u2:=uu p.ro.toNat (by omega);have u3:=uu p.ac.toNat (by omega);have u4:=uu p.ph.toNat (by omega);have u5:=uu p.fo.toNat (by omega);have u6:=uu p.ba.toNat (by omega);have z:fzB 18446744073709551617 0 []=true:=by rw[<-fz1]; exact wZ (l:=[]) rfl (by simp)
 simp (disch:=first | omega | (simp only[List.length_append,List.length_drop,List.length_take,List.length_singleton,Nat.add_eq,bg]<;>omega) | fail) only[fb_,fq_,fw_,io_,pg_,c2,c4,cvN r1,cvN (x:=p.ro) ⟨r2.1,by omega⟩,cvN r3,cvN (x:=p.ph) ⟨r4.1,by omega⟩,cvN r5,cvN r6,u1,u2,u3,u4,u5,u6,z,List.nil_append,pgV,pgC,aN,dA,aA,bC,aV,a_,aO,ah,aP,bu,Int.toNat_natCast,aQ,aG,bz,bK,b_,bJ,bP,dm,Bool.and_self,aK,aH,ax]
 rfl
theorem aa3(C:List Value->List Blk->Bool)(r:Int)(d d2:DkM)(cs:List CmM)(es:List Int):dD P E (aT P au 1 90 (cu C (.leaf (.int .i64 r,aW d2))) ctF) 50 au [] [] 2 80 [p0] (dI ⟨okD d,false,cs,es⟩) =
 (let z:=WalM.mk (okD d) false cs es;let y:=z.cs.length;let x:=Enc.all ECm z.cs;let w:=z.es.length;let v:=Enc.all EIn z.es;let u:=bk_ (bH [1] 14) w0_;let t:=ro_ [0,2,21,5,19,2];let s:=dk_ d2 2 3 4 5 6::dl_ (cz_ t u) d2 [lb_ t y 3 x 47,lb_ t w 1 v 3];
 (dn_ w0_ z.dk (ae (C [pt_ 0] (dk_ z.dk 1 2 3 4 5::dl_ (cz_ (ro_ [1,1,9,5]) w0_) z.dk [])) (ak (neI r 0) (nb_ y 3 x (nb_ w 1 v (dn_ u d2 (some (io_ r,af (.cells [pt_ 1, .bool true,sl_ 7 y,sl_ 8 w] 170 true::s)))))) (nb_ y 3 x (nb_ w 1 v (dn_ u d2 (some (io_ r,af (.cells [pt_ 1, .bool z.br,sl_ 7 y,sl_ 8 w] 170 true::s)))))))))):=by kernel_rfl
def Jo(w:WalM):Int×WalM:=((mf w.dk).1,⟨(mf w.dk).2,neI (mf w.dk).1 0,w.cs,w.es⟩)
theorem aaI{w:WalM}(hoff:w.dk.off=false)(hbr:w.br=false)(hd:kSy.ok w.dk):CRX P 2 80 [p0] (dI w) (.int .i64 (Jo w).1) (dI (Jo w).2):=by
 obtain⟨dk,br,cs,es⟩:=w;simp only at hoff hbr hd;subst hbr;have q1:=PL.at (s:=dk) hd rfl;have q:=aa3 (bM [p0] (aW dk)) (mf dk).1 dk (mf dk).2 cs es;rw[FC hoff]at q;refine CRX.of (pol:=au) (fl:=[]) (ts:=[]) (n:=50) (bf _) az (aj (pol:=au) bn (bF q1)) (q.trans ?_);clear q q1;unfold Jo;simp only;generalize mf dk=W;obtain⟨r,d2⟩:=W;simp only[bk_,cz_,dk_,dl_,dn_,io_,lb_,nb_,pt_,sl_,w0_,hoff,dI,dM,lsV,ptV,p0,aW,dkC,aJ,bG,cmV,dA,bQ,aN,dH,dB,dU,dE,dG,dF,cZ,dC,dw,dS,dn,ay,aC,aF,Enc.all_ren,aA,bC,aV,a_,aO,ah,aP,bu,Int.toNat_natCast,aQ,aG,bz,bK,b_,bJ,bP,dm,Bool.and_self,aK,aH,ax,ay rfl,aC rfl,aF rfl];cases neI r 0<;>rfl
structure StaM where
 off:Bool
 pg:PgM
 log:List CmM
 held:Int
 dk:DkM
 wbr:Bool
 wcs:List CmM
 wes:List Int
 rbr:Bool
 rs:List RunM
 tb:TbM
 rest:List CmM
def StaM.wal(s:StaM):WalM:=⟨s.dk,s.wbr,s.wcs,s.wes⟩
def StaM.rn(s:StaM):RnM:=⟨s.dk,s.rbr,s.rs⟩
def StaM.sr(s:StaM):SrM:=⟨s.tb,s.rn,s.rest⟩
def stB(s:StaM):List Blk:=[.cells ([ptV 1, .bool s.off]++pgC s.pg++[lsV 12 s.log.length,ptV 2,ptV 3,ptV 4, .int .i64 s.held]) 128 true, .cells (dM 7 8 9 10 11 s.dk) 86 true,
 .cells [ptV 1, .bool s.wbr,lsV 13 s.wcs.length,lsV 14 s.wes.length] 170 true, .cells [ptV 1, .bool s.rbr,lsV 15 s.rs.length] 168 true, .cells [ptV 5,ptV 3,lsV 16 s.rest.length] 174 true, .cells [.map (some 6)] 98 true, .map s.tb.es s.tb.ck]++dkL s.dk++
 [.cells (ECm.all s.log) 47 false, .cells (ECm.all s.wcs) 47 false, .cells (EIn.all s.wes) 3 false, .cells (eF.all s.rs) 161 false, .cells (ECm.all s.rest) 47 false]
def nl_(W:Nat->Nat->List Value->List Value)(s:StaM)(r:List Blk):List Blk:=dl_ W s.dk (Blk.cells (W s.log.length 3 (ECm.all s.log)) 47 false::Blk.cells (W s.wcs.length 3 (ECm.all s.wcs)) 47 false::Blk.cells (W s.wes.length 1 (EIn.all s.wes)) 3 false::Blk.cells (W s.rs.length 3 (eF.all s.rs)) 161 false::Blk.cells (W s.rest.length 3 (ECm.all s.rest)) 47 false::r)
def nn_(W:Nat->Nat->List Value->List Value)(s:StaM)(x:Res):Res:=dn_ W s.dk (ae (Nat.ble (Nat.add 0 (Nat.mul s.log.length 3)) (W s.log.length 3 (ECm.all s.log)).length) (ae (Nat.ble (Nat.add 0 (Nat.mul s.wcs.length 3)) (W s.wcs.length 3 (ECm.all s.wcs)).length) (ae (Nat.ble (Nat.add 0 (Nat.mul s.wes.length 1)) (W s.wes.length 1 (EIn.all s.wes)).length) (ae (Nat.ble (Nat.add 0 (Nat.mul s.rs.length 3)) (W s.rs.length 3 (eF.all s.rs)).length) (ae (Nat.ble (Nat.add 0 (Nat.mul s.rest.length 3)) (W s.rest.length 3 (ECm.all s.rest)).length) x)))))
def sc_(s:StaM)(a b c e f g:Int)(d l w r t:Nat):Blk:=(.cells [pt_ d, .bool s.off,io_ a, .int .u8 b,io_ c, .int .u8 e,io_ f,io_ g,sl_ l s.log.length,pt_ w,pt_ r,pt_ t,io_ s.held] 128 true)
def sb_(s:StaM)(p:PgM)(d l w r t:Nat):Blk:=(sc_ s p.ep p.ro p.ac p.ph p.fo p.ba d l w r t)
def wb_(s:StaM)(d a b:Nat):Blk:=(.cells [pt_ d, .bool s.wbr,sl_ a s.wcs.length,sl_ b s.wes.length] 170 true)
def rb_(s:StaM)(d a:Nat):Blk:=(.cells [pt_ d, .bool s.rbr,sl_ a s.rs.length] 168 true)
def ns_(s:StaM)(x:Res):Res:=(nb_ s.log.length 3 (Enc.all ECm s.log) (dn_ w0_ s.dk (nb_ s.wcs.length 3 (Enc.all ECm s.wcs) (nb_ s.wes.length 1 (Enc.all EIn s.wes) (nb_ s.rs.length 3 (Enc.all eF s.rs) (nb_ s.rest.length 3 (Enc.all ECm s.rest) x))))))
def nw_(s:StaM)(b:Nat->Option Nat)(x:Res):Res:=(nb_ s.log.length 3 (aZ true b (Enc.all ECm s.log)) (dn_ (bk_ b w0_) s.dk (nb_ s.wcs.length 3 (aZ true b (Enc.all ECm s.wcs)) (nb_ s.wes.length 1 (aZ true b (Enc.all EIn s.wes)) (nb_ s.rs.length 3 (aZ true b (Enc.all eF s.rs)) (nb_ s.rest.length 3 (aZ true b (Enc.all ECm s.rest)) x))))))
def sm_(s:StaM)(f:Nat->Option Nat):List Blk:=(sb_ s s.pg 1 12 2 3 4::dk_ s.dk 7 8 9 10 11::wb_ s 1 13 14::rb_ s 1 15::so_ 5 3 16 s.rest.length::tb_ 6:: .map (bD true f s.tb.es) s.tb.ck::nl_ (cz_ f w0_) s [])
def sw_(s:StaM)(f b:Nat->Option Nat):List Blk:=(sb_ s s.pg 1 12 2 3 4::dk_ s.dk 7 8 9 10 11::wb_ s 1 13 14::rb_ s 1 15::so_ 5 3 16 s.rest.length::tb_ 6:: .map (bD true f (bD true b s.tb.es)) s.tb.ck::nl_ (cz_ f (bk_ b w0_)) s [])
def Da1:HeadX:=⟨7,114,[0,1,4,62,63,64],[.val, .val, .val, .val, .val, .val],[],au⟩
def Ba1:Code:=(dR P 38 0).getD .skip
theorem RV:dR P 38 0=some Ba1:=by kernel_rfl
theorem Om:Occ P 38 (.block 0 (.loop Ba1)):=fA RV
def Da2:HeadX:=⟨7,114,[0,4,90,91,92],[.val, .val, .val, .val, .val],[],au⟩
def Ba2:Code:=(dR P 38 2).getD .skip
theorem TS:dR P 38 2=some Ba2:=by kernel_rfl
theorem OU:Occ P 38 (.block 2 (.loop Ba2)):=fA TS
def V4(C:List Value->List Blk->Bool)(r:Int)(w:WalM):Ct:=aT P au 2 79 (cu C (.leaf (.int .i64 r,dI w))) ctF
theorem Uw(C:List Value->List Blk->Bool)(r:Int)(w:WalM)(s:StaM)(l' l:List CmM)(z i:Int):bV P E (V4 C r w) 50 38 Ba1 Da1 [p0,bG l', .int .i64 0,bG l, .int .i64 z, .int .i64 i] (stB s) =
 (let y:=atN i 3;let x:=Enc.all ECm l;let v:=Eta.int .i64;let u:=s.wcs.length;let t:=Enc.all ECm s.wcs;let q:=s.wes.length;let p:=Enc.all EIn s.wes;let o:=pt_ 0;let n:=Nat.add y 1;let m:=aU x (Nat.add n 1);let k:=ro_ [2,1,1,1,29,5,27,2];let j:=s.log.length;let h:=Enc.all ECm s.log;
 let g:=bH [2,1] 34;let f:=bk_ g w0_;let e:=w.dk;let d:=w.cs.length;let c:=aZ true g (Enc.all ECm w.cs);let b:=w.es.length;let a:=aZ true g (Enc.all EIn w.es);let Z:=s.rs.length;let Y:=Enc.all eF s.rs;let X:=s.rest.length;let W:=Enc.all ECm s.rest;let V:=fa_ (List.length l') 0 (Enc.all ECm l');
 let U:=fa_ l.length 0 x;let T:=io_ z;let S:=Value.tuple ⟨[io_ (-1),o,V,io_ r,U,T,io_ i]⟩;let R:=pt_ 1;let Q:=s.pg;let O:=Value.int .u8 Q.ro;let N:=Value.int .u8 Q.ph;let M:=io_ s.held;let L:=ro_ [0,7,42,5,41,1,47,4];let K:=dk_ e 7 8 9 10 11::Blk.cells [R, .bool w.br,sl_ 13 d,sl_ 14 b] 170 true::rb_ s 1 15::so_ 5 3 16 X::tb_ 6::Blk.map (bD true L s.tb.es) s.tb.ck::dl_ (cz_ L f) e [lb_ L j 3 h 47,lb_ L d 3 c 47,lb_ L b 1 a 3,lb_ L Z 3 Y 161,lb_ L X 3 W 47];
 let J:=af (.cells [R, .bool true,io_ Q.ep,O,io_ Q.ac,N,io_ Q.fo,io_ Q.ba,sl_ 12 j,pt_ 2,pt_ 3,pt_ 4,M] 128 true::K);let I:=io_ 0;let H:=Value.tuple ⟨[I,o,V,I,U,T,io_ (dO .i64 i 1)]⟩;let G:=af (.cells [R, .bool (eqI r 6),io_ Q.ep,O,io_ Q.ac,N,io_ Q.fo,io_ Q.ba,sl_ 12 j,pt_ 2,pt_ 3,pt_ 4,M] 128 true::K);
 (ak (ltI i z) (ae (Bool.and (Nat.beq 3 3) (inI i l.length)) (ae (Bool.and (Nat.ble (Nat.add y 3) x.length) (iq [v,v, .slice 3] x y)) (nb_ u 3 t (nb_ q 1 p (dn_ w0_ s.dk (ae (C [o, .agg ⟨[io_ (asI (aU x y)),io_ (asI (aU x n)),fa_ (zN m) (zB m) (zC m)]⟩] (wb_ s 1 7 8::dk_ s.dk 2 3 4 5 6::dl_ (cz_ k w0_) s.dk [lb_ k u 3 t 47,lb_ k q 1 p 3])) (ak s.off (ak (neI r 0) (nb_ j 3 h (dn_ f e (nb_ d 3 c (nb_ b 1 a (nb_ Z 3 Y (nb_ X 3 W (some (S,J)))))))) (nb_ j 3 h (dn_ f e (nb_ d 3 c (nb_ b 1 a (nb_ Z 3 Y (nb_ X 3 W (some (H,J))))))))) (ak (neI r 0) (nb_ j 3 h (dn_ f e (nb_ d 3 c (nb_ b 1 a (nb_ Z 3 Y (nb_ X 3 W (some (S,G)))))))) (nb_ j 3 h (dn_ f e (nb_ d 3 c (nb_ b 1 a (nb_ Z 3 Y (nb_ X 3 W (some (H,G)))))))))))))))) (ns_ s (some (.tuple ⟨[io_ 1,o,V,I,U,T,io_ i]⟩,af (sm_ s (ro_ [0,7,18,5,17,1,23,4]))))))):=by kernel_rfl
def Xu(C1 C2:List Value->List Blk->Bool)(c:CmM)(s:SrM):Ct:=aT P au 0 81 (cu C1 (.leaf (cmV c,[]))) (aT P au 5 82 (cu C2 (.leaf (.int .i64 0,srB s))) ctF)
theorem TT(C1 C2:List Value->List Blk->Bool)(c:CmM)(sr:SrM)(s:StaM)(l:List CmM)(z i:Int):bV P E (Xu C1 C2 c sr) 50 38 Ba2 Da2 [p0, .int .i64 0,bG l, .int .i64 z, .int .i64 i] (stB s) =
 (let y:=atN i 3;let x:=Enc.all ECm l;let w:=Eta.int .i64;let v:=Nat.add y 1;let u:=aU x (Nat.add v 1);let t:=Value.agg ⟨[io_ (asI (aU x y)),io_ (asI (aU x v)),fa_ (zN u) (zB u) (zC u)]⟩;let r:=s.log.length;let q:=Nat.add r 1;let p:=Enc.all ECm s.log;let o:=s.rest.length;let n:=Enc.all ECm s.rest;
 let m:=s.rs.length;let k:=Enc.all eF s.rs;let j:=pt_ 0;let h:=bY 0 [4,5,6,3,1,39,40,41,42,43,38,37];let g:=List.append (jR 0 p) [io_ c.e,io_ c.n,fa_ c.ops.length 0 (Enc.all EOp c.ops)];let f:=bH [4,5,6,3,1] 44;let e:=bk_ f w0_;let d:=sr.rn.dk;let b:=s.wcs.length;let a:=Enc.all ECm s.wcs;
 let Z:=s.wes.length;let Y:=Enc.all EIn s.wes;let X:=sr.rn.rs.length;let W:=aZ true f (Enc.all eF sr.rn.rs);let V:=sr.rest.length;let U:=aZ true f (Enc.all ECm sr.rest);let T:=io_ 0;let S:=fa_ l.length 0 x;let R:=s.pg;let Q:=ro_ [0,7,52,5,51,1,57,4];
 (ak (ltI i z) (ae (Bool.and (Nat.beq 3 3) (inI i l.length)) (ae (Bool.and (Nat.ble (Nat.add y 3) x.length) (iq [w,w, .slice 3] x y)) (ae (C1 [t] []) (ae (Nat.ble q 4194304) (ae (Nat.beq (Nat.add 0 (Nat.mul r 3)) p.length) (ae (bU (sl_ 12 r) (sl_ 12 r)) (nb_ o 3 n (nb_ m 3 k (dn_ w0_ s.dk (ae (C2 [j,t] (so_ 1 3 11 o::tb_ 2:: .map (bD true h s.tb.es) s.tb.ck::rb_ s 4 10::dk_ s.dk 5 6 7 8 9::dl_ (cz_ h w0_) s.dk [lb_ h m 3 k 161,lb_ h o 3 n 47])) (nb_ q 3 g (dn_ e d (nb_ b 3 a (nb_ Z 1 Y (nb_ X 3 W (nb_ V 3 U (some (.tuple ⟨[T,j,T,S,io_ z,io_ (dO .i64 i 1)]⟩,af (.cells [pt_ 1, .bool s.off,io_ R.ep, .int .u8 R.ro,io_ R.ac, .int .u8 R.ph,io_ R.fo,io_ R.ba,sl_ 12 q,pt_ 2,pt_ 3,pt_ 4,io_ s.held] 128 true::dk_ d 7 8 9 10 11::wb_ s 1 13 14:: .cells [pt_ 1, .bool sr.rn.br,sl_ 15 X] 168 true::so_ 5 3 16 V::tb_ 6:: .map (bD true Q (bD true f sr.tb.es)) sr.tb.ck::dl_ (cz_ Q e) d [lb_ Q q 3 g 47,lb_ Q b 3 a 47,lb_ Q Z 1 Y 3,lb_ Q X 3 W 161,lb_ Q V 3 U 47]))))))))))))))))))) (ns_ s (some (.tuple ⟨[io_ 3,j,T,S,io_ z,io_ i]⟩,af (sm_ s (ro_ [0,7,18,5,17,1,23,4]))))))):=by kernel_rfl
def StaM.setW(s:StaM)(w:WalM):StaM:={ s with dk:=w.dk,wbr:=w.br,wcs:=w.cs,wes:=w.es }
theorem zF(n b:Nat)(c:List Value):zN (.iface 18446744073709551619 (.agg ⟨.slice none n b::c⟩))=n/\zB (.iface 18446744073709551619 (.agg ⟨.slice none n b::c⟩))=b/\zC (.iface 18446744073709551619 (.agg ⟨.slice none n b::c⟩))=c:=by
 rw[<-bQ];exact⟨Be (by decide),Yj (by decide),IQ (by decide)⟩
theorem iG{n i k:Nat}(h:i<n)(hk:k<=3):Nat.ble (Nat.add (atN (i:Int) 3) k) (Nat.mul n 3)=true:=Nat.ble_eq_true_of_le (by
 show(i:Int).toNat*3+k<=n*3;have:(i:Int).toNat=i:=by omega
 omega)
theorem iM{n i:Nat}(h:i<n)(hn:n<4194304):ltI (i:Int) (ag n)=true/\inI (i:Int) n=true/\dO .i64 (i:Int) 1=((i+1:Nat):Int):=
 ⟨by unfold ltI ag; exact decide_eq_true (by omega),jk (by omega) (by omega),by unfold dO; rw[wrap64 (by omega) (by omega)]; omega⟩
theorem kJ(n:Nat):ltI (n:Int) (ag n)=false:=by unfold ltI ag; exact decide_eq_false (by omega)
def a1V(l' l:List CmM)(r i:Int):List Value:=[p0,bG l', .int .i64 r,bG l, .int .i64 (ag l.length), .int .i64 i]
theorem Wu{s:StaM}(hs:s.off=false)(ht:fJ s.tb){l' l:List CmM}{i:Nat}(hi:i<l.length)(hl:l.length<4194304){r:Int}{w:WalM}(h:CRX P 2 79 [p0,cmV l[i]] (dI s.wal) (.int .i64 r) (dI w)) :
  bV P E (V4 (bM [p0,cmV l[i]] (dI s.wal)) r w) 50 38 Ba1 Da1 (a1V l' l 0 i) (stB s)=match eqI r 0 with
   |true=>some (.tuple ⟨exV .normal::a1V l' l 0 ((i+1:Nat):Int)⟩,af (stB (s.setW w)))
   |false=>some (.tuple ⟨exV .ret::a1V l' l r i⟩,af (stB { s.setW w with off:=eqI r 6 })):=by
 obtain⟨g1,g2,a1⟩:=iM hi hl;have g4:=rJ hi;unfold a1V;rw[Uw];simp only[bk_,cz_,dk_,dl_,dn_,fa_,io_,lb_,nb_,nl_,ns_,pt_,rb_,sb_,sc_,sl_,sm_,so_,tb_,w0_,wb_,hs,ht.ren,g1,g2,a1,g4,iG hi (Nat.le_refl 3),pI hi,Az hi,xP hi,jI,(zF _ _ _).1,(zF _ _ _).2.1,(zF _ _ _).2.2,StaM.wal,stB,pgC,dI,rnB,srB,tbB,dkL,List.cons_append,List.nil_append,List.append_assoc,dJ,aB,dM,lsV,ptV,p0,aW,dkC,aJ,bG,cmV,dA,bQ,aN,dH,dB,dU,dE,dG,dF,cZ,dC,dw,dS,dn,ay,aC,aF,Enc.all_ren,ay rfl,aC rfl,aF rfl,aB rfl,aA,bC,aV,a_,aO,ah,aP,bu,Int.toNat_natCast,aQ,aG,bz,bK,b_,bJ,bP,dm,Bool.and_self,aK,aH,ax];cases hr:eqI r 0 with
 |true=>
  have hn:neI r 0=false:=by unfold neI; unfold eqI at hr; simpa using hr
  have h6:eqI r 6=false:=by
   unfold eqI at hr ⊢;have:r=0:=by simpa using hr
   subst this; rfl
  simp only[bk_,cz_,dk_,dl_,dn_,fa_,io_,lb_,nb_,nl_,ns_,pt_,rb_,sb_,sc_,sl_,sm_,so_,tb_,w0_,wb_,hn,h6,aH,StaM.setW,hs,dI,rnB,srB,tbB,dkL,List.cons_append,List.nil_append,List.append_assoc,dJ,aB,dM,lsV,ptV,p0,aW,dkC,aJ,bG,cmV,dA,bQ,aN,dH,dB,dU,dE,dG,dF,cZ,dC,dw,dS,dn,ay,aC,aF,Enc.all_ren]
  rfl
 |false=>
  have hn:neI r 0=true:=by unfold neI; unfold eqI at hr; simpa using hr
  simp only[bk_,cz_,dk_,dl_,dn_,fa_,io_,lb_,nb_,nl_,ns_,pt_,rb_,sb_,sc_,sl_,sm_,so_,tb_,w0_,wb_,hn,aK,StaM.setW,dI,rnB,srB,tbB,dkL,List.cons_append,List.nil_append,List.append_assoc,dJ,aB,dM,lsV,ptV,p0,aW,dkC,aJ,bG,cmV,dA,bQ,aN,dH,dB,dU,dE,dG,dF,cZ,dC,dw,dS,dn,ay,aC,aF,Enc.all_ren]
  rfl
theorem acv{C:List Value->List Blk->Bool}{r:Int}{w:WalM}{s:StaM}(ht:fJ s.tb){l' l:List CmM}:bV P E (V4 C r w) 50 38 Ba1 Da1 (a1V l' l 0 l.length) (stB s)=some (.tuple ⟨exV (.exit 0)::a1V l' l 0 l.length⟩,af (stB s)):=by
 unfold a1V;rw[Uw];simp only[bk_,cz_,dk_,dl_,dn_,fa_,io_,lb_,nb_,nl_,ns_,pt_,rb_,sb_,sc_,sl_,sm_,so_,tb_,w0_,wb_,kJ,ht.ren,stB,pgC,dI,rnB,srB,tbB,dkL,List.cons_append,List.nil_append,List.append_assoc,dJ,aB,dM,lsV,ptV,p0,aW,dkC,aJ,bG,cmV,dA,bQ,aN,dH,dB,dU,dE,dG,dF,cZ,dC,dw,dS,dn,ay,aC,aF,Enc.all_ren,ay rfl,aC rfl,aF rfl,aB rfl,aA,bC,aV,a_,aO,ah,aP,bu,Int.toNat_natCast,aQ,aG,bz,bK,b_,bJ,bP,dm,Bool.and_self,aK,aH,ax]
 rfl
def a2V(l:List CmM)(i:Int):List Value:=[p0, .int .i64 0,bG l, .int .i64 (ag l.length), .int .i64 i]
def StaM.add1(s:StaM)(sr:SrM)(c:CmM):StaM:={ s with log:=s.log++[c],dk:=sr.rn.dk,rbr:=sr.rn.br,rs:=sr.rn.rs,tb:=sr.tb,rest:=sr.rest }
theorem Wi{s:StaM}(ht:fJ s.tb){l:List CmM}{i:Nat}(hi:i<l.length)(hl:l.length<4194304)(hg:s.log.length<4194300){sr:SrM}(hts:fJ sr.tb) :
  bV P E (Xu (bM [cmV l[i]] []) (bM [p0,cmV l[i]] (srB s.sr)) l[i] sr) 50 38 Ba2 Da2 (a2V l i) (stB s)=some (.tuple ⟨exV .normal::a2V l ((i+1:Nat):Int)⟩,af (stB (s.add1 sr l[i]))):=by
 obtain⟨g1,g2,a1⟩:=iM hi hl;have g4:=rJ hi;have h1:(s.log++[l[i]]).length=Nat.add s.log.length 1:=by simp
 unfold a2V;rw[TT];simp (disch:=first | omega | (simp only[List.length_append,List.length_drop,List.length_take,List.length_singleton,Nat.add_eq,bg]<;>omega) | fail) only[bk_,cz_,dk_,dl_,dn_,fa_,io_,lb_,nb_,nl_,ns_,pt_,rb_,sb_,sc_,sl_,sm_,so_,tb_,w0_,wb_,ht.ren,hts.ren,g1,g2,a1,g4,iG hi (Nat.le_refl 3),pI hi,Az hi,xP hi,jI,(zF _ _ _).1,(zF _ _ _).2.1,(zF _ _ _).2.2,StaM.sr,StaM.rn,StaM.add1,stB,pgC,h1,Bg,dI,rnB,srB,tbB,dkL,List.cons_append,List.nil_append,List.append_assoc,dJ,aB,dM,lsV,ptV,p0,aW,dkC,aJ,bG,cmV,dA,bQ,aN,dH,dB,dU,dE,dG,dF,cZ,dC,dw,dS,dn,ay,aC,aF,Enc.all_ren,ay rfl,ay h1.symm,aC rfl,aF rfl,aB rfl,aA,bC,aV,a_,aO,ah,aP,bu,Int.toNat_natCast,aQ,aG,bz,bK,b_,bJ,bP,dm,Bool.and_self,aK,aH,ax]
 rfl
theorem acf{C1 C2:List Value->List Blk->Bool}{c:CmM}{sr:SrM}{s:StaM}(ht:fJ s.tb){l:List CmM}:bV P E (Xu C1 C2 c sr) 50 38 Ba2 Da2 (a2V l l.length) (stB s)=some (.tuple ⟨exV (.exit 2)::a2V l l.length⟩,af (stB s)):=by
 unfold a2V;rw[TT];simp only[bk_,cz_,dk_,dl_,dn_,fa_,io_,lb_,nb_,nl_,ns_,pt_,rb_,sb_,sc_,sl_,sm_,so_,tb_,w0_,wb_,kJ,ht.ren,stB,pgC,dI,rnB,srB,tbB,dkL,List.cons_append,List.nil_append,List.append_assoc,dJ,aB,dM,lsV,ptV,p0,aW,dkC,aJ,bG,cmV,dA,bQ,aN,dH,dB,dU,dE,dG,dF,cZ,dC,dw,dS,dn,ay,aC,aF,Enc.all_ren,ay rfl,aC rfl,aF rfl,aB rfl,aA,bC,aV,a_,aO,ah,aP,bu,Int.toNat_natCast,aQ,aG,bz,bK,b_,bJ,bP,dm,Bool.and_self,aK,aH,ax]
 rfl
theorem abm(s:StaM)(p:PgM)(en ep ru:Int):dD P E ctF 50 au [] [] 7 76 [p0,pgV p, .int .i64 en, .int .i64 ep, .int .i64 ru] (stB s) =
 (let z:=eqI p.ro 3;let y:=leI p.ac en;let x:=eqI p.ph 4;let w:=ltI ep p.ep;let v:=af (sm_ s (ro_ [0,7,42,5,41,1,47,4]));let u:=Value.bool false;let t:=ns_ s (some (u,v));let r:=ak (leI ru p.fo) (ak (leI p.fo en) (ns_ s (some (.bool (leI p.ba s.held),v))) t) t;let q:=ak (eqI p.fo en) r t;
 let o:=eqI p.ph 2;let n:=ak w r t;let m:=af (sm_ s (ro_ [0,7,19,5,18,1,24,4]));let l:=ns_ s (some (.bool w,m));let k:=eqI p.ph 3;let j:=ns_ s (some (u,m));let i:=ak x t (ak o (ak o t j) (ak k t j));let h:=ak y r t;let g:=ns_ s (some (.bool y,m));let f:=ak z i i;
 (ak (leI ru en) (ak (leI ep p.ep) (ak z (ak y (ak x (ak w q t) (ak o (ak o n l) (ak k n l))) i) (ak x (ak y q t) (ak o (ak o h g) (ak k h g)))) f) f)):=by kernel_rfl
def okS(s:StaM):StaM:={ s with off:=false,dk:=okD s.dk }
def aeo(C0 C1 C2 C3 C4 C5 C6:List Value->List Blk->Bool)(e ru r i1 i2:Int)(s s1 s2:StaM)(w:WalM)(l:List CmM):Ct:=
 (aT P au 0 74 (cu C1 (.leaf (Xd (0,0),[]))) (aT P au 2 77 (cu C2 (.leaf (.int .i64 ru,rnB s.rn)))
 (aT P au 7 76 (cu C3 (.leaf (.bool true,stB s))) (eY P 38 0 Da1 (gX C4 (.leaf (.normal,a1V l l 0 i1,stB s1))) (aT P au 2 80 (cu C5 (.leaf (.int .i64 r,dI w))) (eY P 38 2 Da2 (gX C6 (.leaf (.normal,a2V l i2,stB s2))) ctF))))))
theorem aaZ(C0 C1 C2 C3 C4 C5 C6:List Value->List Blk->Bool)(e ru r i1 i2:Int)(s s1 s2:StaM)(w:WalM)(l:List CmM):dD P E (aeo C0 C1 C2 C3 C4 C5 C6 e ru r i1 i2 (okS s) s1 s2 w l) 50 au [] [] 7 38 [p0,bG l] (stB (okS s)) =
 (let z:=okS s;let y:=z.log.length;let x:=ag y;let v:=io_ 0;let u:=io_ x;let t:=l.length;let q:=Enc.all ECm l;let p:=fa_ t 0 q;let o:=bU (sl_ 12 y) (sl_ 12 y);let n:=bU u u;let m:=ag t;let k:=fH .i64 m 1;let j:=Bool.and (Nat.beq 3 3) (inI k t);let i:=Nat.add (atN k 3) 0;let h:=Eta.int .i64;
 let g:=Bool.and (Nat.ble (Nat.add i 1) q.length) (eu h (aU q i));let f:=z.rs.length;let d:=Enc.all eF z.rs;let c:=pt_ 0;let b:=rb_ z 1 7;let a:=dk_ z.dk 2 3 4 5 6;let Z:=bY 0 [3,1,56,57,58,59,60,55];let Y:=Enc.all ECm z.log;let X:=bH [3,1] 61;let W:=bk_ X w0_;let V:=z.rn.dk;
 let U:=z.wcs.length;let T:=Enc.all ECm z.wcs;let S:=z.wes.length;let R:=Enc.all EIn z.wes;let Q:=z.rn.rs.length;let O:=Enc.all eF z.rn.rs;let N:=aZ true X O;let M:=z.rest.length;let L:=Enc.all ECm z.rest;let K:=pg_ z.pg;let J:=io_ (asI (aU q i));let I:=[c,K,io_ (dO .i64 x m),J,io_ ru];
 let H:=sb_ z z.pg 1 12 2 3 4;let G:=dk_ V 7 8 9 10 11;let F:=wb_ z 1 13 14;let D:=pt_ 1;let C:=Blk.cells [D, .bool z.rn.br,sl_ 15 Q] 168 true;let B:=so_ 5 3 16 M;let A:=tb_ 6;let z0:=ro_ [0,7,68,5,67,1,73,4];let y0:=io_ m;let x0:=bU y0 y0;let w0:=rg_ [0,7];let v0:=bH w0 77;let u0:=[c,p,v,p,y0,v];
 let t0:=s1.wcs.length;let s0:=bH w0 97;let r0:=Enc.all ECm s1.wcs;let q0:=aZ true s0 r0;let o0:=s1.wes.length;let n0:=Enc.all EIn s1.wes;let m0:=aZ true s0 n0;let l0:=bk_ s0 w0_;let k0:=s1.dk;let j0:=wb_ s1 1 7 8;let i0:=dk_ k0 2 3 4 5 6;let h0:=ro_ [2,1,1,1,109,5,107,2];let g0:=neI r 0;
 let f0:=s1.log.length;let e0:=Enc.all ECm s1.log;let d0:=aZ true s0 e0;let c0:=bH [2,1] 114;let b0:=bk_ c0 w0_;let a0:=w.dk;let Z0:=w.cs.length;let Y0:=Enc.all ECm w.cs;let X0:=aZ true c0 Y0;let W0:=w.es.length;let V0:=Enc.all EIn w.es;let U0:=aZ true c0 V0;let T0:=s1.rs.length;
 let S0:=Enc.all eF s1.rs;let R0:=aZ true s0 S0;let Q0:=s1.rest.length;let P0:=Enc.all ECm s1.rest;let O0:=aZ true s0 P0;let N0:=io_ r;let M0:=s1.pg;let L0:=io_ M0.ep;let K0:=Value.int .u8 M0.ro;let J0:=io_ M0.ac;let I0:=Value.int .u8 M0.ph;let H0:=io_ M0.fo;let G0:=io_ M0.ba;let F0:=sl_ 12 f0;
 let E0:=io_ s1.held;let D0:=Blk.cells [D, .bool true,L0,K0,J0,I0,H0,G0,F0,pt_ 2,pt_ 3,pt_ 4,E0] 128 true;let B0:=dk_ a0 7 8 9 10 11;let A0:=Blk.cells [D, .bool w.br,sl_ 13 Z0,sl_ 14 W0] 170 true;let z1:=rb_ s1 1 15;let y1:=so_ 5 3 16 Q0;let x1:=ro_ [0,7,122,5,121,1,127,4];let w1:=B0::A0::z1::y1::A::Blk.map (bD true x1 (bD true s0 s1.tb.es)) s1.tb.ck::dl_ (cz_ x1 b0) a0 [lb_ x1 f0 3 d0 47,lb_ x1 Z0 3 X0 47,lb_ x1 W0 1 U0 3,lb_ x1 T0 3 R0 161,lb_ x1 Q0 3 O0 47];
 let v1:=[c,v,p,y0,v];let u1:=bH w0 131;let t1:=nw_ s2 u1 (some (v,af (sw_ s2 (ro_ [0,7,142,5,141,1,147,4]) u1)));let r1:=Blk.cells [D, .bool (eqI r 6),L0,K0,J0,I0,H0,G0,F0,pt_ 2,pt_ 3,pt_ 4,E0] 128 true;let q1:=fH .i64 x 1;let p1:=Nat.add 0 (atN q1 3);let o1:=aU Y p1;
 let n1:=bY 0 [3,1,70,71,72,73,74,69];let m1:=bH [3,1] 75;let l1:=bk_ m1 w0_;let k1:=aZ true m1 O;let j1:=ro_ [0,7,82,5,81,1,87,4];let h1:=bH w0 91;let g1:=bH w0 111;let f1:=aZ true g1 r0;let e1:=aZ true g1 n0;let d1:=bk_ g1 w0_;let c1:=ro_ [2,1,1,1,123,5,121,2];
 let b1:=aZ true g1 e0;let a1:=bH [2,1] 128;let Z1:=bk_ a1 w0_;let Y1:=aZ true a1 Y0;let X1:=aZ true a1 V0;let W1:=aZ true g1 S0;let V1:=aZ true g1 P0;let U1:=ro_ [0,7,136,5,135,1,141,4];let T1:=B0::A0::z1::y1::A::Blk.map (bD true U1 (bD true g1 s1.tb.es)) s1.tb.ck::dl_ (cz_ U1 Z1) a0 [lb_ U1 f0 3 b1 47,lb_ U1 Z0 3 Y1 47,lb_ U1 W0 1 X1 3,lb_ U1 T0 3 W1 161,lb_ U1 Q0 3 V1 47];
 let S1:=bH w0 145;let R1:=nw_ s2 S1 (some (v,af (sw_ s2 (ro_ [0,7,156,5,155,1,161,4]) S1)));
 (ak (eqI x 0) (ae (C1 [v,u,p] []) (ae o (ae n (ak (eqI m 0) (ns_ z (some (v,af (sm_ z (ro_ [0,7,29,5,28,1,34,4]))))) (ae j (ae g (nb_ f 3 d (dn_ w0_ z.dk (ae (C2 [c] (b::a::dl_ (cz_ Z w0_) z.dk [lb_ Z f 3 d 161])) (nb_ y 3 Y (dn_ W V (nb_ U 3 T (nb_ S 1 R (nb_ Q 3 N (nb_ M 3 L (ae (C3 I (H::G::F::C::B::A:: .map (bD true z0 z.tb.es) z.tb.ck::dl_ (cz_ z0 W) V [lb_ z0 y 3 Y 47,lb_ z0 U 3 T 47,lb_ z0 S 1 R 3,lb_ z0 Q 3 N 161,lb_ z0 M 3 L 47])) (ae (bU K K) (ae o (ae n (ae x0 (ae x0 (ae g (ae (bU J J) (nw_ z v0 (ae (C4 u0 (sw_ z (ro_ [0,7,88,5,87,1,93,4]) v0)) (nb_ t0 3 q0 (nb_ o0 1 m0 (dn_ l0 k0 (ae (C5 [c] (j0::i0::dl_ (cz_ h0 l0) k0 [lb_ h0 t0 3 q0 47,lb_ h0 o0 1 m0 3])) (ak s1.off (ak g0 (nb_ f0 3 d0 (dn_ b0 a0 (nb_ Z0 3 X0 (nb_ W0 1 U0 (nb_ T0 3 R0 (nb_ Q0 3 O0 (some (N0,af (D0::w1))))))))) (nb_ f0 3 d0 (dn_ b0 a0 (nb_ Z0 3 X0 (nb_ W0 1 U0 (nb_ T0 3 R0 (nb_ Q0 3 O0 (ae (C6 v1 (D0::w1)) t1)))))))) (ak g0 (nb_ f0 3 d0 (dn_ b0 a0 (nb_ Z0 3 X0 (nb_ W0 1 U0 (nb_ T0 3 R0 (nb_ Q0 3 O0 (some (N0,af (r1::w1))))))))) (nb_ f0 3 d0 (dn_ b0 a0 (nb_ Z0 3 X0 (nb_ W0 1 U0 (nb_ T0 3 R0 (nb_ Q0 3 O0 (ae (C6 v1 (r1::w1)) t1)))))))))))))))))))))))))))))))))))))) (ae (inI q1 y) (ae (Bool.and (Nat.ble (Nat.add p1 1) Y.length) (eu h o1)) (ae (C1 [io_ (asI o1),u,p] []) (ae o (ae n (ak (eqI m 0) (ns_ z (some (v,af (sm_ z (ro_ [0,7,43,5,42,1,48,4]))))) (ae j (ae g (nb_ f 3 d (dn_ w0_ z.dk (ae (C2 [c] (b::a::dl_ (cz_ n1 w0_) z.dk [lb_ n1 f 3 d 161])) (nb_ y 3 Y (dn_ l1 V (nb_ U 3 T (nb_ S 1 R (nb_ Q 3 k1 (nb_ M 3 L (ae (C3 I (H::G::F::C::B::A:: .map (bD true j1 z.tb.es) z.tb.ck::dl_ (cz_ j1 l1) V [lb_ j1 y 3 Y 47,lb_ j1 U 3 T 47,lb_ j1 S 1 R 3,lb_ j1 Q 3 k1 161,lb_ j1 M 3 L 47])) (ae (bU K K) (ae o (ae n (ae x0 (ae x0 (ae g (ae (bU J J) (nw_ z h1 (ae (C4 u0 (sw_ z (ro_ [0,7,102,5,101,1,107,4]) h1)) (nb_ t0 3 f1 (nb_ o0 1 e1 (dn_ d1 k0 (ae (C5 [c] (j0::i0::dl_ (cz_ c1 d1) k0 [lb_ c1 t0 3 f1 47,lb_ c1 o0 1 e1 3])) (ak s1.off (ak g0 (nb_ f0 3 b1 (dn_ Z1 a0 (nb_ Z0 3 Y1 (nb_ W0 1 X1 (nb_ T0 3 W1 (nb_ Q0 3 V1 (some (N0,af (D0::T1))))))))) (nb_ f0 3 b1 (dn_ Z1 a0 (nb_ Z0 3 Y1 (nb_ W0 1 X1 (nb_ T0 3 W1 (nb_ Q0 3 V1 (ae (C6 v1 (D0::T1)) R1)))))))) (ak g0 (nb_ f0 3 b1 (dn_ Z1 a0 (nb_ Z0 3 Y1 (nb_ W0 1 X1 (nb_ T0 3 W1 (nb_ Q0 3 V1 (some (N0,af (r1::T1))))))))) (nb_ f0 3 b1 (dn_ Z1 a0 (nb_ Z0 3 Y1 (nb_ W0 1 X1 (nb_ T0 3 W1 (nb_ Q0 3 V1 (ae (C6 v1 (r1::T1)) R1)))))))))))))))))))))))))))))))))))))))))):=by kernel_rfl
def pnd(f:Int)(cs:List (List UInt8)):List StM:=cs.map fun b=>⟨0,f,b,0⟩
theorem Z5(f:Int)(a b:List (List UInt8)):pnd f (a++b)=pnd f a++pnd f b:=List.map_append
theorem GR(f:Int)(a:List (List UInt8)):(pnd f a).length=a.length:=List.length_map ..
theorem UO{m:DkM}(hf:m.fused=false):kL m=some { m with steps:=m.steps+1 }:=by unfold kL; rw[hf]
theorem Jl(f:Int):∀ (k:Nat) (m:DkM) (b:List UInt8),b.length<=64*k->m.fused=false->∃ cs:List (List UInt8),cs.flatten=b/\cs.length<=k/\wrM k m f b=({ m with steps:=m.steps+(cs.length:Int),pend:=m.pend++pnd f cs },[],true)
 |0,m,b,hl,hf=>by
  obtain rfl:b=[]:=List.length_eq_zero_iff.1 (by omega);exact⟨[],rfl,Nat.le_refl _,by simp[wrM,pnd]⟩
 |k+1,m,b,hl,hf=>by
  cases b with
  |nil=>exact⟨[],rfl,Nat.zero_le _,by simp[wrM,pnd]⟩
  |cons x t=>
   have hb:kL m=some { m with steps:=m.steps+1 }:=by unfold kL; rw[hf]
   obtain⟨cs,h1,h2,h3⟩:=Jl f k { m with steps:=m.steps+1,pend:=m.pend++[stW f (x::t)] } ((x::t).drop 64) (by rw[List.length_drop]; omega) hf;refine⟨(x::t).take 64::cs,by rw[List.flatten_cons,h1,List.take_append_drop],by simpa using h2,?_⟩;unfold wrM;rw[hb];simp only;rw[h3];have e:m.steps+1+(cs.length:Int)=m.steps+((cs.length+1:Nat):Int):=by omega
   simp only[List.length_cons,e,List.append_assoc]
   rfl
theorem EH{m:DkM}{f:Int}(b:List UInt8)(h0:m.off=false)(hf:m.fused=false)(h:0<=f/\f<4):∃ cs:List (List UInt8),cs.flatten=b/\cs.length<=nD b.length/\writeM ⟨m,f,b⟩=(0,{ m with steps:=m.steps+(cs.length:Int),pend:=m.pend++pnd f cs }):=by
 obtain⟨cs,h1,h2,h3⟩:=Jl f (nD b.length) m b (by unfold nD; omega) hf;refine⟨cs,h1,h2,?_⟩;have e:wrW (WcS.w ⟨m,f,b⟩)=({ m with steps:=m.steps+(cs.length:Int),pend:=m.pend++pnd f cs },[],true):=h3;have g1:geI f 0=true:=by unfold geI; exact decide_eq_true h.1
 have g2:ltI f 4=true:=by unfold ltI; exact decide_eq_true h.2
 unfold writeM;simp only[h0,g1,g2,e]
theorem f4{f:Int}(h:0<=f/\f<4):f=0\/f=1\/f=2\/f=3:=by omega
theorem Iw{m:DkM}{f:Int}{d:List UInt8}:iK (setF m f d) f=d:=by
 unfold iK setF;cases eqI f 0<;>cases eqI f 1<;>cases eqI f 2<;>rfl
theorem TY{m:DkM}{f:Int}{d e:List UInt8}:setF (setF m f d) f e=setF m f e:=by
 unfold setF;cases eqI f 0<;>cases eqI f 1<;>cases eqI f 2<;>rfl
theorem U6{m:DkM}{f:Int}:setF m f (iK m f)=m:=by
 unfold iK setF;cases eqI f 0<;>cases eqI f 1<;>cases eqI f 2<;>rfl
theorem Uu{f:Int}(h:0<=f/\f<4):∀ (cs:List (List UInt8)) (m:DkM),(iK m f).length+cs.flatten.length<=4194304->qF m (pnd f cs)
 |[],_,_=>trivial
 |c::cs,m,hl=>by
  rw[List.flatten_cons,List.length_append]at hl;refine⟨⟨h,⟨Int.le_refl 0,?_⟩,?_⟩,Uu h cs _ ?_⟩
  ·intro h1; cases h1
  ·show(iK m f).length+c.length<=_; omega
  ·have e:iK (fE m ⟨0,f,c,0⟩) f=iK m f++c:=Iw;rw[e,List.length_append]; omega
theorem OQ{f:Int}:∀ (cs:List (List UInt8)) (m:DkM),lT m (pnd f cs)=setF m f (iK m f++cs.flatten)
 |[],m=>by rw[List.flatten_nil,List.append_nil,U6]; rfl
 |c::cs,m=>by
  have e:iK (fE m ⟨0,f,c,0⟩) f=iK m f++c:=Iw;have ih:=OQ (f:=f) cs (fE m ⟨0,f,c,0⟩);rw[e]at ih;show lT (fE m ⟨0,f,c,0⟩) (pnd f cs)=_;rw[ih,List.flatten_cons,List.append_assoc];exact TY
theorem BI{m:DkM}{f s:Int}{p:List StM}:iK { m with steps:=s,pend:=p } f=iK m f:=by
 unfold iK;cases eqI f 0<;>cases eqI f 1<;>cases eqI f 2<;>rfl
theorem OZ{m:DkM}{f s:Int}{p q:List StM}{d:List UInt8}:{ setF { m with steps:=s,pend:=p } f d with pend:=q }={ setF m f d with steps:=s,pend:=q }:=by
 unfold setF;cases eqI f 0<;>cases eqI f 1<;>cases eqI f 2<;>rfl
theorem Ho{m:DkM}{f:Int}{cs:List (List UInt8)}(h0:m.off=false)(hf:m.fused=false)(h:0<=f/\f<4)(hp:m.pend=pnd f cs) :
  mf m=(0,{ setF m f (iK m f++cs.flatten)with steps:=m.steps+1,pend:=[] }):=by
 have hb:kL m=some { m with steps:=m.steps+1 }:=by unfold kL; rw[hf]
 unfold mf;rw[h0,hb];simp only;unfold o7;simp only;rw[List.take_length,List.drop_length,hp,OQ];have e:iK { m with steps:=m.steps+1,pend:=pnd f cs } f=iK m f:=BI;rw[e];have:=OZ (m:=m) (f:=f) (s:=m.steps+1) (p:=pnd f cs) (q:=[]) (d:=iK m f++cs.flatten);exact congrArg (Prod.mk 0) this
theorem Pz{m:DkM}{f:Int}{cs:List (List UInt8)}(hf:m.fused=false)(h:0<=f/\f<4)(hp:m.pend=pnd f cs)(ho:DkOk m)(hl:(iK m f).length+cs.flatten.length<=4194304):kSy.ok m:=by
 refine⟨ho,fun m' hm=>?_⟩;rw[UO hf]at hm;obtain rfl:=Option.some.inj hm;show qF { m with steps:=m.steps+1 } m.pend;rw[hp];refine Uu h cs _ ?_;have e:iK { m with steps:=m.steps+1,pend:=pnd f cs } f=iK m f:=BI;rw[e]; exact hl
def frC(c:CmM):List UInt8:=frM (jd c)
def lg(l:List CmM):List UInt8:=l.flatMap frC
theorem Dp(a b:List CmM):lg (a++b)=lg a++lg b:=List.flatMap_append
theorem KU(c:CmM):lg [c]=frC c:=by simp[lg]
theorem GH{c:CmM}(h:cmE c=0):(frC c).length<=1035:=by
 have hl:=KJ h;unfold frC frM;rw[List.length_append];have:=eH (n:=(jd c).length);omega
theorem DL:∀ (l:List CmM),(∀ c∈l,cmE c=0)->(lg l).length<=1035*l.length
 |[],_=>Nat.le_refl _
 |c::l,h=>by
  have h1:=GH (h c (List.mem_cons_self ..));have h2:=DL l fun x hx=>h x (List.mem_cons_of_mem _ hx);have e:lg (c::l)=frC c++lg l:=rfl;rw[e,List.length_append,List.length_cons];omega
def lX(l:List CmM):List Int:=(List.range l.length).map fun i=>((lg (l.take (i+1))).length:Int)
theorem TL(l:List CmM):(lX l).length=l.length:=by unfold lX; simp
theorem Io(l:List CmM)(c:CmM):lX (l++[c])=lX l++[((lg (l++[c])).length:Int)]:=by
 unfold lX;rw[List.length_append,List.length_singleton,List.range_succ,List.map_append,List.map_singleton];congr 1
 ·refine List.map_congr_left fun i hi=>?_;have:i<l.length:=List.mem_range.1 hi;rw[List.take_append_of_le_length (by omega)]
 ·rw[List.take_of_length_le (by simp)]
theorem TV(l:List Int)(x:Int):mO (l++[x])=x:=by unfold mO; simp
theorem EU(l:List CmM):mO (lX l)=((lg l).length:Int):=by
 rcases List.eq_nil_or_concat l with rfl | ⟨t,c,rfl⟩
 ·rfl
 ·rw[List.concat_eq_append,Io,TV]
theorem o5(l:List CmM)(c:CmM):eG (l++[c])=c.e:=by unfold eG; simp
theorem xM{e n:Int}{i:Nat}{c:CmM}{l:List CmM}(h:jJ e n i (c::l)=(0,0)):cmE c=0/\c.n-1=n/\e<=c.e/\jJ c.e c.n (i+1) l=(0,0):=by
 unfold jJ at h;cases h1:eqI (cmE c) 0 with
 |false=>
  rw[h1]at h;have:cmE c=0:=congrArg Prod.fst h;rw[this]at h1;cases h1
 |true=>
  rw[h1]at h;cases h2:neI (c.n-1) n || ltI c.e e with
  |true=>rw[h2]at h; cases congrArg Prod.fst h
  |false=>
   rw[h2]at h;rw[Bool.or_eq_false_iff]at h2;refine⟨by simpa [eqI]using h1,by simpa [neI]using h2.1,by simpa [ltI]using h2.2,h⟩
theorem FN{e n:Int}{i:Nat}{c:CmM}{l:List CmM}(h:cmE c=0/\c.n-1=n/\e<=c.e/\jJ c.e c.n (i+1) l=(0,0)):jJ e n i (c::l)=(0,0):=by
 obtain⟨h1,h2,h3,h4⟩:=h;have e1:eqI (cmE c) 0=true:=by rw[h1]; rfl
 have e2:(neI (c.n-1) n || ltI c.e e)=false:=by
  rw[Bool.or_eq_false_iff];exact⟨by unfold neI; simp[h2],by unfold ltI; exact decide_eq_false (by omega)⟩
 unfold jJ;rw[e1,e2];exact h4
theorem LU:∀ {l:List CmM} {e n:Int} {i:Nat} (j:Nat),jJ e n i l=(0,0)->jJ e n j l=(0,0)
 |[],_,_,_,_,_=>rfl
 |c::l,e,n,i,j,h=>by
  obtain⟨h1,h2,h3,h4⟩:=xM h;exact FN ⟨h1,h2,h3,LU (j+1) h4⟩
/-- Behind a list that stands,what follows it. -/
structure Fol(L l:List CmM):Prop where
 f:jJ (eG L) (L.length:Int) 0 l=(0,0)
theorem Fol.cons{L l:List CmM}{c:CmM}(h:Fol L (c::l)):cmE c=0/\c.n-1=(L.length:Int)/\eG L<=c.e/\Fol (L++[c]) l:=by
 obtain⟨h1,h2,h3,h4⟩:=xM h.f;refine⟨h1,h2,h3,⟨?_⟩⟩;have e:((L++[c]).length:Int)=c.n:=by simp; omega
 rw[o5,e];exact LU 0 h4
theorem Fol.one{L l:List CmM}{c:CmM}(h:Fol L (c::l)):jJ (eG L) (L.length:Int) 0 [c]=(0,0):=by
 obtain⟨h1,h2,h3,_⟩:=xM h.f;exact FN ⟨h1,h2,h3,rfl⟩
theorem Fol.all{L l:List CmM}(h:Fol L l):∀ c∈l,cmE c=0:=by
 induction l generalizing L with
 |nil=>intro c hc; cases hc
 |cons c l ih=>
  obtain⟨h1,_,_,h4⟩:=h.cons;intro x hx;rcases List.mem_cons.1 hx with rfl | hx
  ·exact h1
  ·exact ih h4 x hx
def kK(d:DkM)(cs:List (List UInt8))(l:List CmM):WalM:=⟨{ d with steps:=d.steps+(cs.length:Int),pend:=pnd 0 cs },false,l,lX l⟩
theorem adI{d:DkM}{cs:List (List UInt8)}{L l:List CmM}{c:CmM}(h0:d.off=false)(hf:d.fused=false)(h:Fol L (c::l))(hu:0<=d.fuse/\d.fuse<9223372036854775808)
  (hs:0<=d.steps/\d.steps+cs.length+20<4611686018427387904) (hc:cs.length+20<4194304) (hL:L.length<4194300) (hb:(lg L).length<4611686018427387904) :
  ∃ cs',cs'.flatten=cs.flatten++frC c/\cs'.length<=cs.length+17/\CRX P 2 79 [p0,cmV c] (dI (kK d cs L)) (.int .i64 0) (dI (kK d cs' (L++[c]))):=by
 obtain⟨h1,h2,h3,_⟩:=h.cons;obtain⟨c1,k1,k2,k3⟩:=EH (m:=(kK d cs L).dk) (f:=0) (frC c) h0 hf (by omega);have hfl:=GH h1;refine⟨cs++c1,by rw[List.flatten_append,k1],by rw[List.length_append]; unfold nD at k2; omega,?_⟩;have hd:oQ (kK d cs L).dk 20:=by
  refine⟨by show 0<=d.steps+(cs.length:Int); omega,by show d.steps+(cs.length:Int)+((20:Nat):Int)<_; omega,hu.1,hu.2,by show(pnd 0 cs).length+20<_; rw[GR]; exact hc⟩
 have hq:=Y8 (w:=kK d cs L) (c:=c) h0 rfl h1 h.one hd hL (by show(lX L).length<_; rw[TL]; exact hL) (by show 0<=mO (lX L)/\mO (lX L)<_; rw[EU]; omega);have e:Ll (kK d cs L) c=(0,kK d (cs++c1) (L++[c])):=by
  have k3':writeM ⟨(kK d cs L).dk,0,frM (jd c)⟩=_:=k3;unfold Ll;rw[k3'];have e1:mO (lX L)+((frC c).length:Int)=((lg (L++[c])).length:Int):=by rw[EU,Dp,KU,List.length_append]; omega
  have e2:(d.steps+(cs.length:Int))+(c1.length:Int)=d.steps+((cs++c1).length:Int):=by rw[List.length_append]; omega
  have e3:(kK d cs L).es++[mO (kK d cs L).es+((frM (jd c)).length:Int)]=lX (L++[c]):=by
   rw[Io,<-e1]; rfl
  simp only[show eqI 0 0=true from rfl,e3];show((0:Int),(⟨{ d with steps:=(d.steps+(cs.length:Int))+(c1.length:Int),pend:=pnd 0 cs++pnd 0 c1 },false,L++[c],lX (L++[c])⟩:WalM))=_;rw[e2,<-Z5]
  rfl
 rw[e]at hq;exact hq
def xY(d:DkM)(k:Nat)(b:List UInt8)(l:List CmM):WalM:=⟨{ d with steps:=d.steps+(k:Int)+1,d0:=d.d0++b,pend:=[] },false,l,lX l⟩
theorem adG{d:DkM}{cs:List (List UInt8)}{L:List CmM}(h0:d.off=false)(hf:d.fused=false)(hu:0<=d.fuse/\d.fuse<9223372036854775808)
  (hs:0<=d.steps/\d.steps+cs.length+20<4611686018427387904) (hc:cs.length<4194304) (hb:d.d0.length+cs.flatten.length<=4194304) :
  CRX P 2 80 [p0] (dI (kK d cs L)) (.int .i64 0) (dI (xY d cs.length cs.flatten L)):=by
 have hk:kSy.ok (kK d cs L).dk:=Pz (f:=0) (cs:=cs) hf (by omega) rfl ⟨by show 0<=d.steps+_; omega,by show d.steps+_<_; omega,hu.1,hu.2,by show(pnd 0 cs).length<_; rw[GR]; exact hc⟩ hb;have q:=aaI (w:=kK d cs L) h0 rfl hk;have e:Jo (kK d cs L)=(0,xY d cs.length cs.flatten L):=by
  unfold Jo;rw[Ho (m:=(kK d cs L).dk) (f:=0) (cs:=cs) h0 hf (by omega) rfl]
  rfl
 rw[e]at q;exact q
/-- What the log's disk may be. -/
structure DkC(d:DkM)(k:Nat):Prop where
 off:d.off=false
 fused:d.fused=false
 fuse:0<=d.fuse/\d.fuse<9223372036854775808
 steps:0<=d.steps/\d.steps+k<4611686018427387904
theorem ad7{n k:Nat}(h:n<=k):gq 0 (n:Int) k=true:=by unfold gq; exact decide_eq_true (by omega)
def nV(held:Int)(p:PgM)(en ep ru:Int):Bool:=
 leI ru en&&leI ep p.ep&&leI p.ac en&&(bif eqI p.ro 3 then ltI ep p.ep else true)&&
 (bif eqI p.ph 4 then eqI p.fo en else true)&&(bif eqI p.ph 4 || (eqI p.ph 2 || eqI p.ph 3)then leI ru p.fo&&leI p.fo en&&leI p.ba held else true)
theorem AY{s:StaM}(ht:fJ s.tb){p:PgM}{en ep ru:Int}:CRX P 7 76 [p0,pgV p, .int .i64 en, .int .i64 ep, .int .i64 ru] (stB s) (.bool (nV s.held p en ep ru)) (stB s):=by
 obtain⟨S,hS⟩:∃ S,S=af (stB s):=⟨_,rfl⟩
 refine CRX.of (pol:=au) (fl:=[]) (ts:=[]) (n:=50) (bf _) az bn ((abm s p en ep ru).trans ?_);rw[<-hS];unfold stB pgC at hS;simp only[cz_,dk_,dl_,dn_,io_,nb_,nl_,ns_,pt_,rb_,sb_,sc_,sl_,sm_,so_,tb_,w0_,wb_,dI,rnB,srB,tbB,dkL,List.cons_append,List.nil_append,List.append_assoc,dJ,aB,dM,lsV,ptV,p0,aW,dkC,aJ,bG,cmV,dA,bQ,aN,dH,dB,dU,dE,dG,dF,cZ,dC,dw,dS,dn,ay,aC,aF,Enc.all_ren]at hS;simp only[cz_,dk_,dl_,dn_,io_,nb_,nl_,ns_,pt_,rb_,sb_,sc_,sl_,sm_,so_,tb_,w0_,wb_,ht.ren,pgC,dI,rnB,srB,tbB,dkL,List.cons_append,List.nil_append,List.append_assoc,dJ,aB,dM,lsV,ptV,p0,aW,dkC,aJ,bG,cmV,dA,bQ,aN,dH,dB,dU,dE,dG,dF,cZ,dC,dw,dS,dn,ay,aC,aF,Enc.all_ren,ay rfl,aC rfl,aF rfl,aB rfl,aA,bC,aV,a_,aO,ah,aP,bu,Int.toNat_natCast,aQ,aG,bz,bK,b_,bJ,bP,dm,Bool.and_self,aK,aH,ax];rw[<-hS];clear hS;unfold nV;generalize eqI p.ro 3=a1;generalize leI p.ac en=a2;generalize eqI p.ph 4=a3;generalize ltI ep p.ep=a4;generalize eqI p.fo en=a5;generalize leI ru p.fo=a6;generalize leI p.fo en=a7;generalize leI p.ba s.held=a8;generalize eqI p.ph 2=a9;generalize eqI p.ph 3=b1;generalize leI ru en=b2;generalize leI ep p.ep=b3;cases b2<;>cases b3<;>cases a2<;>cases a1<;>cases a4<;>cases a3<;>cases a5<;>first | rfl | (cases a9<;>cases b1<;>cases a6<;>cases a7<;>rfl)
theorem VG(l:List CmM){i:Nat}(h:i<l.length):lg (l.drop i)=frC l[i]++lg (l.drop (i+1)):=by rw[List.drop_eq_getElem_cons h]; rfl
theorem jw{N:Nat}{g:FuncId}{r:DT (Value×List Blk)}:CallOkX P N g (cu (fun _ _=>false) r):=by
 refine⟨fun args bs t hR v' bs' hev=>?_⟩;unfold cu at hR;obtain rfl:=Option.some.inj hR;cases hev
theorem Jk{s:StaM}(hs:s.off=false)(ht:fJ s.tb){l' l:List CmM}(hl:l.length<=1000){d:DkM}(hd:DkC d 100000):∀ (k i:Nat) (cs:List (List UInt8)) (L:List CmM),i+k=l.length->Fol L (l.drop i)->cs.length<=17*i->(L.length+k<4194300)->((lg L).length+1035*k<4611686018427387904)->
  ∃ cs',cs'.flatten=cs.flatten++lg (l.drop i)/\cs'.length<=17*l.length/\LRX P 38 0 Ba1 Da1.head (a1V l' l 0 i) (stB (s.setW (kK d cs L))) .normal (a1V l' l 0 l.length) (stB (s.setW (kK d cs' (L++l.drop i))))
 |0,i,cs,L,h1,h2,h3,h4,h5=>by
  obtain rfl:i=l.length:=by omega
  refine⟨cs,?_⟩;rw[List.drop_length];refine⟨by simp[lg],h3,?_⟩;rw[List.append_nil];exact LRX.stop (n:=50) (bf _) az (aj (pol:=au) bn (jw (r:= .leaf (.int .i64 0,dI (kK d cs L))))) Om (e:= .exit 0) (acv (s:=s.setW (kK d cs L)) (w:=kK d cs L) (r:=0) (C:=fun _ _=>false) ht) (by intro h; cases h)
 |k+1,i,cs,L,h1,h2,h3,h4,h5=>by
  have hi:i<l.length:=by omega
  rw[List.drop_eq_getElem_cons hi]at h2;obtain⟨g1,_,_,g4⟩:=h2.cons;have hst:=hd.steps;obtain⟨c1,k1,k2,k3⟩:=adI (cs:=cs) (L:=L) hd.off hd.fused h2 hd.fuse (by omega) (by omega) (by omega) (by omega);have hf:=GH g1;obtain⟨c2,m1,m2,m3⟩:=Jk hs ht hl hd k (i+1) c1 (L++[l[i]]) (by omega) g4 (by omega) (by rw[List.length_append,List.length_singleton]; omega) (by rw[Dp,KU,List.length_append]; omega);refine⟨c2,?_⟩;rw[VG l hi,m1,k1,List.append_assoc,List.drop_eq_getElem_cons hi];refine⟨rfl,m2,?_⟩;rw[List.append_assoc]at m3;exact LRX.again (n:=50) (bf _) az (aj (pol:=au) bn (bF k3)) Om (Wu (s:=s.setW (kK d cs L)) hs ht hi (by omega) k3) m3
def StaM.plus(s:StaM)(c:CmM):StaM:={ s with log:=s.log++[c],tb:=tbM s.tb c.ops,rest:=s.rest++[c] }
def tbL(t:TbM)(l:List CmM):TbM:=l.foldl (fun t c=>tbM t c.ops) t
theorem WC(s:StaM):∀ l:List CmM,l.foldl StaM.plus s={ s with log:=s.log++l,tb:=tbL s.tb l,rest:=s.rest++l }:=by
 intro l
 induction l generalizing s with
 |nil=>simp[tbL]
 |cons c l ih=>rw[List.foldl_cons,ih]; simp[StaM.plus,tbL]
theorem fJ.log{t:TbM}(h:fJ t)(l:List CmM):fJ (tbL t l):=by
 induction l generalizing t with
 |nil=>exact h
 |cons c l ih=>exact ih (h.all c.ops)
/-- The store goes with the log. -/
structure StR(s:StaM):Prop where
 tb:fJ s.tb
 n:(s.log.length:Int)=bI s.rs+s.rest.length
 e:s.rest=[]\/eG s.rest=eG s.log
 r:s.rs.length<4194304
 r0:0<=bI s.rs
theorem StR.plus{s:StaM}(h:StR s)(c:CmM):StR (s.plus c):=by
 obtain⟨h1,h2,h3,h4,h5⟩:=h;refine⟨h1.all c.ops,?_,Or.inr ?_,h4,h5⟩
 ·show((s.log++[c]).length:Int)=bI s.rs+((s.rest++[c]).length:Int);simp; omega
 ·show eG (s.rest++[c])=eG (s.log++[c]);rw[o5,o5]
theorem adV{s:StaM}(h:StR s){c:CmM}{l:List CmM}(hf:Fol s.log (c::l))(hl:s.log.length<4194300):CRX P 5 82 [p0,cmV c] (srB s.sr) (.int .i64 0) (srB ⟨tbM s.tb c.ops,s.rn,s.rest++[c]⟩):=by
 obtain⟨h1,h2,h3,h4,h5⟩:=h;obtain⟨f1,f2,f3,_⟩:=hf.cons;have h3':s.rest=[]\/eG s.rest<=c.e:=by
  rcases h3 with h3 | h3
  ·exact Or.inl h3
  ·exact Or.inr (by omega)
 exact abN (s:=s.sr) h1 f1 (by show c.n-1=bI s.rs+(s.rest.length:Int); omega) h3' h4 (by show s.rest.length<_; omega) h5
theorem J9{l:List CmM}(hl:l.length<=1000):∀ (k i:Nat) (s:StaM),StR s->i+k=l.length->Fol s.log (l.drop i)->(s.log.length+k<4194300)->
  LRX P 38 2 Ba2 Da2.head (a2V l i) (stB s) .normal (a2V l l.length) (stB ((l.drop i).foldl StaM.plus s))
 |0,i,s,hs,h1,h2,h3=>by
  obtain rfl:i=l.length:=by omega
  rw[List.drop_length];exact LRX.stop (n:=50) (bf _) az (aj (pol:=au) (aj (pol:=au) bn (jw (r:= .leaf (.int .i64 0,srB s.sr)))) (jw (r:= .leaf (cmV ⟨0,0,[]⟩,[])))) OU (e:= .exit 2) (acf (C1:=fun _ _=>false) (C2:=fun _ _=>false) (c:=⟨0,0,[]⟩) (sr:=s.sr) hs.tb) (by intro h; cases h)
 |k+1,i,s,hs,h1,h2,h3=>by
  have hi:i<l.length:=by omega
  rw[List.drop_eq_getElem_cons hi]at h2 ⊢;obtain⟨g1,_,_,g4⟩:=h2.cons;obtain⟨_,_,hb⟩:=lZ.1 g1;obtain⟨b1,b2,b3⟩:=jc.1 hb;have q1:=xn (c:=l[i]) b1 (by omega);have q2:=adV hs h2 (by omega);have ih:=J9 hl k (i+1) (s.plus l[i]) (hs.plus _) (by omega) g4 (by show(s.log++[l[i]]).length+k<_; simp; omega);have q:=Wi (s:=s) hs.tb hi (by omega) (by omega) (sr:=⟨tbM s.tb l[i].ops,s.rn,s.rest++[l[i]]⟩) (hs.tb.all _);exact LRX.again (n:=50) (bf _) az (aj (pol:=au) (aj (pol:=au) bn (bF q2)) (bF q1)) OU q ih
/-- A state on a disk without a fuse,all durable. -/
structure StQ(s:StaM)(k:Nat):Prop where
 off:s.off=false
 dk:DkC s.dk k
 pend:s.dk.pend=[]
 wbr:s.wbr=false
 wcs:s.wcs=s.log
 wes:s.wes=lX s.log
 sr:StR s
 d0:s.dk.d0=lg s.log
theorem Ew{s:StaM}(h:s.off=false)(h2:s.dk.off=false):okS s=s:=by
 obtain⟨off,pg,log,held,dk,wbr,wcs,wes,rbr,rs,tb,rest⟩:=s;simp only at h h2;subst h;unfold okS;simp only[FC h2]
theorem WM{s:StaM}{k:Nat}(h:StQ s k):kK s.dk [] s.log=s.wal:=by
 obtain⟨⟨off,pg,log,held,⟨d1,d2,d3,d4,d5,d6,d7,d8,d9⟩,wbr,wcs,wes,rbr,rs,tb,rest⟩,h2⟩:∃ t,t=s:=⟨s,rfl⟩
 subst h2;obtain⟨h1,h2,h3,h4,h5,h6,h7,h8⟩:=h;simp only at h3 h4 h5 h6;subst h3 h4 h5 h6;unfold kK StaM.wal;simp[pnd]
theorem Uo(s:StaM):s.setW s.wal=s:=rfl
def StaM.added(s:StaM)(k:Nat)(l:List CmM):StaM:={ s with log:=s.log++l,dk:={ s.dk with steps:=s.dk.steps+(k:Int)+1,d0:=s.dk.d0++lg l,pend:=[] },wbr:=false,wcs:=s.log++l,wes:=lX (s.log++l),tb:=tbL s.tb l,rest:=s.rest++l }
theorem um(a b c d e f:Int):bU (.agg ⟨[.int .i64 a, .int .u8 b, .int .i64 c, .int .u8 d, .int .i64 e, .int .i64 f]⟩) (.agg ⟨[.int .i64 a, .int .u8 b, .int .i64 c, .int .u8 d, .int .i64 e, .int .i64 f]⟩)=true:=Dh rfl
theorem su{l:List CmM}(h:l≠[]):eG l=(l[l.length-1]'(by have:=List.length_pos_iff.2 h; omega)).e:=by unfold eG; rw[last_at l h]; rfl
theorem ado{s:StaM}{l:List CmM}(hs:StQ s 100000)(hf:Fol s.log l)(hne:l≠[])(hl:l.length<=1000)(hg:s.log.length<4000)(hb2:(lg s.log).length<=3000000)(hso:nV s.held s.pg ((s.log.length:Int)+(l.length:Int)) (eG l) (bI s.rs)=true) :
  ∃ k,k<=17*l.length/\CRX P 7 38 [p0,bG l] (stB s) (.int .i64 0) (stB (s.added k l)):=by
 have hb:=DL l hf.all;obtain⟨cs,k1,k2,q4⟩:=Jk (l':=l) hs.off hs.sr.tb hl hs.dk l.length 0 [] s.log (by omega) hf (Nat.zero_le _) (by omega) (by omega);rw[WM hs,Uo]at q4;have hst:=hs.dk.steps;have hfl:cs.flatten.length<=1035*l.length:=by rw[k1]; simpa using hb
 have q5:=adG (d:=s.dk) (cs:=cs) (L:=s.log++l) hs.dk.off hs.dk.fused hs.dk.fuse (by omega) (by omega) (by have:=congrArg List.length hs.d0; omega);have hr2:StR (s.setW (xY s.dk cs.length cs.flatten (s.log++l))):=⟨hs.sr.tb,hs.sr.n,hs.sr.e,hs.sr.r,hs.sr.r0⟩
 have q6:=J9 hl l.length 0 (s.setW (xY s.dk cs.length cs.flatten (s.log++l))) hr2 (by omega) hf (by show s.log.length+l.length<_; omega);have q1:=UF (e:=eG s.log) (n:=(s.log.length:Int)) (l:=l) (by omega) (by
  intro x hx;obtain⟨_,_,hb⟩:=lZ.1 (hf.all x hx);obtain⟨b1,b2,b3⟩:=jc.1 hb
  omega)
 rw[hf.f]at q1;have q2:=qG (r:=s.rn) hs.sr.r;have q3:=AY (s:=s) hs.sr.tb (p:=s.pg) (en:=(s.log.length:Int)+(l.length:Int)) (ep:=eG l) (ru:=bI s.rs);rw[hso]at q3;rw[List.drop_zero]at k1 q4 q6;rw[List.flatten_nil,List.nil_append]at k1;refine⟨cs.length,k2,?_⟩;have q:=aaZ (fun _ _=>false) (bM [.int .i64 (eG s.log), .int .i64 (s.log.length:Int),bG l] []) (bM [p0] (rnB s.rn)) (bM [p0,pgV s.pg, .int .i64 ((s.log.length:Int)+(l.length:Int)), .int .i64 (eG l), .int .i64 (bI s.rs)] (stB s))
  (bM (a1V l l 0 (0:Nat)) (stB s)) (bM [p0] (dI (kK s.dk cs (s.log++l)))) (bM (a2V l (0:Nat)) (stB (s.setW (xY s.dk cs.length cs.flatten (s.log++l)))))
  0 (bI s.rs) 0 l.length l.length s (s.setW (kK s.dk cs (s.log++l))) (l.foldl StaM.plus (s.setW (xY s.dk cs.length cs.flatten (s.log++l)))) (xY s.dk cs.length cs.flatten (s.log++l)) l
 rw[Ew hs.off hs.dk.off]at q;refine CRX.of (pol:=au) (fl:=[]) (ts:=[]) (n:=50) (bf _) az (aj (pol:=au) (aj (pol:=au) (aj (pol:=au) (dV (aj (pol:=au) (dV bn (fG (dL TS) q6)) (bF q5)) (fG (dL RV) q4)) (bF q3)) (bF q2)) (bF q1)) (q.trans ?_);clear q q1 q2 q3 q4 q5 q6;rw[WC];have hoff:=hs.off;have hdo:=hs.dk.off;have ht:=hs.sr.tb.ren;have ht2:=(hs.sr.tb.log l).ren;have g0:eqI (ag l.length) 0=false:=(nR hne (by omega)).1;obtain⟨_,_,l1,l2⟩:=nR hne (by omega);have hp:=List.length_pos_iff.2 hne;have l4:aU (ECm.all l) (Nat.add (atN ((l.length-1:Nat):Int) 3) 0) = .int .i64 (l[l.length-1]'(by have:=List.length_pos_iff.2 hne; omega)).e:=pI (l:=l) (i:=l.length-1) (by have:=List.length_pos_iff.2 hne; omega);have l5:=oW (n:=l.length) (k:=1) hp (by decide);have l6:=su hne;have e0:ag s.log.length=(s.log.length:Int):=rfl;have a1:dO .i64 (s.log.length:Int) (ag l.length)=(s.log.length:Int)+(l.length:Int):=by unfold dO ag; rw[wrap64 (by omega) (by omega)]
 have z0:((0:Nat):Int)=0:=rfl;have z1:neI 0 0=false:=rfl;have z2:eqI 0 6=false:=rfl;by_cases h0:s.log=[]
 ·have e1:eG s.log=0:=by rw[h0]; rfl
  have e2:(s.log.length:Int)=0:=by rw[h0]; rfl
  have e3:eqI (s.log.length:Int) 0=true:=by rw[e2]; rfl
  simp (disch:=first | omega | (simp only[List.length_append,List.length_drop,List.length_take,List.length_singleton,Nat.add_eq,bg]<;>omega) | fail) only[bk_,cz_,dk_,dl_,dn_,fa_,io_,lb_,nb_,nl_,ns_,nw_,pg_,pt_,rb_,sb_,sc_,sl_,sm_,so_,sw_,tb_,w0_,wb_,hoff,hdo,ht,ht2,g0,l1,l2,l4,l5,l6,e0,a1,e1,e3,k1,z0,z1,z2,StaM.added,zF,um,a1V,a2V,pgV,jI,sG,StaM.wal,StaM.rn,StaM.setW,stB,pgC,xY,kK,dI,rnB,srB,tbB,dkL,List.cons_append,List.nil_append,List.append_assoc,dJ,aB,dM,lsV,ptV,p0,aW,dkC,aJ,bG,cmV,dA,bQ,aN,dH,dB,dU,dE,dG,dF,cZ,dC,dw,dS,dn,ay,aC,aF,Enc.all_ren,ay rfl,aC rfl,aF rfl,aB rfl,aA,bC,aV,a_,aO,ah,aP,bu,Int.toNat_natCast,aQ,aG,bz,bK,b_,bJ,bP,dm,Bool.and_self,aK,aH,ax]
 ·obtain⟨m0,_,m1,m2⟩:=nR h0 (by omega);have mp:=List.length_pos_iff.2 h0;have m4:=pI (l:=s.log) (i:=s.log.length-1) (by omega);have m5:=oW (n:=s.log.length) (k:=1) mp (by decide);have m6:=su h0;rw[e0]at m0 m1;simp (disch:=first | omega | (simp only[List.length_append,List.length_drop,List.length_take,List.length_singleton,Nat.add_eq,bg]<;>omega) | fail) only[bk_,cz_,dk_,dl_,dn_,fa_,io_,lb_,nb_,nl_,ns_,nw_,pg_,pt_,rb_,sb_,sc_,sl_,sm_,so_,sw_,tb_,w0_,wb_,hoff,hdo,ht,ht2,g0,l1,l2,l4,l5,l6,e0,a1,m0,m1,m2,m4,m5,m6,k1,z0,z1,z2,StaM.added,zF,um,a1V,a2V,pgV,jI,sG,StaM.wal,StaM.rn,StaM.setW,stB,pgC,xY,kK,dI,rnB,srB,tbB,dkL,List.cons_append,List.nil_append,List.append_assoc,dJ,aB,dM,lsV,ptV,p0,aW,dkC,aJ,bG,cmV,dA,bQ,aN,dH,dB,dU,dE,dG,dF,cZ,dC,dw,dS,dn,ay,aC,aF,Enc.all_ren,ay rfl,aC rfl,aF rfl,aB rfl,aA,bC,aV,a_,aO,ah,aP,bu,Int.toNat_natCast,aQ,aG,bz,bK,b_,bJ,bP,dm,Bool.and_self,aK,aH,ax]
def aeb:Pol:=fun t=>match Nat.beq t 128 with
 |true=>some [.val, .val, .val, .val, .val, .val, .val, .val, .keep, .val, .val, .val, .val]
 |false=>au t
def Dlg:HeadX:=⟨7,24,[0,3,11,12,13],[.val, .own, .keep, .val, .val],[0,35,0,0,0],aeb⟩
def Blg:Code:=(dR P 41 0).getD .skip
theorem UN:dR P 41 0=some Blg:=by kernel_rfl
theorem PN:Occ P 41 (.block 0 (.loop Blg)):=fA UN
def lgV(o:List CmM)(n:Nat)(i:Int):List Value:=[p0,lsV 17 o.length,lsV 12 n, .int .i64 (ag n), .int .i64 i]
def lgB(s:StaM)(o:List CmM):List Blk:=stB s++[.cells (ECm.all o) 47 false]
def WJ(C1:List Value->List Blk->Bool)(c:CmM):Ct:=aT P au 0 81 (cu C1 (.leaf (cmV c,[]))) ctF
theorem TC(C1:List Value->List Blk->Bool)(c:CmM)(s:StaM)(o:List CmM)(n:Nat)(i:Int):bV P E (WJ C1 c) 50 41 Blg Dlg (lgV o n i) (lgB s o) =
 (let z:=Nat.add 0 (atN i 3);let y:=Enc.all ECm s.log;let x:=Eta.int .i64;let w:=Nat.add z 1;let v:=aU y (Nat.add w 1);let u:=o.length;let t:=Nat.add u 1;let r:=Enc.all ECm o;let q:=List.append (jR 0 r) [io_ c.e,io_ c.n,fa_ c.ops.length 0 (Enc.all EOp c.ops)];let p:=s.wcs.length;let m:=Enc.all ECm s.wcs;
 let l:=s.wes.length;let k:=Enc.all EIn s.wes;let j:=s.rs.length;let h:=Enc.all eF s.rs;let g:=s.rest.length;let f:=Enc.all ECm s.rest;let e:=io_ (ag n);let d:=sb_ s s.pg 1 12 2 3 4;let b:=dk_ s.dk 7 8 9 10 11;let a:=wb_ s 1 13 14;let Z:=rb_ s 1 15;let Y:=so_ 5 3 16 g;let X:=ro_ [0,7,22,5,12,1,27,4,21,1];
 let W:=ro_ [0,7,19,5,12,1,24,4,18,1];
 (ak (ltI i (ag n)) (ae (inI i n) (ae (Bool.and (Nat.ble (Nat.add z 3) y.length) (iq [x,x, .slice 3] y z)) (ae (C1 [.agg ⟨[io_ (asI (aU y z)),io_ (asI (aU y w)),fa_ (zN v) (zB v) (zC v)]⟩] []) (ae (Nat.ble t 4194304) (ae (Nat.beq (Nat.add 0 (Nat.mul u 3)) r.length) (nb_ t 3 q (dn_ w0_ s.dk (nb_ p 3 m (nb_ l 1 k (nb_ j 3 h (nb_ g 3 f (some (.tuple ⟨[io_ 0,pt_ 0,sl_ 17 t,sl_ 12 n,e,io_ (dO .i64 i 1)]⟩,af (d::b::a::Z::Y::tb_ 6:: .map (bD true X s.tb.es) s.tb.ck::dl_ (cz_ X w0_) s.dk [.cells (aZ true X y) 47 false,lb_ X p 3 m 47,lb_ X l 1 k 3,lb_ X j 3 h 161,lb_ X g 3 f 47,lb_ X t 3 q 47])))))))))))))) (nb_ u 3 r (dn_ w0_ s.dk (nb_ p 3 m (nb_ l 1 k (nb_ j 3 h (nb_ g 3 f (some (.tuple ⟨[io_ 1,pt_ 0,sl_ 17 u,sl_ 12 n,e,io_ i]⟩,af (d::b::a::Z::Y::tb_ 6:: .map (bD true W s.tb.es) s.tb.ck::dl_ (cz_ W w0_) s.dk [.cells (aZ true W y) 47 false,lb_ W p 3 m 47,lb_ W l 1 k 3,lb_ W j 3 h 161,lb_ W g 3 f 47,lb_ W u 3 r 47]))))))))))):=by kernel_rfl
def aev(C:List Value->List Blk->Bool)(s:StaM)(l:List CmM):Ct:=eY P 41 0 Dlg (gX C (.leaf (.normal,lgV l l.length (ag l.length),lgB s l))) ctF
theorem YZ(C:List Value->List Blk->Bool)(s:StaM):dD P E (aev C s s.log) 50 au [.val] [35] 7 41 [p0] (stB s) =
 (let z:=s.wcs.length;let y:=Enc.all ECm s.wcs;let x:=s.wes.length;let w:=Enc.all EIn s.wes;let v:=s.rs.length;let u:=Enc.all eF s.rs;let t:=s.rest.length;let r:=Enc.all ECm s.rest;let q:=s.log.length;let p:=ro_ [0,7,18,5,12,1,23,4,17,1];let o:=Enc.all ECm s.log;let n:=bH (rg_ [0,7]) 27;
 let m:=aZ true n o;
 (dn_ w0_ s.dk (nb_ z 3 y (nb_ x 1 w (nb_ v 3 u (nb_ t 3 r (ae (C [pt_ 0,sl_ 17 0,sl_ 12 q,io_ (ag q),io_ 0] (sb_ s s.pg 1 12 2 3 4::dk_ s.dk 7 8 9 10 11::wb_ s 1 13 14::rb_ s 1 15::so_ 5 3 16 t::tb_ 6:: .map (bD true p s.tb.es) s.tb.ck::dl_ (cz_ p w0_) s.dk [.cells (aZ true p o) 47 false,lb_ p z 3 y 47,lb_ p x 1 w 3,lb_ p v 3 u 161,lb_ p t 3 r 47, .cells [] 47 false])) (ae (fq_ q m 47) (nw_ s n (some (fa_ q 0 (takeC (Nat.mul q 3) (bT 0 m)),af (sw_ s (ro_ [0,7,39,5,38,1,44,4]) n)))))))))))):=by kernel_rfl
def adH(C1 C2 C3 C4 C5 C6:List Value->List Blk->Bool)(ru r1 r2:Int)(s:StaM)(x f:List UInt8)(d1 d2:DkM):Ct:=
 aT P au 0 87 (cu C1 (.leaf (.tuple ⟨[aX 1 x.length 0 (bc x), .int .i64 0]⟩,[]))) (aT P au 2 77 (cu C2 (.leaf (.int .i64 ru,rnB s.rn)))
 (aT P au 7 76 (cu C3 (.leaf (.bool true,stB s))) (aT P au 0 88 (cu C4 (.leaf (.tuple ⟨[aX 1 f.length 0 (bc f), .int .i64 0]⟩,[])))
 (aT P au 1 89 (cu C5 (.leaf (.int .i64 r1,aW d1))) (aT P au 1 90 (cu C6 (.leaf (.int .i64 r2,aW d2))) ctF)))))
theorem ZB(C1 C2 C3 C4 C5 C6:List Value->List Blk->Bool)(ru:Int)(s:StaM)(x f:List UInt8)(d1 d2:DkM)(p:PgM):dD P E (adH C1 C2 C3 C4 C5 C6 ru 0 0 (okS s) x f d1 d2) 50 au [] [] 7 44 [p0,pgV p] (stB (okS s)) =
 (let z:=pg_ p;let y:=okS s;let w:=y.log.length;let v:=ag w;let u:=y.rs.length;let t:=Enc.all eF y.rs;let r:=y.dk;let q:=pt_ 0;let o:=rb_ y 1 7;let n:=dk_ r 2 3 4 5 6;let m:=bY 0 [3,1,35,36,37,38,39,34];let l:=Enc.all ECm y.log;let k:=bH [3,1] 40;let j:=bk_ k w0_;let i:=y.rn.dk;
 let h:=y.wcs.length;let g:=Enc.all ECm y.wcs;let e:=y.wes.length;let d:=Enc.all EIn y.wes;let c:=y.rn.rs.length;let b:=Enc.all eF y.rn.rs;let a:=aZ true k b;let Z:=y.rest.length;let Y:=Enc.all ECm y.rest;let X:=io_ v;let W:=io_ 0;let V:=sb_ y y.pg 1 12 2 3 4;let U:=dk_ i 7 8 9 10 11;
 let T:=wb_ y 1 13 14;let S:=Blk.cells [pt_ 1, .bool y.rn.br,sl_ 15 c] 168 true;let R:=so_ 5 3 16 Z;let Q:=tb_ 6;let O:=ro_ [0,7,47,5,46,1,52,4];let N:=y.tb.es;let M:=y.tb.ck;let L:=bU z z;let K:=sl_ 12 w;let J:=bU K K;let I:=bU X X;let H:=C4 [fb_ 0 0 [],fb_ x.length 0 (bc x)] [];
 let G:=rg_ [0,7];let F:=bH G 56;let D:=bk_ F w0_;let C:=[q,io_ 1,fb_ f.length 0 (bc f)];let B:=dk_ r 1 2 3 4 5;let A:=bk_ (bH [1] 71) w0_;let z0:=dk_ d1 1 2 3 4 5;let y0:=aZ true F l;let x0:=bk_ (bH [1] 81) w0_;let w0:=aZ true F g;let v0:=aZ true F d;let u0:=aZ true F t;
 let t0:=aZ true F Y;let s0:=Blk.cells [pt_ 1, .bool (eqI 0 6),io_ p.ep, .int .u8 p.ro,io_ p.ac, .int .u8 p.ph,io_ p.fo,io_ p.ba,K,pt_ 2,pt_ 3,pt_ 4,io_ y.held] 128 true;let r0:=dk_ d2 7 8 9 10 11;let q0:=rb_ y 1 15;let o0:=ro_ [0,7,87,5,86,1,92,4];let n0:=fH .i64 v 1;let m0:=Nat.add 0 (atN n0 3);
 let l0:=aU l m0;let k0:=bY 0 [3,1,49,50,51,52,53,48];let j0:=bH [3,1] 54;let i0:=bk_ j0 w0_;let h0:=aZ true j0 b;let g0:=ro_ [0,7,61,5,60,1,66,4];let f0:=bH G 70;let e0:=bk_ f0 w0_;let d0:=bk_ (bH [1] 85) w0_;let c0:=aZ true f0 l;let b0:=bk_ (bH [1] 95) w0_;
 let a0:=aZ true f0 g;let Z0:=aZ true f0 d;let Y0:=aZ true f0 t;let X0:=aZ true f0 Y;let W0:=ro_ [0,7,101,5,100,1,106,4];
 (ae (C1 [z] []) (ak (eqI v 0) (nb_ u 3 t (dn_ w0_ r (ae (C2 [q] (o::n::dl_ (cz_ m w0_) r [lb_ m u 3 t 161])) (nb_ w 3 l (dn_ j i (nb_ h 3 g (nb_ e 1 d (nb_ c 3 a (nb_ Z 3 Y (ae (C3 [q,z,X,W,io_ ru] (V::U::T::S::R::Q:: .map (bD true O N) M::dl_ (cz_ O j) i [lb_ O w 3 l 47,lb_ O h 3 g 47,lb_ O e 1 d 3,lb_ O c 3 a 161,lb_ O Z 3 Y 47])) (ae L (ae L (ae J (ae J (ae I (ae I (ae H (dn_ D r (ae (C5 C (B::dl_ (cz_ (ro_ [1,1,66,5]) D) r [])) (dn_ A d1 (ae (C6 [q] (z0::dl_ (cz_ (ro_ [1,1,76,5]) A) d1 [])) (nb_ w 3 y0 (dn_ x0 d2 (nb_ h 3 w0 (nb_ e 1 v0 (nb_ u 3 u0 (nb_ Z 3 t0 (some (W,af (s0::r0::T::q0::R::Q:: .map (bD true o0 (bD true F N)) M::dl_ (cz_ o0 x0) d2 [lb_ o0 w 3 y0 47,lb_ o0 h 3 w0 47,lb_ o0 e 1 v0 3,lb_ o0 u 3 u0 161,lb_ o0 Z 3 t0 47])))))))))))))))))))))))))))))) (ae (inI n0 w) (ae (Bool.and (Nat.ble (Nat.add m0 1) l.length) (eu (.int .i64) l0)) (nb_ u 3 t (dn_ w0_ r (ae (C2 [q] (o::n::dl_ (cz_ k0 w0_) r [lb_ k0 u 3 t 161])) (nb_ w 3 l (dn_ i0 i (nb_ h 3 g (nb_ e 1 d (nb_ c 3 h0 (nb_ Z 3 Y (ae (C3 [q,z,X,io_ (asI l0),io_ ru] (V::U::T::S::R::Q:: .map (bD true g0 N) M::dl_ (cz_ g0 i0) i [lb_ g0 w 3 l 47,lb_ g0 h 3 g 47,lb_ g0 e 1 d 3,lb_ g0 c 3 h0 161,lb_ g0 Z 3 Y 47])) (ae L (ae L (ae J (ae J (ae I (ae I (ae H (dn_ e0 r (ae (C5 C (B::dl_ (cz_ (ro_ [1,1,80,5]) e0) r [])) (dn_ d0 d1 (ae (C6 [q] (z0::dl_ (cz_ (ro_ [1,1,90,5]) d0) d1 [])) (nb_ w 3 c0 (dn_ b0 d2 (nb_ h 3 a0 (nb_ e 1 Z0 (nb_ u 3 Y0 (nb_ Z 3 X0 (some (W,af (s0::r0::T::q0::R::Q:: .map (bD true W0 (bD true f0 N)) M::dl_ (cz_ W0 b0) d2 [lb_ W0 w 3 c0 47,lb_ W0 h 3 a0 47,lb_ W0 e 1 Z0 3,lb_ W0 u 3 Y0 161,lb_ W0 Z 3 X0 47]))))))))))))))))))))))))))))))))))):=by kernel_rfl
theorem Vw{s:StaM}(ht:fJ s.tb){o:List CmM}{i:Nat}(hi:i<s.log.length)(hl:s.log.length<4194304)(ho:o.length<4194300) :
  bV P E (WJ (bM [cmV s.log[i]] []) s.log[i]) 50 41 Blg Dlg (lgV o s.log.length i) (lgB s o)=some (.tuple ⟨exV .normal::lgV (o++[s.log[i]]) s.log.length ((i+1:Nat):Int)⟩,af (lgB s (o++[s.log[i]]))):=by
 obtain⟨g1,g2,a1⟩:=iM hi hl;have g4:=rJ hi;have h1:(o++[s.log[i]]).length=Nat.add o.length 1:=by simp
 rw[TC];simp (disch:=first | omega | (simp only[List.length_append,List.length_drop,List.length_take,List.length_singleton,Nat.add_eq,bg]<;>omega) | fail) only[cz_,dk_,dl_,dn_,fa_,io_,lb_,nb_,pt_,rb_,sb_,sc_,sl_,so_,tb_,w0_,wb_,ht.ren,g1,g2,a1,g4,iG hi (Nat.le_refl 3),pI hi,Az hi,xP hi,jI,(zF _ _ _).1,(zF _ _ _).2.1,(zF _ _ _).2.2,lgV,lgB,stB,pgC,h1,Bg,dI,rnB,srB,tbB,dkL,List.cons_append,List.nil_append,List.append_assoc,dJ,aB,dM,lsV,ptV,p0,aW,dkC,aJ,bG,cmV,dA,bQ,aN,dH,dB,dU,dE,dG,dF,cZ,dC,dw,dS,dn,ay,aC,aF,Enc.all_ren,ay rfl,ay h1.symm,aC rfl,aF rfl,aB rfl,aA,bC,aV,a_,aO,ah,aP,bu,Int.toNat_natCast,aQ,aG,bz,bK,b_,bJ,bP,dm,Bool.and_self,aK,aH,ax]
 rfl
theorem acy{s:StaM}{C:List Value->List Blk->Bool}{c:CmM}(ht:fJ s.tb){o:List CmM} :
  bV P E (WJ C c) 50 41 Blg Dlg (lgV o s.log.length s.log.length) (lgB s o)=some (.tuple ⟨exV (.exit 0)::lgV o s.log.length s.log.length⟩,af (lgB s o)):=by
 rw[TC];simp only[cz_,dk_,dl_,dn_,fa_,io_,lb_,nb_,pt_,rb_,sb_,sc_,sl_,so_,tb_,w0_,wb_,kJ,ht.ren,lgV,lgB,stB,pgC,dI,rnB,srB,tbB,dkL,List.cons_append,List.nil_append,List.append_assoc,dJ,aB,dM,lsV,ptV,p0,aW,dkC,aJ,bG,cmV,dA,bQ,aN,dH,dB,dU,dE,dG,dF,cZ,dC,dw,dS,dn,ay,aC,aF,Enc.all_ren,ay rfl,aC rfl,aF rfl,aB rfl,aA,bC,aV,a_,aO,ah,aP,bu,Int.toNat_natCast,aQ,aG,bz,bK,b_,bJ,bP,dm,Bool.and_self,aK,aH,ax]
 rfl
theorem O6{s:StaM}(ht:fJ s.tb)(hl:s.log.length<4194300)(hc:∀ c∈s.log,1<=c.ops.length/\c.ops.length<=4194304):∀ (k i:Nat),i+k=s.log.length->
  LRX P 41 0 Blg Dlg.head (lgV (s.log.take i) s.log.length i) (lgB s (s.log.take i)) .normal (lgV s.log s.log.length s.log.length) (lgB s s.log)
 |0,i,h=>by
  obtain rfl:i=s.log.length:=by omega
  rw[List.take_length];exact LRX.stop (n:=50) (bf _) az (aj (pol:=au) bn (jw (r:= .leaf (cmV ⟨0,0,[]⟩,[])))) PN (e:= .exit 0) (acy (C:=fun _ _=>false) (c:=⟨0,0,[]⟩) ht) (by intro h; cases h)
 |k+1,i,h=>by
  have hi:i<s.log.length:=by omega
  obtain⟨b1,b2⟩:=hc _ (List.getElem_mem hi);have q:=Vw (o:=s.log.take i) ht hi (by omega) (by rw[List.length_take]; omega);have e:s.log.take i++[s.log[i]]=s.log.take (i+1):=by rw[List.take_succ_eq_append_getElem hi]
  rw[e]at q;exact LRX.again (n:=50) (bf _) az (aj (pol:=au) bn (bF (xn b1 b2))) PN q (O6 ht hl hc k (i+1) (by omega))
theorem ade{s:StaM}(ht:fJ s.tb)(hl:s.log.length<4194300)(hc:∀ c∈s.log,1<=c.ops.length/\c.ops.length<=4194304):CRX P 7 41 [p0] (stB s) (bG s.log) (stB s):=by
 have q1:=O6 ht hl hc s.log.length 0 (by omega);refine CRX.of (pol:=au) (fl:=[.val]) (ts:=[35]) (n:=50) (bf _) az (dV bn (fG (dL UN) q1)) ((YZ (bM (lgV (s.log.take 0) s.log.length (0:Nat)) (lgB s (s.log.take 0))) s).trans ?_);clear q1;have z0:((0:Nat):Int)=0:=rfl;have e0:(ECm.all ([]:List CmM))=[]:=rfl;have e1:([]:List CmM).length=0:=rfl;simp (disch:=first | omega | (simp only[List.length_append,List.length_drop,List.length_take,List.length_singleton,Nat.add_eq,bg]<;>omega) | fail) only[bk_,cz_,dk_,dl_,dn_,fa_,fq_,io_,lb_,nb_,nl_,nw_,pt_,rb_,sb_,sc_,sl_,so_,sw_,tb_,w0_,wb_,ht.ren,z0,e0,e1,List.take_zero,aco rfl,lgV,lgB,stB,pgC,dI,rnB,srB,tbB,dkL,List.cons_append,List.nil_append,List.append_assoc,dJ,aB,dM,lsV,ptV,p0,aW,dkC,aJ,bG,cmV,dA,bQ,aN,dH,dB,dU,dE,dG,dF,cZ,dC,dw,dS,dn,ay,aC,aF,Enc.all_ren,ay rfl,aC rfl,aF rfl,aB rfl,aA,bC,aV,a_,aO,ah,aP,bu,Int.toNat_natCast,aQ,aG,bz,bK,b_,bJ,bP,dm,Bool.and_self,aK,aH,ax]
def tb0:TbM:=⟨[],0⟩
theorem EE:fJ tb0:=by intro e he; cases he
def StaM.paged(s:StaM)(k:Nat)(p:PgM):StaM:={ s with pg:=p,dk:={ s.dk with d1:=s.dk.d1++frM (lN p),steps:=s.dk.steps+(k:Int)+1,pend:=[] } }
theorem K_(p:PgM):(frM (lN p)).length<=77:=by
 have h:=G9 p;unfold frM;rw[List.length_append];have:=eH (n:=(lN p).length);omega
theorem KC{d:DkM}{f:Int}(b:List UInt8)(hd:DkC d 100000)(hp:d.pend=[])(h:0<=f/\f<4)(hb:b.length<=500000)(hl:(iK d f).length<=3000000) :
  ∃ k,k<=nD b.length/\CRX P 1 89 [p0, .int .i64 f,aX 1 b.length 0 (bc b)] (aW d) (.int .i64 0) (aW { d with steps:=d.steps+(k:Int),pend:=(writeM ⟨d,f,b⟩).2.pend })/\
   CRX P 1 90 [p0] (aW { d with steps:=d.steps+(k:Int),pend:=(writeM ⟨d,f,b⟩).2.pend }) (.int .i64 0) (aW { setF d f (iK d f++b)with steps:=d.steps+(k:Int)+1,pend:=[] }):=by
 obtain⟨cs,k1,k2,k3⟩:=EH (m:=d) (f:=f) b hd.off hd.fused h;have hst:=hd.steps;have hr:nD b.length<=7813:=by unfold nD; omega
 have q1:=KZ.at (s:=⟨d,f,b⟩) ⟨by show b.length<=_; omega,by
  show oQ d (nD b.length)
  exact⟨hst.1,by have:=hst.2; omega,hd.fuse.1,hd.fuse.2,by rw[hp]; show 0+_<_; omega⟩⟩ rfl
 rw[k3]at q1;have hk:kSy.ok { d with steps:=d.steps+(cs.length:Int),pend:=pnd f cs }:=Pz (f:=f) (cs:=cs) hd.fused h rfl ⟨by show 0<=d.steps+_; omega,by show d.steps+_<_; omega,hd.fuse.1,hd.fuse.2,by show(pnd f cs).length<_; rw[GR]; omega⟩ (by
  have e:iK { d with steps:=d.steps+(cs.length:Int),pend:=pnd f cs } f=iK d f:=BI
  rw[e,k1]; omega)
 have q2:=PL.at hk rfl;rw[Ho (m:={ d with steps:=d.steps+(cs.length:Int),pend:=pnd f cs }) (f:=f) (cs:=cs) hd.off hd.fused h rfl]at q2;have e:iK { d with steps:=d.steps+(cs.length:Int),pend:=pnd f cs } f=iK d f:=BI;rw[e,k1]at q2;have e2:(writeM ⟨d,f,b⟩).2.pend=pnd f cs:=by rw[k3,hp]; rfl
 refine⟨cs.length,k2,?_,?_⟩
 ·rw[e2];rw[hp]at q1;exact q1
 ·rw[e2];have e3:=OZ (m:=d) (f:=f) (s:=d.steps+(cs.length:Int)) (p:=pnd f cs) (q:=[]) (d:=iK d f++b);have e4:({ setF { d with steps:=d.steps+(cs.length:Int),pend:=pnd f cs } f (iK d f++b)with steps:=d.steps+(cs.length:Int)+1,pend:=[] }:DkM)={ setF d f (iK d f++b)with steps:=d.steps+(cs.length:Int)+1,pend:=[] }:=by
   have:=congrArg (fun m:DkM=>{ m with steps:=d.steps+(cs.length:Int)+1 }) e3;exact this
  rw[<-e4];exact q2
theorem aa_{s:StaM}{p:PgM}(hs:StQ s 100000)(hp:pgE p=0)(hg:s.log.length<4000)(h1:s.dk.d1.length<=3000000)(hso:nV s.held p (s.log.length:Int) (eG s.log) (bI s.rs)=true) :
  ∃ k,k<=2/\CRX P 7 44 [p0,pgV p] (stB s) (.int .i64 0) (stB (s.paged k p)):=by
 have hfl:=K_ p;obtain⟨k,k2,q5,q6⟩:=KC (d:=s.dk) (f:=1) (frM (lN p)) hs.dk hs.pend (by omega) (by omega) h1;refine⟨k,by unfold nD at k2; omega,?_⟩;have q1:=aas hp;have q2:=qG (r:=s.rn) hs.sr.r;have q3:=AY (s:=s) hs.sr.tb (p:=p) (en:=(s.log.length:Int)) (ep:=eG s.log) (ru:=bI s.rs);rw[hso]at q3;have q4:=GV (r:=lN p) (by have:=G9 p; omega);generalize hw:(writeM ⟨s.dk,1,frM (lN p)⟩).2.pend=W at q5 q6;clear hw;have q:=ZB (bM [pgV p] []) (bM [p0] (rnB s.rn)) (bM [p0,pgV p, .int .i64 (s.log.length:Int), .int .i64 (eG s.log), .int .i64 (bI s.rs)] (stB s)) (bM [aX 1 0 0 [],aX 1 (lN p).length 0 (bc (lN p))] [])
  (bM [p0, .int .i64 1,aX 1 (frM (lN p)).length 0 (bc (frM (lN p)))] (aW s.dk)) (bM [p0] (aW { s.dk with steps:=s.dk.steps+(k:Int),pend:=W })) (bI s.rs) s (lN p) (frM (lN p)) { s.dk with steps:=s.dk.steps+(k:Int),pend:=W } { setF s.dk 1 (iK s.dk 1++frM (lN p))with steps:=s.dk.steps+(k:Int)+1,pend:=[] } p
 rw[Ew hs.off hs.dk.off]at q;refine CRX.of (pol:=au) (fl:=[]) (ts:=[]) (n:=50) (bf _) az (aj (pol:=au) (aj (pol:=au) (aj (pol:=au) (aj (pol:=au) (aj (pol:=au) (aj (pol:=au) bn (bF q6)) (bF q5)) (bF q4)) (bF q3)) (bF q2)) (bF q1)) (q.trans ?_);clear q q1 q2 q3 q4 q5 q6;have hoff:=hs.off;have hdo:=hs.dk.off;have ht:=hs.sr.tb.ren;have e0:ag s.log.length=(s.log.length:Int):=rfl;have z1:neI 0 0=false:=rfl;have z2:eqI 0 6=false:=rfl;have z3:eqI 0 0=true:=rfl;have f1:∀ d:List UInt8,setF s.dk 1 d={ s.dk with d1:=d }:=fun _=>rfl;have f2:iK s.dk 1=s.dk.d1:=rfl;by_cases h0:s.log=[]
 ·have e1:eG s.log=0:=by rw[h0]; rfl
  have e2:(s.log.length:Int)=0:=by rw[h0]; rfl
  have e3:eqI (s.log.length:Int) 0=true:=by rw[e2]; rfl
  simp (disch:=first | omega | (simp only[List.length_append,List.length_drop,List.length_take,List.length_singleton,Nat.add_eq,bg]<;>omega) | fail) only[bk_,cz_,dk_,dl_,dn_,fb_,io_,lb_,nb_,pg_,pt_,rb_,sb_,sc_,sl_,so_,tb_,w0_,wb_,hoff,hdo,ht,e0,e1,e3,z1,z2,z3,f1,f2,StaM.paged,zF,um,pgV,jI,sG,StaM.wal,StaM.rn,StaM.setW,stB,pgC,dI,rnB,srB,tbB,dkL,List.cons_append,List.nil_append,List.append_assoc,dJ,aB,dM,lsV,ptV,p0,aW,dkC,aJ,bG,cmV,dA,bQ,aN,dH,dB,dU,dE,dG,dF,cZ,dC,dw,dS,dn,ay,aC,aF,Enc.all_ren,ay rfl,aC rfl,aF rfl,aB rfl,aA,bC,aV,a_,aO,ah,aP,bu,Int.toNat_natCast,aQ,aG,bz,bK,b_,bJ,bP,dm,Bool.and_self,aK,aH,ax]
 ·obtain⟨m0,_,m1,m2⟩:=nR h0 (by omega);have mp:=List.length_pos_iff.2 h0;have m4:=pI (l:=s.log) (i:=s.log.length-1) (by omega);have m4':aU (ECm.all s.log) (Nat.add (atN ((s.log.length-1:Nat):Int) 3) 0) = .int .i64 (s.log[s.log.length-1]'(by omega)).e:=m4;have m5:=oW (n:=s.log.length) (k:=1) mp (by decide);have m6:=su h0;rw[e0]at m0 m1;simp (disch:=first | omega | (simp only[List.length_append,List.length_drop,List.length_take,List.length_singleton,Nat.add_eq,bg]<;>omega) | fail) only[bk_,cz_,dk_,dl_,dn_,fb_,io_,lb_,nb_,pg_,pt_,rb_,sb_,sc_,sl_,so_,tb_,w0_,wb_,hoff,hdo,ht,e0,m0,m1,m2,m4,m4',m5,m6,z1,z2,z3,f1,f2,StaM.paged,zF,um,pgV,jI,sG,StaM.wal,StaM.rn,StaM.setW,stB,pgC,dI,rnB,srB,tbB,dkL,List.cons_append,List.nil_append,List.append_assoc,dJ,aB,dM,lsV,ptV,p0,aW,dkC,aJ,bG,cmV,dA,bQ,aN,dH,dB,dU,dE,dG,dF,cZ,dC,dw,dS,dn,ay,aC,aF,Enc.all_ren,ay rfl,aC rfl,aF rfl,aB rfl,aA,bC,aV,a_,aO,ah,aP,bu,Int.toNat_natCast,aQ,aG,bz,bK,b_,bJ,bP,dm,Bool.and_self,aK,aH,ax]
end Go.VS.Tryz
end

noncomputable section
namespace Go.VS

section
variable{P:Program}{ct:Ct}
def upL(n:Nat):Nat->List Nat:=@Nat.rec (fun _=>Nat->List Nat) (fun _=>[]) (fun _ ih i=>i::ih (Nat.succ i)) n
def geL(n:Nat)(l:List Nat):List Nat:=@List.rec Nat (fun _=>List Nat) [] (fun b _ ih=>match Nat.ble n b with
 |true=>b::ih
 |false=>ih) l
def Aj(l:List Nat):List Value:=@List.rec Nat (fun _=>List Value) [] (fun b _ ih=> .pointer (some ⟨b,0,none⟩)::ih) l
theorem vz:∀ (n i:Nat) (Z:List Nat),upTo n (upL n i++Z) i=true
 |0,_,_=>rfl
 |n+1,i,Z=>by
  have h:upL (n+1) i=i::upL n (i+1):=rfl;rw[h];show(match Nat.beq i i with | true=>upTo n (upL n (i+1)++Z) (i+1) | false=>false)=true;rw[Nat.beq_refl];exact vz n (i+1) Z
def JY(P:Program)(E:Eng)(ct:Ct)(n:Nat)(pol:Pol)(fl:List Fl)(ts:List TypeId)(N:Nat)(g:FuncId)(args:List Value)(bs:List Blk):Res:=
 (o9 P E ct n n).call g args (af bs) fun v st=>DT.run (kX P 60 fl ts (mX v) st fun vs1 ps st1=>qf P pol 200 (List.append (xJ args) (List.append ps (upL N 0))) [] st1 fun st2=>
  lK (jB st2) 1000 (List.append args (List.append vs1 (Aj (upL N 0)))) [] [] fun X L=>match Nat.beq vs1.length (mX v).length,iI 0 ((List.append (upL N 0) (geL N X)).append L) (fun i=>dZ (path i) st2.heap) ((List.append (upL N 0) (geL N X)).append L)with
  |true,some ms=> .leaf (rQ v (vs1.map (eP true (bY 0 ((List.append (upL N 0) (geL N X)).append L)))),ms)
  |_,_=> .fail) fun r=>some (r.1,af r.2)
theorem CRX.ofG{E:Eng}(hE:EngOk P ct E)(hN:noNum P=true)(hct:CtOk P ct){n:Nat}{pol:Pol}{fl:List Fl}{ts:List TypeId}{N:Nat}{g:FuncId}{args:List Value}{bs:List Blk}{v:Value}{bs':List Blk}(h:JY P E ct n pol fl ts N g args bs=some (v,af bs')):CRX P N g args bs v bs':=by
 intro K β w args' cs hid ha hr;unfold JY at h;obtain⟨m,v1,st1,h1,h2⟩:=(jP hE n n).call _ _ _ _ _ h;obtain⟨β1,fr,w1,v',a1,a2,a3,a4,a5,a6⟩:=(gU hN hct m K).call g args (af bs) v1 st1 h1 β w args' .normal cs (Or.inl rfl) ha hr;obtain⟨r,hc,h2⟩:=DT.run_spec h2;obtain⟨vs1,ps,st2,f1,f2,f3⟩:=iQ _ _ _ _ _ _ hc;obtain⟨st3,g1,g2⟩:=jq _ _ _ _ _ f1;obtain⟨X0,L,hX⟩:=jE (jB st3) 1000 (List.append args (List.append vs1 (Aj (upL N 0)))) [] [] fun X L=>match Nat.beq vs1.length (mX v1).length,iI 0 ((List.append (upL N 0) (geL N X)).append L) (fun i=>dZ (path i) st3.heap) ((List.append (upL N 0) (geL N X)).append L)with
  |true,some ms=>DT.leaf (rQ v1 (vs1.map (eP true (bY 0 ((List.append (upL N 0) (geL N X)).append L)))),ms)
  |_,_=> .fail
 rw[hX]at g1;have hup:upTo N (upL N 0++geL N X0) 0=true:=vz N 0 _;generalize hY:upL N 0++geL N X0=X at hup;have hY':List.append (upL N 0) (geL N X0)=X:=hY;rw[hY']at g1;split at g1
 ·rename_i ms hvl hm;have hm:iI 0 (X++L) (fun i=>dZ (path i) st3.heap) (X++L)=some ms:=hm;simp only[DT.eval,Option.some.injEq]at g1;subst g1;simp only[Option.some.injEq,Prod.mk.injEq]at h2;obtain⟨rfl,hst⟩:=h2;obtain⟨m1,m2,m3⟩:=ig hm;simp only[dQ]at m2 m3;have hvl:=Nat.eq_of_beq_eq_true hvl;obtain⟨xs,x1,x2⟩:=uI a5;obtain⟨β2,c1,c2,c3⟩:=f3 K β1 w1 xs a3 x1;obtain⟨β3,d1,d2⟩:=g2 K β2 w1 c2;have hmid:=iZ (N:=0) (src:=X++L) d2 (fun i hi=>(hid i hi).elim) (Nat.zero_le _) m1 m2;have hren:=m_ (X++L) β3;have hmsl:ms.length=bs'.length:=by have:=congrArg St.next hst; exact this
  refine⟨⟨gu 0 (X++L) β3,fr,w1,v',a1,(((a2.trans c1).trans d1).leN _).trans (qB hup),?_,a4,?_,a6⟩,?_⟩
  ·rw[<-hst,m3]; exact hmid
  ·refine x2 _ _ (by rw[List.length_map]; exact hvl) ((c3.mono d1).mapr fun v _ x hx=>fO hren v x hx)
  ·rw[<-hmsl,m3,List.length_map,List.length_append];have:=(o6 _ _ _ hup).1;omega
 ·cases g1
end
section
variable{P:Program}{ct:Ct}
def kbF(kb:List Bool):List Value->List Nat:=@List.rec Bool (fun _=>List Value->List Nat) (fun _=>[]) (fun f _ ih vs=>match vs with
 |[]=>[]
 |v::vs=>match f with
  |true=>match v with
   | .slice (some a) _ _=>a.block::ih vs
   |_=>ih vs
  |false=>ih vs) kb
structure HeadK where
 N:Nat
 nt:Nat
 L:List Tmp
 fl:List Fl
 ts:List TypeId
 pol:Pol
 kb:List Bool
def HeadK.head(D:HeadK):Head:=⟨D.N,D.nt,D.L,[]⟩
def Sj(P:Program)(E:Eng)(ct:Ct)(n:Nat)(pol:Pol)(fl:List Fl)(ts:List TypeId)(N:Nat)(kb:List Bool)(g:FuncId)(args:List Value)(bs:List Blk):Res:=
 (o9 P E ct n n).call g args (af bs) fun v st=>DT.run (kX P 60 fl ts (mX v) st fun vs1 ps st1=>qf P pol 200 (List.append (xJ args) (List.append ps (upL N 0))) [] st1 fun st2=>
  lK (jB st2) 1000 (List.append args (List.append vs1 (Aj (upL N 0)))) (kbF kb args) [] fun X L=>match Nat.beq vs1.length (mX v).length,iI 0 ((List.append (upL N 0) (geL N X)).append L) (fun i=>dZ (path i) st2.heap) ((List.append (upL N 0) (geL N X)).append L)with
  |true,some ms=> .leaf (rQ v (vs1.map (eP true (bY 0 ((List.append (upL N 0) (geL N X)).append L)))),ms)
  |_,_=> .fail) fun r=>some (r.1,af r.2)
theorem CRX.ofK{E:Eng}(hE:EngOk P ct E)(hN:noNum P=true)(hct:CtOk P ct){n:Nat}{pol:Pol}{fl:List Fl}{ts:List TypeId}{N:Nat}{kb:List Bool}{g:FuncId}{args:List Value}{bs:List Blk}{v:Value}{bs':List Blk}(h:Sj P E ct n pol fl ts N kb g args bs=some (v,af bs')):CRX P N g args bs v bs':=by
 intro K β w args' cs hid ha hr;unfold Sj at h;obtain⟨m,v1,st1,h1,h2⟩:=(jP hE n n).call _ _ _ _ _ h;obtain⟨β1,fr,w1,v',a1,a2,a3,a4,a5,a6⟩:=(gU hN hct m K).call g args (af bs) v1 st1 h1 β w args' .normal cs (Or.inl rfl) ha hr;obtain⟨r,hc,h2⟩:=DT.run_spec h2;obtain⟨vs1,ps,st2,f1,f2,f3⟩:=iQ _ _ _ _ _ _ hc;obtain⟨st3,g1,g2⟩:=jq _ _ _ _ _ f1;obtain⟨X0,L,hX⟩:=jE (jB st3) 1000 (List.append args (List.append vs1 (Aj (upL N 0)))) (kbF kb args) [] fun X L=>match Nat.beq vs1.length (mX v1).length,iI 0 ((List.append (upL N 0) (geL N X)).append L) (fun i=>dZ (path i) st3.heap) ((List.append (upL N 0) (geL N X)).append L)with
  |true,some ms=>DT.leaf (rQ v1 (vs1.map (eP true (bY 0 ((List.append (upL N 0) (geL N X)).append L)))),ms)
  |_,_=> .fail
 rw[hX]at g1;have hup:upTo N (upL N 0++geL N X0) 0=true:=vz N 0 _;generalize hY:upL N 0++geL N X0=X at hup;have hY':List.append (upL N 0) (geL N X0)=X:=hY;rw[hY']at g1;split at g1
 ·rename_i ms hvl hm;have hm:iI 0 (X++L) (fun i=>dZ (path i) st3.heap) (X++L)=some ms:=hm;simp only[DT.eval,Option.some.injEq]at g1;subst g1;simp only[Option.some.injEq,Prod.mk.injEq]at h2;obtain⟨rfl,hst⟩:=h2;obtain⟨m1,m2,m3⟩:=ig hm;simp only[dQ]at m2 m3;have hvl:=Nat.eq_of_beq_eq_true hvl;obtain⟨xs,x1,x2⟩:=uI a5;obtain⟨β2,c1,c2,c3⟩:=f3 K β1 w1 xs a3 x1;obtain⟨β3,d1,d2⟩:=g2 K β2 w1 c2;have hmid:=iZ (N:=0) (src:=X++L) d2 (fun i hi=>(hid i hi).elim) (Nat.zero_le _) m1 m2;have hren:=m_ (X++L) β3;have hmsl:ms.length=bs'.length:=by have:=congrArg St.next hst; exact this
  refine⟨⟨gu 0 (X++L) β3,fr,w1,v',a1,(((a2.trans c1).trans d1).leN _).trans (qB hup),?_,a4,?_,a6⟩,?_⟩
  ·rw[<-hst,m3]; exact hmid
  ·refine x2 _ _ (by rw[List.length_map]; exact hvl) ((c3.mono d1).mapr fun v _ x hx=>fO hren v x hx)
  ·rw[<-hmsl,m3,List.length_map,List.length_append];have:=(o6 _ _ _ hup).1;omega
 ·cases g1
theorem CR.ofK0{g:FuncId}{args:List Value}{v:Value}{bs:List Blk}{N:Nat}(h:CRX P N g args [] v bs):CR P g args v bs:=by
 intro w args' cs obs hG ha;obtain⟨⟨β',fr,w',v',h1,h2,h3,h4,h5,h6⟩,_⟩:=h (K0 w obs) (envOf w) w args' cs (fun _ h=>h) ha (Ac w obs hG);refine⟨β',fr,w',v',h1,fun i l hi=>?_,h3,h4,h5,h6⟩;cases i with
 |ofNat i=>cases hi
 |negSucc k=>exact h2 _ _ (by show Int.negSucc k<(N:Int); omega) hi
end
end Go.VS
end

noncomputable section
namespace Go.VS.Tryz
open Go.VS
set_option maxRecDepth 1000000





def StaM.shut(s:StaM)(n:Nat):StaM:={ s with log:=s.log.take n,dk:={ s.dk with steps:=s.dk.steps+1+1,d0:=lg (s.log.take n),pend:=[] },wbr:=false,wcs:=s.log.take n,wes:=lX (s.log.take n) }
theorem DkC.mono{d:DkM}{k K:Nat}(h:DkC d K)(hk:k<=K):DkC d k:=⟨h.off,h.fused,h.fuse,h.steps.1,by have:=h.steps.2; omega⟩
theorem StQ.mono{s:StaM}{k K:Nat}(h:StQ s K)(hk:k<=K):StQ s k:=⟨h.off,h.dk.mono hk,h.pend,h.wbr,h.wcs,h.wes,h.sr,h.d0⟩
theorem uO{a l:List CmM}(h:l≠[]):eG (a++l)=eG l:=by
 rcases List.eq_nil_or_concat l with rfl | ⟨t,c,rfl⟩
 ·exact absurd rfl h
 ·rw[List.concat_eq_append,<-List.append_assoc,o5,o5]
theorem Zw{s:StaM}{l:List CmM}{k K:Nat}(hs:StQ s (K+20000))(hk:k<=17*l.length)(hl:l.length<=1000):StQ (s.added k l) K:=by
 obtain⟨h1,h2,h3,h4,h5,h6,h7,h8⟩:=hs;have hst:=h2.steps;refine⟨h1,⟨h2.off,h2.fused,h2.fuse,?_,?_⟩,rfl,rfl,rfl,rfl,⟨h7.tb.log l,?_,?_,h7.r,h7.r0⟩,?_⟩
 ·show 0<=s.dk.steps+(k:Int)+1; omega
 ·show s.dk.steps+(k:Int)+1+(K:Int)<_; omega
 ·show((s.log++l).length:Int)=bI s.rs+((s.rest++l).length:Int);have:=h7.n;rw[List.length_append,List.length_append]; omega
 ·show s.rest++l=[]\/eG (s.rest++l)=eG (s.log++l);by_cases hn:l=[]
  ·subst hn; rw[List.append_nil,List.append_nil]; exact h7.e
  ·right; rw[uO hn,uO hn]
 ·show s.dk.d0++lg l=lg (s.log++l);rw[h8,Dp]
theorem aaQ{s:StaM}{p:PgM}{k K:Nat}(hs:StQ s (K+20000))(hk:k<=2):StQ (s.paged k p) K:=by
 obtain⟨h1,h2,h3,h4,h5,h6,h7,h8⟩:=hs;have hst:=h2.steps;refine⟨h1,⟨h2.off,h2.fused,h2.fuse,?_,?_⟩,rfl,h4,h5,h6,⟨h7.tb,h7.n,h7.e,h7.r,h7.r0⟩,h8⟩
 ·show 0<=s.dk.steps+(k:Int)+1; omega
 ·show s.dk.steps+(k:Int)+1+(K:Int)<_; omega

theorem BL:∀ {l:List CmM} {e n:Int} {i:Nat},jJ e n i l=(0,0)->∀ c∈l,cmE c=0
 |[],_,_,_,_=>fun c hc=>by cases hc
 |c::l,e,n,i,h=>by
  obtain⟨h1,_,_,h4⟩:=xM h;intro x hx;rcases List.mem_cons.1 hx with rfl | hx
  ·exact h1
  ·exact BL h4 x hx


end Go.VS.Tryz
end
