/- Texts of the proof, merged: Ra0, Dk1, Dk2, Rb1, Rb2, Rb3, Rb4, VsFz1, Rb5, Pl1, Pl2, Rb6, Pl3, VsOne, Rb7, Cm1, Cm2, Dk3, Dk4, Dk5, Dk6, Dk7, Dk8, Dk9, Dk10, Dk11, Dk12, Dk13, Wl1, Wl2, Ta1, Ta2, Sr1, Sr2, Pg1, Pg2, Wl3, Rs1, Rs2, Rs3. No conditions. -/
import Derived.Test.YtepmajonlgbdlaaGreatReconcileLeftQ3
set_option linter.unusedSimpArgs false
set_option linter.unusedVariables false
noncomputable section
namespace Go.VS.Tryz
open Go.VS
set_option maxRecDepth 1000000
theorem rH{s n m:Nat}{a b:List Value}(h:aJ s n 0 a=aJ s m 0 b):a=b:=by
 unfold aJ at h;simp only[Value.iface.injEq,Value.agg.injEq,Array.mk.injEq,List.cons.injEq]at h;exact h.2.2
theorem Dk(s n b:Nat)(c:List Value):jJ (aJ s n b c)=true:=by
 unfold aJ;simp only[jJ];rw[Nat.ble_eq_true_of_le (Nat.le_add_right FZ s)]
structure OpM where
 p:Bool
 k:ByteArray
 v:ByteArray
def EOp:Enc OpM where
 sz:=3
 f o:=[.bool o.p, .string o.k, .string o.v]
 len _:=rfl
 pos:=by decide
 inj a b h:=by
  obtain⟨p,k,v⟩:=a;obtain⟨p',k',v'⟩:=b;simp only[List.cons.injEq,Value.bool.injEq,Value.string.injEq,and_true]at h;obtain⟨rfl,rfl,rfl⟩:=h
  rfl
 nr _:=rfl
structure CmM where
 e:Int
 n:Int
 ops:List OpM
def ECm:Enc CmM where
 sz:=3
 f c:=[.int .i64 c.e, .int .i64 c.n,aJ 3 c.ops.length 0 (EOp.all c.ops)]
 len _:=rfl
 pos:=by decide
 inj a b h:=by
  obtain⟨e,n,o⟩:=a;obtain⟨e',n',o'⟩:=b;simp only[List.cons.injEq,Value.int.injEq,true_and,and_true]at h;obtain⟨rfl,rfl,h⟩:=h;obtain rfl:=EOp.all_inj _ _ (rH h)
  rfl
 nr c:=by simp only[gy,jJ,Dk,Bool.and_self]
structure RunM where
 a:Int
 b:Int
 ops:List OpM
def iC:Enc RunM where
 sz:=3
 f c:=[.int .i64 c.a, .int .i64 c.b,aJ 3 c.ops.length 0 (EOp.all c.ops)]
 len _:=rfl
 pos:=by decide
 inj a b h:=by
  obtain⟨e,n,o⟩:=a;obtain⟨e',n',o'⟩:=b;simp only[List.cons.injEq,Value.int.injEq,true_and,and_true]at h;obtain⟨rfl,rfl,h⟩:=h;obtain rfl:=EOp.all_inj _ _ (rH h)
  rfl
 nr c:=by simp only[gy,jJ,Dk,Bool.and_self]
theorem tV:∀ {a b:List UInt8},bc a=bc b->a=b:=by
 intro a b h;have:=congrArg (List.map byteOf) h;rwa [bg,bg]at this
/-- A raw step of a disk: its kind,its file,bytes,a length. -/
structure StM where
 kind:Int
 file:Int
 bytes:List UInt8
 len:Int
def ESt:Enc StM where
 sz:=4
 f s:=[.int .i64 s.kind, .int .i64 s.file,aJ 1 s.bytes.length 0 (bc s.bytes), .int .i64 s.len]
 len _:=rfl
 pos:=by decide
 inj a b h:=by
  obtain⟨k,f,o,l⟩:=a;obtain⟨k',f',o',l'⟩:=b;simp only[List.cons.injEq,Value.int.injEq,true_and,and_true]at h;obtain⟨rfl,rfl,h,rfl⟩:=h;obtain rfl:=tV (rH h)
  rfl
 nr c:=by simp only[gy,jJ,Dk,Bool.and_self]
theorem FU{l:List OpM}{i:Nat}(h:i<l.length):bT (EOp.all l) (atN (i:Int) 3) = .bool l[i].p:=by
 have e:atN (i:Int) 3=i*EOp.sz+0:=by simp[atN]; rfl
 rw[e,EOp.nth h (by decide)]; rfl
theorem Fv{l:List OpM}{i:Nat}(h:i<l.length):bT (EOp.all l) (Nat.add (atN (i:Int) 3) 1) = .string l[i].k:=by
 have e:Nat.add (atN (i:Int) 3) 1=i*EOp.sz+1:=by simp[atN]; rfl
 rw[e,EOp.nth h (by decide)]; rfl
theorem F_{l:List OpM}{i:Nat}(h:i<l.length):bT (EOp.all l) (Nat.add (Nat.add (atN (i:Int) 3) 1) 1) = .string l[i].v:=by
 have e:Nat.add (Nat.add (atN (i:Int) 3) 1) 1=i*EOp.sz+2:=by simp[atN]; rfl
 rw[e,EOp.nth h (by decide)]; rfl
theorem k_{l:List CmM}{i:Nat}(h:i<l.length):bT (ECm.all l) (atN (i:Int) 3) = .int .i64 l[i].e:=by
 have e:atN (i:Int) 3=i*ECm.sz+0:=by simp[atN]; rfl
 rw[e,ECm.nth h (by decide)]; rfl
theorem vP{l:List CmM}{i:Nat}(h:i<l.length):bT (ECm.all l) (Nat.add (atN (i:Int) 3) 1) = .int .i64 l[i].n:=by
 have e:Nat.add (atN (i:Int) 3) 1=i*ECm.sz+1:=by simp[atN]; rfl
 rw[e,ECm.nth h (by decide)]; rfl
theorem uh{l:List CmM}{i:Nat}(h:i<l.length):bT (ECm.all l) (Nat.add (Nat.add (atN (i:Int) 3) 1) 1)=aJ 3 l[i].ops.length 0 (EOp.all l[i].ops):=by
 have e:Nat.add (Nat.add (atN (i:Int) 3) 1) 1=i*ECm.sz+2:=by simp[atN]; rfl
 rw[e,ECm.nth h (by decide)]; rfl
theorem VV{l:List StM}{i:Nat}(h:i<l.length):bT (ESt.all l) (atN (i:Int) 4) = .int .i64 l[i].kind:=by
 have e:atN (i:Int) 4=i*ESt.sz+0:=by simp[atN]; rfl
 rw[e,ESt.nth h (by decide)]; rfl
theorem Xf{l:List StM}{i:Nat}(h:i<l.length):bT (ESt.all l) (Nat.add (atN (i:Int) 4) 1) = .int .i64 l[i].file:=by
 have e:Nat.add (atN (i:Int) 4) 1=i*ESt.sz+1:=by simp[atN]; rfl
 rw[e,ESt.nth h (by decide)]; rfl
theorem Wu{l:List StM}{i:Nat}(h:i<l.length):bT (ESt.all l) (Nat.add (Nat.add (atN (i:Int) 4) 1) 1)=aJ 1 l[i].bytes.length 0 (bc l[i].bytes):=by
 have e:Nat.add (Nat.add (atN (i:Int) 4) 1) 1=i*ESt.sz+2:=by simp[atN]; rfl
 rw[e,ESt.nth h (by decide)]; rfl
theorem XE{l:List StM}{i:Nat}(h:i<l.length):bT (ESt.all l) (Nat.add (Nat.add (Nat.add (atN (i:Int) 4) 1) 1) 1) = .int .i64 l[i].len:=by
 have e:Nat.add (Nat.add (Nat.add (atN (i:Int) 4) 1) 1) 1=i*ESt.sz+3:=by simp[atN]; rfl
 rw[e,ESt.nth h (by decide)]; rfl
theorem Au{s n b:Nat}{c:List Value}(hs:s≠0):jV (aJ s n b c)=some ⟨s,n,b,c⟩:=by
 unfold jV aJ;simp only;rw[if_pos (Nat.ble_eq_true_of_le (by omega))];have e:FZ+s-FZ=s:=by omega
 rw[e]
theorem Ew{s n b:Nat}{c:List Value}(hs:s≠0):zN (aJ s n b c)=n:=by unfold zN; rw[Au hs]
theorem Yh{s n b:Nat}{c:List Value}(hs:s≠0):zB (aJ s n b c)=b:=by unfold zB; rw[Au hs]
theorem IB{s n b:Nat}{c:List Value}(hs:s≠0):zC (aJ s n b c)=c:=by unfold zC; rw[Au hs]
theorem Ju{s n b:Nat}{c:List Value}(hs:s≠0):isZ s (aJ s n b c)=true:=by unfold isZ; rw[Au hs]; simp
theorem fzU:FZ+1=18446744073709551617:=by unfold FZ; rfl
theorem um:FZ+3=18446744073709551619:=by unfold FZ; rfl
theorem uV(l:List UInt8)(a k:Nat):takeC k (aU a (bc l))=bc ((l.drop a).take k):=by
 unfold takeC aU bc;rw[List.map_take,List.map_drop]
theorem eH{l:List UInt8}{k:Nat}(h:k=l.length):takeC k (aU 0 (bc l))=bc l:=by rw[uV,h,List.drop_zero,List.take_length]
theorem aY(n:Nat):Nat.mul n 1=n:=Nat.mul_one n
theorem aO(n:Nat):Nat.add 0 n=n:=Nat.zero_add n
theorem QR(n:Nat):fZ 0 (ak n)=n:=by simp[fZ,ak]
theorem acF(k n:Nat):fZ (k:Int) (ak n)=n-k:=by simp[fZ,ak]
theorem acj(n:Nat):fZ (ak n) (ak n)=0:=by simp[fZ]
theorem cap0(n:Nat):oz 0 n=0:=by simp[oz]
theorem nV{l:List StM}{n:Nat}(h:n=l.length):takeC (Nat.mul n 4) (aU 0 (ESt.all l))=ESt.all l:=by
 subst h; exact ESt.all_self l
theorem EF{l:List UInt8}{n:Nat}(h:n=l.length):gV P 0 n 18446744073709551616 (bc l) 5=true:=by
 subst h;have he:esz P 5=1:=by kernel_rfl
 unfold gV;rw[he];have h1:gy (bc l)=true:=by
  refine pM.2 fun v hv=>?_;unfold bc at hv;obtain⟨b,_,rfl⟩:=List.mem_map.1 hv
  rfl
 rw[h1,ax];have h2:Nat.ble (Nat.add 0 (Nat.mul l.length 1)) l.length=true:=by rw[aY,aO]; exact Nat.ble_eq_true_of_le (Nat.le_refl _)
 rw[h2]; rfl
theorem dn(a n c:Nat):bZ (.slice (some ⟨a,0,none⟩) n c) (.slice (some ⟨a,0,none⟩) n c)=true:=by simp[bZ]
def fJ:Pol:=fun t=>match Nat.beq t 108 with
 |true=>some [.val, .val, .val, .val, .val, .own, .own, .own, .own, .own]
 |false=>none
theorem ay{x:Res}:ae true x=x:=rfl
def ctF:Ct:=Ye P
theorem aW:CtOk P ctF:=Xu aA
structure DkM where
 off:Bool
 fused:Bool
 fuse:Int
 steps:Int
 d0:List UInt8
 d1:List UInt8
 d2:List UInt8
 d3:List UInt8
 pend:List StM
def dkC(off fused:Bool)(fuse steps:Int)(n0 n1 n2 n3 np:Nat):List Value:=[.bool true, .bool off, .bool fused, .int .i64 fuse, .int .i64 steps, .slice (some ⟨1,0,none⟩) n0 18446744073709551616, .slice (some ⟨2,0,none⟩) n1 18446744073709551616, .slice (some ⟨3,0,none⟩) n2 18446744073709551616, .slice (some ⟨4,0,none⟩) n3 18446744073709551616, .slice (some ⟨5,0,none⟩) np 18446744073709551616]
def aN(m:DkM):List Blk:=[.cells (dkC m.off m.fused m.fuse m.steps m.d0.length m.d1.length m.d2.length m.d3.length m.pend.length) 108 true, .cells (bc m.d0) 5 false, .cells (bc m.d1) 5 false, .cells (bc m.d2) 5 false, .cells (bc m.d3) 5 false, .cells (ESt.all m.pend) 132 false]
def dk_(d:DkM)(a b c e f:Nat):Blk:=(Blk.cells [(Value.bool Bool.true),(Value.bool (DkM.off d)),(Value.bool (DkM.fused d)),(Value.int IntKind.i64 (DkM.fuse d)),(Value.int IntKind.i64 (DkM.steps d)),(Value.slice (Option.some (Addr.mk a 0 none)) (List.length (DkM.d0 d)) 18446744073709551616),(Value.slice (Option.some (Addr.mk b 0 none)) (List.length (DkM.d1 d)) 18446744073709551616),(Value.slice (Option.some (Addr.mk c 0 none)) (List.length (DkM.d2 d)) 18446744073709551616),(Value.slice (Option.some (Addr.mk e 0 none)) (List.length (DkM.d3 d)) 18446744073709551616),(Value.slice (Option.some (Addr.mk f 0 none)) (List.length (DkM.pend d)) 18446744073709551616)] 108 Bool.true)
def p0:Value:= .pointer (some ⟨0,0,none⟩)
def Dwr:HeadX:=⟨1,44,[0,1,2,6],[.val, .val, .val, .val],[],fJ⟩
def Bwr:Code:=(dZ P 71 0).getD .skip
theorem Un:dZ P 71 0=some Bwr:=by kernel_rfl
theorem Ba:Occ P 71 (.block 0 (.loop Bwr)):=fM Un
theorem UQ(off fused:Bool)(fuse steps:Int)(n0 n1 n2 n3 np:Nat)(c0 c1 c2 c3 cp:List Value)(f:Int)(n b:Nat)(c:List Value)(e:Int):bV P E ctF 50 71 Bwr Dwr [.pointer (some ⟨0,0,none⟩), .int .i64 f,aJ 1 n b c, .int .i64 e] [.cells (dkC off fused fuse steps n0 n1 n2 n3 np) 108 true, .cells c0 5 false, .cells c1 5 false, .cells c2 5 false, .cells c3 5 false, .cells cp 132 false] =
 (let z0:=ak n;let y0:=pt_ 0;let x0:=Value.int .i64 f;let w0:=fb_ n b c;let v0:=Value.bool true;let u0:=Value.bool fused;let t0:=Value.int .i64 fuse;let s0:=Value.int .i64 steps;let r0:=sl_ 1 n0;let q0:=sl_ 2 n1;let p0:=sl_ 3 n2;let o0:=sl_ 4 n3;let m0:=sl_ 5 np;let l0:=aH 0 [0,6,7,8,9,10];
 let k0:=lb_ l0 n0 1 c0 5;let j0:=lb_ l0 n1 1 c1 5;let i0:=lb_ l0 n2 1 c2 5;let h0:=lb_ l0 n3 1 c3 5;let g0:=lb_ l0 np 4 cp 132;let f0:=ltI 64 z0;let e0:=Nat.beq 1 1;let d0:=Bool.and e0 (eF 0 64 n);let b0:=aU 0 c;let a0:=takeC 64 b0;let Z0:=List.all a0 oneCell;let Y0:=gV P 0 64 18446744073709551616 a0 5;
 let X0:=Nat.add np 1;let W0:=Nat.ble X0 4194304;let V0:=Nat.beq (Nat.add 0 (Nat.mul np 4)) cp.length;let U0:=bZ m0 m0;let T0:=Bool.and e0 (eF 64 z0 n);let S0:=jC 0 cp;let R0:=Value.int .i64 0;let Q0:=List.append S0 [R0,x0,fb_ 64 0 (takeC 64 (aU 0 a0)),R0];let P0:=fZ 64 z0;let O0:=Value.int .i64 e;
 let N0:=Value.tuple ⟨[R0,y0,x0,fb_ P0 (oz b 64) (takeC (Nat.mul P0 1) (aU 64 c)),O0]⟩;let M0:=Value.bool off;let L0:=Value.int .i64 (dI .i64 steps 1);let K0:=Blk.cells [v0,M0,u0, .int .i64 (eU .i64 fuse 1),L0,r0,q0,p0,o0,sl_ 5 X0] 108 true;let J0:=aH 0 [0,24,25,26,27,28];
 let I0:=lb_ J0 n0 1 c0 5;let H0:=lb_ J0 n1 1 c1 5;let G0:=lb_ J0 n2 1 c2 5;let F0:=lb_ J0 n3 1 c3 5;let E0:=lb_ J0 X0 4 Q0 132;let D0:=Bool.and e0 (eF 0 z0 n);let C0:=fZ 0 z0;let B0:=Nat.mul C0 1;let A0:=takeC B0 b0;let z1:=List.all A0 oneCell;let y1:=Nat.beq 0 0;let x1:=Bool.and y1 (Bool.and y1 (Nat.ble C0 4194304));
 let w1:=gV P 0 C0 18446744073709551616 A0 5;let v1:=Bool.and e0 (eF z0 z0 n);let u1:=List.append S0 [R0,x0,fb_ C0 0 (takeC B0 (aU 0 A0)),R0];let t1:=fZ z0 z0;let s1:=Value.tuple ⟨[R0,y0,x0,fb_ t1 (oz b (Int.toNat z0)) (takeC (Nat.mul t1 1) (aU (atN z0 1) c)),O0]⟩;let r1:=lb_ J0 X0 4 u1 132;
 let q1:=Blk.cells [v0,M0,u0,t0,L0,r0,q0,p0,o0,sl_ 5 X0] 108 true;
 (aj (gtI z0 0) (aj fused (aj (eqI fuse 0) (nb_ n0 1 c0 (nb_ n1 1 c1 (nb_ n2 1 c2 (nb_ n3 1 c3 (nb_ np 4 cp (some (.tuple ⟨[.int .i64 (-1),y0,x0,w0, .int .i64 6]⟩,ag [.cells [v0,v0,u0,t0,s0,r0,q0,p0,o0,m0] 108 true,k0,j0,i0,h0,g0]))))))) (aj f0 (ae d0 (ae Z0 (ae Y0 (ae W0 (ae V0 (ae U0 (ae T0 (nb_ n0 1 c0 (nb_ n1 1 c1 (nb_ n2 1 c2 (nb_ n3 1 c3 (nb_ X0 4 Q0 (some (N0,ag [K0,I0,H0,G0,F0,E0])))))))))))))) (ae D0 (ae z1 (ae x1 (ae w1 (ae W0 (ae V0 (ae U0 (ae v1 (nb_ n0 1 c0 (nb_ n1 1 c1 (nb_ n2 1 c2 (nb_ n3 1 c3 (nb_ X0 4 u1 (some (s1,ag [K0,I0,H0,G0,F0,r1]))))))))))))))))) (aj f0 (ae d0 (ae Z0 (ae Y0 (ae W0 (ae V0 (ae U0 (ae T0 (nb_ n0 1 c0 (nb_ n1 1 c1 (nb_ n2 1 c2 (nb_ n3 1 c3 (nb_ X0 4 Q0 (some (N0,ag [q1,I0,H0,G0,F0,E0])))))))))))))) (ae D0 (ae z1 (ae x1 (ae w1 (ae W0 (ae V0 (ae U0 (ae v1 (nb_ n0 1 c0 (nb_ n1 1 c1 (nb_ n2 1 c2 (nb_ n3 1 c3 (nb_ X0 4 u1 (some (s1,ag [q1,I0,H0,G0,F0,r1]))))))))))))))))) (nb_ n0 1 c0 (nb_ n1 1 c1 (nb_ n2 1 c2 (nb_ n3 1 c3 (nb_ np 4 cp (some (.tuple ⟨[.int .i64 1,y0,x0,w0,O0]⟩,ag [.cells [v0,M0,u0,t0,s0,r0,q0,p0,o0,m0] 108 true,k0,j0,i0,h0,g0]))))))))):=by kernel_rfl
def jk(m:DkM):Option DkM:=match m.fused,eqI m.fuse 0 with
 |false,_=>some { m with steps:=m.steps+1 }
 |true,true=>none
 |true,false=>some { m with fuse:=m.fuse-1,steps:=m.steps+1 }
structure DkOk(m:DkM):Prop where
 s0:0<=m.steps
 s1:m.steps<4611686018427387904
 f0:0<=m.fuse
 f1:m.fuse<9223372036854775808
 p1:m.pend.length<4194304
def wrV(f:Int)(b:List UInt8)(e:Int):List Value:=[p0, .int .i64 f,aJ 1 b.length 0 (bc b), .int .i64 e]
def stW(f:Int)(b:List UInt8):StM:=⟨0,f,b.take 64,0⟩
theorem Yk(l:List StM)(f:Int)(b:List UInt8)(n:Nat)(hn:n=(b.take 64).length):List.append (jC 0 (ESt.all l)) [.int .i64 0, .int .i64 f, .iface 18446744073709551617 (.agg ⟨.slice none n 0::bc (b.take 64)⟩), .int .i64 0]=ESt.all (l++[stW f b]):=by
 subst hn;rw[ESt.all_append,ESt.all_one,<-fzU]
 rfl
theorem Xl{m:DkM}{f e:Int}{b:List UInt8}(hb:b≠[])(hl:b.length<=4194304)(ho:DkOk m) :
  bV P E ctF 50 71 Bwr Dwr (wrV f b e) (aN m)=match jk m with
   |some m'=>some (.tuple ⟨exV .normal::wrV f (b.drop 64) e⟩,ag (aN { m' with pend:=m.pend++[stW f b] }))
   |none=>some (.tuple ⟨exV .ret::wrV f b 6⟩,ag (aN { m with off:=true })):=by
 obtain⟨off,fused,fuse,steps,d0,d1,d2,d3,pend⟩:=m;obtain⟨s0,s1,f0,f1,p1⟩:=ho;simp only at s0 s1 f0 f1 p1;have hlen:0<b.length:=List.length_pos_iff.2 hb;unfold wrV p0 aN;simp only;rw[UQ];have g1:gtI (ak b.length) 0=true:=by unfold gtI ak; exact decide_eq_true (by omega)
 have hs:dI .i64 steps 1=steps+1:=by unfold dI; rw[wrap64 (by omega) (by omega)]
 have hf:eU .i64 fuse 1=fuse-1:=by unfold eU; rw[wrap64 (by omega) (by omega)]
 have hp:(pend++[stW f b]).length=Nat.add pend.length 1:=by simp
 have t1:Nat.ble (Nat.add pend.length 1) 4194304=true:=Nat.ble_eq_true_of_le (by show pend.length+1<=_; omega);have b2:∀ n,Nat.ble n n=true:=fun n=>Nat.ble_eq_true_of_le (Nat.le_refl n);have b3:∀ n,Nat.beq n n=true:=Nat.beq_refl;have n4:∀ l:List StM,(ESt.all l).length=Nat.mul l.length 4:=fun l=>ESt.all_length l;have fin:∀ (A B:Res),A=B->A=B:=fun _ _ h=>h;by_cases h64:64<b.length
 ·have g2:ltI 64 (ak b.length)=true:=by unfold ltI ak; exact decide_eq_true (by omega)
  have c1:eF 0 64 b.length=true:=lY (by omega) (by omega) (by omega);have c2:eF 64 (ak b.length) b.length=true:=lY (by omega) (by unfold ak; omega) (by unfold ak; omega);have e1:64=(b.take 64).length:=by rw[List.length_take]; omega
  have e2:takeC 64 (aU 0 (bc b))=bc (b.take 64):=by rw[uV,List.drop_zero]
  have e3:takeC 64 (aU 0 (bc (b.take 64)))=bc (b.take 64):=eH e1;have e4:takeC (b.length-64) (aU 64 (bc b))=bc (b.drop 64):=by rw[uV,List.take_of_length_le (by simp)]
  have e5:(b.drop 64).length=b.length-64:=List.length_drop;have q:=EF (l:=b.take 64) e1;have sa:=Yk pend f b 64 e1;have lk:fZ 64 (ak b.length)=b.length-64:=acF 64 b.length;simp only[fb_,lb_,nb_,pt_,sl_,g1,g2,c1,c2,e2,e3,lk,aY,e4,e5,q,bD,cap0,dn,aO,ax,b2,b3,t1,sa,n4,hp,eH rfl,nV rfl,nV hp.symm,aX,Enc.all_ren,Bool.and_self,aG,ay,hs,hf];unfold aJ jk;rw[fzU];cases fused with
  |false=>rfl
  |true=>
   cases hq:eqI fuse 0<;>simp only[fb_,lb_,nb_,pt_,sl_,hq]<;>rfl
 ·have g2:ltI 64 (ak b.length)=false:=by unfold ltI ak; exact decide_eq_false (by omega)
  have c1:eF 0 (ak b.length) b.length=true:=lY (by omega) (by unfold ak; omega) (by unfold ak; omega);have c2:eF (ak b.length) (ak b.length) b.length=true:=lY (by unfold ak; omega) (by omega) (by unfold ak; omega);have hbt:b.take 64=b:=List.take_of_length_le (by omega);have hbd:b.drop 64=[]:=List.drop_of_length_le (by omega);have e2:takeC b.length (aU 0 (bc b))=bc b:=eH rfl;have e4:∀ k,takeC 0 (aU k (bc b))=[]:=fun k=>rfl;have q:=EF (l:=b) rfl;have sa:=Yk pend f b b.length (by rw[hbt]);rw[hbt]at sa;have t2:Nat.ble b.length 4194304=true:=Nat.ble_eq_true_of_le hl;simp only[fb_,lb_,nb_,pt_,sl_,g1,g2,c1,c2,e2,QR,acj,aY,e4,q,bD,cap0,dn,aO,ax,b2,b3,t1,t2,sa,n4,hp,eH rfl,nV rfl,nV hp.symm,aX,Enc.all_ren,Bool.and_self,aG,aF,ay,hs,hf,hbd];unfold aJ jk;rw[fzU];cases fused with
  |false=>rfl
  |true=>
   cases hq:eqI fuse 0<;>simp only[fb_,lb_,nb_,pt_,sl_,hq]<;>rfl
theorem SN{m:DkM}{f e:Int}:bV P E ctF 50 71 Bwr Dwr (wrV f [] e) (aN m)=some (.tuple ⟨exV (.exit 0)::wrV f [] e⟩,ag (aN m)):=by
 obtain⟨off,fused,fuse,steps,d0,d1,d2,d3,pend⟩:=m;unfold wrV p0 aN;simp only;show bV P E ctF 50 _ Bwr Dwr [.pointer (some ⟨0,0,none⟩), .int .i64 f,aJ 1 0 0 [], .int .i64 e] _=_;rw[UQ];have b2:∀ n,Nat.ble n n=true:=fun n=>Nat.ble_eq_true_of_le (Nat.le_refl n);have n4:∀ l:List StM,(ESt.all l).length=Nat.mul l.length 4:=fun l=>ESt.all_length l;have g1:gtI (ak 0) 0=false:=rfl;simp only[fb_,lb_,nb_,pt_,sl_,g1,aY,aO,ax,b2,n4,eH rfl,nV rfl,aX,Enc.all_ren,Bool.and_self,aF,ay];unfold aJ;rw[fzU]
 rfl
def wrM:Nat->DkM->Int->List UInt8->DkM×List UInt8×Bool
 |0,m,_,b=>(m,b,true)
 |k+1,m,f,b=>match b with
  |[]=>(m,[],true)
  |_::_=>match jk m with
   |none=>({ m with off:=true },b,false)
   |some m'=>wrM k { m' with pend:=m.pend++[stW f b] } f (b.drop 64)
def oO(m:DkM)(k:Nat):Prop:=0<=m.steps/\m.steps+k<4611686018427387904/\0<=m.fuse/\m.fuse<9223372036854775808/\m.pend.length+k<4194304
theorem oO.ok{m:DkM}{k:Nat}(h:oO m (k+1)):DkOk m:=⟨h.1,by have:=h.2.1; omega,h.2.2.1,h.2.2.2.1,by have:=h.2.2.2.2; omega⟩
theorem UK{m m':DkM}{k:Nat}{x:StM}(h:oO m (k+1))(hm:jk m=some m'):oO { m' with pend:=m.pend++[x] } k:=by
 obtain⟨h1,h2,h3,h4,h5⟩:=h;unfold jk at hm;split at hm
 ·obtain rfl:=Option.some.inj hm;exact⟨by show 0<=m.steps+1; omega,by show m.steps+1+k<_; omega,h3,h4,by show(m.pend++[x]).length+k<_; rw[List.length_append]; simp; omega⟩
 ·cases hm
 ·rename_i hq;obtain rfl:=Option.some.inj hm;have:m.fuse≠0:=by simpa [eqI]using hq
  exact⟨by show 0<=m.steps+1; omega,by show m.steps+1+k<_; omega,by show 0<=m.fuse-1; omega,by show m.fuse-1<_; omega,by show(m.pend++[x]).length+k<_; rw[List.length_append]; simp; omega⟩
theorem O8(f e:Int):∀ (k:Nat) (m:DkM) (b:List UInt8),b.length<=64*k->b.length<=4194304->oO m k->
  LRX P 71 0 Bwr Dwr.head (wrV f b e) (aN m) (match(wrM k m f b).2.2 with | true=> .normal | false=> .ret)
   (match(wrM k m f b).2.2 with | true=>wrV f [] e | false=>wrV f (wrM k m f b).2.1 6) (aN (wrM k m f b).1)
 |0,m,b,hl,hb,hr=>by
  obtain rfl:b=[]:=List.length_eq_zero_iff.1 (by omega);exact LRX.stop (n:=50) (bf ctF) aA aW Ba (e:= .exit 0) SN (by intro h; cases h)
 |k+1,m,b,hl,hb,hr=>by
  cases b with
  |nil=>exact LRX.stop (n:=50) (bf ctF) aA aW Ba (e:= .exit 0) SN (by intro h; cases h)
  |cons x b=>
   have q:=Xl (f:=f) (e:=e) (b:=x::b) (by simp) hb hr.ok;cases hm:jk m with
   |none=>
    rw[hm]at q;have ew:wrM (k+1) m f (x::b)=({ m with off:=true },x::b,false):=by rw[wrM]; simp only[hm]
    rw[ew];exact LRX.stop (n:=50) (bf ctF) aA aW Ba (e:= .ret) q (by intro h; cases h)
   |some m'=>
    rw[hm]at q;have ew:wrM (k+1) m f (x::b)=wrM k { m' with pend:=m.pend++[stW f (x::b)] } f ((x::b).drop 64):=by rw[wrM]; simp only[hm]
    rw[ew];exact LRX.again (n:=50) (bf ctF) aA aW Ba q (O8 f e k _ _ (by rw[List.length_drop]; omega) (by rw[List.length_drop]; omega) (UK hr hm))
structure WrS where
 m:DkM
 f:Int
 b:List UInt8
 e:Int
theorem ny{a b:DkM}(h:aN a=aN b):a=b:=by
 obtain⟨a1,a2,a3,a4,a5,a6,a7,a8,a9⟩:=a;obtain⟨b1,b2,b3,b4,b5,b6,b7,b8,b9⟩:=b;unfold aN dkC at h;simp only[List.cons.injEq,Blk.cells.injEq,Value.bool.injEq,Value.int.injEq,and_true,true_and]at h;obtain⟨⟨h1,h2,h3,h4,_⟩,h5,h6,h7,h8,h9⟩:=h;subst h1 h2 h3 h4;obtain rfl:=tV h5;obtain rfl:=tV h6;obtain rfl:=tV h7;obtain rfl:=tV h8;obtain rfl:=ESt.all_inj _ _ h9
 rfl
def nG(n:Nat):Nat:=(n+63) / 64
def dk0:DkM:=⟨false,false,0,0,[],[],[],[],[]⟩
def kWr:Con WrS where
 enc s:=(wrV s.f s.b s.e,aN s.m)
 ok s:=s.b.length<=4194304/\oO s.m (nG s.b.length)
 inj a b h:=by
  obtain⟨a1,a2,a3,a4⟩:=a;obtain⟨b1,b2,b3,b4⟩:=b;simp only[Prod.mk.injEq]at h;obtain⟨h1,h2⟩:=h;obtain rfl:=ny h2;unfold wrV at h1;simp only[List.cons.injEq,Value.int.injEq,true_and,and_true]at h1;obtain⟨rfl,h3,rfl⟩:=h1;obtain rfl:=tV (rH h3)
  rfl
 dflt:=⟨dk0,0,[],0⟩
def Qo(W:WrS->DkM×List UInt8×Bool)(s:WrS):DT (Ex×List Value×List Blk):=
 .ite (W s).2.2 (.leaf (.normal,wrV s.f [] s.e,aN (W s).1)) (.leaf (.ret,wrV s.f (W s).2.1 6,aN (W s).1))
def wrW(s:WrS):DkM×List UInt8×Bool:=wrM (nG s.b.length) s.m s.f s.b
theorem U7:LoopOkX P 71 0 Bwr Dwr.head (z_ kWr.C kWr.D (Qo wrW)):=
 vC kWr (d_ Un) fun s ho e vs' bs' hev=>by
  have:=O8 s.f s.e (nG s.b.length) s.m s.b (by unfold nG; omega) ho.1 ho.2;unfold Qo wrW at hev;cases hq:(wrM (nG s.b.length) s.m s.f s.b).2.2 with
  |true=>
   rw[hq]at hev this;simp only[DT.eval,Option.some.injEq,Prod.mk.injEq]at hev;obtain⟨rfl,rfl,rfl⟩:=hev;exact this
  |false=>
   rw[hq]at hev this;simp only[DT.eval,Option.some.injEq,Prod.mk.injEq]at hev;obtain⟨rfl,rfl,rfl⟩:=hev;exact this
def ctW(C:List Value->List Blk->Bool)(ok:Bool)(v1 v2:List Value)(b1 b2:List Blk):Ct:=fP P 71 0 Dwr (jd C (.ite ok (.leaf (.normal,v1,b1)) (.leaf (.ret,v2,b2)))) ctF
theorem UT(C:List Value->List Blk->Bool)(ok off1 fused1 off2 fused2:Bool)(fuse1 fuse2 steps1 steps2:Int)(m0 m1 m2 m3 mp k0 k1 k2 k3 kp:Nat)(d0 d1 d2 d3 dp e0 e1 e2 e3 ep:List Value)(y z:Value)(off fused:Bool)(fuse steps:Int)(n0 n1 n2 n3 np:Nat)(c0 c1 c2 c3 cp:List Value)(f:Int)(n b:Nat)(c:List Value):bM P E (ctW C ok [.pointer (some ⟨0,0,none⟩), .int .i64 f,aJ 1 0 0 [], .int .i64 0] [.pointer (some ⟨0,0,none⟩), .int .i64 f,z, .int .i64 6] [.cells (dkC off1 fused1 fuse1 steps1 m0 m1 m2 m3 mp) 108 true, .cells d0 5 false, .cells d1 5 false, .cells d2 5 false, .cells d3 5 false, .cells dp 132 false] [.cells (dkC off2 fused2 fuse2 steps2 k0 k1 k2 k3 kp) 108 true, .cells e0 5 false, .cells e1 5 false, .cells e2 5 false, .cells e3 5 false, .cells ep 132 false]) 50 fJ [] [] 1 71 [.pointer (some ⟨0,0,none⟩), .int .i64 f,aJ 1 n b c] [.cells (dkC off fused fuse steps n0 n1 n2 n3 np) 108 true, .cells c0 5 false, .cells c1 5 false, .cells c2 5 false, .cells c3 5 false, .cells cp 132 false] =
 (let z0:=Value.int .i64 6;let y0:=Value.bool true;let x0:=aH 0 [0,6,7,8,9,10];let w0:=[Blk.cells [y0, .bool off, .bool fused, .int .i64 fuse, .int .i64 steps,sl_ 1 n0,sl_ 2 n1,sl_ 3 n2,sl_ 4 n3,sl_ 5 np] 108 true,lb_ x0 n0 1 c0 5,lb_ x0 n1 1 c1 5,lb_ x0 n2 1 c2 5,lb_ x0 n3 1 c3 5,lb_ x0 np 4 cp 132];
 let v0:=nb_ n0 1 c0 (nb_ n1 1 c1 (nb_ n2 1 c2 (nb_ n3 1 c3 (nb_ np 4 cp (some (.int .i64 2,ag w0))))));let u0:=Value.int .i64 0;let t0:=bC [0] 11;let s0:=af true t0 d0;let r0:=af true t0 d1;let q0:=af true t0 d2;let p0:=af true t0 d3;let o0:=af true t0 dp;let l0:=aH 0 [0,16,17,18,19,20];
 let j0:=af true t0 e0;let i0:=af true t0 e1;let h0:=af true t0 e2;let g0:=af true t0 e3;let f0:=af true t0 ep;
 (aj off (nb_ n0 1 c0 (nb_ n1 1 c1 (nb_ n2 1 c2 (nb_ n3 1 c3 (nb_ np 4 cp (some (z0,ag w0))))))) (aj (geI f 0) (aj (f_ (ltI f 4)) v0 (nb_ n0 1 c0 (nb_ n1 1 c1 (nb_ n2 1 c2 (nb_ n3 1 c3 (nb_ np 4 cp (ae (C [pt_ 0, .int .i64 f,fb_ n b c,u0] w0) (aj ok (nb_ m0 1 s0 (nb_ m1 1 r0 (nb_ m2 1 q0 (nb_ m3 1 p0 (nb_ mp 4 o0 (some (u0,ag [.cells [y0, .bool off1, .bool fused1, .int .i64 fuse1, .int .i64 steps1,sl_ 1 m0,sl_ 2 m1,sl_ 3 m2,sl_ 4 m3,sl_ 5 mp] 108 true,lb_ l0 m0 1 s0 5,lb_ l0 m1 1 r0 5,lb_ l0 m2 1 q0 5,lb_ l0 m3 1 p0 5,lb_ l0 mp 4 o0 132]))))))) (nb_ k0 1 j0 (nb_ k1 1 i0 (nb_ k2 1 h0 (nb_ k3 1 g0 (nb_ kp 4 f0 (some (z0,ag [.cells [y0, .bool off2, .bool fused2, .int .i64 fuse2, .int .i64 steps2,sl_ 1 k0,sl_ 2 k1,sl_ 3 k2,sl_ 4 k3,sl_ 5 kp] 108 true,lb_ l0 k0 1 j0 5,lb_ l0 k1 1 i0 5,lb_ l0 k2 1 h0 5,lb_ l0 k3 1 g0 5,lb_ l0 kp 4 f0 132]))))))))))))))) v0))):=by kernel_rfl
theorem lu{σ:Type}{k:Con σ}{s:σ}{vs:List Value}{bs:List Blk}{x r:Res}(h1:(k.enc s).1=vs)(h2:(k.enc s).2=bs)(h:x=r):ae (k.at s vs bs) x=r:=by
 rw[k.at_true h1 h2]; exact h
structure WcS where
 m:DkM
 f:Int
 b:List UInt8
def WcS.w(s:WcS):WrS:=⟨s.m,s.f,s.b,0⟩
def kWc:Con WcS where
 enc s:=([p0, .int .i64 s.f,aJ 1 s.b.length 0 (bc s.b)],aN s.m)
 ok s:=s.b.length<=4194304/\oO s.m (nG s.b.length)
 inj a b h:=by
  obtain⟨a1,a2,a3⟩:=a;obtain⟨b1,b2,b3⟩:=b;simp only[Prod.mk.injEq]at h;obtain⟨h1,h2⟩:=h;obtain rfl:=ny h2;simp only[List.cons.injEq,Value.int.injEq,true_and,and_true]at h1;obtain⟨rfl,h3⟩:=h1;obtain rfl:=tV (rH h3)
  rfl
 dflt:=⟨dk0,0,[]⟩
def writeM(s:WcS):Int×DkM:=match s.m.off,geI s.f 0,ltI s.f 4 with
 |true,_,_=>(6,s.m)
 |false,true,true=>match(wrW s.w).2.2 with
  |true=>(0,(wrW s.w).1)
  |false=>(6,(wrW s.w).1)
 |false,_,_=>(2,s.m)
def ac5(s:WcS):Ct:=fP P 71 0 Dwr (jd (kWr.at s.w) (Qo wrW s.w)) ctF
theorem RJ(s:WcS):bM P E (ac5 s) 50 fJ [] [] 1 71 (kWc.enc s).1 (kWc.enc s).2=some (.int .i64 (writeM s).1,ag (aN (writeM s).2)):=by
 obtain⟨m,f,b⟩:=s;have q:=UT (kWr.at (WcS.w ⟨m,f,b⟩)) (wrW (WcS.w ⟨m,f,b⟩)).2.2 (wrW (WcS.w ⟨m,f,b⟩)).1.off (wrW (WcS.w ⟨m,f,b⟩)).1.fused (wrW (WcS.w ⟨m,f,b⟩)).1.off (wrW (WcS.w ⟨m,f,b⟩)).1.fused
  (wrW (WcS.w ⟨m,f,b⟩)).1.fuse (wrW (WcS.w ⟨m,f,b⟩)).1.fuse (wrW (WcS.w ⟨m,f,b⟩)).1.steps (wrW (WcS.w ⟨m,f,b⟩)).1.steps
  (wrW (WcS.w ⟨m,f,b⟩)).1.d0.length (wrW (WcS.w ⟨m,f,b⟩)).1.d1.length (wrW (WcS.w ⟨m,f,b⟩)).1.d2.length (wrW (WcS.w ⟨m,f,b⟩)).1.d3.length (wrW (WcS.w ⟨m,f,b⟩)).1.pend.length
  (wrW (WcS.w ⟨m,f,b⟩)).1.d0.length (wrW (WcS.w ⟨m,f,b⟩)).1.d1.length (wrW (WcS.w ⟨m,f,b⟩)).1.d2.length (wrW (WcS.w ⟨m,f,b⟩)).1.d3.length (wrW (WcS.w ⟨m,f,b⟩)).1.pend.length
  (bc (wrW (WcS.w ⟨m,f,b⟩)).1.d0) (bc (wrW (WcS.w ⟨m,f,b⟩)).1.d1) (bc (wrW (WcS.w ⟨m,f,b⟩)).1.d2) (bc (wrW (WcS.w ⟨m,f,b⟩)).1.d3) (ESt.all (wrW (WcS.w ⟨m,f,b⟩)).1.pend)
  (bc (wrW (WcS.w ⟨m,f,b⟩)).1.d0) (bc (wrW (WcS.w ⟨m,f,b⟩)).1.d1) (bc (wrW (WcS.w ⟨m,f,b⟩)).1.d2) (bc (wrW (WcS.w ⟨m,f,b⟩)).1.d3) (ESt.all (wrW (WcS.w ⟨m,f,b⟩)).1.pend)
  (.bool true) (aJ 1 (wrW (WcS.w ⟨m,f,b⟩)).2.1.length 0 (bc (wrW (WcS.w ⟨m,f,b⟩)).2.1)) m.off m.fused m.fuse m.steps m.d0.length m.d1.length m.d2.length m.d3.length m.pend.length (bc m.d0) (bc m.d1) (bc m.d2) (bc m.d3) (ESt.all m.pend) f b.length 0 (bc b)
 refine Eq.trans ?_ (q.trans ?_)
 ·rfl
 have b2:∀ n,Nat.ble n n=true:=fun n=>Nat.ble_eq_true_of_le (Nat.le_refl n);have n4:∀ l:List StM,(ESt.all l).length=Nat.mul l.length 4:=fun l=>ESt.all_length l;clear q;simp only[fb_,lb_,nb_,pt_,sl_,aY,aO,ax,aX,Enc.all_ren,n4,b2,eH rfl,nV rfl,ay];unfold writeM;obtain⟨off,fused,fuse,steps,d0,d1,d2,d3,pend⟩:=m;cases off with
 |true=>rfl
 |false=>
  simp only[fb_,lb_,nb_,pt_,sl_,aF];cases geI f 0 with
  |false=>rfl
  |true=>
   cases ltI f 4 with
   |false=>rfl
   |true=>
    simp only[fb_,lb_,nb_,pt_,sl_,f_,Bool.not_true,aG,aF];refine lu (k:=kWr) (s:=WcS.w ⟨⟨false,fused,fuse,steps,d0,d1,d2,d3,pend⟩,f,b⟩) (by show wrV f b 0=_; unfold wrV aJ; rw[fzU]; rfl) rfl ?_;cases hW:(wrW (WcS.w ⟨⟨false,fused,fuse,steps,d0,d1,d2,d3,pend⟩,f,b⟩)).2.2<;>rfl
def IX(s:WcS):DT (Value×List Blk):= .leaf (.int .i64 (writeM s).1,aN (writeM s).2)
theorem Jg:CallOkX P 1 71 (uo kWc.C kWc.D IX):=qL kWc fun s ho v bs' hev=>by
 simp only[IX,DT.eval,Option.some.injEq,Prod.mk.injEq]at hev;obtain⟨rfl,rfl⟩:=hev;exact CRX.of (bf (ac5 s)) aA (eu aW (xB kWr U7 (s:=s.w) ho)) (RJ s)
def VW(O:Bool->ByteArray->ByteArray->Bool):Ct:=jh P 85 (Gy O) ctF
def ctB:Ct:=VW uY
theorem EL:CtOk P ctB:=iG aW WQ
def Dbc:HeadX:=⟨0,26,[2,14,15,16],[.val, .val, .val, .val],[],fJ⟩
def Bbc:Code:=(dZ P 90 1).getD .skip
theorem SK:dZ P 90 1=some Bbc:=by kernel_rfl
theorem FM:Occ P 90 (.block 1 (.loop Bbc)):=fM SK
theorem SL(O:Bool->ByteArray->ByteArray->Bool)(n b:Nat)(c:List Value)(r z i:Int):bV P E (VW O) 50 90 Bbc Dbc [.int .i64 r,aJ 3 n b c, .int .i64 z, .int .i64 i] [] =
 (aj (ltI i z)
 (ae (Bool.and (Nat.beq 3 3) (inI i n))
 (ae (Bool.and (Nat.ble (Nat.add (atN i 3) 3) (List.length c)) (jw [Eta.bool,Eta.string,Eta.string] c (atN i 3)))
 (aj (O (asB (bT c (atN i 3))) (asS (bT c (Nat.add (atN i 3) 1))) (asS (bT c (Nat.add (Nat.add (atN i 3) 1) 1))))
 (some ((Value.tuple (Array.mk [(Value.int IntKind.i64 (0:Int)),(Value.int IntKind.i64 r),(Value.iface 18446744073709551619 (Value.agg (Array.mk ((Value.slice none n b)::c)))),(Value.int IntKind.i64 z),(Value.int IntKind.i64 (dI IntKind.i64 i (1:Int)))])),(ag [])))
 (some ((Value.tuple (Array.mk [(Value.int IntKind.i64 (-1:Int)),(Value.int IntKind.i64 (2:Int)),(Value.iface 18446744073709551619 (Value.agg (Array.mk ((Value.slice none n b)::c)))),(Value.int IntKind.i64 z),(Value.int IntKind.i64 i)])),(ag []))))))
 (some ((Value.tuple (Array.mk [(Value.int IntKind.i64 (2:Int)),(Value.int IntKind.i64 r),(Value.iface 18446744073709551619 (Value.agg (Array.mk ((Value.slice none n b)::c)))),(Value.int IntKind.i64 z),(Value.int IntKind.i64 i)])),(ag [])))):=by kernel_rfl
theorem aaT(C:List Value->List Blk->Bool)(ok:Bool)(r:Int)(z:Value)(y1 y2 y3:Int)(n b:Nat)(c:List Value):bM P E (fP P 90 1 Dbc (jd C (.ite ok (.leaf (.normal,[.int .i64 0,z, .int .i64 y1, .int .i64 y2],[])) (.leaf (.ret,[.int .i64 r,z, .int .i64 y1, .int .i64 y3],[])))) ctF) 50 fJ [] [] 0 90 [aJ 3 n b c] [] =
 (aj (eqI (ak n) (0:Int))
 (some ((Value.int IntKind.i64 (2:Int)),(ag [])))
 (aj (gtI (ak n) (8:Int))
 (some ((Value.int IntKind.i64 (3:Int)),(ag [])))
 (ae (C [(Value.int IntKind.i64 (0:Int)),(Value.iface 18446744073709551619 (Value.agg (Array.mk ((Value.slice none n b)::c)))),(Value.int IntKind.i64 (ak n)),(Value.int IntKind.i64 (0:Int))] [])
 (aj ok
 (some ((Value.int IntKind.i64 (0:Int)),(ag [])))
 (some ((Value.int IntKind.i64 r),(ag []))))))):=by kernel_rfl
def DZ(o:OpM):Bool:=uY o.p o.k o.v
def bn(l:List OpM):Value:=aJ 3 l.length 0 (EOp.all l)
def bcV(r:Int)(l:List OpM)(i:Int):List Value:=[.int .i64 r,bn l, .int .i64 (ak l.length), .int .i64 i]
theorem wV{l:List OpM}{i:Nat}(h:i<l.length):jw [.bool, .string, .string] (EOp.all l) (atN (i:Int) 3)=true:=by
 show and (ig .bool (bT (EOp.all l) (atN (i:Int) 3))) (and (ig .string (bT (EOp.all l) (Nat.add (atN (i:Int) 3) 1))) (and (ig .string (bT (EOp.all l) (Nat.add (Nat.add (atN (i:Int) 3) 1) 1))) true))=true;rw[FU h,Fv h,F_ h]; rfl
theorem Vm{l:List OpM}{i:Nat}(hi:i<l.length)(hl:l.length<4194304):bV P E ctB 50 90 Bbc Dbc (bcV 0 l i) []=match DZ l[i]with
  |true=>some (.tuple ⟨exV .normal::bcV 0 l ((i+1:Nat):Int)⟩,ag [])
  |false=>some (.tuple ⟨exV .ret::bcV 2 l i⟩,ag []):=by
 unfold bcV bn ctB;rw[SL];have n3:∀ l:List OpM,(EOp.all l).length=Nat.mul l.length 3:=fun l=>EOp.all_length l;have g1:ltI (i:Int) (ak l.length)=true:=by unfold ltI ak; exact decide_eq_true (by omega)
 have g2:inI (i:Int) l.length=true:=by unfold inI; exact decide_eq_true (by omega)
 have g3:Nat.ble (Nat.add (atN (i:Int) 3) 3) (Nat.mul l.length 3)=true:=Nat.ble_eq_true_of_le (by
  show(i:Int).toNat*3+3<=l.length*3;have:(i:Int).toNat=i:=by omega
  omega)
 have g4:=wV hi;have a1:dI .i64 (i:Int) 1=((i+1:Nat):Int):=by unfold dI; rw[wrap64 (by omega) (by omega)]; omega
 have ab:∀ b,asB (.bool b)=b:=fun _=>rfl;have aS:∀ b,asS (.string b)=b:=fun _=>rfl;have b3:∀ n,Nat.beq n n=true:=Nat.beq_refl;simp only[n3,g1,g2,g3,g4,FU hi,Fv hi,F_ hi,ab,aS,a1,b3,Bool.and_self,aG,ay];unfold aJ DZ;rw[um];cases uY l[i].p l[i].k l[i].v<;>rfl
theorem acf{l:List OpM}:bV P E ctB 50 90 Bbc Dbc (bcV 0 l l.length) []=some (.tuple ⟨exV (.exit 1)::bcV 0 l l.length⟩,ag []):=by
 unfold bcV bn ctB;rw[SL];have g1:ltI (l.length:Int) (ak l.length)=false:=by unfold ltI ak; exact decide_eq_false (by omega)
 simp only[g1,aF];unfold aJ;rw[um]
 rfl
def badM:Nat->List OpM->Option Nat
 |_,[]=>none
 |i,o::l=>match DZ o with
  |true=>badM (i+1) l
  |false=>some i
theorem OX(l:List OpM)(hl:l.length<4194304):∀ (k i:Nat),i+k=l.length->
  LRX P 90 1 Bbc Dbc.head (bcV 0 l i) [] (match badM i (l.drop i)with | none=> .normal | some _=> .ret) (match badM i (l.drop i)with | none=>bcV 0 l l.length | some j=>bcV 2 l j) []
 |0,i,h=>by
  obtain rfl:i=l.length:=by omega
  rw[List.drop_length];exact LRX.stop (n:=50) (bf ctB) aA EL FM (e:= .exit 1) acf (by intro h; cases h)
 |k+1,i,h=>by
  have hi:i<l.length:=by omega
  have q:=Vm hi hl;rw[List.drop_eq_getElem_cons hi];simp only[badM];cases ho:DZ l[i]with
  |true=>
   rw[ho]at q;exact LRX.again (n:=50) (bf ctB) aA EL FM q (OX l hl k (i+1) (by omega))
  |false=>
   rw[ho]at q;exact LRX.stop (n:=50) (bf ctB) aA EL FM (e:= .ret) q (by intro h; cases h)
def kBc:Con (List OpM) where
 enc l:=(bcV 0 l 0,[])
 ok l:=l.length<4194304
 inj a b h:=by
  unfold bcV bn at h;simp only[Prod.mk.injEq,List.cons.injEq,Value.int.injEq,true_and,and_true]at h;exact EOp.all_inj _ _ (rH h.1)
 dflt:=[]
def QY(l:List OpM):DT (Ex×List Value×List Blk):= .ite (badM 0 l).isNone (.leaf (.normal,bcV 0 l l.length,[])) (.leaf (.ret,bcV 2 l ((badM 0 l).getD 0),[]))
theorem Rx:LoopOkX P 90 1 Bbc Dbc.head (z_ kBc.C kBc.D QY):=
 vC kBc (d_ SK) fun l ho e vs' bs' hev=>by
  have q:=OX l ho l.length 0 (by omega);rw[List.drop_zero]at q;unfold QY at hev;cases hb:badM 0 l with
  |none=>
   rw[hb]at hev q;simp only[Option.isNone_none,DT.eval,Option.some.injEq,Prod.mk.injEq]at hev;obtain⟨rfl,rfl,rfl⟩:=hev;exact q
  |some j=>
   rw[hb]at hev q;simp only[Option.isNone_some,Option.getD_some,DT.eval,Option.some.injEq,Prod.mk.injEq]at hev;obtain⟨rfl,rfl,rfl⟩:=hev;exact q
def vO(l:List OpM):Int:=match eqI (ak l.length) 0,gtI (ak l.length) 8,(badM 0 l).isNone with
 |true,_,_=>2
 |false,true,_=>3
 |false,false,true=>0
 |false,false,false=>2
def kBk:Con (List OpM) where
 enc l:=([bn l],[])
 ok l:=l.length<4194304
 inj a b h:=by
  unfold bn at h;simp only[Prod.mk.injEq,List.cons.injEq,true_and,and_true]at h;exact EOp.all_inj _ _ (rH h)
 dflt:=[]
def ab8(l:List OpM):Ct:=fP P 90 1 Dbc (jd (kBc.at l) (QY l)) ctF
theorem Y4(l:List OpM):bM P E (ab8 l) 50 fJ [] [] 0 90 (kBk.enc l).1 (kBk.enc l).2=some (.int .i64 (vO l),ag []):=by
 have q:=aaT (kBc.at l) (badM 0 l).isNone 2 (bn l) (ak l.length) l.length (((badM 0 l).getD 0:Nat):Int) l.length 0 (EOp.all l);refine Eq.trans ?_ (q.trans ?_)
 ·rfl
 clear q;unfold vO;cases eqI (ak l.length) 0 with
 |true=>rfl
 |false=>
  simp only[aF];cases gtI (ak l.length) 8 with
  |true=>rfl
  |false=>
   simp only[aF];refine lu (k:=kBc) (s:=l) (by show bcV 0 l 0=_; unfold bcV bn aJ; rw[um]) rfl ?_;cases (badM 0 l).isNone<;>rfl
theorem Vf:CallOkX P 0 90 (uo kBk.C kBk.D fun l=> .leaf (.int .i64 (vO l),[])):=qL kBk fun l ho v bs' hev=>by
 simp only[DT.eval,Option.some.injEq,Prod.mk.injEq]at hev;obtain⟨rfl,rfl⟩:=hev;exact CRX.of (bf (ab8 l)) aA (eu aW (xB kBc Rx (s:=l) ho)) (Y4 l)
def Dsh:HeadX:=⟨0,26,[0,1,4,5,12,13],[.val, .val, .val, .val, .val, .val],[],fJ⟩
def Bsh:Code:=(dZ P 180 0).getD .skip
theorem UF:dZ P 180 0=some Bsh:=by kernel_rfl
theorem FH:Occ P 180 (.block 0 (.loop Bsh)):=fM UF
theorem UJ(a b:ByteArray)(r x z i:Int):bV P E ctF 50 180 Bsh Dsh [.string a, .string b, .int .i64 r, .int .i64 x, .int .i64 z, .int .i64 i] [] =
 (aj (ltI i z)
 (ae (inI i (ByteArray.size a))
 (ae (inI i (ByteArray.size b))
 (aj (neI (bAt a i) (bAt b i))
 (some ((Value.tuple (Array.mk [(Value.int IntKind.i64 (-1:Int)),(Value.string a),(Value.string b),(Value.int IntKind.i64 i),(Value.int IntKind.i64 x),(Value.int IntKind.i64 z),(Value.int IntKind.i64 i)])),(ag [])))
 (some ((Value.tuple (Array.mk [(Value.int IntKind.i64 (0:Int)),(Value.string a),(Value.string b),(Value.int IntKind.i64 r),(Value.int IntKind.i64 x),(Value.int IntKind.i64 z),(Value.int IntKind.i64 (dI IntKind.i64 i (1:Int)))])),(ag []))))))
 (some ((Value.tuple (Array.mk [(Value.int IntKind.i64 (1:Int)),(Value.string a),(Value.string b),(Value.int IntKind.i64 r),(Value.int IntKind.i64 x),(Value.int IntKind.i64 z),(Value.int IntKind.i64 i)])),(ag [])))):=by kernel_rfl
theorem Y8(C:List Value->List Blk->Bool)(ok:Bool)(r x z i r1 x1 z1 i1:Int)(a b:ByteArray):bM P E (fP P 180 0 Dsh (jd C (.ite ok (.leaf (.normal,[.string a, .string b, .int .i64 r, .int .i64 x, .int .i64 z, .int .i64 i],[])) (.leaf (.ret,[.string a, .string b, .int .i64 r1, .int .i64 x1, .int .i64 z1, .int .i64 i1],[])))) ctF) 50 fJ [] [] 0 180 [.string a, .string b] [] =
 (aj (ltI (ak (ByteArray.size b)) (ak (ByteArray.size a)))
 (ae (C [(Value.string a),(Value.string b),(Value.int IntKind.i64 (0:Int)),(Value.int IntKind.i64 (ak (ByteArray.size b))),(Value.int IntKind.i64 (ak (ByteArray.size b))),(Value.int IntKind.i64 (0:Int))] [])
 (aj ok
 (some ((Value.int IntKind.i64 x),(ag [])))
 (some ((Value.int IntKind.i64 r1),(ag [])))))
 (ae (C [(Value.string a),(Value.string b),(Value.int IntKind.i64 (0:Int)),(Value.int IntKind.i64 (ak (ByteArray.size a))),(Value.int IntKind.i64 (ak (ByteArray.size a))),(Value.int IntKind.i64 (0:Int))] [])
 (aj ok
 (some ((Value.int IntKind.i64 x),(ag [])))
 (some ((Value.int IntKind.i64 r1),(ag [])))))):=by kernel_rfl
def oP(a b:ByteArray):Nat->Nat->Option Nat
 |0,_=>none
 |k+1,i=>match neI (bAt a (i:Int)) (bAt b (i:Int))with
  |true=>some i
  |false=>oP a b k (i+1)
def iD(a b:ByteArray):Nat:=match ltI (ak b.size) (ak a.size)with
 |true=>b.size
 |false=>a.size
theorem Fj(a b:ByteArray):iD a b<=a.size/\iD a b<=b.size:=by
 unfold iD;cases h:ltI (ak b.size) (ak a.size)with
 |true=>have:ak b.size<ak a.size:=of_decide_eq_true h; unfold ak at this; exact⟨by simp only; omega,Nat.le_refl _⟩
 |false=>have:¬ak b.size<ak a.size:=of_decide_eq_false h; unfold ak at this; exact⟨Nat.le_refl _,by simp only; omega⟩
structure ShS where
 a:ByteArray
 b:ByteArray
def shV(s:ShS)(r i:Int):List Value:=[.string s.a, .string s.b, .int .i64 r, .int .i64 (ak (iD s.a s.b)), .int .i64 (ak (iD s.a s.b)), .int .i64 i]
theorem VJ{s:ShS}{i:Nat}(hi:i<iD s.a s.b)(hl:iD s.a s.b<4611686018427387904):bV P E ctF 50 180 Bsh Dsh (shV s 0 i) []=match neI (bAt s.a (i:Int)) (bAt s.b (i:Int))with
  |true=>some (.tuple ⟨exV .ret::shV s i i⟩,ag [])
  |false=>some (.tuple ⟨exV .normal::shV s 0 ((i+1:Nat):Int)⟩,ag []):=by
 obtain⟨h1,h2⟩:=Fj s.a s.b;unfold shV;rw[UJ];have g1:ltI (i:Int) (ak (iD s.a s.b))=true:=by unfold ltI ak; exact decide_eq_true (by omega)
 have g2:inI (i:Int) s.a.size=true:=by unfold inI; exact decide_eq_true (by omega)
 have g3:inI (i:Int) s.b.size=true:=by unfold inI; exact decide_eq_true (by omega)
 have a1:dI .i64 (i:Int) 1=((i+1:Nat):Int):=by unfold dI; rw[wrap64 (by omega) (by omega)]; omega
 simp only[g1,g2,g3,a1,aG,ay];cases neI (bAt s.a (i:Int)) (bAt s.b (i:Int))<;>rfl
theorem abt{s:ShS}:bV P E ctF 50 180 Bsh Dsh (shV s 0 (iD s.a s.b)) []=some (.tuple ⟨exV (.exit 0)::shV s 0 (iD s.a s.b)⟩,ag []):=by
 unfold shV;rw[UJ];have g1:ltI (iD s.a s.b:Int) (ak (iD s.a s.b))=false:=by unfold ltI ak; exact decide_eq_false (by omega)
 simp only[g1,aF]
 rfl
theorem Oy(s:ShS)(hl:iD s.a s.b<4611686018427387904):∀ (k i:Nat),i+k=iD s.a s.b->
  LRX P 180 0 Bsh Dsh.head (shV s 0 i) [] (match oP s.a s.b k i with | none=> .normal | some _=> .ret) (match oP s.a s.b k i with | none=>shV s 0 (iD s.a s.b) | some j=>shV s j j) []
 |0,i,h=>by
  have e:i=iD s.a s.b:=by omega
  rw[e];exact LRX.stop (n:=50) (bf ctF) aA aW FH (e:= .exit 0) abt (by intro h; cases h)
 |k+1,i,h=>by
  have q:=VJ (s:=s) (i:=i) (by omega) hl;simp only[oP];cases ho:neI (bAt s.a (i:Int)) (bAt s.b (i:Int))with
  |false=>
   rw[ho]at q;exact LRX.again (n:=50) (bf ctF) aA aW FH q (Oy s hl k (i+1) (by omega))
  |true=>
   rw[ho]at q;exact LRX.stop (n:=50) (bf ctF) aA aW FH (e:= .ret) q (by intro h; cases h)
def kSh:Con ShS where
 enc s:=(shV s 0 0,[])
 ok s:=iD s.a s.b<4611686018427387904
 inj a b h:=by
  obtain⟨a1,a2⟩:=a;obtain⟨b1,b2⟩:=b;unfold shV at h;simp only[Prod.mk.injEq,List.cons.injEq,Value.string.injEq,and_true]at h;obtain⟨rfl,rfl,_⟩:=h
  rfl
 dflt:=⟨⟨#[]⟩,⟨#[]⟩⟩
def PT(s:ShS):DT (Ex×List Value×List Blk):= .ite (oP s.a s.b (iD s.a s.b) 0).isNone (.leaf (.normal,shV s 0 (iD s.a s.b),[])) (.leaf (.ret,shV s ((oP s.a s.b (iD s.a s.b) 0).getD 0:Nat) ((oP s.a s.b (iD s.a s.b) 0).getD 0:Nat),[]))
theorem Si:LoopOkX P 180 0 Bsh Dsh.head (z_ kSh.C kSh.D PT):=
 vC kSh (d_ UF) fun s ho e vs' bs' hev=>by
  have q:=Oy s ho (iD s.a s.b) 0 (by omega);unfold PT at hev;cases hb:oP s.a s.b (iD s.a s.b) 0 with
  |none=>
   rw[hb]at hev q;simp only[Option.isNone_none,DT.eval,Option.some.injEq,Prod.mk.injEq]at hev;obtain⟨rfl,rfl,rfl⟩:=hev;exact q
  |some j=>
   rw[hb]at hev q;simp only[Option.isNone_some,Option.getD_some,DT.eval,Option.some.injEq,Prod.mk.injEq]at hev;obtain⟨rfl,rfl,rfl⟩:=hev;exact q
def qH(a b:ByteArray):Nat:=(oP a b (iD a b) 0).getD (iD a b)
def kSk:Con ShS where
 enc s:=([.string s.a, .string s.b],[])
 ok s:=iD s.a s.b<4611686018427387904
 inj a b h:=by
  obtain⟨a1,a2⟩:=a;obtain⟨b1,b2⟩:=b;simp only[Prod.mk.injEq,List.cons.injEq,Value.string.injEq,and_true]at h;obtain⟨rfl,rfl⟩:=h
  rfl
 dflt:=⟨⟨#[]⟩,⟨#[]⟩⟩
def acG(s:ShS):Ct:=fP P 180 0 Dsh (jd (kSh.at s) (PT s)) ctF
theorem YQ(s:ShS):bM P E (acG s) 50 fJ [] [] 0 180 (kSk.enc s).1 (kSk.enc s).2=some (.int .i64 (qH s.a s.b),ag []):=by
 obtain⟨a,b⟩:=s;have q:=Y8 (kSh.at ⟨a,b⟩) (oP a b (iD a b) 0).isNone 0 (ak (iD a b)) (ak (iD a b)) (iD a b) ((oP a b (iD a b) 0).getD 0:Nat) (ak (iD a b)) (ak (iD a b)) ((oP a b (iD a b) 0).getD 0:Nat) a b;refine Eq.trans ?_ (q.trans ?_)
 ·rfl
 clear q;have fin:∀ x:Nat,x=iD a b->ae (kSh.at ⟨a,b⟩ [.string a, .string b, .int .i64 0, .int .i64 (ak x), .int .i64 (ak x), .int .i64 0] []) (aj (oP a b (iD a b) 0).isNone (some (.int .i64 (ak (iD a b)),ag [])) (some (.int .i64 (((oP a b (iD a b) 0).getD 0:Nat):Int),ag [])))=some (.int .i64 (qH a b),ag []):=by
  intro x hx;subst hx;refine lu (k:=kSh) (s:=⟨a,b⟩) rfl rfl ?_;unfold qH;cases oP a b (iD a b) 0<;>rfl
 cases h:ltI (ak b.size) (ak a.size)with
 |true=>exact fin b.size (by unfold iD; rw[h])
 |false=>exact fin a.size (by unfold iD; rw[h])
theorem acd:CallOkX P 0 180 (uo kSk.C kSk.D fun s=> .leaf (.int .i64 (qH s.a s.b),[])):=qL kSk fun s ho v bs' hev=>by
 simp only[DT.eval,Option.some.injEq,Prod.mk.injEq]at hev;obtain⟨rfl,rfl⟩:=hev;exact CRX.of (bf (acG s)) aA (eu aW (xB kSh Si (s:=s) ho)) (YQ s)
end Go.VS.Tryz
end

noncomputable section
namespace Go.VS
open Go.RowKit
section
variable{P:Program}{ct:Ct}
def nH(P:Program)(g:FuncId)(ct:Ct):Ct where
 call:=fun g' args st=>match Nat.beq g' g with
  |true=>some (uf P 100 (Xk P g) args st fun args1 st1=>match ct.call g args1 st1 with
   |some t=>t
   |none=> .fail)
  |false=>ct.call g' args st
 loop:=ct.loop
 op:=ct.op
theorem mg{g:FuncId}(hct:CtOk P ct):CtOk P (nH P g ct) where
 opc:=hct.opc
 op:=hct.op
 loop:=hct.loop
 call:=by
  intro K g' args st v st' hl β w args' cs ha hr;simp only[nH]at hl;split at hl
  ·rename_i hb;obtain rfl:=Nat.eq_of_beq_eq_true hb;simp only[Option.bind_some]at hl;obtain⟨args1,st1,h1,h2,h3,h4⟩:=lh _ _ _ _ _ hl;split at h1
   ·rename_i t ht;obtain⟨β1,a1,a2,a3⟩:=h4 K β w args'.toList hr ha;obtain⟨β2,fr,w2,v',b1,b2,b3,b4,b5,b6⟩:=hct.call K _ args1 st1 v st' (by rw[ht]; exact h1) β1 w args' cs a3 a2;exact⟨β2,fr,w2,v',b1,a1.trans b2,b3,b4,b5,b6⟩
   ·cases h1
  ·exact hct.call K g' args st v st' hl β w args' cs ha hr
end
end Go.VS
end

noncomputable section
namespace Go.VS.Tryz
open Go.VS
set_option maxRecDepth 1000000
def P7(K:ByteArray->ByteArray->Bool)(S:ByteArray->ByteArray->Int):jb:=fun args bs=>match args,bs with
 |[.string a, .string b],[]=>some (.ite (K a b) (.leaf (.int .i64 (S a b),[])) .fail)
 |_,_=>none
def XU(V:Nat->List UInt8)(C:Int->Bool)(K:ByteArray->ByteArray->Bool)(S:ByteArray->ByteArray->Int):Ct:=
 aC P fJ 0 180 (P7 K S) (nH P 123 (jh P 123 (sU V C) ctF))
def Dap:HeadX:=⟨0,70,[7,8,23,24,25],[.own, .val, .val, .val, .val],[61,0,0,0,0],fJ⟩
def Bap:Code:=(dZ P 160 0).getD .skip
theorem SV:dZ P 160 0=some Bap:=by kernel_rfl
theorem Y9:Occ P 160 (.block 0 (.loop Bap)):=fM SV
theorem U6(V:Nat->List UInt8)(C:Int->Bool)(K:ByteArray->ByteArray->Bool)(S:ByteArray->ByteArray->Int)(nd:Nat)(cd:List Value)(k:ByteArray)(n b:Nat)(c:List Value)(z i:Int):bV P E (XU V C K S) 50 160 Bap Dap [.slice (some ⟨0,0,none⟩) nd 18446744073709551616, .string k,aJ 3 n b c, .int .i64 z, .int .i64 i] [.cells cd 5 false] =
 (let z0:=atN i 3;let y0:=Nat.add z0 1;let x0:=asS (bT c y0);let w0:=asB (bT c z0);let v0:=Nat.add nd 1;let u0:=Nat.ble v0 4194304;let t0:=Nat.beq (Nat.add 0 (Nat.mul nd 1)) cd.length;let s0:=jC 0 cd;let r0:=List.append s0 [.int .u8 1];let q0:=Nat.mul v0 1;let p0:=takeC q0 (aU 0 r0);
 let o0:=S k x0;let n0:=cvI .u64 o0;let m0:=V (Int.toNat n0);let l0:=HAppend.hAppend (List.map byteOf p0) m0;let k0:=l0.length;let j0:=af false (fQ 4) (bc l0);let i0:=takeC (Nat.mul k0 1) (aU 0 j0);let h0:=ak x0.size;let g0:=cvI .u64 (eU .i64 h0 o0);let f0:=eF o0 h0 x0.size;let e0:=vk x0 o0 h0;
 let d0:=Go.byteCells e0;let c0:=List.all d0 oneCell;let b0:=V (Int.toNat g0);let a0:=HAppend.hAppend (List.map byteOf i0) b0;let Z0:=Nat.add a0.length e0.size;let Y0:=fQ 19;let X0:=af false Y0 (bc a0);let W0:=Value.string x0;let V0:=bZ W0 W0;let U0:=Value.string e0;let T0:=bZ U0 U0;
 let S0:=List.append (jC 0 X0) d0;let R0:=takeC (Nat.mul Z0 1) (aU 0 S0);let Q0:=asS (bT c (Nat.add y0 1));let P0:=Q0.size;let O0:=cvI .u64 (ak P0);let N0:=Go.byteCells Q0;let M0:=List.all N0 oneCell;let L0:=V (Int.toNat O0);let K0:=HAppend.hAppend (List.map byteOf R0) L0;let J0:=Nat.add K0.length P0;
 let I0:=fQ 31;let H0:=af false I0 (bc K0);let G0:=Value.string Q0;let F0:=bZ G0 G0;let E0:=List.append (jC 0 H0) N0;let D0:=Value.int .i64 0;let C0:=fa_ n b c;let B0:=Value.int .i64 z;let A0:=Value.int .i64 (dI .i64 i 1);let z1:=aH 0 [33];let y1:=aH 0 [21];let x1:=List.append s0 [.int .u8 0];
 let w1:=takeC q0 (aU 0 x1);let v1:=HAppend.hAppend (List.map byteOf w1) m0;let u1:=v1.length;let t1:=af false (fQ 4) (bc v1);let s1:=takeC (Nat.mul u1 1) (aU 0 t1);let r1:=HAppend.hAppend (List.map byteOf s1) b0;let q1:=Nat.add r1.length e0.size;let p1:=af false Y0 (bc r1);let o1:=List.append (jC 0 p1) d0;
 let n1:=takeC (Nat.mul q1 1) (aU 0 o1);let m1:=HAppend.hAppend (List.map byteOf n1) L0;let l1:=Nat.add m1.length P0;let k1:=af false I0 (bc m1);let j1:=List.append (jC 0 k1) N0;
 (aj (ltI i z) (ae (Bool.and (Nat.beq 3 3) (inI i n)) (ae (Bool.and (Nat.ble (Nat.add z0 3) c.length) (jw [.bool, .string, .string] c z0)) (ae (K k x0) (aj w0 (ae u0 (ae t0 (ae (gV P 0 v0 18446744073709551616 r0 5) (ae (Bool.and (fzB 18446744073709551617 v0 p0) (C n0)) (ae (gV P 0 k0 18446744073709551616 j0 5) (ae (Bool.and (fzB 18446744073709551617 k0 i0) (C g0)) (ae f0 (ae c0 (ae (Nat.ble Z0 4194304) (ae (Nat.beq (Nat.add 0 (Nat.mul a0.length 1)) X0.length) (ae V0 (ae f0 (ae T0 (aj w0 (ae (gV P 0 Z0 18446744073709551616 S0 5) (ae (Bool.and (fzB 18446744073709551617 Z0 R0) (C O0)) (ae M0 (ae (Nat.ble J0 4194304) (ae (Nat.beq (Nat.add 0 (Nat.mul K0.length 1)) H0.length) (ae F0 (nb_ J0 1 E0 (some (.tuple ⟨[D0,sl_ 0 J0,W0,C0,B0,A0]⟩,ag [lb_ z1 J0 1 E0 5]))))))))) (nb_ Z0 1 S0 (some (.tuple ⟨[D0,sl_ 0 Z0,W0,C0,B0,A0]⟩,ag [lb_ y1 Z0 1 S0 5]))))))))))))))))) (ae u0 (ae t0 (ae (gV P 0 v0 18446744073709551616 x1 5) (ae (Bool.and (fzB 18446744073709551617 v0 w1) (C n0)) (ae (gV P 0 u1 18446744073709551616 t1 5) (ae (Bool.and (fzB 18446744073709551617 u1 s1) (C g0)) (ae f0 (ae c0 (ae (Nat.ble q1 4194304) (ae (Nat.beq (Nat.add 0 (Nat.mul r1.length 1)) p1.length) (ae V0 (ae f0 (ae T0 (aj w0 (ae (gV P 0 q1 18446744073709551616 o1 5) (ae (Bool.and (fzB 18446744073709551617 q1 n1) (C O0)) (ae M0 (ae (Nat.ble l1 4194304) (ae (Nat.beq (Nat.add 0 (Nat.mul m1.length 1)) k1.length) (ae F0 (nb_ l1 1 j1 (some (.tuple ⟨[D0,sl_ 0 l1,W0,C0,B0,A0]⟩,ag [lb_ z1 l1 1 j1 5]))))))))) (nb_ q1 1 o1 (some (.tuple ⟨[D0,sl_ 0 q1,W0,C0,B0,A0]⟩,ag [lb_ y1 q1 1 o1 5]))))))))))))))))))))) (nb_ nd 1 cd (some (.tuple ⟨[.int .i64 1,sl_ 0 nd, .string k,C0,B0, .int .i64 i]⟩,ag [lb_ (aH 0 [1]) nd 1 cd 5]))))):=by kernel_rfl
theorem u8n{n:Nat}(h:n<256):(UInt8.ofNat n).toNat=n:=by simp only[UInt8.toNat_ofNat']; omega
theorem Xe(i:Nat):2^(7*(i+1))=128*2^(7*i):=by rw[show 7*(i+1)=7+7*i by omega,Nat.pow_add]
theorem nine{i n X:Nat}(h9:i=9)(h:X+n*2^(7*i)<18446744073709551616):n<=1:=by
 subst h9;have e:2^(7*9)=9223372036854775808:=by decide
 rw[e]at h;omega
theorem XR:∀ (k n i X:Nat) (r:List UInt8),n<128^(k+1)->i<=9->X<2^(7*i)->X+n*2^(7*i)<18446744073709551616->(0<i->0<n)->
  iM i X (hiM k n++UInt8.ofNat (kX k n)::r)=(true,X+n*2^(7*i),i+(hiM k n).length+1):=by
 intro k;have last:∀ (n i X:Nat) (r:List UInt8),n<128->i<=9->X+n*2^(7*i)<18446744073709551616->(0<i->0<n)->iM i X (UInt8.ofNat n::r)=(true,X+n*2^(7*i),i+0+1):=by
  intro n i X r hn hi hs h0;have hu:(UInt8.ofNat n).toNat=n:=u8n (by omega);rw[iM,hu,decide_eq_false (by rintro ⟨h9,h1⟩; have:=nine h9 hs; omega),decide_eq_false (by omega),decide_eq_false (by rintro ⟨h1,h2⟩; have:=h0 h2; omega)];simp only[lN];have hm:n % 128=n:=Nat.mod_eq_of_lt hn;have hp:0<=X:=Nat.zero_le _;rw[hm,Nat.mod_eq_of_lt (by omega)]
 induction k with
 |zero=>
  intro n i X r hn hi hX hs h0;show iM i X (UInt8.ofNat n::r)=_;exact last n i X r (by simpa using hn) hi hs h0
 |succ k ih=>
  intro n i X r hn hi hX hs h0;by_cases hb:128<=n
  ·have e1:hiM (k+1) n=UInt8.ofNat (n % 128+128)::hiM k (n / 128):=by rw[hiM,Nat.ble_eq_true_of_le hb]
   have e2:kX (k+1) n=kX k (n / 128):=by rw[kX,Nat.ble_eq_true_of_le hb]
   have hi9:i≠9:=fun h9=>by have:=nine h9 hs; omega
   have hu:(UInt8.ofNat (n % 128+128)).toNat=n % 128+128:=u8n (by omega);have hpos:0<2^(7*i):=Nat.pow_pos (by decide);have hdm:n=n / 128*128+n % 128:=by omega
   have hval:X+n % 128*2^(7*i)+n / 128*(128*2^(7*i))=X+n*2^(7*i):=by
    conv=>rhs; rw[hdm]
    rw[Nat.add_mul,Nat.mul_assoc]; omega
   have hlt:n % 128*2^(7*i)<18446744073709551616:=by
    have:n % 128*2^(7*i)<=n*2^(7*i):=Nat.mul_le_mul_right _ (Nat.mod_le _ _);omega
   rw[e1,e2,List.cons_append,iM,hu,decide_eq_false (by rintro ⟨h9,_⟩; exact hi9 h9),decide_eq_true (show 128<=n % 128+128 by omega)];have hst:lN X i (n % 128+128)=X+n % 128*2^(7*i):=by
    unfold lN;have:(n % 128+128) % 128=n % 128:=by omega
    rw[this,Nat.mod_eq_of_lt hlt]
   simp only[hst];rw[ih (n / 128) (i+1) (X+n % 128*2^(7*i)) r (by rw[Nat.div_lt_iff_lt_mul (by decide)]; rw[Nat.pow_succ]at hn; exact hn) (by omega) ?_ (by rw[Xe,hval]; exact hs) (fun _=>by omega)]
   ·rw[Xe,hval,List.length_cons];simp only[Prod.mk.injEq,true_and];omega
   ·rw[Xe];have:n % 128*2^(7*i)<=127*2^(7*i):=Nat.mul_le_mul_right _ (by omega);omega
  ·have hf:Nat.ble 128 n=false:=by
    cases hx:Nat.ble 128 n with
    |false=>rfl
    |true=>exact absurd (Nat.le_of_ble_eq_true hx) hb
   have e1:hiM (k+1) n=[]:=by rw[hiM,hf]
   have e2:kX (k+1) n=n:=by rw[kX,hf]
   rw[e1,e2];exact last n i X r (by omega) hi hs h0
theorem NP{n:Nat}(h:n<18446744073709551616)(r:List UInt8):dM (bK n++r)=(n,(bK n).length,0):=by
 have h1:=XR 10 n 0 0 r (Nat.lt_of_lt_of_le h (by decide)) (by decide) (by decide) (by simpa using h) (fun h=>absurd h (by decide));unfold dM bK;rw[List.append_assoc,List.singleton_append,h1];simp
def shN:List UInt8->List UInt8->Nat
 |x::r,y::s=>match decide (x=y)with
  |true=>shN r s+1
  |false=>0
 |_,_=>0
theorem UD:∀ (r s:List UInt8),shN r s<=r.length
 |[],_=>by simp[shN]
 |x::r,[]=>by simp[shN]
 |x::r,y::s=>by
  unfold shN;have:=UD r s;split<;>simp<;>omega
def lst(s:ByteArray):List UInt8:=s.data.toList
def txt(l:List UInt8):ByteArray:=⟨⟨l⟩⟩
theorem O9(l:List UInt8):lst (txt l)=l:=rfl
theorem xH(s:ByteArray):txt (lst s)=s:=rfl
theorem bJ(s:ByteArray):(lst s).length=s.size:=(size_eq s).symm
def okO(o:OpM):Bool:=uY o.p o.k o.v
theorem xu{o:OpM}(h:okO o=true):1<=o.k.size/\o.k.size<=16/\o.v.size<=32/\(o.p=true\/o.v=txt []):=by
 unfold okO uY at h;simp only[Bool.and_eq_true,decide_eq_true_eq,Bool.or_eq_true,beq_iff_eq]at h;refine⟨h.1.1.1,h.1.1.2,h.1.2,?_⟩;rcases h.2 with h | h
 ·exact Or.inl h
 ·exact Or.inr (by rw[<-xH o.v]; unfold lst; rw[h])
def mZ(l:List OpM):Int:=match l with
 |[]=>2
 |_=>match decide (8<l.length),l.all okO with
  |true,_=>3
  |false,true=>0
  |false,false=>2
theorem gq{l:List OpM}:mZ l=0↔1<=l.length/\l.length<=8/\l.all okO=true:=by
 cases l with
 |nil=>simp[mZ]
 |cons o l=>
  unfold mZ;by_cases h:8<(o::l).length
  ·rw[decide_eq_true h];simp only[show(3:Int)=0↔False by simp,false_iff];omega
  ·rw[decide_eq_false h];cases ha:(o::l).all okO<;>simp<;>simp at h<;>omega
def mF(last:List UInt8)(o:OpM):List UInt8:=(bif o.p then 1 else 0)::(bK (shN last (lst o.k))++(bK (o.k.size-shN last (lst o.k))++(lst o.k).drop (shN last (lst o.k))))++(bif o.p then bK o.v.size++lst o.v else [])
def kP:List UInt8->List OpM->List UInt8
 |_,[]=>[]
 |last,o::r=>mF last o++kP (lst o.k) r
def lV(l:List OpM):List UInt8:=bK l.length++kP [] l
def kL(b:List UInt8)(a:Nat)(bad:Bool)(m:Nat):Nat×Nat×Bool:=match bad with
 |true=>(0,a,true)
 |false=>match gz (b.drop a) m with
  |true=>((dM (b.drop a)).1,a+(dM (b.drop a)).2.1,false)
  |false=>(0,a,true)
def lT(b:List UInt8)(a:Nat)(bad:Bool)(m:Nat):List UInt8×Nat×Bool:=match(kL b a bad m).2.2 || decide (b.length<(kL b a bad m).2.1+(kL b a bad m).1)with
 |true=>([],(kL b a bad m).2.1,true)
 |false=>((b.drop (kL b a bad m).2.1).take (kL b a bad m).1,(kL b a bad m).2.1+(kL b a bad m).1,false)
def opK(last:List UInt8)(k:Nat)(t:List UInt8):List UInt8:=last.take k++t
def opR(b:List UInt8)(a:Nat)(bad:Bool)(last:List UInt8):OpM×Nat×Bool:=
 let q1:=kL b a bad 1
 let q2:=kL b q1.2.1 q1.2.2 last.length
 let q3:=lT b q2.2.1 q2.2.2 16
 let key:=opK last q2.1 q3.1
 let bad3:=q3.2.2 || (shN last key != q2.1)
 match q1.1 == 1 with
 |true=>(⟨true,txt key,txt (lT b q3.2.1 bad3 32).1⟩,(lT b q3.2.1 bad3 32).2.1,(lT b q3.2.1 bad3 32).2.2)
 |false=>(⟨false,txt key,txt []⟩,q3.2.1,bad3)
def oK(b:List UInt8):Nat->Nat->Bool->List UInt8->List OpM×Nat×Bool
 |0,a,bad,_=>([],a,bad)
 |k+1,a,bad,last=>match bad with
  |true=>([],a,true)
  |false=>((opR b a false last).1::(oK b k (opR b a false last).2.1 (opR b a false last).2.2 (lst (opR b a false last).1.k)).1,(oK b k (opR b a false last).2.1 (opR b a false last).2.2 (lst (opR b a false last).1.k)).2)
def readB(b:List UInt8):Option (List OpM×Nat):=
 let q:=kL b 0 false 8
 let r:=oK b q.1 q.2.1 q.2.2 []
 match r.2.2 || (mZ r.1 != 0)with
 |true=>none
 |false=>some (r.1,r.2.1)
theorem rX{b pre r:List UInt8}{n m a:Nat}(hb:b=pre++(bK n++r))(ha:a=pre.length)(hn:n<=m)(hm:m<9223372036854775808):kL b a false m=(n,a+(bK n).length,false):=by
 subst ha;have hd:b.drop pre.length=bK n++r:=by rw[hb,List.drop_left' rfl]
 have h1:=NP (n:=n) (by omega) r;have hs:gz (bK n++r) m=true:=by
  unfold gz;rw[h1];simp;omega
 unfold kL;simp only[hd,hs,h1]
theorem zX{b pre r t:List UInt8}{m a:Nat}(hb:b=pre++(bK t.length++(t++r)))(ha:a=pre.length)(hn:t.length<=m)(hm:m<9223372036854775808):lT b a false m=(t,a+(bK t.length).length+t.length,false):=by
 have h1:=rX hb ha hn hm;unfold lT;rw[h1];have hl:b.length=pre.length+((bK t.length).length+(t.length+r.length)):=by rw[hb]; simp
 have hdec:decide (b.length<a+(bK t.length).length+t.length)=false:=decide_eq_false (by omega);simp only[hdec,Bool.or_self];have hd:b.drop (a+(bK t.length).length)=t++r:=by
  rw[hb,ha,<-List.drop_drop,List.drop_left' rfl,List.drop_left' rfl]
 rw[hd,List.take_left' rfl]
theorem MV:∀ (r s:List UInt8),shN r s<=r.length:=UD
theorem vF:∀ (r s:List UInt8),shN r s<=s.length
 |[],s=>by simp[shN]
 |x::r,[]=>by simp[shN]
 |x::r,y::s=>by
  unfold shN;have:=vF r s;split<;>simp<;>omega
theorem Jm:∀ (r s:List UInt8),r.take (shN r s)=s.take (shN r s)
 |[],s=>by simp[shN]
 |x::r,[]=>by simp[shN]
 |x::r,y::s=>by
  unfold shN;split
  ·rename_i h;obtain rfl:=of_decide_eq_true h;rw[List.take_succ_cons,List.take_succ_cons,Jm r s]
  ·simp
theorem YR{b pre r last:List UInt8}{o:OpM}{a:Nat}(hb:b=pre++(mF last o++r))(ha:a=pre.length)(ho:okO o=true)(hl:last.length<=16):opR b a false last=(o,a+(mF last o).length,false):=by
 obtain⟨h1,h2,h3,h4⟩:=xu ho;have hpl:=MV last (lst o.k);have hpr:=vF last (lst o.k);have hkl:=bJ o.k;have hvl:=bJ o.v;have hkey:opK last (shN last (lst o.k)) ((lst o.k).drop (shN last (lst o.k)))=lst o.k:=by
  unfold opK;rw[Jm,List.take_append_drop]
 have hdl:((lst o.k).drop (shN last (lst o.k))).length=o.k.size-shN last (lst o.k):=by rw[List.length_drop,hkl]
 obtain⟨p,k,v⟩:=o;simp only at h1 h2 h3 h4 hpl hpr hkl hvl hkey hdl;cases p with
 |true=>
  have e1:b=pre++(bK 1++(bK (shN last (lst k))++(bK ((lst k).drop (shN last (lst k))).length++((lst k).drop (shN last (lst k))++(bK (lst v).length++(lst v++r)))))):=by
   rw[hb,hdl,hvl,uy (n:=1) (by decide)]; simp[mF]
  have q1:=rX (m:=1) e1 ha (Nat.le_refl _) (by decide);have e2:b=(pre++bK 1)++(bK (shN last (lst k))++(bK ((lst k).drop (shN last (lst k))).length++((lst k).drop (shN last (lst k))++(bK (lst v).length++(lst v++r))))):=by rw[e1]; simp only[List.append_assoc]
  have q2:=rX (m:=last.length) (a:=a+(bK 1).length) e2 (by simp only[ha,List.length_append]) hpl (by omega);have e3:b=(pre++bK 1++bK (shN last (lst k)))++(bK ((lst k).drop (shN last (lst k))).length++((lst k).drop (shN last (lst k))++(bK (lst v).length++(lst v++r)))):=by rw[e1]; simp only[List.append_assoc]
  have q3:=zX (m:=16) (a:=a+(bK 1).length+(bK (shN last (lst k))).length) e3 (by simp only[ha,List.length_append]) (by rw[hdl]; omega) (by decide);have e4:b=(pre++bK 1++bK (shN last (lst k))++bK ((lst k).drop (shN last (lst k))).length++(lst k).drop (shN last (lst k)))++(bK (lst v).length++(lst v++r)):=by rw[e1]; simp only[List.append_assoc]
  have q4:=zX (m:=32) (a:=a+(bK 1).length+(bK (shN last (lst k))).length+(bK ((lst k).drop (shN last (lst k))).length).length+((lst k).drop (shN last (lst k))).length) e4 (by simp only[ha,List.length_append]) (by omega) (by decide);unfold opR;simp only[q1,q2,q3,hkey,bne_self_eq_false,Bool.or_self,q4];simp only[beq_self_eq_true];have hlen:(mF last ⟨true,k,v⟩).length=(bK 1).length+(bK (shN last (lst k))).length+(bK ((lst k).drop (shN last (lst k))).length).length+((lst k).drop (shN last (lst k))).length+(bK (lst v).length).length+(lst v).length:=by
   rw[hdl,hvl,uy (n:=1) (by decide)]; simp[mF,hvl]; omega
  rw[hlen];simp only[Prod.mk.injEq,OpM.mk.injEq,true_and,and_true];exact⟨⟨xH k,xH v⟩,by omega⟩
 |false=>
  have hv:v=txt []:=by rcases h4 with h | h; cases h; exact h
  have e1:b=pre++(bK 0++(bK (shN last (lst k))++(bK ((lst k).drop (shN last (lst k))).length++((lst k).drop (shN last (lst k))++r)))):=by
   rw[hb,hdl,uy (n:=0) (by decide)]; simp[mF]
  have q1:=rX (m:=1) e1 ha (by decide) (by decide);have e2:b=(pre++bK 0)++(bK (shN last (lst k))++(bK ((lst k).drop (shN last (lst k))).length++((lst k).drop (shN last (lst k))++r))):=by rw[e1]; simp only[List.append_assoc]
  have q2:=rX (m:=last.length) (a:=a+(bK 0).length) e2 (by simp only[ha,List.length_append]) hpl (by omega);have e3:b=(pre++bK 0++bK (shN last (lst k)))++(bK ((lst k).drop (shN last (lst k))).length++((lst k).drop (shN last (lst k))++r)):=by rw[e1]; simp only[List.append_assoc]
  have q3:=zX (m:=16) (a:=a+(bK 0).length+(bK (shN last (lst k))).length) e3 (by simp only[ha,List.length_append]) (by rw[hdl]; omega) (by decide);unfold opR;simp only[q1,q2,q3,hkey,bne_self_eq_false,Bool.or_self];have hlen:(mF last ⟨false,k,v⟩).length=(bK 0).length+(bK (shN last (lst k))).length+(bK ((lst k).drop (shN last (lst k))).length).length+((lst k).drop (shN last (lst k))).length:=by
   rw[hdl,uy (n:=0) (by decide)]; simp[mF]; omega
  rw[hlen,hv];simp only[show((0:Nat) == 1)=false from rfl,Prod.mk.injEq,OpM.mk.injEq,true_and,and_true];exact⟨xH k,by omega⟩
theorem GI{b:List UInt8}:∀ (l:List OpM) (pre r last:List UInt8) (a:Nat),b=pre++(kP last l++r)->a=pre.length->l.all okO=true->last.length<=16->oK b l.length a false last=(l,a+(kP last l).length,false)
 |[],pre,r,last,a,hb,ha,ho,hl=>by simp[oK,kP]
 |o::l,pre,r,last,a,hb,ha,ho,hl=>by
  simp only[List.all_cons,Bool.and_eq_true]at ho;have q:=YR (b:=b) (r:=kP (lst o.k) l++r) (by rw[hb]; simp only[kP,List.append_assoc]) ha ho.1 hl;obtain⟨h1,h2,_⟩:=xu ho.1;have ih:=GI (b:=b) l (pre++mF last o) r (lst o.k) (a+(mF last o).length) (by rw[hb]; simp only[kP,List.append_assoc]) (by simp only[ha,List.length_append]) ho.2 (by rw[bJ]; exact h2);rw[List.length_cons,oK];simp only[q,ih];simp[kP]; omega
theorem PE{l:List OpM}(h:mZ l=0)(r:List UInt8):readB (lV l++r)=some (l,(lV l).length):=by
 obtain⟨h1,h2,h3⟩:=gq.1 h;have q:=rX (b:=lV l++r) (pre:=[]) (r:=kP [] l++r) (n:=l.length) (m:=8) (a:=0) (by simp[lV]) rfl h2 (by decide);have ih:=GI (b:=lV l++r) l (bK l.length) r [] (0+(bK l.length).length) (by simp[lV]) (by simp) h3 (by simp);unfold readB;simp only[q,ih,h,bne_self_eq_false,Bool.or_self];simp[lV]
end Go.VS.Tryz
end

noncomputable section
namespace Go.VS.Tryz

theorem TJ{s:ByteArray}{i:Nat}(h:i<(lst s).length):bAt s (i:Int)=(((lst s)[i]).toNat:Int):=by
 unfold bAt;show(((lst s).getD (i:Int).toNat 0).toNat:Int)=_;rw[show(i:Int).toNat=i by omega,List.getD_eq_getElem?_getD,List.getElem?_eq_getElem h,Option.getD_some]
theorem OE(a b:ByteArray):∀ (k i:Nat),i+k=min (lst a).length (lst b).length->(oP a b k i).getD (i+k)=i+shN ((lst a).drop i) ((lst b).drop i)
 |0,i,h=>by
  have hz:shN ((lst a).drop i) ((lst b).drop i)=0:=by
   rcases Nat.le_total (lst a).length (lst b).length with hl | hl
   ·rw[Nat.min_eq_left hl]at h;rw[List.drop_of_length_le (by omega:(lst a).length<=i)];simp[shN]
   ·rw[Nat.min_eq_right hl]at h;rw[List.drop_of_length_le (by omega:(lst b).length<=i)];simp[shN]
  rw[hz]
  rfl
 |k+1,i,h=>by
  have h1:i<(lst a).length:=by omega
  have h2:i<(lst b).length:=by omega
  rw[List.drop_eq_getElem_cons h1,List.drop_eq_getElem_cons h2];simp only[oP,shN];rw[TJ h1,TJ h2];by_cases hx:(lst a)[i]=(lst b)[i]
  ·have e:neI (((lst a)[i]).toNat:Int) (((lst b)[i]).toNat:Int)=false:=by rw[hx]; unfold neI; simp
   rw[e,decide_eq_true hx];have ih:=OE a b k (i+1) (by omega);simp only;rw[show i+(k+1)=i+1+k by omega,ih];omega
  ·have e:neI (((lst a)[i]).toNat:Int) (((lst b)[i]).toNat:Int)=true:=by
    unfold neI;simp only[bne_iff_ne,ne_eq];intro hh;exact hx (UInt8.toNat_inj.1 (by omega))
   rw[e,decide_eq_false hx]
   rfl
theorem xO(a b:ByteArray):qH a b=shN (lst a) (lst b):=by
 have hm:iD a b=min (lst a).length (lst b).length:=by
  rw[bJ,bJ];unfold iD;cases h:ltI (ak b.size) (ak a.size)with
  |true=>have:ak b.size<ak a.size:=of_decide_eq_true h; unfold ak at this; simp only; omega
  |false=>have:¬ak b.size<ak a.size:=of_decide_eq_false h; unfold ak at this; simp only; omega
 have:=OE a b (iD a b) 0 (by omega);rw[Nat.zero_add,Nat.zero_add,List.drop_zero,List.drop_zero]at this;exact this
end Go.VS.Tryz
end

noncomputable section
namespace Go.VS.Tryz
open Go.VS
set_option maxRecDepth 1000000
def within(x a b:Int):Bool:=decide (a<=x)&&decide (x<=b)
theorem within_iff{x a b:Int}:within x a b=true↔a<=x/\x<=b:=by unfold within; simp
theorem zJ:∀ (i:Nat) (l:List OpM),badM i l=none↔l.all okO=true
 |_,[]=>by simp[badM]
 |i,o::l=>by
  unfold badM;have e:DZ o=okO o:=rfl;rw[e,List.all_cons];cases okO o with
  |true=>simp only[Bool.true_and]; exact zJ (i+1) l
  |false=>simp
theorem yX(l:List OpM):vO l=mZ l:=by
 have hb:(badM 0 l).isNone=l.all okO:=by
  cases h:l.all okO with
  |true=>rw[(zJ 0 l).2 h]; rfl
  |false=>
   cases hq:badM 0 l with
   |none=>rw[(zJ 0 l).1 hq]at h; cases h
   |some i=>rfl
 unfold vO;rw[hb];cases l with
 |nil=>rfl
 |cons o l=>
  have h0:eqI (ak (o::l).length) 0=false:=by unfold eqI ak; exact decide_eq_false (by simp; omega)
  rw[h0];unfold mZ;by_cases h:8<(o::l).length
  ·have h8:gtI (ak (o::l).length) 8=true:=by unfold gtI ak; exact decide_eq_true (by omega)
   rw[h8,decide_eq_true h]
  ·have h8:gtI (ak (o::l).length) 8=false:=by unfold gtI ak; exact decide_eq_false (by omega)
   rw[h8,decide_eq_false h];cases (o::l).all okO<;>rfl
def cmE(c:CmM):Int:=match within c.e 1 1048576&&within c.n 1 1048576 with
 |true=>vO c.ops
 |false=>2
theorem jf{c:CmM}:cmE c=0↔(1<=c.e/\c.e<=1048576)/\(1<=c.n/\c.n<=1048576)/\mZ c.ops=0:=by
 unfold cmE;rw[yX];cases h:within c.e 1 1048576&&within c.n 1 1048576 with
 |true=>
  simp only[Bool.and_eq_true,within_iff]at h;simp only[h,true_and,and_self]
 |false=>
  have:¬((1<=c.e/\c.e<=1048576)/\(1<=c.n/\c.n<=1048576)):=by
   intro⟨a,b⟩;rw[within_iff.2 a,within_iff.2 b]at h;cases h
  simp only[show(2:Int)=0↔False by simp,false_iff];intro⟨a,b,_⟩;exact this ⟨a,b⟩
def fD:Int->Int->Nat->List CmM->Int×Nat
 |_,_,_,[]=>(0,0)
 |e,n,i,c::l=>match eqI (cmE c) 0 with
  |false=>(cmE c,i)
  |true=>match neI (c.n-1) n || ltI c.e e with
   |true=>(15,i)
   |false=>fD c.e c.n (i+1) l
def gp(c:CmM):List UInt8:=bK c.e.toNat++(bK c.n.toNat++lV c.ops)
def xP(b:List UInt8):Option CmM:=match gz b 1048576 with
 |false=>none
 |true=>match gz (b.drop (dM b).2.1) 1048576 with
  |false=>none
  |true=>match readB (b.drop ((dM b).2.1+(dM (b.drop (dM b).2.1)).2.1))with
   |none=>none
   |some (l,k)=>match decide ((dM b).2.1+(dM (b.drop (dM b).2.1)).2.1+k=b.length)&&eqI (cmE ⟨(dM b).1,(dM (b.drop (dM b).2.1)).1,l⟩) 0 with
    |true=>some ⟨(dM b).1,(dM (b.drop (dM b).2.1)).1,l⟩
    |false=>none
theorem qM{n m:Nat}(hn:n<=m)(hm:m<9223372036854775808)(r:List UInt8):gz (bK n++r) m=true/\dM (bK n++r)=(n,(bK n).length,0):=by
 have h1:=NP (n:=n) (by omega) r;refine⟨?_,h1⟩;unfold gz;rw[h1];simp;omega
theorem TY{c:CmM}(h:cmE c=0):xP (gp c)=some c:=by
 obtain⟨⟨e1,e2⟩,⟨n1,n2⟩,hb⟩:=jf.1 h;have q1:=qM (n:=c.e.toNat) (m:=1048576) (by omega) (by decide) (bK c.n.toNat++lV c.ops);have q2:=qM (n:=c.n.toNat) (m:=1048576) (by omega) (by decide) (lV c.ops);have q3:=PE hb [];rw[List.append_nil]at q3;have d1:(gp c).drop (bK c.e.toNat).length=bK c.n.toNat++lV c.ops:=List.drop_left' rfl;have d2:(gp c).drop ((bK c.e.toNat).length+(bK c.n.toNat).length)=lV c.ops:=by
  rw[<-List.drop_drop,d1,List.drop_left' rfl]
 have s1:gz (gp c) 1048576=true:=q1.1;have n1':dM (gp c)=(c.e.toNat,(bK c.e.toNat).length,0):=q1.2;have s2:gz (bK c.n.toNat++lV c.ops) 1048576=true:=q2.1;have hc:(⟨(c.e.toNat:Int),(c.n.toNat:Int),c.ops⟩:CmM)=c:=by
  obtain⟨e,n,o⟩:=c;simp only[CmM.mk.injEq,and_true];simp only at e1 n1;omega
 have hl:decide ((bK c.e.toNat).length+(bK c.n.toNat).length+(lV c.ops).length=(gp c).length)=true:=decide_eq_true (by simp[gp]; omega);unfold xP;simp only[s1,n1',d1,s2,q2.2,d2,q3,hc,hl,h]
 rfl
def frM(r:List UInt8):List UInt8:=bK r.length++r
def frR(b:List UInt8):Option (List UInt8×Nat):=match gz b 131072&&decide ((dM b).2.1+(dM b).1<=b.length)with
 |true=>some ((b.drop (dM b).2.1).take (dM b).1,(dM b).2.1+(dM b).1)
 |false=>none
theorem KG{r:List UInt8}(h:r.length<=131072)(x:List UInt8):frR (frM r++x)=some (r,(frM r).length):=by
 have q:=qM (n:=r.length) (m:=131072) h (by decide) (r++x);have e:frM r++x=bK r.length++(r++x):=by simp[frM]
 have hd:(bK r.length++(r++x)).drop (bK r.length).length=r++x:=List.drop_left' rfl;have hl:decide ((bK r.length).length+r.length<=(bK r.length++(r++x)).length)=true:=decide_eq_true (by simp);unfold frR;have q1:gz (bK r.length++(r++x)) 131072=true:=q.1;rw[e];simp only[q1,q.2,hd,hl,Bool.and_self,List.take_left' rfl];simp[frM]
structure SecM where
 e:Int
 f:Int
 cs:List CmM
def dL(l:List CmM):Int:=(l.getLast?.map CmM.e).getD 0
def pO(s:SecM):Int:=match within s.e 1 1048576&&decide (0<=s.f)&&!s.cs.isEmpty with
 |false=>2
 |true=>match eqI (fD 1 s.f 0 s.cs).1 0 with
  |false=>(fD 1 s.f 0 s.cs).1
  |true=>match geI (dL s.cs) s.e with
   |true=>15
   |false=>0
def headB(s:SecM):List UInt8:=bK s.e.toNat++(bK s.f.toNat++bK s.cs.length)
def encS(s:SecM):List UInt8:=frM (headB s)++s.cs.flatMap fun c=>frM (gp c)
def hdR(b:List UInt8):Option (Nat×Nat×Nat):=match gz b 1048576 with
 |false=>none
 |true=>match gz (b.drop (dM b).2.1) 1048576 with
  |false=>none
  |true=>match gz ((b.drop (dM b).2.1).drop (dM (b.drop (dM b).2.1)).2.1) 1048576 with
   |false=>none
   |true=>match decide (((b.drop (dM b).2.1).drop (dM (b.drop (dM b).2.1)).2.1).drop (dM ((b.drop (dM b).2.1).drop (dM (b.drop (dM b).2.1)).2.1)).2.1=[])with
    |true=>some ((dM b).1,(dM (b.drop (dM b).2.1)).1,(dM ((b.drop (dM b).2.1).drop (dM (b.drop (dM b).2.1)).2.1)).1)
    |false=>none
def qZ(b:List UInt8):Nat->Nat->Option (List CmM×Nat)
 |0,a=>some ([],a)
 |k+1,a=>match frR (b.drop a)with
  |none=>none
  |some (r,n)=>match xP r with
   |none=>none
   |some c=>(qZ b k (a+n)).map fun x=>(c::x.1,x.2)
def Fq(b:List UInt8):Option (SecM×Nat):=match frR b with
 |none=>none
 |some (r,a)=>match hdR r with
  |none=>none
  |some (e,f,m)=>match qZ b m a with
   |none=>none
   |some (cs,a')=>match eqI (pO ⟨e,f,cs⟩) 0 with
    |true=>some (⟨e,f,cs⟩,a')
    |false=>none
theorem XL{s:SecM}(he:0<=s.e/\s.e<=1048576)(hf:0<=s.f/\s.f<=1048576)(hn:s.cs.length<=1048576):hdR (headB s)=some (s.e.toNat,s.f.toNat,s.cs.length):=by
 have q1:=qM (n:=s.e.toNat) (m:=1048576) (by omega) (by decide) (bK s.f.toNat++bK s.cs.length);have q2:=qM (n:=s.f.toNat) (m:=1048576) (by omega) (by decide) (bK s.cs.length);have q3:=qM (n:=s.cs.length) (m:=1048576) hn (by decide) [];rw[List.append_nil]at q3;have d1:(headB s).drop (bK s.e.toNat).length=bK s.f.toNat++bK s.cs.length:=List.drop_left' rfl;have d2:(bK s.f.toNat++bK s.cs.length).drop (bK s.f.toNat).length=bK s.cs.length:=List.drop_left' rfl;have d3:(bK s.cs.length).drop (bK s.cs.length).length=[]:=List.drop_length;have s1:gz (headB s) 1048576=true:=q1.1;have n1:dM (headB s)=(s.e.toNat,(bK s.e.toNat).length,0):=q1.2;have s2:gz (bK s.f.toNat++bK s.cs.length) 1048576=true:=q2.1;have s3:gz (bK s.cs.length) 1048576=true:=q3.1;unfold hdR;simp only[s1,n1,d1,s2,q2.2,d2,s3,q3.2,d3,decide_true]
theorem G5{b:List UInt8}:∀ (l:List CmM) (pre x:List UInt8) (a:Nat),b=pre++((l.flatMap fun c=>frM (gp c))++x)->a=pre.length->(∀ c∈l,cmE c=0/\(gp c).length<=131072)->
  qZ b l.length a=some (l,a+(l.flatMap fun c=>frM (gp c)).length)
 |[],pre,x,a,hb,ha,ho=>by simp[qZ]
 |c::l,pre,x,a,hb,ha,ho=>by
  obtain⟨h1,h2⟩:=ho c (List.mem_cons_self ..);have hd:b.drop a=frM (gp c)++((l.flatMap fun c=>frM (gp c))++x):=by rw[hb,ha,List.drop_left' rfl,List.flatMap_cons,List.append_assoc]
  have ih:=G5 (b:=b) l (pre++frM (gp c)) x (a+(frM (gp c)).length) (by rw[hb,List.flatMap_cons]; simp only[List.append_assoc]) (by rw[ha,List.length_append]) (fun c hc=>ho c (List.mem_cons_of_mem _ hc));rw[List.length_cons,qZ,hd,KG h2];simp only[TY h1,ih,Option.map_some,List.flatMap_cons,List.length_append];rw[Nat.add_assoc]
theorem eY{n:Nat}:(bK n).length<=11:=by
 unfold bK;have:=uC 10 n;rw[List.length_append];simp;omega
theorem TA{s:SecM}(h:pO s=0)(hf:s.f<=1048576)(hn:s.cs.length<=1048576)(ho:∀ c∈s.cs,cmE c=0/\(gp c).length<=131072)(x:List UInt8):Fq (encS s++x)=some (s,(encS s).length):=by
 have hh:=h;unfold pO at hh;split at hh
 ·cases hh
 ·rename_i hc;simp only[Bool.and_eq_true,decide_eq_true_eq,within_iff]at hc;obtain⟨⟨⟨e1,e2⟩,f1⟩,_⟩:=hc;have hl:(headB s).length<=131072:=by
   have a1:=eY (n:=s.e.toNat);have a2:=eY (n:=s.f.toNat);have a3:=eY (n:=s.cs.length);simp only[headB,List.length_append];omega
  have q1:=KG hl ((s.cs.flatMap fun c=>frM (gp c))++x);have q2:=XL (s:=s) ⟨by omega,e2⟩ ⟨f1,hf⟩ hn;have q3:=G5 (b:=encS s++x) s.cs (frM (headB s)) x (frM (headB s)).length (by simp[encS]) rfl ho;have e:encS s++x=frM (headB s)++((s.cs.flatMap fun c=>frM (gp c))++x):=by simp[encS]
  have hs:(⟨(s.e.toNat:Int),(s.f.toNat:Int),s.cs⟩:SecM)=s:=by
   obtain⟨e,f,o⟩:=s;simp only[SecM.mk.injEq,and_true];simp only at e1 f1;omega
  unfold Fq;rw[show frR (encS s++x)=some (headB s,(frM (headB s)).length) by rw[e]; exact q1];simp only[q2,q3,hs,h];simp[encS,eqI]
end Go.VS.Tryz
end

noncomputable section
namespace Go.VS

section
variable{P:Program}{ct:Ct}
open Classical in
def aV(a0:List Value)(b0:List Blk):List Value->List Blk->Bool:=fun vs bs=>decide (a0=vs/\b0=bs)
open Classical in
theorem Hg{a0 vs:List Value}{b0 bs:List Blk}(h1:a0=vs)(h2:b0=bs):aV a0 b0 vs bs=true:=by
 unfold aV; exact decide_eq_true ⟨h1,h2⟩
open Classical in
theorem gu{a0 vs:List Value}{b0 bs:List Blk}(h:aV a0 b0 vs bs=true):a0=vs/\b0=bs:=by
 unfold aV at h; exact of_decide_eq_true h
theorem oh{a0 vs:List Value}{b0 bs:List Blk}{x r:Res}(h1:a0=vs)(h2:b0=bs)(h:x=r):ae (aV a0 b0 vs bs) x=r:=by
 rw[Hg h1 h2]; exact h
theorem aZ{N:Nat}{g:FuncId}{a0:List Value}{b0:List Blk}{v:Value}{b1:List Blk}(h:CRX P N g a0 b0 v b1):CallOkX P N g (bI (aV a0 b0) (.leaf (v,b1))):=by
 refine⟨fun args bs t hR v' bs' hev=>?_⟩;unfold bI at hR;obtain rfl:=Option.some.inj hR;cases hc:aV a0 b0 args bs with
 |false=>rw[hc]at hev; cases hev
 |true=>
  rw[hc]at hev;obtain⟨rfl,rfl⟩:=gu hc;have hev:(DT.leaf (v,b1)).eval=some (v',bs'):=hev;simp only[DT.eval,Option.some.injEq,Prod.mk.injEq]at hev;obtain⟨rfl,rfl⟩:=hev;exact h
theorem fU{fid id:Nat}{B:Code}{H:Head}{a0:List Value}{b0:List Blk}{e:Ex}{v:List Value}{b1:List Blk}(hocc:∀ c,Occ P fid (.block id c)->c = .loop B)(h:LRX P fid id B H a0 b0 e v b1):LoopOkX P fid id B H (jd (aV a0 b0) (.leaf (e,v,b1))) where
 occ:=hocc
 run:=by
  intro vs bs t hR e' vs' bs' hev;unfold jd at hR;obtain rfl:=Option.some.inj hR;cases hc:aV a0 b0 vs bs with
  |false=>rw[hc]at hev; cases hev
  |true=>
   rw[hc]at hev;obtain⟨rfl,rfl⟩:=gu hc;have hev:(DT.leaf (e,v,b1)).eval=some (e',vs',bs'):=hev;simp only[DT.eval,Option.some.injEq,Prod.mk.injEq]at hev;obtain⟨rfl,rfl,rfl⟩:=hev;exact h
theorem CallOkX.at{σ:Type}{k:Con σ}{N:Nat}{g:FuncId}{res:σ->DT (Value×List Blk)}(h:CallOkX P N g (uo k.C k.D res)){s:σ}(ho:k.ok s){v:Value}{b:List Blk}(hv:(res s).eval=some (v,b)):CRX P N g (k.enc s).1 (k.enc s).2 v b:=
 h.run _ _ _ rfl v b (by rw[k.C_enc rfl ho,k.D_enc rfl]; exact hv)
theorem LRX.rounds{E:Eng}(hE:EngOk P ct E)(hN:noNum P=true)(hct:CtOk P ct){n fid id:Nat}{B:Code}{D:HeadX}(hocc:Occ P fid (.block id (.loop B))){vs:Nat->List Value}{bs:Nat->List Blk}{e:Ex}{vs':List Value}{bs':List Blk}(m:Nat)
  (h:∀ i,i<m->bV P E ct n fid B D (vs i) (bs i)=some (.tuple ⟨exV .normal::vs (i+1)⟩,ag (bs (i+1)))) (hs:bV P E ct n fid B D (vs m) (bs m)=some (.tuple ⟨exV e::vs'⟩,ag bs')) (he:e≠ .normal):LRX P fid id B D.head (vs 0) (bs 0) (mJ id e) vs' bs':=
 LRX.iter hE hN hct hocc m h (LRX.stop hE hN hct hocc hs he)
end
end Go.VS
end

noncomputable section
namespace Go.VS.Tryz
open Go.VS
set_option maxRecDepth 1000000
theorem GR(s:ByteArray)(a b:Nat):(vk s (a:Int) (b:Int)).data.toList=(s.data.toList.drop a).take (b-a):=by
 unfold vk;simp[ByteArray.extract,ByteArray.copySlice,List.extract_eq_take_drop]
def shK(a b:ByteArray):Bool:=decide (iD a b<4611686018427387904)
def shS(a b:ByteArray):Int:=(qH a b:Int)
theorem Vh:CallOkX P 0 180 (P7 shK shS):=⟨fun args bs t hR v bs' hev=>by
 unfold P7 at hR;split at hR
 ·rename_i a b;obtain rfl:=Option.some.inj hR;cases hc:shK a b with
  |false=>rw[hc]at hev; cases hev
  |true=>
   rw[hc]at hev;unfold shK at hc;have ho:iD a b<4611686018427387904:=of_decide_eq_true hc;exact acd.run _ _ _ rfl v bs' (by rw[kSk.C_enc (s:=⟨a,b⟩) rfl ho,kSk.D_enc (s:=⟨a,b⟩) rfl]; exact hev)
 ·cases hR⟩
def E9:Ct:=XU bK lJ shK shS
theorem aac:CtOk P E9:=ah (mg (iG aW t_)) Vh
theorem aaX{s:ByteArray}{a:Nat}(h:a<=s.size):Go.byteCells (vk s (a:Int) (ak s.size))=bc ((lst s).drop a)/\(vk s (a:Int) (ak s.size)).size=s.size-a:=by
 have e:(vk s (a:Int) (ak s.size)).data.toList=(lst s).drop a:=by
  unfold ak lst;rw[GR,List.take_of_length_le (by rw[List.length_drop,<-size_eq]; exact Nat.le_refl _)]
 refine⟨?_,?_⟩
 ·unfold Go.byteCells bc;rw[e]
 ·rw[size_eq,e,List.length_drop,bJ]
theorem UN(s:ByteArray):Go.byteCells s=bc (lst s):=rfl
theorem bF{x:List UInt8}{n:Nat}(h:n=x.length):takeC n (aU 0 (bc x))=bc x:=eH h
theorem bU{x:List UInt8}{n:Nat}(h:n=x.length):gV P 0 n 18446744073709551616 (bc x) 5=true:=EF h
theorem dH{x:List UInt8}{n:Nat}(h:n=x.length)(h2:x.length+64<=4194304):fzB 18446744073709551617 n (bc x)=true:=by
 rw[<-fz1]; exact xf h h2
theorem bP{n m:Nat}(h:n<=m):Nat.ble n m=true:=Nat.ble_eq_true_of_le h
theorem bW{n m:Nat}(h:n=m):Nat.beq n m=true:=FI.2 h
def apV(o:List UInt8)(last:ByteArray)(l:List OpM)(i:Nat):List Value:=[.slice (some ⟨0,0,none⟩) o.length 18446744073709551616, .string last,bn l, .int .i64 (ak l.length), .int .i64 i]
def apB(o:List UInt8):List Blk:=[.cells (bc o) 5 false]
theorem VM{o:List UInt8}{last:ByteArray}{l:List OpM}{i:Nat}(hi:i<l.length)(hl:l.length<=8)(hok:okO l[i]=true)(ho:o.length+256<=4194304)(hla:last.size<=16) :
  bV P E E9 50 160 Bap Dap (apV o last l i) (apB o)=some (.tuple ⟨exV .normal::apV (o++mF (lst last) l[i]) l[i].k l (i+1)⟩,ag (apB (o++mF (lst last) l[i]))):=by
 obtain⟨k1,k2,v1,pv⟩:=xu hok;have hs1:qH last l[i].k<=l[i].k.size:=by
  rw[xO,<-bJ]; exact vF _ _
 have hs2:qH last l[i].k=shN (lst last) (lst l[i].k):=xO _ _;have hl1:=bJ last;have hl2:=bJ l[i].k;have hl3:=bJ l[i].v;generalize hsh:shN (lst last) (lst l[i].k)=s at hs2;have hsl:s<=l[i].k.size:=by rw[<-hs2]; exact hs1
 have b3:∀ n,Nat.beq n n=true:=Nat.beq_refl;have n3:∀ l:List OpM,(EOp.all l).length=Nat.mul l.length 3:=fun l=>EOp.all_length l;have g1:ltI (i:Int) (ak l.length)=true:=by unfold ltI ak; exact decide_eq_true (by omega)
 have g2:inI (i:Int) l.length=true:=by unfold inI; exact decide_eq_true (by omega)
 have g3:Nat.ble (Nat.add (atN (i:Int) 3) 3) (Nat.mul l.length 3)=true:=Nat.ble_eq_true_of_le (by
  show(i:Int).toNat*3+3<=l.length*3;have:(i:Int).toNat=i:=by omega
  omega)
 have g4:=wV hi;have a1:dI .i64 (i:Int) 1=((i+1:Nat):Int):=by unfold dI; rw[wrap64 (by omega) (by omega)]; omega
 have ab:∀ b,asB (.bool b)=b:=fun _=>rfl;have aS:∀ b,asS (.string b)=b:=fun _=>rfl;have hK:shK last l[i].k=true:=by unfold shK; exact decide_eq_true (by have:=(Fj last l[i].k).1; omega)
 have hS:shS last l[i].k=(s:Int):=by unfold shS; rw[hs2]
 have c1:cvI .u64 (s:Int)=(s:Int):=iU (by omega);have c2:cvI .u64 (eU .i64 (ak l[i].k.size) (s:Int))=((l[i].k.size-s:Nat):Int):=by
  have:eU .i64 (ak l[i].k.size) (s:Int)=((l[i].k.size-s:Nat):Int):=by unfold eU ak; rw[wrap64 (by omega) (by omega)]; omega
  rw[this]; exact iU (by omega)
 have c3:cvI .u64 (ak l[i].v.size)=(l[i].v.size:Int):=iU (by omega);have cK:=aaX hsl;have g5:eF (s:Int) (ak l[i].k.size) l[i].k.size=true:=lY (by omega) (by unfold ak; omega) (by unfold ak; omega);have cV:=UN l[i].v;have d1:=eY (n:=s);have d2:=eY (n:=l[i].k.size-s);have d3:=eY (n:=l[i].v.size);have u1:lJ (s:Int)=true:=jF (by omega) (by omega);have u2:lJ ((l[i].k.size-s:Nat):Int)=true:=jF (by omega) (by omega);have u3:lJ (l[i].v.size:Int)=true:=jF (by omega) (by omega);unfold apV apB bn E9;rw[U6];simp only[fa_,lb_,nb_,sl_,n3,g1,g2,g3,g4,FU hi,Fv hi,F_ hi,ab,aS,a1,hK,hS,c1,c2,c3,cK.1,cK.2,cV,g5,u1,u2,u3,b3,dK,aQ,bH,bz,bu,bg,ax,aX,bD,Int.toNat_natCast,aY,aO,Bool.and_self,aG,ay];simp (disch:=first | omega | (simp only[List.length_append,List.length_drop,List.length_singleton,Nat.add_eq,bJ]<;>omega) | fail) only[fa_,lb_,nb_,sl_,bF,bU,dH,bP,bW,bg,ax,aX,Bool.and_self,ay];unfold aJ;rw[um];cases hp:l[i].p with
 |true=>
  have e:o++mF (lst last) l[i]=o++[1]++bK s++bK (l[i].k.size-s)++(lst l[i].k).drop s++bK l[i].v.size++lst l[i].v:=by unfold mF; rw[hsh,hp]; simp
  rw[e,List.length_append (bs:=lst l[i].v),hl3]
  rfl
 |false=>
  have e:o++mF (lst last) l[i]=o++[0]++bK s++bK (l[i].k.size-s)++(lst l[i].k).drop s:=by unfold mF; rw[hsh,hp]; simp
  rw[e,List.length_append (bs:=(lst l[i].k).drop s),List.length_drop,hl2]
  rfl
theorem ac3{o:List UInt8}{last:ByteArray}{l:List OpM}:bV P E E9 50 160 Bap Dap (apV o last l l.length) (apB o)=some (.tuple ⟨exV (.exit 0)::apV o last l l.length⟩,ag (apB o)):=by
 unfold apV apB bn E9;rw[U6];have g1:ltI (l.length:Int) (ak l.length)=false:=by unfold ltI ak; exact decide_eq_false (by omega)
 have b2:∀ n,Nat.ble n n=true:=fun n=>Nat.ble_eq_true_of_le (Nat.le_refl n);simp only[fa_,lb_,nb_,sl_,g1,b2,aY,aO,ax,aX,bF rfl,aF,ay];unfold aJ;rw[um]
 rfl
def apO(b:List UInt8)(l:List OpM)(i:Nat):List UInt8:=b++kP [] (l.take i)
def apL(l:List OpM)(i:Nat):ByteArray:=((l.take i).getLast?.map OpM.k).getD ⟨#[]⟩
theorem DX(o:OpM):∀ (l:List OpM) (w:List UInt8),kP w (l++[o])=kP w l++mF ((l.getLast?.map fun x=>lst x.k).getD w) o
 |[],w=>by simp[kP]
 |x::l,w=>by
  rw[List.cons_append,kP,DX o l,kP,List.append_assoc];congr 3;cases l with
  |nil=>rfl
  |cons y l=>
   obtain⟨z,hz⟩:∃ z,(y::l).getLast? = some z:=⟨_,List.getLast?_eq_some_getLast (by simp)⟩
   rw[List.getLast?_cons_cons,hz]; rfl
theorem Xb{b:List UInt8}{l:List OpM}{i:Nat}(hi:i<l.length):apO b l (i+1)=apO b l i++mF (lst (apL l i)) l[i]/\apL l (i+1)=l[i].k:=by
 have e:l.take (i+1)=l.take i++[l[i]]:=by rw[List.take_succ_eq_append_getElem hi]
 refine⟨?_,?_⟩
 ·unfold apO apL;rw[e,DX,List.append_assoc];congr 3;cases (l.take i).getLast?<;>rfl
 ·unfold apL;rw[e,List.getLast?_concat]; rfl
theorem WR{w:List UInt8}{o:OpM}(h:okO o=true):(mF w o).length<=96:=by
 obtain⟨h1,h2,h3,h4⟩:=xu h;have d1:=eY (n:=shN w (lst o.k));have d2:=eY (n:=o.k.size-shN w (lst o.k));have d3:=eY (n:=o.v.size);have hk:=bJ o.k;have hv:=bJ o.v;unfold mF;cases o.p<;>simp[hk,hv]<;>omega
theorem vW:∀ (l:List OpM) (w:List UInt8),l.all okO=true->(kP w l).length<=96*l.length
 |[],w,_=>by simp[kP]
 |o::l,w,h=>by
  simp only[List.all_cons,Bool.and_eq_true]at h;have:=WR (w:=w) h.1;have:=vW l (lst o.k) h.2;simp[kP];omega
theorem acD{l:List OpM}(h:l.all okO=true)(i:Nat):(apL l i).size<=16:=by
 unfold apL;cases hq:(l.take i).getLast? with
 |none=>exact Nat.zero_le _
 |some o=>
  have:=List.mem_of_mem_take (List.mem_of_getLast? hq);exact(xu (List.all_eq_true.1 h o this)).2.1
theorem aaZ{b:List UInt8}{l:List OpM}(h:mZ l=0)(hb:b.length+2048<=4194304):LRX P 160 0 Bap Dap.head (apV b ⟨#[]⟩ l 0) (apB b) .normal (apV (apO b l l.length) (apL l l.length) l l.length) (apB (apO b l l.length)):=by
 obtain⟨h1,h2,h3⟩:=gq.1 h;have q:=LRX.rounds (n:=50) (bf E9) aA aac Y9 (vs:=fun i=>apV (apO b l i) (apL l i) l i) (bs:=fun i=>apB (apO b l i)) (e:= .exit 0) l.length (fun i hi=>by
  have hh:=Xb (b:=b) hi;have hlen:=vW (l.take i) [] (List.all_eq_true.2 fun x hx=>List.all_eq_true.1 h3 x (List.mem_of_mem_take hx));have q:=VM (o:=apO b l i) (last:=apL l i) hi h2 (List.all_eq_true.1 h3 _ (List.getElem_mem hi)) (by
   unfold apO;rw[List.length_append];rw[List.length_take]at hlen
   omega) (acD h3 i)
  rw[<-hh.1,<-hh.2]at q
  exact q) ac3 (by intro h; cases h)
 have e:apO b l 0=b:=by unfold apO; simp[kP]
 simp only[e]at q;exact q
def ac_(V:Nat->List UInt8)(C:Int->Bool)(C1 C2:List Value->List Blk->Bool)(o:List UInt8)(k:ByteArray)(l:List OpM):Ct:=
 aC P fJ 0 90 (bI C1 (.leaf (.int .i64 0,[]))) (fP P 160 0 Dap (jd C2 (.leaf (.normal,apV o k l l.length,apB o))) (nH P 123 (jh P 123 (sU V C) ctF)))
theorem aa4(V:Nat->List UInt8)(C:Int->Bool)(C1 C2:List Value->List Blk->Bool)(o:List UInt8)(k:ByteArray)(l:List OpM)(n b:Nat)(c:List Value):bM P E (ac_ V C C1 C2 o k l) 50 fJ [.val, .val] [61,0] 0 160 [aJ 1 n b c,bn l] [] =
 (let z0:=fa_ l.length 0 (Enc.all EOp l);let y0:=ak l.length;let x0:=cvI .u64 y0;let w0:=HAppend.hAppend (List.map byteOf c) (V (Int.toNat x0));let v0:=w0.length;let u0:=af false (fQ 0) (bc w0);let t0:=Value.int .i64 0;let s0:=o.length;let r0:=af true (bC [] 2) (bc o);
 (ae (C1 [z0] []) (ae (Bool.and (fzB 18446744073709551617 n c) (C x0)) (nb_ v0 1 u0 (ae (C2 [sl_ 0 v0, .string (ByteArray.mk #[]),z0, .int .i64 y0,t0] [lb_ (aH 0 [1]) v0 1 u0 5]) (ae (gV P 0 s0 18446744073709551616 r0 5) (some (.tuple ⟨[fb_ s0 0 (takeC (Nat.mul s0 1) (aU 0 r0)),t0]⟩,ag [])))))))):=by kernel_rfl
theorem acK{b:List UInt8}{l:List OpM}(h:mZ l=0)(hb:b.length+2064<=4194304)(bb:Nat):CRX P 0 160 [aJ 1 b.length bb (bc b),bn l] [] (.tuple ⟨[aJ 1 (b++lV l).length 0 (bc (b++lV l)), .int .i64 0]⟩) []:=by
 obtain⟨h1,h2,h3⟩:=gq.1 h;have d1:=eY (n:=l.length);have hc:CRX P 0 90 [bn l] [] (.int .i64 0) []:=by
  have q:=Vf.at (s:=l) (by show l.length<4194304; omega) rfl;rw[yX,h]at q;exact q
 have hloop:=aaZ (b:=b++bK l.length) h (by rw[List.length_append]; omega);refine CRX.of (pol:=fJ) (fl:=[.val, .val]) (ts:=[61,0]) (n:=50) (bf _) aA (ah (pol:=fJ) (eu (mg (g:=123) (iG aW t_)) (fU (d_ SV) hloop)) (aZ hc)) ?_;refine(aa4 bK lJ (aV _ _) (aV _ _) _ _ l b.length bb (bc b)).trans ?_;have e:apO (b++bK l.length) l l.length=b++lV l:=by unfold apO lV; rw[List.take_length,List.append_assoc]
 have hlen:=vW l [] h3;have he:(lV l).length<=11+96*8:=by unfold lV; rw[List.length_append]; omega
 have c1:cvI .u64 (ak l.length)=(l.length:Int):=iU (by omega);have u1:lJ (l.length:Int)=true:=jF (by omega) (by omega);rw[e];simp (disch:=first | omega | (simp only[List.length_append,Nat.add_eq]<;>omega) | fail) only[fa_,fb_,lb_,nb_,sl_,c1,u1,Int.toNat_natCast,bg,aX,ax,aY,aO,bF,bU,dH,bP,Bool.and_self,ay];refine oh (by unfold bn aJ; rw[um]) rfl (oh (by unfold apV bn aJ; rw[um]; rfl) rfl ?_);unfold aJ;rw[fzU]
theorem KZ:∀ {c:List Value},(∀ x∈c,bZ x x=true)->iR c c=true
 |[],_=>rfl
 |x::c,h=>by
  simp only[iR,Bool.and_eq_true];exact⟨h x (List.mem_cons_self ..),KZ fun y hy=>h y (List.mem_cons_of_mem _ hy)⟩
theorem Vl{a b:List Value}(ha:iR a a=true)(hb:iR b b=true):iR (a++b) (a++b)=true:=by
 induction a with
 |nil=>exact hb
 |cons x a ih=>
  simp only[iR,Bool.and_eq_true]at ha;simp only[List.cons_append,iR,Bool.and_eq_true];exact⟨ha.1,ih ha.2⟩
theorem Jj{t n b:Nat}{c:List Value}(h:iR c c=true):bZ (.iface t (.agg ⟨.slice none n b::c⟩)) (.iface t (.agg ⟨.slice none n b::c⟩))=true:=by simp[bZ,uA,iR,h]
theorem Enc.beq{α:Type}(E:Enc α)(h:∀ a,iR (E.f a) (E.f a)=true):∀ l,iR (E.all l) (E.all l)=true
 |[]=>rfl
 |a::l=>by rw[E.all_cons]; exact Vl (h a) (Enc.beq E h l)
theorem abD(l:List UInt8):iR (bc l) (bc l)=true:=KZ fun x hx=>by
 unfold bc at hx;obtain⟨b,_,rfl⟩:=List.mem_map.1 hx;simp[bZ]
theorem GH(l:List OpM):iR (EOp.all l) (EOp.all l)=true:=Enc.beq EOp (fun a=>by simp[EOp,bZ,iR]) l
theorem Om(l:List CmM):iR (ECm.all l) (ECm.all l)=true:=Enc.beq ECm (fun a=>by simp[ECm,aJ,bZ,uA,iR,GH]) l
theorem dD(t n b:Nat)(l:List UInt8):bZ (.iface t (.agg ⟨.slice none n b::bc l⟩)) (.iface t (.agg ⟨.slice none n b::bc l⟩))=true:=Jj (abD l)
theorem dE(t n b:Nat)(l:List OpM):bZ (.iface t (.agg ⟨.slice none n b::EOp.all l⟩)) (.iface t (.agg ⟨.slice none n b::EOp.all l⟩))=true:=Jj (GH l)
theorem dF(t n b:Nat)(l:List CmM):bZ (.iface t (.agg ⟨.slice none n b::ECm.all l⟩)) (.iface t (.agg ⟨.slice none n b::ECm.all l⟩))=true:=Jj (Om l)
def cmV(c:CmM):Value:= .agg ⟨[.int .i64 c.e, .int .i64 c.n,bn c.ops]⟩
theorem fzO(l:List OpM):bn l = .iface 18446744073709551619 (.agg ⟨.slice none l.length 0::EOp.all l⟩):=by unfold bn aJ; rw[um]
theorem aaI(C1:List Value->List Blk->Bool)(r:Int)(c:CmM):bM P E (aC P fJ 0 90 (bI C1 (.leaf (.int .i64 r,[]))) ctF) 50 fJ [] [] 0 50 [cmV c] [] =
 (let q_0:=(Value.int IntKind.i64 (2:Int))
(aj (geI (CmM.e c) (1:Int))
 (aj (f_ (leI (CmM.e c) (1048576:Int)))
 (some (q_0,(ag [])))
 (aj (geI (CmM.n c) (1:Int))
 (aj (f_ (leI (CmM.n c) (1048576:Int)))
 (some (q_0,(ag [])))
 (ae (C1 [(Value.iface 18446744073709551619 (Value.agg (Array.mk ((Value.slice none (List.length (CmM.ops c)) 0)::(Enc.all EOp (CmM.ops c))))))] [])
 (some ((Value.int IntKind.i64 r),(ag [])))))
 (some (q_0,(ag [])))))
 (some (q_0,(ag []))))):=by kernel_rfl
theorem Nc{l:List OpM}(h:l.length<4194304):CRX P 0 90 [bn l] [] (.int .i64 (vO l)) []:=Vf.at (s:=l) h rfl
theorem G_(x a b:Int):within x a b=(geI x a&&leI x b):=rfl
theorem AU{c:CmM}(h:c.ops.length<4194304):CRX P 0 50 [cmV c] [] (.int .i64 (cmE c)) []:=by
 refine CRX.of (pol:=fJ) (fl:=[]) (ts:=[]) (n:=50) (bf _) aA (ah (pol:=fJ) aW (aZ (Nc h))) ((aaI (aV _ _) _ c).trans ?_);unfold cmE;rw[G_,G_];cases geI c.e 1<;>cases leI c.e 1048576<;>cases geI c.n 1<;>cases leI c.n 1048576<;>first | rfl | exact oh (by rw[fzO]) rfl rfl
def cmK(t k b:Nat)(c:List Value):Bool:=EOp.fz 4194303 t k c&&Nat.beq b 0
def cmR(e n:Int)(c:List Value):Int:=cmE ⟨e,n,EOp.dec c⟩
def Xw(K:Nat->Nat->Nat->List Value->Bool)(R:Int->Int->List Value->Int):jb:=fun args bs=>match args,bs with
 |[.agg ⟨[.int .i64 e, .int .i64 n, .iface t (.agg ⟨.slice none k b::c⟩)]⟩],[]=>some (.ite (K t k b c) (.leaf (.int .i64 (R e n c),[])) .fail)
 |_,_=>none
theorem D8:CallOkX P 0 50 (Xw cmK cmR):=⟨fun args bs t hR v bs' hev=>by
 unfold Xw at hR;split at hR
 ·rename_i e n t0 k b c;obtain rfl:=Option.some.inj hR;cases hc:cmK t0 k b c with
  |false=>rw[hc]at hev; cases hev
  |true=>
   rw[hc]at hev;unfold cmK at hc;simp only[Bool.and_eq_true,FI]at hc;obtain⟨hc,rfl⟩:=hc;obtain⟨l,h1,rfl,rfl,h2,h3⟩:=EOp.fz_of hc;have h1:t0=FZ+3:=h1;subst h1;simp only[DT.eval,Option.some.injEq,Prod.mk.injEq,cmR,h3]at hev;obtain⟨rfl,rfl⟩:=hev;exact AU (c:=⟨e,n,l⟩) (by show l.length<_; omega)
 ·cases hR⟩
def adX(V:Nat->List UInt8)(C:Int->Bool)(C1 C2:List Value->List Blk->Bool)(r:Int)(x:List UInt8):Ct:=
 aC P fJ 0 50 (bI C1 (.leaf (.int .i64 r,[]))) (aC P fJ 0 160 (bI C2 (.leaf (.tuple ⟨[aJ 1 x.length 0 (bc x), .int .i64 0]⟩,[]))) (nH P 123 (jh P 123 (sU V C) ctF)))
theorem aav(V:Nat->List UInt8)(C:Int->Bool)(C1 C2:List Value->List Blk->Bool)(r:Int)(x:List UInt8)(c:CmM):bM P E (adX V C C1 C2 r x) 50 fJ [.val, .val] [61,0] 0 126 [cmV c] [] =
 (let q_0:=(Value.int IntKind.i64 (CmM.n c))
 let q_1:=(Value.iface 18446744073709551619 (Value.agg (Array.mk ((Value.slice none (List.length (CmM.ops c)) 0)::(Enc.all EOp (CmM.ops c))))))
 let q_2:=(cvI IntKind.u64 (CmM.e c))
 let q_3:=(HAppend.hAppend [] (V (Int.toNat q_2)))
 let q_4:=(af Bool.false (fQ 16) (bc q_3))
 let q_5:=(takeC (Nat.mul (List.length q_3) 1) (aU 0 q_4))
 let q_6:=(cvI IntKind.u64 (CmM.n c))
 let q_7:=(HAppend.hAppend (List.map byteOf q_5) (V (Int.toNat q_6)))
 let q_8:=(af Bool.false (fQ 17) (bc q_7))
 let q_9:=(Value.int IntKind.u64 q_6)
(ae (C1 [(Value.agg (Array.mk [(Value.int IntKind.i64 (CmM.e c)),q_0,q_1]))] [])
 (aj (neI r (0:Int))
 (some ((Value.tuple (Array.mk [(Value.iface 18446744073709551617 (Value.agg (Array.mk [(Value.slice none 0 0)]))),(Value.int IntKind.i64 r)])),(ag [])))
 (ae (Bool.and (fzB 18446744073709551617 0 []) (C q_2))
 (ae (gV P 0 (List.length q_3) 18446744073709551616 q_4 5)
 (ae (Bool.and (fzB 18446744073709551617 (List.length q_3) q_5) (C q_6))
 (ae (gV P 0 (List.length q_7) 18446744073709551616 q_8 5)
 (ae (C2 [(Value.iface 18446744073709551617 (Value.agg (Array.mk ((Value.slice none (List.length q_7) 0)::(takeC (Nat.mul (List.length q_7) 1) (aU 0 q_8)))))),q_1] [])
 (ae (bZ q_0 q_0)
 (ae (bZ q_9 q_9)
 (ae (bZ q_1 q_1)
 (ae (bZ q_1 q_1)
 (some ((Value.tuple (Array.mk [(Value.iface 18446744073709551617 (Value.agg (Array.mk ((Value.slice none (List.length x) 0)::(bc x))))),(Value.int IntKind.i64 (0:Int))])),(ag []))))))))))))))):=by kernel_rfl
def Dfo:HeadX:=⟨1,49,[0,1,6,10,11,12],[.val, .val, .val, .val, .val, .val],[],fJ⟩
def Bfo:Code:=(dZ P 9 0).getD .skip
theorem II:dZ P 9 0=some Bfo:=by kernel_rfl
theorem Bo:Occ P 9 (.block 0 (.loop Bfo)):=fM II
def Xq(K:Nat->Nat->Nat->List Value->Bool)(R:Int->Int->List Value->Int):Ct:=aC P fJ 0 50 (Xw K R) ctF
theorem Uc(K:Nat->Nat->Nat->List Value->Bool)(R:Int->Int->List Value->Int)(e n z i r1 r2:Int)(k b:Nat)(c:List Value):bV P E (Xq K R) 50 9 Bfo Dfo [.int .i64 e, .int .i64 n, .pointer (some ⟨0,0,none⟩),aJ 3 k b c, .int .i64 z, .int .i64 i] [.cells [.int .i64 r1, .int .i64 r2] 31 true] =
 (let q_0:=(Eta.int IntKind.i64)
 let q_1:=(Nat.add (atN i 3) 1)
 let q_2:=(bT c (Nat.add q_1 1))
 let q_3:=(asI (bT c (atN i 3)))
 let q_4:=(asI (bT c q_1))
 let q_5:=(R q_3 q_4 (zC q_2))
 let q_6:=(Value.pointer (Option.some (Addr.mk 0 0 none)))
 let q_7:=(Value.iface 18446744073709551619 (Value.agg (Array.mk ((Value.slice none k b)::c))))
 let q_8:=(Value.int IntKind.i64 z)
 let q_9:=[(Value.int IntKind.i64 i)]
 let q_10:=[(Value.int IntKind.i64 e),(Value.int IntKind.i64 n),q_6,q_7,q_8,(Value.int IntKind.i64 i)]
 let q_11:=(Value.tuple (Array.mk [(Value.int IntKind.i64 (-1:Int)),(Value.int IntKind.i64 e),(Value.int IntKind.i64 n),q_6,q_7,q_8,(Value.int IntKind.i64 i)]))
 let q_12:=(ag [(Blk.cells [(Value.int IntKind.i64 (15:Int)),(Value.int IntKind.i64 i)] 31 Bool.true)])
 let q_13:=(f_ (Bool.and (eqI q_5 (0:Int)) (Bool.and (eqI i i) Bool.true)))
 let q_14:=(ag [(Blk.cells [(Value.int IntKind.i64 q_5),(Value.int IntKind.i64 i)] 31 Bool.true)])
 let q_15:=(Value.tuple (Array.mk [(Value.int IntKind.i64 (0:Int)),(Value.int IntKind.i64 q_3),(Value.int IntKind.i64 q_4),q_6,q_7,q_8,(Value.int IntKind.i64 (dI IntKind.i64 i (1:Int)))]))
 let q_16:=(ag [(Blk.cells [(Value.int IntKind.i64 r1),(Value.int IntKind.i64 r2)] 31 Bool.true)])
 let t_0:=(aj q_13
 (some (q_11,q_14))
 (some (q_15,q_16)))
(aj (ltI i z)
 (ae (Bool.and (Nat.beq 3 3) (inI i k))
 (ae (Bool.and (Nat.ble (Nat.add (atN i 3) 3) (List.length c)) (jw [q_0,q_0,(Eta.slice 3)] c (atN i 3)))
 (ae (K 18446744073709551619 (zN q_2) (zB q_2) (zC q_2))
 (aj (eqI q_5 (0:Int))
 (aj (neI (eU IntKind.i64 q_4 (1:Int)) n)
 (some (q_11,q_12))
 (aj (ltI q_3 e)
 (some (q_11,q_12))
 t_0))
 t_0))))
 (some ((Value.tuple (Array.mk [(Value.int IntKind.i64 (1:Int)),(Value.int IntKind.i64 e),(Value.int IntKind.i64 n),q_6,q_7,q_8,(Value.int IntKind.i64 i)])),q_16)))):=by kernel_rfl
theorem Nb{c:CmM}(h:cmE c=0):CRX P 0 126 [cmV c] [] (.tuple ⟨[aJ 1 (gp c).length 0 (bc (gp c)), .int .i64 0]⟩) []:=by
 obtain⟨⟨e1,e2⟩,⟨n1,n2⟩,hb⟩:=jf.1 h;obtain⟨b1,b2,b3⟩:=gq.1 hb;have d1:=eY (n:=c.e.toNat);have d2:=eY (n:=c.n.toNat);have q:=AU (c:=c) (by omega);rw[h]at q;have qa:=acK (b:=bK c.e.toNat++bK c.n.toNat) hb (by rw[List.length_append]; omega) 0;have ee:bK c.e.toNat++bK c.n.toNat++lV c.ops=gp c:=by unfold gp; rw[List.append_assoc]
 rw[ee]at qa;refine CRX.of (pol:=fJ) (fl:=[.val, .val]) (ts:=[61,0]) (n:=50) (bf _) aA (ah (pol:=fJ) (ah (pol:=fJ) (mg (g:=123) (iG aW t_)) (aZ qa)) (aZ q)) ((aav bK lJ (aV _ _) (aV _ _) 0 (gp c) c).trans ?_);have c1:cvI .u64 c.e=(c.e.toNat:Int):=by rw[<-Int.toNat_of_nonneg (by omega:0<=c.e)]; exact iU (by omega)
 have c2:cvI .u64 c.n=(c.n.toNat:Int):=by rw[<-Int.toNat_of_nonneg (by omega:0<=c.n)]; exact iU (by omega)
 have u1:lJ (c.e.toNat:Int)=true:=jF (by omega) (by omega);have u2:lJ (c.n.toNat:Int)=true:=jF (by omega) (by omega);have z:fzB 18446744073709551617 0 []=true:=by rw[<-fz1]; exact xf (l:=[]) rfl (by simp)
 have i0:neI (0:Int) 0=false:=rfl;simp (disch:=first | omega | (simp only[List.length_append,List.length_drop,List.length_take,List.length_singleton,Nat.add_eq,bJ]<;>omega) | fail) only[c1,c2,u1,u2,z,i0,dR,dE,List.nil_append,aQ,bH,bz,bu,bg,ax,aX,bD,Int.toNat_natCast,aY,aO,bF,bU,dH,bP,bW,dK,Bool.and_self,aG,aF,ay];refine oh (by unfold cmV; rw[fzO]) rfl (oh (by rw[fzO]; unfold aJ; rw[fzU]) rfl ?_);unfold aJ;rw[fzU]
def fzCms(l:List CmM):Value:=aJ 3 l.length 0 (ECm.all l)
theorem aci(l:List CmM):fzCms l = .iface 18446744073709551619 (.agg ⟨.slice none l.length 0::ECm.all l⟩):=by unfold fzCms aJ; rw[um]
def foV(e n:Int)(l:List CmM)(i:Int):List Value:=[.int .i64 e, .int .i64 n, .pointer (some ⟨0,0,none⟩),fzCms l, .int .i64 (ak l.length), .int .i64 i]
def foB(r:Int×Int):List Blk:=[.cells [.int .i64 r.1, .int .i64 r.2] 31 true]
theorem ni{l:List CmM}{i:Nat}(h:i<l.length):jw [.int .i64, .int .i64, .slice 3] (ECm.all l) (atN (i:Int) 3)=true:=by
 show and (ig (.int .i64) (bT (ECm.all l) (atN (i:Int) 3))) (and (ig (.int .i64) (bT (ECm.all l) (Nat.add (atN (i:Int) 3) 1))) (and (ig (.slice 3) (bT (ECm.all l) (Nat.add (Nat.add (atN (i:Int) 3) 1) 1))) true))=true;rw[k_ h,vP h,uh h];simp only[ig,Ju (s:=3) (by decide)]
 rfl
theorem abQ{l:List OpM}(h:l.length<4194304):cmK 18446744073709551619 l.length 0 (EOp.all l)=true:=by
 unfold cmK;rw[EOp.fz_all (by omega) (by unfold FZ; rfl) rfl]; rfl
theorem ab5(e n:Int)(l:List OpM):cmR e n (EOp.all l)=cmE ⟨e,n,l⟩:=by unfold cmR; rw[EOp.dec_all]
theorem Vz{e n:Int}{l:List CmM}{i:Nat}(hi:i<l.length)(hl:l.length<4194304)(ho:l[i].ops.length<4194304) :
  bV P E (Xq cmK cmR) 50 9 Bfo Dfo (foV e n l i) (foB (0,0))=match eqI (cmE l[i]) 0,neI (eU .i64 l[i].n 1) n || ltI l[i].e e with
   |false,_=>some (.tuple ⟨exV .ret::foV e n l i⟩,ag (foB (cmE l[i],i)))
   |true,true=>some (.tuple ⟨exV .ret::foV e n l i⟩,ag (foB (15,i)))
   |true,false=>some (.tuple ⟨exV .normal::foV l[i].e l[i].n l ((i+1:Nat):Int)⟩,ag (foB (0,0))):=by
 unfold foV foB fzCms;rw[Uc];have n3:∀ l:List CmM,(ECm.all l).length=Nat.mul l.length 3:=fun l=>ECm.all_length l;have g1:ltI (i:Int) (ak l.length)=true:=by unfold ltI ak; exact decide_eq_true (by omega)
 have g2:inI (i:Int) l.length=true:=by unfold inI; exact decide_eq_true (by omega)
 have g3:Nat.ble (Nat.add (atN (i:Int) 3) 3) (Nat.mul l.length 3)=true:=Nat.ble_eq_true_of_le (by
  show(i:Int).toNat*3+3<=l.length*3;have:(i:Int).toNat=i:=by omega
  omega)
 have g4:=ni hi;have a1:dI .i64 (i:Int) 1=((i+1:Nat):Int):=by unfold dI; rw[wrap64 (by omega) (by omega)]; omega
 have aI:∀ k b,asI (.int k b)=b:=fun _ _=>rfl;have ii:eqI (i:Int) i=true:=by unfold eqI; exact decide_eq_true rfl
 have z1:∀ (n b:Nat) (c:List Value),zN (aJ 3 n b c)=n:=fun _ _ _=>Ew (by decide);have z2:∀ (n b:Nat) (c:List Value),zB (aJ 3 n b c)=b:=fun _ _ _=>Yh (by decide);have z3:∀ (n b:Nat) (c:List Value),zC (aJ 3 n b c)=c:=fun _ _ _=>IB (by decide);simp only[n3,g1,g2,g3,g4,k_ hi,vP hi,uh hi,aI,a1,ii,z1,z2,z3,abQ ho,ab5,aQ,bH,bz,bu,bg,ax,aX,bD,Int.toNat_natCast,aY,aO,bF,bU,dH,bP,bW,dK,Bool.and_self,aG,aF,ay];unfold aJ;rw[um];cases eqI (cmE l[i]) 0<;>cases neI (eU .i64 l[i].n 1) n<;>cases ltI l[i].e e<;>rfl
theorem abW{e n:Int}{l:List CmM}:bV P E (Xq cmK cmR) 50 9 Bfo Dfo (foV e n l l.length) (foB (0,0))=some (.tuple ⟨exV (.exit 0)::foV e n l l.length⟩,ag (foB (0,0))):=by
 unfold foV foB fzCms;rw[Uc];have g1:ltI (l.length:Int) (ak l.length)=false:=by unfold ltI ak; exact decide_eq_false (by omega)
 simp only[g1,aF];unfold aJ;rw[um]
 rfl
def KJ:Int->Int->Nat->List CmM->Int×Int×Nat
 |e,n,i,[]=>(e,n,i)
 |e,n,i,c::l=>match eqI (cmE c) 0,neI (c.n-1) n || ltI c.e e with
  |true,false=>KJ c.e c.n (i+1) l
  |_,_=>(e,n,i)
theorem ab6{c:CmM}(h:eqI (cmE c) 0=true):eU .i64 c.n 1=c.n-1:=by
 obtain⟨_,⟨n1,n2⟩,_⟩:=jf.1 (show cmE c=0 by simpa [eqI]using h);unfold eU;rw[wrap64 (by omega) (by omega)]
def Dq(r:Int×Int):Ex:=match eqI r.1 0 with | true=> .normal | false=> .ret
def nI(r:Int×Nat):Int×Int:=(r.1,r.2)
theorem OO{l:List CmM}(hl:l.length<4194304)(ho:∀ c∈l,c.ops.length<4194304):∀ (k i:Nat) (e n:Int),i+k=l.length->
  LRX P 9 0 Bfo Dfo.head (foV e n l i) (foB (0,0)) (Dq (nI (fD e n i (l.drop i)))) (foV (KJ e n i (l.drop i)).1 (KJ e n i (l.drop i)).2.1 l (KJ e n i (l.drop i)).2.2) (foB (nI (fD e n i (l.drop i))))
 |0,i,e,n,h=>by
  obtain rfl:i=l.length:=by omega
  rw[List.drop_length];exact LRX.stop (n:=50) (bf _) aA (ah (pol:=fJ) aW D8) Bo (e:= .exit 0) abW (by intro h; cases h)
 |k+1,i,e,n,h=>by
  have hi:i<l.length:=by omega
  have q:=Vz (e:=e) (n:=n) hi hl (ho _ (List.getElem_mem hi));rw[List.drop_eq_getElem_cons hi];simp only[fD,KJ];cases h1:eqI (cmE l[i]) 0 with
  |false=>
   rw[h1]at q;have hx:Dq (nI (cmE l[i],i)) = .ret:=by unfold Dq nI; simp only[h1]
   simp only[hx];exact LRX.stop (n:=50) (bf _) aA (ah (pol:=fJ) aW D8) Bo (e:= .ret) q (by intro h; cases h)
  |true=>
   rw[h1,ab6 h1]at q;cases h2:neI (l[i].n-1) n || ltI l[i].e e with
   |true=>
    rw[h2]at q;exact LRX.stop (n:=50) (bf _) aA (ah (pol:=fJ) aW D8) Bo (e:= .ret) q (by intro h; cases h)
   |false=>
    rw[h2]at q;exact LRX.again (n:=50) (bf _) aA (ah (pol:=fJ) aW D8) Bo q (OO hl ho k (i+1) _ _ (by omega))
def abz(C:List Value->List Blk->Bool)(x:Ex)(e n i:Int)(l:List CmM)(r:Int×Int):Ct:=fP P 9 0 Dfo (jd C (.leaf (x,foV e n l i,foB r))) ctF
theorem abl(C:List Value->List Blk->Bool)(e n e1 n1 i1:Int)(l:List CmM)(r:Int×Int):bM P E (abz C .normal e1 n1 i1 l r) 50 fJ [.val] [0] 0 9 [.int .i64 e, .int .i64 n,fzCms l] [] =
 (let q_0:=(Value.int IntKind.i64 (0:Int))
(ae (C [(Value.int IntKind.i64 e),(Value.int IntKind.i64 n),(Value.pointer (Option.some (Addr.mk 0 0 none))),(Value.iface 18446744073709551619 (Value.agg (Array.mk ((Value.slice none (List.length l) 0)::(Enc.all ECm l))))),(Value.int IntKind.i64 (ak (List.length l))),q_0] [(Blk.cells [q_0,q_0] 31 Bool.true)])
 (some ((Value.agg (Array.mk [q_0,q_0])),(ag []))))):=by kernel_rfl
theorem abe(C:List Value->List Blk->Bool)(e n e1 n1 i1:Int)(l:List CmM)(r:Int×Int):bM P E (abz C .ret e1 n1 i1 l r) 50 fJ [.val] [0] 0 9 [.int .i64 e, .int .i64 n,fzCms l] [] =
 (let q_0:=(Value.int IntKind.i64 (0:Int))
(ae (C [(Value.int IntKind.i64 e),(Value.int IntKind.i64 n),(Value.pointer (Option.some (Addr.mk 0 0 none))),(Value.iface 18446744073709551619 (Value.agg (Array.mk ((Value.slice none (List.length l) 0)::(Enc.all ECm l))))),(Value.int IntKind.i64 (ak (List.length l))),q_0] [(Blk.cells [q_0,q_0] 31 Bool.true)])
 (some ((Value.agg (Array.mk [(Value.int IntKind.i64 (Prod.fst r)),(Value.int IntKind.i64 (Prod.snd r))])),(ag []))))):=by kernel_rfl
def ui(r:Int×Nat):Value:= .agg ⟨[.int .i64 r.1, .int .i64 r.2]⟩
theorem xN:∀ (l:List CmM) (e n:Int) (i:Nat),(fD e n i l).1=0->fD e n i l=(0,0)
 |[],e,n,i,_=>rfl
 |c::l,e,n,i,h=>by
  unfold fD at h ⊢;cases h1:eqI (cmE c) 0 with
  |false=>rw[h1]at h; exact absurd (show cmE c=0 from h) (by simpa [eqI]using h1)
  |true=>
   rw[h1]at h;cases h2:neI (c.n-1) n || ltI c.e e with
   |true=>rw[h2]at h; cases h
   |false=>rw[h2]at h; exact xN l _ _ _ h
theorem mX{e n:Int}{l:List CmM}(hl:l.length<4194304)(ho:∀ c∈l,c.ops.length<4194304):CRX P 0 9 [.int .i64 e, .int .i64 n,fzCms l] [] (ui (fD e n 0 l)) []:=by
 have q:=OO hl ho l.length 0 e n (by omega);rw[List.drop_zero]at q;cases hx:eqI (fD e n 0 l).1 0 with
 |true=>
  have h0:=xN l e n 0 (by simpa [eqI]using hx);have hX:Dq (nI (fD e n 0 l)) = .normal:=by unfold Dq nI; simp only[hx]
  rw[hX]at q;refine CRX.of (pol:=fJ) (fl:=[.val]) (ts:=[0]) (n:=50) (bf _) aA (eu aW (fU (d_ II) q)) ((abl (aV _ _) e n _ _ _ l _).trans ?_);rw[h0];exact oh (by unfold foV; rw[aci]; rfl) rfl rfl
 |false=>
  have hX:Dq (nI (fD e n 0 l)) = .ret:=by unfold Dq nI; simp only[hx]
  rw[hX]at q;refine CRX.of (pol:=fJ) (fl:=[.val]) (ts:=[0]) (n:=50) (bf _) aA (eu aW (fU (d_ II) q)) ((abe (aV _ _) e n _ _ _ l _).trans ?_);exact oh (by unfold foV; rw[aci]; rfl) rfl rfl
theorem Zg(n b:Nat)(c:List Value):bM P E ctF 50 fJ [.val] [33] 0 106 [aJ 3 (Nat.succ n) b c] [] =
 (let q_0:=(Nat.add 0 (Nat.succ n))
(ae (List.all c oneCell)
 (ae (Nat.ble q_0 4194304)
 (ae (gV P 0 q_0 18446744073709551616 (List.append [] c) 143)
 (some ((Value.iface 18446744073709551619 (Value.agg (Array.mk ((Value.slice none q_0 0)::(takeC (Nat.mul q_0 3) (aU 0 (List.append [] c))))))),(ag []))))))):=by kernel_rfl
theorem YK(C:List Value->List Blk->Bool)(c:CmM)(x:Value):bM P E (aC P fJ 0 106 (bI C (.leaf (bn c.ops,[]))) ctF) 50 fJ [.val] [0] 0 56 [cmV c] [] =
 (let q_0:=[(Value.iface 18446744073709551619 (Value.agg (Array.mk ((Value.slice none (List.length (CmM.ops c)) 0)::(Enc.all EOp (CmM.ops c))))))]
(ae (C q_0 [])
 (some ((Value.agg (Array.mk [(Value.int IntKind.i64 (CmM.e c)),(Value.int IntKind.i64 (CmM.n c)),(Value.iface 18446744073709551619 (Value.agg (Array.mk ((Value.slice none (List.length (CmM.ops c)) 0)::(Enc.all EOp (CmM.ops c))))))])),(ag []))))):=by kernel_rfl
theorem aa_(V:Nat->List UInt8)(C:Int->Bool)(n b:Nat)(c:List Value):bM P E (nH P 123 (jh P 123 (sU V C) ctF)) 50 fJ [.val, .val] [61,0] 0 69 [aJ 1 0 0 [],aJ 1 n b c] [] =
 (let q_0:=(cvI IntKind.u64 (ak n))
 let q_1:=(HAppend.hAppend [] (V (Int.toNat q_0)))
 let q_2:=(Nat.add (List.length q_1) n)
 let q_3:=(af Bool.false (fQ 0) (bc q_1))
 let q_4:=(List.append (jC 0 q_3) c)
(aj (gtI (ak n) (131072:Int))
 (some ((Value.tuple (Array.mk [(Value.iface 18446744073709551617 (Value.agg (Array.mk [(Value.slice none 0 0)]))),(Value.int IntKind.i64 (3:Int))])),(ag [])))
 (ae (Bool.and (fzB 18446744073709551617 0 []) (C q_0))
 (ae (List.all c oneCell)
 (ae (Nat.ble q_2 4194304)
 (ae (Nat.beq (Nat.add 0 (Nat.mul (List.length q_1) 1)) (List.length q_3))
 (ae (gV P 0 q_2 18446744073709551616 q_4 5)
 (some ((Value.tuple (Array.mk [(Value.iface 18446744073709551617 (Value.agg (Array.mk ((Value.slice none q_2 0)::(takeC (Nat.mul q_2 1) (aU 0 q_4)))))),(Value.int IntKind.i64 (0:Int))])),(ag [])))))))))):=by kernel_rfl
theorem aaP(l:List OpM):(EOp.all l).all oneCell=true:=List.all_eq_true.2 fun x hx=>by
 unfold Enc.all at hx;obtain⟨o,_,h⟩:=List.mem_flatMap.1 hx;simp only[EOp,List.mem_cons,List.not_mem_nil,or_false]at h;rcases h with rfl | rfl | rfl<;>rfl
theorem Yq{l:List OpM}{n:Nat}(h:n=l.length):gV P 0 n 18446744073709551616 (EOp.all l) 143=true:=by
 subst h;have he:esz P 143=3:=by kernel_rfl
 unfold gV;rw[he,EOp.all_nr,EOp.all_length];have h2:Nat.ble (Nat.add 0 (Nat.mul l.length 3)) (l.length*EOp.sz)=true:=Nat.ble_eq_true_of_le (by show 0+l.length*3<=l.length*3; omega);rw[h2]; rfl
theorem EC{l:List OpM}{n:Nat}(h:n=l.length):takeC (Nat.mul n 3) (aU 0 (EOp.all l))=EOp.all l:=by subst h; exact EOp.all_self l
theorem aaM{l:List OpM}(h1:1<=l.length)(h2:l.length<=4194304)(b:Nat):CRX P 0 106 [aJ 3 l.length b (EOp.all l)] [] (bn l) []:=by
 refine CRX.of (pol:=fJ) (fl:=[.val]) (ts:=[33]) (n:=50) (bf _) aA aW ?_;obtain⟨n,hn⟩:∃ n,l.length=Nat.succ n:=⟨l.length-1,by omega⟩
 rw[hn];refine(Zg n b (EOp.all l)).trans ?_;have e:List.append [] (EOp.all l)=EOp.all l:=rfl;simp (disch:=omega) only[aaP,e,aO,<-hn,Yq rfl,EC rfl,bP,ay];rw[fzO]
theorem uK{c:CmM}(h1:1<=c.ops.length)(h2:c.ops.length<=4194304):CRX P 0 56 [cmV c] [] (cmV c) []:=by
 refine CRX.of (pol:=fJ) (fl:=[.val]) (ts:=[0]) (n:=50) (bf _) aA (ah (pol:=fJ) aW (aZ (aaM h1 h2 0))) ((YK (aV _ _) c .nilFunc).trans ?_);refine oh (by show [bn c.ops]=_; rw[fzO]) rfl ?_;unfold cmV;rw[fzO]
theorem Fg{r:List UInt8}(h:r.length<=131072):CRX P 0 69 [aJ 1 0 0 [],aJ 1 r.length 0 (bc r)] [] (.tuple ⟨[aJ 1 (frM r).length 0 (bc (frM r)), .int .i64 0]⟩) []:=by
 refine CRX.of (pol:=fJ) (fl:=[.val, .val]) (ts:=[61,0]) (n:=50) (bf _) aA (mg (g:=123) (iG aW t_)) ((aa_ bK lJ r.length 0 (bc r)).trans ?_);have g1:gtI (ak r.length) 131072=false:=by unfold gtI ak; exact decide_eq_false (by omega)
 have d1:=eY (n:=r.length);have c1:cvI .u64 (ak r.length)=(r.length:Int):=iU (by omega);have u1:lJ (r.length:Int)=true:=jF (by omega) (by omega);have z:fzB 18446744073709551617 0 []=true:=by rw[<-fz1]; exact xf (l:=[]) rfl (by simp)
 simp (disch:=first | omega | (simp only[List.length_append,List.length_drop,List.length_take,List.length_singleton,Nat.add_eq,bJ]<;>omega) | fail) only[g1,c1,u1,z,List.map_nil,List.nil_append,aQ,bH,bz,bu,bg,ax,aX,bD,Int.toNat_natCast,aY,aO,bF,bU,dH,bP,bW,dK,Bool.and_self,aG,aF,ay];unfold aJ frM;rw[fzU,List.length_append]
 rfl
def acL:Pol:=fun t=>match Nat.beq t 108 with
 |true=>some [.val, .val, .val, .val, .val, .own, .own, .own, .own, .keep]
 |false=>none
def Dst:HeadX:=⟨1,42,[0,1,11,12,13],[.val, .val, .keep, .val, .val],[],acL⟩
def Bst:Code:=(dZ P 79 0).getD .skip
theorem U8:dZ P 79 0=some Bst:=by kernel_rfl
theorem Og:Occ P 79 (.block 0 (.loop Bst)):=fM U8
theorem TL(off fused:Bool)(fuse steps:Int)(n0 n1 n2 n3 np:Nat)(c0 c1 c2 c3 cp:List Value)(n:Nat)(q m i:Int):bV P E ctF 50 79 Bst Dst [.pointer (some ⟨0,0,none⟩), .int .i64 q, .slice (some ⟨5,0,none⟩) n 18446744073709551616, .int .i64 m, .int .i64 i] [.cells (dkC off fused fuse steps n0 n1 n2 n3 np) 108 true, .cells c0 5 false, .cells c1 5 false, .cells c2 5 false, .cells c3 5 false, .cells cp 132 false] =
 (let z0:=Nat.add 0 (atN i 4);let y0:=Eta.int .i64;let x0:=Nat.add z0 1;let w0:=asI (bT cp x0);let v0:=eqI w0 0;let u0:=asI (bT cp z0);let t0:=eqI u0 0;let s0:=Nat.add x0 1;let r0:=bT cp s0;let q0:=zC r0;let p0:=List.all q0 oneCell;let o0:=zN r0;let m0:=Nat.add n0 o0;let l0:=Value.int .i64 w0;
 let k0:=bZ l0 l0;let j0:=List.append (jC 0 c0) q0;let i0:=Value.int .i64 q;let h0:=Value.int .i64 m;let g0:=Value.tuple ⟨[.int .i64 0,pt_ 0,i0,sl_ 5 n,h0, .int .i64 (dI .i64 i 1)]⟩;let f0:=Value.bool true;let e0:=Value.bool off;let d0:=Value.bool fused;let b0:=Value.int .i64 fuse;let a0:=Value.int .i64 steps;
 let Z0:=sl_ 2 n1;let Y0:=sl_ 3 n2;let X0:=sl_ 4 n3;let W0:=sl_ 5 np;let V0:=aH 0 [0,25,26,27,28,5];let U0:=lb_ V0 n1 1 c1 5;let T0:=lb_ V0 n2 1 c2 5;let S0:=lb_ V0 n3 1 c3 5;let R0:=Blk.cells (af true V0 cp) 132 false;let Q0:=eqI w0 1;let P0:=nb_ n3 1 c3 none;let O0:=nb_ n2 1 c2 P0;
 let N0:=eqI w0 2;let M0:=eqI w0 3;let L0:=eqI u0 1;let K0:=asI (bT cp (Nat.add s0 1));let J0:=Nat.div (Nat.sub c0.length 0) 1;let I0:=fZ 0 K0;let H0:=aH 0 [0,24,25,26,27,5];let G0:=lb_ H0 n1 1 c1 5;let F0:=lb_ H0 n2 1 c2 5;let E0:=lb_ H0 n3 1 c3 5;let D0:=Blk.cells (af true H0 cp) 132 false;
 let C0:=ae k0 (nb_ n0 1 c0 O0);let B0:=nb_ n1 1 c1 P0;let A0:=ae k0 (nb_ n0 1 c0 B0);let z1:=nb_ n2 1 c2 none;let y1:=nb_ n1 1 c1 z1;let x1:=ae M0 (ae k0 (nb_ n0 1 c0 y1));let w1:=aj N0 A0 x1;let v1:=aj Q0 C0 w1;let u1:=Blk.cells [] 5 false;let t1:=sl_ 1 n0;let s1:=Blk.cells [f0,e0,d0,b0,a0,t1,Z0,Y0,X0,W0] 108 true;
 let r1:=lb_ H0 n0 1 c0 5;let q1:=ae k0 (nb_ n0 1 c0 (nb_ n1 1 c1 (nb_ n2 1 c2 (nb_ n3 1 c3 (some (g0,ag [s1,r1,G0,F0,E0,D0]))))));let p1:=Nat.add n1 o0;let o1:=List.append (jC 0 c1) q0;let m1:=lb_ V0 n0 1 c0 5;let l1:=Nat.div (Nat.sub c1.length 0) 1;let k1:=Nat.add n2 o0;let j1:=List.append (jC 0 c2) q0;
 let i1:=Nat.div (Nat.sub c2.length 0) 1;let h1:=Nat.add n3 o0;let g1:=List.append (jC 0 c3) q0;let f1:=Nat.div (Nat.sub c3.length 0) 1;let e1:=aH 0 [0,6,7,8,9,5];
 (aj (ltI i m) (ae (inI i n) (ae (Bool.and (Nat.ble (Nat.add z0 4) cp.length) (jw [y0,y0, .slice 1,y0] cp z0)) (aj v0 (aj t0 (ae p0 (ae (Nat.ble m0 4194304) (ae (Nat.beq (Nat.add 0 (Nat.mul n0 1)) c0.length) (aj v0 (ae k0 (nb_ m0 1 j0 (nb_ n1 1 c1 (nb_ n2 1 c2 (nb_ n3 1 c3 (some (g0,ag [.cells [f0,e0,d0,b0,a0,sl_ 1 m0,Z0,Y0,X0,W0] 108 true,lb_ V0 m0 1 j0 5,U0,T0,S0,R0]))))))) (aj Q0 (ae k0 (nb_ m0 1 j0 O0)) (aj N0 (ae k0 (nb_ n1 1 c1 (nb_ m0 1 j0 P0))) (ae M0 (ae k0 (nb_ n1 1 c1 (nb_ n2 1 c2 (nb_ m0 1 j0 none))))))))))) (aj L0 (ae (eF 0 K0 J0) (aj (Nat.ble 1 J0) (aj v0 (ae k0 (nb_ I0 1 c0 (nb_ n1 1 c1 (nb_ n2 1 c2 (nb_ n3 1 c3 (some (g0,ag [.cells [f0,e0,d0,b0,a0,sl_ 1 I0,Z0,Y0,X0,W0] 108 true,lb_ H0 I0 1 c0 5,G0,F0,E0,D0]))))))) v1) (aj v0 (ae k0 (nb_ n1 1 c1 (nb_ n2 1 c2 (nb_ n3 1 c3 (some (g0,ag [.cells [f0,e0,d0,b0,a0,sl_ 1 0,Z0,Y0,X0,W0] 108 true,u1,G0,F0,E0,D0])))))) v1))) (aj v0 q1 v1))) (aj Q0 (aj t0 (ae p0 (ae (Nat.ble p1 4194304) (ae (Nat.beq (Nat.add 0 (Nat.mul n1 1)) c1.length) (aj v0 (ae k0 (nb_ p1 1 o1 O0)) (aj Q0 (ae k0 (nb_ n0 1 c0 (nb_ p1 1 o1 (nb_ n2 1 c2 (nb_ n3 1 c3 (some (g0,ag [.cells [f0,e0,d0,b0,a0,t1,sl_ 2 p1,Y0,X0,W0] 108 true,m1,lb_ V0 p1 1 o1 5,T0,S0,R0]))))))) (aj N0 (ae k0 (nb_ n0 1 c0 (nb_ p1 1 o1 P0))) (ae M0 (ae k0 (nb_ n0 1 c0 (nb_ n2 1 c2 (nb_ p1 1 o1 none))))))))))) (aj L0 (ae (eF 0 K0 l1) (aj (Nat.ble 1 l1) (aj v0 (ae k0 (nb_ I0 1 c1 O0)) (aj Q0 (ae k0 (nb_ n0 1 c0 (nb_ I0 1 c1 (nb_ n2 1 c2 (nb_ n3 1 c3 (some (g0,ag [.cells [f0,e0,d0,b0,a0,t1,sl_ 2 I0,Y0,X0,W0] 108 true,r1,lb_ H0 I0 1 c1 5,F0,E0,D0]))))))) w1)) (aj v0 (ae k0 O0) (aj Q0 (ae k0 (nb_ n0 1 c0 (nb_ n2 1 c2 (nb_ n3 1 c3 (some (g0,ag [.cells [f0,e0,d0,b0,a0,t1,sl_ 2 0,Y0,X0,W0] 108 true,r1,u1,F0,E0,D0])))))) w1)))) (aj v0 (ae k0 (nb_ n1 1 c1 O0)) (aj Q0 q1 w1)))) (aj N0 (aj t0 (ae p0 (ae (Nat.ble k1 4194304) (ae (Nat.beq (Nat.add 0 (Nat.mul n2 1)) c2.length) (aj v0 (ae k0 (nb_ k1 1 j1 B0)) (aj Q0 (ae k0 (nb_ n0 1 c0 (nb_ k1 1 j1 P0))) (aj N0 (ae k0 (nb_ n0 1 c0 (nb_ n1 1 c1 (nb_ k1 1 j1 (nb_ n3 1 c3 (some (g0,ag [.cells [f0,e0,d0,b0,a0,t1,Z0,sl_ 3 k1,X0,W0] 108 true,m1,U0,lb_ V0 k1 1 j1 5,S0,R0]))))))) (ae M0 (ae k0 (nb_ n0 1 c0 (nb_ n1 1 c1 (nb_ k1 1 j1 none))))))))))) (aj L0 (ae (eF 0 K0 i1) (aj (Nat.ble 1 i1) (aj v0 (ae k0 (nb_ I0 1 c2 B0)) (aj Q0 (ae k0 (nb_ n0 1 c0 (nb_ I0 1 c2 P0))) (aj N0 (ae k0 (nb_ n0 1 c0 (nb_ n1 1 c1 (nb_ I0 1 c2 (nb_ n3 1 c3 (some (g0,ag [.cells [f0,e0,d0,b0,a0,t1,Z0,sl_ 3 I0,X0,W0] 108 true,r1,G0,lb_ H0 I0 1 c2 5,E0,D0]))))))) x1))) (aj v0 (ae k0 B0) (aj Q0 (ae k0 (nb_ n0 1 c0 P0)) (aj N0 (ae k0 (nb_ n0 1 c0 (nb_ n1 1 c1 (nb_ n3 1 c3 (some (g0,ag [.cells [f0,e0,d0,b0,a0,t1,Z0,sl_ 3 0,X0,W0] 108 true,r1,G0,u1,E0,D0])))))) x1))))) (aj v0 (ae k0 (nb_ n2 1 c2 B0)) (aj Q0 C0 (aj N0 q1 x1))))) (ae M0 (aj t0 (ae p0 (ae (Nat.ble h1 4194304) (ae (Nat.beq (Nat.add 0 (Nat.mul n3 1)) c3.length) (aj v0 (ae k0 (nb_ h1 1 g1 y1)) (aj Q0 (ae k0 (nb_ n0 1 c0 (nb_ h1 1 g1 z1))) (aj N0 (ae k0 (nb_ n0 1 c0 (nb_ n1 1 c1 (nb_ h1 1 g1 none)))) (ae M0 (ae k0 (nb_ n0 1 c0 (nb_ n1 1 c1 (nb_ n2 1 c2 (nb_ h1 1 g1 (some (g0,ag [.cells [f0,e0,d0,b0,a0,t1,Z0,Y0,sl_ 4 h1,W0] 108 true,m1,U0,T0,lb_ V0 h1 1 g1 5,R0])))))))))))))) (aj L0 (ae (eF 0 K0 f1) (aj (Nat.ble 1 f1) (aj v0 (ae k0 (nb_ I0 1 c3 y1)) (aj Q0 (ae k0 (nb_ n0 1 c0 (nb_ I0 1 c3 z1))) (aj N0 (ae k0 (nb_ n0 1 c0 (nb_ n1 1 c1 (nb_ I0 1 c3 none)))) (ae M0 (ae k0 (nb_ n0 1 c0 (nb_ n1 1 c1 (nb_ n2 1 c2 (nb_ I0 1 c3 (some (g0,ag [.cells [f0,e0,d0,b0,a0,t1,Z0,Y0,sl_ 4 I0,W0] 108 true,r1,G0,F0,lb_ H0 I0 1 c3 5,D0]))))))))))) (aj v0 (ae k0 y1) (aj Q0 (ae k0 (nb_ n0 1 c0 z1)) (aj N0 (ae k0 (nb_ n0 1 c0 (nb_ n1 1 c1 none))) (ae M0 (ae k0 (nb_ n0 1 c0 (nb_ n1 1 c1 (nb_ n2 1 c2 (some (g0,ag [.cells [f0,e0,d0,b0,a0,t1,Z0,Y0,sl_ 4 0,W0] 108 true,r1,G0,F0,u1,D0])))))))))))) (aj v0 (ae k0 (nb_ n3 1 c3 y1)) (aj Q0 (ae k0 (nb_ n0 1 c0 (nb_ n3 1 c3 z1))) (aj N0 A0 (ae M0 q1)))))))))))) (nb_ n0 1 c0 (nb_ n1 1 c1 (nb_ n2 1 c2 (nb_ n3 1 c3 (some (.tuple ⟨[.int .i64 1,pt_ 0,i0,sl_ 5 n,h0, .int .i64 i]⟩,ag [s1,lb_ e1 n0 1 c0 5,lb_ e1 n1 1 c1 5,lb_ e1 n2 1 c2 5,lb_ e1 n3 1 c3 5, .cells (af true e1 cp) 132 false])))))))):=by kernel_rfl
def jr(d:List UInt8)(s:StM):List UInt8:=match eqI s.kind 0,eqI s.kind 1 with
 |true,_=>d++s.bytes
 |false,true=>d.take s.len.toNat
 |false,false=>d
def fH(m:DkM)(f:Int):List UInt8:=match eqI f 0,eqI f 1,eqI f 2 with
 |true,_,_=>m.d0
 |false,true,_=>m.d1
 |false,false,true=>m.d2
 |false,false,false=>m.d3
def setF(m:DkM)(f:Int)(d:List UInt8):DkM:=match eqI f 0,eqI f 1,eqI f 2 with
 |true,_,_=>{ m with d0:=d }
 |false,true,_=>{ m with d1:=d }
 |false,false,true=>{ m with d2:=d }
 |false,false,false=>{ m with d3:=d }
def fK(m:DkM)(s:StM):DkM:=setF m s.file (jr (fH m s.file) s)
structure vK(m:DkM)(s:StM):Prop where
 file:0<=s.file/\s.file<4
 len:0<=s.len/\(eqI s.kind 0=false->eqI s.kind 1=true->s.len.toNat<=(fH m s.file).length)
 size:(fH m s.file).length+s.bytes.length<=4194304
def stV(n:Nat)(i:Int):List Value:=[p0, .int .i64 (ak n), .slice (some ⟨5,0,none⟩) n 18446744073709551616, .int .i64 (ak n), .int .i64 i]
theorem Tn(n:Nat):Nat.div (Nat.sub n 0) 1=n:=by show(n-0) / 1=n; omega
theorem acv(z:Int):fZ 0 z=z.toNat:=by unfold fZ; omega
theorem OI{l:List StM}{i:Nat}(h:i<l.length):jw [.int .i64, .int .i64, .slice 1, .int .i64] (ESt.all l) (atN (i:Int) 4)=true:=by
 show and (ig (.int .i64) (bT (ESt.all l) (atN (i:Int) 4))) (and (ig (.int .i64) (bT (ESt.all l) (Nat.add (atN (i:Int) 4) 1))) (and (ig (.slice 1) (bT (ESt.all l) (Nat.add (Nat.add (atN (i:Int) 4) 1) 1))) (and (ig (.int .i64) (bT (ESt.all l) (Nat.add (Nat.add (Nat.add (atN (i:Int) 4) 1) 1) 1))) true)))=true;rw[VV h,Xf h,Wu h,XE h];have:ig (.slice 1) (aJ 1 l[i].bytes.length 0 (bc l[i].bytes))=true:=Ju (by decide);rw[this]; rfl
theorem WV{m:DkM}{n i:Nat}(hi:i<n)(hn:n<=m.pend.length)(hm:m.pend.length<4194304)(ho:vK m (m.pend[i]'(by omega))) :
  bV P E ctF 50 79 Bst Dst (stV n i) (aN m)=some (.tuple ⟨exV .normal::stV n ((i+1:Nat):Int)⟩,ag (aN (fK m (m.pend[i]'(by omega))))):=by
 obtain⟨off,fused,fuse,steps,d0,d1,d2,d3,pend⟩:=m;simp only at hn hm;have hp:i<pend.length:=by omega
 obtain⟨⟨f0,f1⟩,⟨l0,l1⟩,sz⟩:=ho;simp only at f0 f1 l0 l1 sz;obtain⟨R,hR⟩:∃ R:Res,R=some (.tuple ⟨exV .normal::stV n ((i+1:Nat):Int)⟩,ag (aN (fK ⟨off,fused,fuse,steps,d0,d1,d2,d3,pend⟩ pend[i]))):=⟨_,rfl⟩
 refine Eq.trans ?_ hR;unfold stV p0 aN;simp only;rw[TL];have b2:∀ n,Nat.ble n n=true:=fun n=>Nat.ble_eq_true_of_le (Nat.le_refl n);have b3:∀ n,Nat.beq n n=true:=Nat.beq_refl;have n4:∀ l:List StM,(ESt.all l).length=Nat.mul l.length 4:=fun l=>ESt.all_length l;have g1:ltI (i:Int) (ak n)=true:=by unfold ltI ak; exact decide_eq_true (by omega)
 have g2:inI (i:Int) n=true:=by unfold inI; exact decide_eq_true (by omega)
 have g3:Nat.ble (Nat.add (atN (i:Int) 4) 4) (Nat.mul pend.length 4)=true:=Nat.ble_eq_true_of_le (by
  show(i:Int).toNat*4+4<=pend.length*4;have:(i:Int).toNat=i:=by omega
  omega)
 have g4:=OI hp;have a1:dI .i64 (i:Int) 1=((i+1:Nat):Int):=by unfold dI; rw[wrap64 (by omega) (by omega)]; omega
 have hv:∀ x:Int,bZ (.int .i64 x) (.int .i64 x)=true:=fun x=>by simp[bZ]
 have ai:∀ (k:IntKind) (n:Int),asI (.int k n)=n:=fun _ _=>rfl;have zn:∀ l:List UInt8,zN (aJ 1 l.length 0 (bc l))=l.length:=fun l=>Ew (by decide);have zc:∀ l:List UInt8,zC (aJ 1 l.length 0 (bc l))=bc l:=fun l=>IB (by decide);simp only[lb_,nb_,pt_,sl_,aO,n4,g1,g2,g3,g4,VV hp,Xf hp,Wu hp,XE hp,ai,zn,zc,a1,hv,bD,aY,ax,b2,b3,aQ,bu,eH rfl,aX,Enc.all_ren,Tn,acv,Bool.and_self,aG,ay];generalize pend[i]=s at *;obtain⟨kind,file,bytes,len⟩:=s;simp only at f0 f1 l0 l1 sz;have apl:∀ a b:List UInt8,(a++b).length=Nat.add a.length b.length:=fun _ _=>List.length_append;rcases(show file=0\/file=1\/file=2\/file=3 by omega)with rfl | rfl | rfl | rfl
 ·have q0:eqI (0:Int) 0=true:=rfl;have q1:eqI (0:Int) 1=false:=rfl;have q2:eqI (0:Int) 2=false:=rfl;have q3:eqI (0:Int) 3=false:=rfl;have sz:d0.length+bytes.length<=4194304:=sz;have l1:eqI kind 0=false->eqI kind 1=true->len.toNat<=d0.length:=l1;have t1:Nat.ble (Nat.add d0.length bytes.length) 4194304=true:=Nat.ble_eq_true_of_le sz;have ct:takeC (Nat.add d0.length bytes.length) (aU 0 (bc (d0++bytes)))=bc (d0++bytes):=eH (apl _ _).symm;have ck:takeC len.toNat (aU 0 (bc d0))=bc (d0.take len.toNat):=by rw[uV,List.drop_zero]
  cases k0:eqI kind 0 with
  |true=>
   simp only[lb_,nb_,pt_,sl_,q0,q1,q2,q3,k0,t1,ct,b2,b3,apl,ax,aX,Enc.all_ren,aO,aY,bu,eH rfl,aG,aF,ay];rw[hR,show fK ⟨off,fused,fuse,steps,d0,d1,d2,d3,pend⟩ ⟨kind,0,bytes,len⟩=⟨off,fused,fuse,steps,d0++bytes,d1,d2,d3,pend⟩ from by unfold fK jr; simp only[lb_,nb_,pt_,sl_,k0]; rfl];unfold aN stV p0;simp only[lb_,nb_,pt_,sl_,apl]
   rfl
  |false=>
   cases k1:eqI kind 1 with
   |true=>
    have hl:=l1 k0 k1;have t2:eF 0 len d0.length=true:=lY (by omega) l0 (by omega);have t3:Nat.ble len.toNat d0.length=true:=Nat.ble_eq_true_of_le hl;have tl:(d0.take len.toNat).length=len.toNat:=by rw[List.length_take]; omega
    cases hz:Nat.ble 1 d0.length with
    |true=>
     simp only[lb_,nb_,pt_,sl_,q0,q1,q2,q3,k0,k1,t2,t3,ck,hz,b2,b3,apl,ax,aX,Enc.all_ren,aO,aY,bu,eH rfl,aG,aF,ay];rw[hR,show fK ⟨off,fused,fuse,steps,d0,d1,d2,d3,pend⟩ ⟨kind,0,bytes,len⟩=⟨off,fused,fuse,steps,d0.take len.toNat,d1,d2,d3,pend⟩ from by unfold fK jr; simp only[lb_,nb_,pt_,sl_,k0,k1]; rfl];unfold aN stV p0;simp only[lb_,nb_,pt_,sl_,tl]
     rfl
    |false=>
     have hz0:d0.length=0:=by
      have:¬1<=d0.length:=fun h=>by rw[Nat.ble_eq_true_of_le h]at hz; cases hz
      omega
     have hl0:len.toNat=0:=by omega
     obtain rfl:=List.length_eq_zero_iff.1 hz0;simp only[lb_,nb_,pt_,sl_,q0,q1,q2,q3,k0,k1,t2,hl0,hz,b2,b3,apl,ax,aX,Enc.all_ren,aO,aY,bu,eH rfl,aG,aF,ay];rw[hR,show fK ⟨off,fused,fuse,steps,[],d1,d2,d3,pend⟩ ⟨kind,0,bytes,len⟩=⟨off,fused,fuse,steps,[],d1,d2,d3,pend⟩ from by unfold fK jr; simp only[lb_,nb_,pt_,sl_,k0,k1]; show setF _ _ (List.take _ [])=_; rw[List.take_nil]; rfl];unfold aN stV p0;simp only[lb_,nb_,pt_,sl_,List.length_nil]
     rfl
   |false=>
    simp only[lb_,nb_,pt_,sl_,q0,q1,q2,q3,k0,k1,b2,b3,apl,ax,aX,Enc.all_ren,aO,aY,bu,eH rfl,aG,aF,ay];rw[hR,show fK ⟨off,fused,fuse,steps,d0,d1,d2,d3,pend⟩ ⟨kind,0,bytes,len⟩=⟨off,fused,fuse,steps,d0,d1,d2,d3,pend⟩ from by unfold fK jr; simp only[lb_,nb_,pt_,sl_,k0,k1]; rfl];unfold aN stV p0
    rfl
 ·have q0:eqI (1:Int) 0=false:=rfl;have q1:eqI (1:Int) 1=true:=rfl;have q2:eqI (1:Int) 2=false:=rfl;have q3:eqI (1:Int) 3=false:=rfl;have sz:d1.length+bytes.length<=4194304:=sz;have l1:eqI kind 0=false->eqI kind 1=true->len.toNat<=d1.length:=l1;have t1:Nat.ble (Nat.add d1.length bytes.length) 4194304=true:=Nat.ble_eq_true_of_le sz;have ct:takeC (Nat.add d1.length bytes.length) (aU 0 (bc (d1++bytes)))=bc (d1++bytes):=eH (apl _ _).symm;have ck:takeC len.toNat (aU 0 (bc d1))=bc (d1.take len.toNat):=by rw[uV,List.drop_zero]
  cases k0:eqI kind 0 with
  |true=>
   simp only[lb_,nb_,pt_,sl_,q0,q1,q2,q3,k0,t1,ct,b2,b3,apl,ax,aX,Enc.all_ren,aO,aY,bu,eH rfl,aG,aF,ay];rw[hR,show fK ⟨off,fused,fuse,steps,d0,d1,d2,d3,pend⟩ ⟨kind,1,bytes,len⟩=⟨off,fused,fuse,steps,d0,d1++bytes,d2,d3,pend⟩ from by unfold fK jr; simp only[lb_,nb_,pt_,sl_,k0]; rfl];unfold aN stV p0;simp only[lb_,nb_,pt_,sl_,apl]
   rfl
  |false=>
   cases k1:eqI kind 1 with
   |true=>
    have hl:=l1 k0 k1;have t2:eF 0 len d1.length=true:=lY (by omega) l0 (by omega);have t3:Nat.ble len.toNat d1.length=true:=Nat.ble_eq_true_of_le hl;have tl:(d1.take len.toNat).length=len.toNat:=by rw[List.length_take]; omega
    cases hz:Nat.ble 1 d1.length with
    |true=>
     simp only[lb_,nb_,pt_,sl_,q0,q1,q2,q3,k0,k1,t2,t3,ck,hz,b2,b3,apl,ax,aX,Enc.all_ren,aO,aY,bu,eH rfl,aG,aF,ay];rw[hR,show fK ⟨off,fused,fuse,steps,d0,d1,d2,d3,pend⟩ ⟨kind,1,bytes,len⟩=⟨off,fused,fuse,steps,d0,d1.take len.toNat,d2,d3,pend⟩ from by unfold fK jr; simp only[lb_,nb_,pt_,sl_,k0,k1]; rfl];unfold aN stV p0;simp only[lb_,nb_,pt_,sl_,tl]
     rfl
    |false=>
     have hz0:d1.length=0:=by
      have:¬1<=d1.length:=fun h=>by rw[Nat.ble_eq_true_of_le h]at hz; cases hz
      omega
     have hl0:len.toNat=0:=by omega
     obtain rfl:=List.length_eq_zero_iff.1 hz0;simp only[lb_,nb_,pt_,sl_,q0,q1,q2,q3,k0,k1,t2,hl0,hz,b2,b3,apl,ax,aX,Enc.all_ren,aO,aY,bu,eH rfl,aG,aF,ay];rw[hR,show fK ⟨off,fused,fuse,steps,d0,[],d2,d3,pend⟩ ⟨kind,1,bytes,len⟩=⟨off,fused,fuse,steps,d0,[],d2,d3,pend⟩ from by unfold fK jr; simp only[lb_,nb_,pt_,sl_,k0,k1]; show setF _ _ (List.take _ [])=_; rw[List.take_nil]; rfl];unfold aN stV p0;simp only[lb_,nb_,pt_,sl_,List.length_nil]
     rfl
   |false=>
    simp only[lb_,nb_,pt_,sl_,q0,q1,q2,q3,k0,k1,b2,b3,apl,ax,aX,Enc.all_ren,aO,aY,bu,eH rfl,aG,aF,ay];rw[hR,show fK ⟨off,fused,fuse,steps,d0,d1,d2,d3,pend⟩ ⟨kind,1,bytes,len⟩=⟨off,fused,fuse,steps,d0,d1,d2,d3,pend⟩ from by unfold fK jr; simp only[lb_,nb_,pt_,sl_,k0,k1]; rfl];unfold aN stV p0
    rfl
 ·have q0:eqI (2:Int) 0=false:=rfl;have q1:eqI (2:Int) 1=false:=rfl;have q2:eqI (2:Int) 2=true:=rfl;have q3:eqI (2:Int) 3=false:=rfl;have sz:d2.length+bytes.length<=4194304:=sz;have l1:eqI kind 0=false->eqI kind 1=true->len.toNat<=d2.length:=l1;have t1:Nat.ble (Nat.add d2.length bytes.length) 4194304=true:=Nat.ble_eq_true_of_le sz;have ct:takeC (Nat.add d2.length bytes.length) (aU 0 (bc (d2++bytes)))=bc (d2++bytes):=eH (apl _ _).symm;have ck:takeC len.toNat (aU 0 (bc d2))=bc (d2.take len.toNat):=by rw[uV,List.drop_zero]
  cases k0:eqI kind 0 with
  |true=>
   simp only[lb_,nb_,pt_,sl_,q0,q1,q2,q3,k0,t1,ct,b2,b3,apl,ax,aX,Enc.all_ren,aO,aY,bu,eH rfl,aG,aF,ay];rw[hR,show fK ⟨off,fused,fuse,steps,d0,d1,d2,d3,pend⟩ ⟨kind,2,bytes,len⟩=⟨off,fused,fuse,steps,d0,d1,d2++bytes,d3,pend⟩ from by unfold fK jr; simp only[lb_,nb_,pt_,sl_,k0]; rfl];unfold aN stV p0;simp only[lb_,nb_,pt_,sl_,apl]
   rfl
  |false=>
   cases k1:eqI kind 1 with
   |true=>
    have hl:=l1 k0 k1;have t2:eF 0 len d2.length=true:=lY (by omega) l0 (by omega);have t3:Nat.ble len.toNat d2.length=true:=Nat.ble_eq_true_of_le hl;have tl:(d2.take len.toNat).length=len.toNat:=by rw[List.length_take]; omega
    cases hz:Nat.ble 1 d2.length with
    |true=>
     simp only[lb_,nb_,pt_,sl_,q0,q1,q2,q3,k0,k1,t2,t3,ck,hz,b2,b3,apl,ax,aX,Enc.all_ren,aO,aY,bu,eH rfl,aG,aF,ay];rw[hR,show fK ⟨off,fused,fuse,steps,d0,d1,d2,d3,pend⟩ ⟨kind,2,bytes,len⟩=⟨off,fused,fuse,steps,d0,d1,d2.take len.toNat,d3,pend⟩ from by unfold fK jr; simp only[lb_,nb_,pt_,sl_,k0,k1]; rfl];unfold aN stV p0;simp only[lb_,nb_,pt_,sl_,tl]
     rfl
    |false=>
     have hz0:d2.length=0:=by
      have:¬1<=d2.length:=fun h=>by rw[Nat.ble_eq_true_of_le h]at hz; cases hz
      omega
     have hl0:len.toNat=0:=by omega
     obtain rfl:=List.length_eq_zero_iff.1 hz0;simp only[lb_,nb_,pt_,sl_,q0,q1,q2,q3,k0,k1,t2,hl0,hz,b2,b3,apl,ax,aX,Enc.all_ren,aO,aY,bu,eH rfl,aG,aF,ay];rw[hR,show fK ⟨off,fused,fuse,steps,d0,d1,[],d3,pend⟩ ⟨kind,2,bytes,len⟩=⟨off,fused,fuse,steps,d0,d1,[],d3,pend⟩ from by unfold fK jr; simp only[lb_,nb_,pt_,sl_,k0,k1]; show setF _ _ (List.take _ [])=_; rw[List.take_nil]; rfl];unfold aN stV p0;simp only[lb_,nb_,pt_,sl_,List.length_nil]
     rfl
   |false=>
    simp only[lb_,nb_,pt_,sl_,q0,q1,q2,q3,k0,k1,b2,b3,apl,ax,aX,Enc.all_ren,aO,aY,bu,eH rfl,aG,aF,ay];rw[hR,show fK ⟨off,fused,fuse,steps,d0,d1,d2,d3,pend⟩ ⟨kind,2,bytes,len⟩=⟨off,fused,fuse,steps,d0,d1,d2,d3,pend⟩ from by unfold fK jr; simp only[lb_,nb_,pt_,sl_,k0,k1]; rfl];unfold aN stV p0
    rfl
 ·have q0:eqI (3:Int) 0=false:=rfl;have q1:eqI (3:Int) 1=false:=rfl;have q2:eqI (3:Int) 2=false:=rfl;have q3:eqI (3:Int) 3=true:=rfl;have sz:d3.length+bytes.length<=4194304:=sz;have l1:eqI kind 0=false->eqI kind 1=true->len.toNat<=d3.length:=l1;have t1:Nat.ble (Nat.add d3.length bytes.length) 4194304=true:=Nat.ble_eq_true_of_le sz;have ct:takeC (Nat.add d3.length bytes.length) (aU 0 (bc (d3++bytes)))=bc (d3++bytes):=eH (apl _ _).symm;have ck:takeC len.toNat (aU 0 (bc d3))=bc (d3.take len.toNat):=by rw[uV,List.drop_zero]
  cases k0:eqI kind 0 with
  |true=>
   simp only[lb_,nb_,pt_,sl_,q0,q1,q2,q3,k0,t1,ct,b2,b3,apl,ax,aX,Enc.all_ren,aO,aY,bu,eH rfl,aG,aF,ay];rw[hR,show fK ⟨off,fused,fuse,steps,d0,d1,d2,d3,pend⟩ ⟨kind,3,bytes,len⟩=⟨off,fused,fuse,steps,d0,d1,d2,d3++bytes,pend⟩ from by unfold fK jr; simp only[lb_,nb_,pt_,sl_,k0]; rfl];unfold aN stV p0;simp only[lb_,nb_,pt_,sl_,apl]
   rfl
  |false=>
   cases k1:eqI kind 1 with
   |true=>
    have hl:=l1 k0 k1;have t2:eF 0 len d3.length=true:=lY (by omega) l0 (by omega);have t3:Nat.ble len.toNat d3.length=true:=Nat.ble_eq_true_of_le hl;have tl:(d3.take len.toNat).length=len.toNat:=by rw[List.length_take]; omega
    cases hz:Nat.ble 1 d3.length with
    |true=>
     simp only[lb_,nb_,pt_,sl_,q0,q1,q2,q3,k0,k1,t2,t3,ck,hz,b2,b3,apl,ax,aX,Enc.all_ren,aO,aY,bu,eH rfl,aG,aF,ay];rw[hR,show fK ⟨off,fused,fuse,steps,d0,d1,d2,d3,pend⟩ ⟨kind,3,bytes,len⟩=⟨off,fused,fuse,steps,d0,d1,d2,d3.take len.toNat,pend⟩ from by unfold fK jr; simp only[lb_,nb_,pt_,sl_,k0,k1]; rfl];unfold aN stV p0;simp only[lb_,nb_,pt_,sl_,tl]
     rfl
    |false=>
     have hz0:d3.length=0:=by
      have:¬1<=d3.length:=fun h=>by rw[Nat.ble_eq_true_of_le h]at hz; cases hz
      omega
     have hl0:len.toNat=0:=by omega
     obtain rfl:=List.length_eq_zero_iff.1 hz0;simp only[lb_,nb_,pt_,sl_,q0,q1,q2,q3,k0,k1,t2,hl0,hz,b2,b3,apl,ax,aX,Enc.all_ren,aO,aY,bu,eH rfl,aG,aF,ay];rw[hR,show fK ⟨off,fused,fuse,steps,d0,d1,d2,[],pend⟩ ⟨kind,3,bytes,len⟩=⟨off,fused,fuse,steps,d0,d1,d2,[],pend⟩ from by unfold fK jr; simp only[lb_,nb_,pt_,sl_,k0,k1]; show setF _ _ (List.take _ [])=_; rw[List.take_nil]; rfl];unfold aN stV p0;simp only[lb_,nb_,pt_,sl_,List.length_nil]
     rfl
   |false=>
    simp only[lb_,nb_,pt_,sl_,q0,q1,q2,q3,k0,k1,b2,b3,apl,ax,aX,Enc.all_ren,aO,aY,bu,eH rfl,aG,aF,ay];rw[hR,show fK ⟨off,fused,fuse,steps,d0,d1,d2,d3,pend⟩ ⟨kind,3,bytes,len⟩=⟨off,fused,fuse,steps,d0,d1,d2,d3,pend⟩ from by unfold fK jr; simp only[lb_,nb_,pt_,sl_,k0,k1]; rfl];unfold aN stV p0
    rfl
theorem acg{m:DkM}{n:Nat}(hn:n<=m.pend.length):bV P E ctF 50 79 Bst Dst (stV n n) (aN m)=some (.tuple ⟨exV (.exit 0)::stV n n⟩,ag (aN m)):=by
 obtain⟨off,fused,fuse,steps,d0,d1,d2,d3,pend⟩:=m;unfold stV p0 aN;simp only;rw[TL];have b2:∀ n,Nat.ble n n=true:=fun n=>Nat.ble_eq_true_of_le (Nat.le_refl n);have n4:∀ l:List StM,(ESt.all l).length=Nat.mul l.length 4:=fun l=>ESt.all_length l;have g1:ltI (n:Int) (ak n)=false:=by unfold ltI ak; exact decide_eq_false (by omega)
 simp only[lb_,nb_,pt_,sl_,aO,n4,g1,aY,ax,b2,eH rfl,aX,Enc.all_ren,Bool.and_self,aG,aF,ay]
 rfl
def lK(m:DkM)(l:List StM):DkM:=l.foldl fK m
def o9:DkM->List StM->Prop
 |_,[]=>True
 |m,s::l=>vK m s/\o9 (fK m s) l
theorem Uj(m:DkM)(f:Int)(d:List UInt8):(setF m f d).pend=m.pend:=by
 unfold setF;split<;>rfl
theorem BI(m:DkM)(s:StM):(fK m s).pend=m.pend:=Uj _ _ _
theorem Pv(n:Nat):∀ (k i:Nat) (m:DkM),i+k=n->n<=m.pend.length->m.pend.length<4194304->o9 m ((m.pend.drop i).take k)->
  LRX P 79 0 Bst Dst.head (stV n i) (aN m) .normal (stV n n) (aN (lK m ((m.pend.drop i).take k)))
 |0,i,m,h1,h2,h3,h4=>by
  obtain rfl:i=n:=by omega
  exact LRX.stop (n:=50) (bf ctF) aA aW Og (e:= .exit 0) (acg h2) (by intro h; cases h)
 |k+1,i,m,h1,h2,h3,h4=>by
  have hp:i<m.pend.length:=by omega
  have hd:(m.pend.drop i).take (k+1)=m.pend[i]::(m.pend.drop (i+1)).take k:=by rw[List.drop_eq_getElem_cons hp,List.take_succ_cons]
  rw[hd]at h4 ⊢;have q:=WV (by omega) h2 h3 h4.1;have e:=BI m m.pend[i];have ih:=Pv n k (i+1) (fK m m.pend[i]) (by omega) (by rw[e]; exact h2) (by rw[e]; exact h3) (by rw[e]; exact h4.2);rw[e]at ih;exact LRX.again (n:=50) (bf ctF) aA aW Og q ih
structure StS where
 m:DkM
 n:Nat
def kSt:Con StS where
 enc s:=(stV s.n 0,aN s.m)
 ok s:=s.n<=s.m.pend.length/\s.m.pend.length<4194304/\o9 s.m (s.m.pend.take s.n)
 inj a b h:=by
  obtain⟨a1,a2⟩:=a;obtain⟨b1,b2⟩:=b;simp only[Prod.mk.injEq]at h;obtain⟨h1,h2⟩:=h;obtain rfl:=ny h2;unfold stV at h1;simp only[List.cons.injEq,Value.slice.injEq,true_and,and_true]at h1;obtain⟨_,rfl,_⟩:=h1
  rfl
 dflt:=⟨dk0,0⟩
def Qg(s:StS):DT (Ex×List Value×List Blk):= .leaf (.normal,stV s.n s.n,aN (lK s.m (s.m.pend.take s.n)))
theorem UL:LoopOkX P 79 0 Bst Dst.head (z_ kSt.C kSt.D Qg):=
 vC kSt (d_ U8) fun s ho e vs' bs' hev=>by
  simp only[Qg,DT.eval,Option.some.injEq,Prod.mk.injEq]at hev;obtain⟨rfl,rfl,rfl⟩:=hev;exact Pv s.n s.n 0 s.m (by omega) ho.1 ho.2.1 (by rw[List.drop_zero]; exact ho.2.2)
def adO(C:List Value->List Blk->Bool)(v:List Value)(b:List Blk):Ct:=fP P 79 0 Dst (jd C (.leaf (.normal,v,b))) ctF
theorem PD(C:List Value->List Blk->Bool)(off1 fused1:Bool)(fuse1 steps1:Int)(m0 m1 m2 m3 mp:Nat)(d0 d1 d2 d3 dp:List Value)(y1:Nat)(y0 y2 y3:Int)(off fused:Bool)(fuse steps:Int)(n0 n1 n2 n3 np:Nat)(c0 c1 c2 c3 cp:List Value)(n:Int):bM P E (adO C [.pointer (some ⟨0,0,none⟩), .int .i64 y0, .slice (some ⟨5,0,none⟩) y1 18446744073709551616, .int .i64 y2, .int .i64 y3] [.cells (dkC off1 fused1 fuse1 steps1 m0 m1 m2 m3 mp) 108 true, .cells d0 5 false, .cells d1 5 false, .cells d2 5 false, .cells d3 5 false, .cells dp 132 false]) 50 fJ [] [] 1 79 [.pointer (some ⟨0,0,none⟩), .int .i64 n] [.cells (dkC off fused fuse steps n0 n1 n2 n3 np) 108 true, .cells c0 5 false, .cells c1 5 false, .cells c2 5 false, .cells c3 5 false, .cells cp 132 false] =
 (let z0:=Nat.div (Nat.sub cp.length 0) 4;let x0:=Value.int .i64 n;let w0:=Value.int .i64 0;let v0:=Value.bool true;let u0:=aH 0 [0,6,7,8,9,5];let t0:=[Blk.cells [v0, .bool off, .bool fused, .int .i64 fuse, .int .i64 steps,sl_ 1 n0,sl_ 2 n1,sl_ 3 n2,sl_ 4 n3,sl_ 5 np] 108 true,lb_ u0 n0 1 c0 5,lb_ u0 n1 1 c1 5,lb_ u0 n2 1 c2 5,lb_ u0 n3 1 c3 5,Blk.cells (af true u0 cp) 132 false];
 let s0:=bC [0] 10;let r0:=af true s0 dp;let q0:=r0.length;let p0:=Nat.div (Nat.sub q0 0) 4;let o0:=Int.toNat y0;let l0:=af true s0 d0;let k0:=af true s0 d1;let j0:=af true s0 d2;let i0:=af true s0 d3;let h0:=Addr.mk 5 0 none;let g0:=Go.Addr.off (Aa ⟨14,0,Addr.spot h0⟩ (atN y0 4));
 let f0:=fZ y0 (ak mp);let e0:=Nat.mul f0 4;let b0:=Value.tuple ⟨[]⟩;let a0:=Value.bool off1;let Z0:=Value.bool fused1;let Y0:=Value.int .i64 fuse1;let X0:=Value.int .i64 steps1;let W0:=sl_ 1 m0;let V0:=sl_ 2 m1;let U0:=sl_ 3 m2;let T0:=sl_ 4 m3;let S0:=aH 0 [0,15,16,17,18,19];let R0:=lb_ S0 m0 1 l0 5;
 let Q0:=lb_ S0 m1 1 k0 5;let P0:=lb_ S0 m2 1 j0 5;let O0:=lb_ S0 m3 1 i0 5;let N0:=some (b0,ag [.cells [v0,a0,Z0,Y0,X0,W0,V0,U0,T0,sl_ 5 0] 108 true,R0,Q0,P0,O0, .cells [] 132 false]);let M0:=Nat.add 18446744073709551616 o0;let L0:=aH 0 [0,15,16,17,18,14];let K0:=ae (eF y0 (ak mp) p0) (aj (Nat.ble (Nat.add o0 1) p0) (nb_ m0 1 l0 (nb_ m1 1 k0 (nb_ m2 1 j0 (nb_ m3 1 i0 (ae (Nat.ble (Nat.add g0 e0) q0) (some (b0,ag [.cells [v0,a0,Z0,Y0,X0,W0,V0,U0,T0,sl_ 5 f0] 108 true,R0,Q0,P0,O0, .cells (af true S0 (takeC e0 (aU g0 r0))) 132 false]))))))) (aj (Nat.beq o0 0) (nb_ m0 1 l0 (nb_ m1 1 k0 (nb_ m2 1 j0 (nb_ m3 1 i0 N0)))) (nb_ m0 1 l0 (nb_ m1 1 k0 (nb_ m2 1 j0 (nb_ m3 1 i0 (aj (Nat.beq M0 18446744073709551616) N0 (aj (Nat.ble 18446744073709551616 M0) N0 (aj (Bool.and (Nat.ble 0 M0) (Nat.ble (Nat.add 0 (Nat.mul M0 4)) q0)) N0 (some (b0,ag [.cells [v0,a0,Z0,Y0,X0,W0,V0,U0,T0, .slice (some h0) 0 M0] 108 true,lb_ L0 m0 1 l0 5,lb_ L0 m1 1 k0 5,lb_ L0 m2 1 j0 5,lb_ L0 m3 1 i0 5, .cells (af true L0 r0) 132 false])))))))))));
 (ae (eF 0 n z0) (aj (Nat.ble 1 z0) (nb_ n0 1 c0 (nb_ n1 1 c1 (nb_ n2 1 c2 (nb_ n3 1 c3 (ae (C [pt_ 0,x0,sl_ 5 (fZ 0 n), .int .i64 (ak (fZ 0 n)),w0] t0) K0))))) (nb_ n0 1 c0 (nb_ n1 1 c1 (nb_ n2 1 c2 (nb_ n3 1 c3 (ae (C [pt_ 0,x0,sl_ 5 0,w0,w0] t0) K0)))))))):=by kernel_rfl
theorem Ia:∀ (l:List StM) (m:DkM),(lK m l).pend=m.pend
 |[],m=>rfl
 |s::l,m=>by
  show(lK (fK m s) l).pend=_;rw[Ia l,BI]
def oq(s:StS):DkM:={ lK s.m (s.m.pend.take s.n)with pend:=s.m.pend.drop s.n }
def kSe:Con StS where
 enc s:=([p0, .int .i64 (ak s.n)],aN s.m)
 ok s:=s.n<=s.m.pend.length/\s.m.pend.length<4194304/\o9 s.m (s.m.pend.take s.n)
 inj a b h:=by
  obtain⟨a1,a2⟩:=a;obtain⟨b1,b2⟩:=b;simp only[Prod.mk.injEq]at h;obtain⟨h1,h2⟩:=h;obtain rfl:=ny h2;simp only[List.cons.injEq,Value.int.injEq,true_and,and_true]at h1;have:a2=b2:=by unfold ak at h1; omega
  subst this
  rfl
 dflt:=⟨dk0,0⟩
def ack(s:StS):Ct:=fP P 79 0 Dst (jd (kSt.at s) (Qg s)) ctF
theorem adY(n:Nat):Nat.div (Nat.sub (Nat.mul n 4) 0) 4=n:=by show(n*4-0) / 4=n; omega
theorem adH(a b:Nat):fZ (ak a) (ak b)=b-a:=by simp[fZ,ak]
theorem tnL(n:Nat):Int.toNat (ak n)=n:=by simp[ak]
theorem adN(b k:Nat):(Aa (Addr.mk b 0 none) k).off=k:=by show Nat.add 0 k=k; exact Nat.zero_add k
theorem PM(s:StS)(hn:s.n<=s.m.pend.length):bM P E (ack s) 50 fJ [] [] 1 79 (kSe.enc s).1 (kSe.enc s).2=some (.tuple ⟨[]⟩,ag (aN (oq s))):=by
 obtain⟨m,n⟩:=s;simp only at hn;have hp:(lK m (m.pend.take n)).pend=m.pend:=Ia _ _;have q:=PD (kSt.at ⟨m,n⟩) (lK m (m.pend.take n)).off (lK m (m.pend.take n)).fused (lK m (m.pend.take n)).fuse (lK m (m.pend.take n)).steps
  (lK m (m.pend.take n)).d0.length (lK m (m.pend.take n)).d1.length (lK m (m.pend.take n)).d2.length (lK m (m.pend.take n)).d3.length (lK m (m.pend.take n)).pend.length
  (bc (lK m (m.pend.take n)).d0) (bc (lK m (m.pend.take n)).d1) (bc (lK m (m.pend.take n)).d2) (bc (lK m (m.pend.take n)).d3) (ESt.all (lK m (m.pend.take n)).pend)
  n (ak n) (ak n) n m.off m.fused m.fuse m.steps m.d0.length m.d1.length m.d2.length m.d3.length m.pend.length (bc m.d0) (bc m.d1) (bc m.d2) (bc m.d3) (ESt.all m.pend) (ak n)
 refine Eq.trans ?_ (q.trans ?_)
 ·rfl
 clear q;obtain⟨R,hR⟩:∃ R:Res,R=some (.tuple ⟨[]⟩,ag (aN (oq ⟨m,n⟩))):=⟨_,rfl⟩
 refine Eq.trans ?_ hR;rw[hp];have b2:∀ n,Nat.ble n n=true:=fun n=>Nat.ble_eq_true_of_le (Nat.le_refl n);have n4:∀ l:List StM,(ESt.all l).length=Nat.mul l.length 4:=fun l=>ESt.all_length l;have c1:eF 0 (ak n) m.pend.length=true:=lY (by omega) (by unfold ak; omega) (by unfold ak; omega);have c2:eF (ak n) (ak m.pend.length) m.pend.length=true:=lY (by unfold ak; omega) (by unfold ak; omega) (by unfold ak; omega);simp only[lb_,nb_,pt_,sl_,aO,n4,adY,c1,c2,QR,adH,tnL,adN,aY,ax,b2,eH rfl,aX,Enc.all_ren,Bool.and_self,aG,ay];by_cases h0:m.pend.length=0
 ·have hpe:m.pend=[]:=List.length_eq_zero_iff.1 h0;obtain rfl:n=0:=by omega
  have z1:Nat.ble 1 m.pend.length=false:=by rw[h0]; rfl
  have z2:Nat.ble (Nat.add 0 1) m.pend.length=false:=by rw[h0]; rfl
  have z3:Nat.beq 0 0=true:=rfl;simp only[lb_,nb_,pt_,sl_,z1,z2,z3,aF,aG];refine lu (k:=kSt) (s:=⟨m,0⟩) rfl rfl ?_;rw[hR];unfold oq aN;simp only[lb_,nb_,pt_,sl_,hpe]
  rfl
 ·have hz:Nat.ble 1 m.pend.length=true:=Nat.ble_eq_true_of_le (by omega);simp only[lb_,nb_,pt_,sl_,hz,aG];refine lu (k:=kSt) (s:=⟨m,n⟩) rfl rfl ?_;by_cases hlt:n<m.pend.length
  ·have t1:Nat.ble (Nat.add n 1) m.pend.length=true:=Nat.ble_eq_true_of_le hlt;have ea:atN (ak n) 4=n*4:=by unfold atN; rw[tnL]
   have t2:Nat.ble (Nat.add (n*4) (Nat.mul (m.pend.length-n) 4)) (Nat.mul m.pend.length 4)=true:=Nat.ble_eq_true_of_le (by show n*4+(m.pend.length-n)*4<=m.pend.length*4; omega);have el:(m.pend.drop n).length=m.pend.length-n:=List.length_drop;have ed:takeC (Nat.mul (m.pend.length-n) 4) (aU (n*4) (ESt.all m.pend))=ESt.all (m.pend.drop n):=by
    have e1:aU (n*4) (ESt.all m.pend)=ESt.all (m.pend.drop n):=ESt.all_drop n m.pend;rw[e1,<-el];exact ESt.all_self _
   simp only[lb_,nb_,pt_,sl_,t1,ea,t2,ed,Enc.all_ren,aG,ay];rw[hR];unfold oq aN;simp only[lb_,nb_,pt_,sl_,el]
   rfl
  ·have hn2:n=m.pend.length:=by omega
   have t1:Nat.ble (Nat.add n 1) m.pend.length=false:=by
    cases hb:Nat.ble (Nat.add n 1) m.pend.length with
    |false=>rfl
    |true=>have:n+1<=m.pend.length:=Nat.le_of_ble_eq_true hb; omega
   have t3:Nat.beq n 0=false:=by
    cases hb:Nat.beq n 0 with
    |false=>rfl
    |true=>have:=Nat.eq_of_beq_eq_true hb; omega
   have t4:Nat.beq (Nat.add 18446744073709551616 n) 18446744073709551616=false:=by
    cases hb:Nat.beq (Nat.add 18446744073709551616 n) 18446744073709551616 with
    |false=>rfl
    |true=>have:18446744073709551616+n=18446744073709551616:=Nat.eq_of_beq_eq_true hb; omega
   have t5:Nat.ble 18446744073709551616 (Nat.add 18446744073709551616 n)=true:=Nat.ble_eq_true_of_le (by show 18446744073709551616<=18446744073709551616+n; omega);have ed:m.pend.drop n=[]:=List.drop_of_length_le (by omega);simp only[lb_,nb_,pt_,sl_,t1,t3,t4,t5,aG,aF,ay];rw[hR];unfold oq aN;simp only[lb_,nb_,pt_,sl_,ed]
   rfl
def wz(s:StS):DT (Value×List Blk):= .leaf (.tuple ⟨[]⟩,aN (oq s))
theorem UV:CallOkX P 1 79 (uo kSe.C kSe.D wz):=qL kSe fun s ho v bs' hev=>by
 simp only[wz,DT.eval,Option.some.injEq,Prod.mk.injEq]at hev;obtain⟨rfl,rfl⟩:=hev;exact CRX.of (bf (ack s)) aA (eu aW (xB kSt UL (s:=s) ho)) (PM s ho.1)
def Dhe:HeadX:=⟨1,33,[0,1,5,18,19,20],[.val, .val, .own, .keep, .val, .val],[0,0,61,0,0,0],acL⟩
def Bhe:Code:=(dZ P 111 0).getD .skip
theorem Uy:dZ P 111 0=some Bhe:=by kernel_rfl
theorem Oi:Occ P 111 (.block 0 (.loop Bhe)):=fM Uy
theorem Ud(off fused:Bool)(fuse steps:Int)(n0 n1 n2 n3 np nd:Nat)(c0 c1 c2 c3 cp cd:List Value)(n:Nat)(f m i:Int):bV P E ctF 50 111 Bhe Dhe [.pointer (some ⟨0,0,none⟩), .int .i64 f, .slice (some ⟨6,0,none⟩) nd 18446744073709551616, .slice (some ⟨5,0,none⟩) n 18446744073709551616, .int .i64 m, .int .i64 i] [.cells (dkC off fused fuse steps n0 n1 n2 n3 np) 108 true, .cells c0 5 false, .cells c1 5 false, .cells c2 5 false, .cells c3 5 false, .cells cp 132 false, .cells cd 5 false] =
 (let z0:=Nat.add 0 (atN i 4);let y0:=Eta.int .i64;let x0:=Nat.add z0 1;let w0:=asI (bT cp z0);let v0:=Nat.add x0 1;let u0:=bT cp v0;let t0:=Nat.add nd (zN u0);let s0:=List.append (jC 0 cd) (zC u0);let r0:=Value.int .i64 0;let q0:=pt_ 0;let p0:=Value.int .i64 f;let o0:=sl_ 5 n;let m0:=Value.int .i64 m;
 let l0:=Value.int .i64 (dI .i64 i 1);let k0:=Blk.cells [.bool true, .bool off, .bool fused, .int .i64 fuse, .int .i64 steps,sl_ 1 n0,sl_ 2 n1,sl_ 3 n2,sl_ 4 n3,sl_ 5 np] 108 true;let j0:=aH 0 [0,11,12,13,14,5,10];let i0:=asI (bT cp (Nat.add v0 1));let h0:=Nat.div (Nat.sub cd.length 0) 1;
 let g0:=fZ 0 i0;let f0:=aH 0 [0,10,11,12,13,5,9];let e0:=lb_ f0 n0 1 c0 5;let d0:=lb_ f0 n1 1 c1 5;let b0:=lb_ f0 n2 1 c2 5;let a0:=lb_ f0 n3 1 c3 5;let Z0:=Blk.cells (af true f0 cp) 132 false;let Y0:=Value.tuple ⟨[r0,q0,p0,sl_ 6 nd,o0,m0,l0]⟩;let X0:=aH 0 [0,9,10,11,12,5,8];
 let W0:=aH 0 [0,8,9,10,11,5,7];
 (aj (ltI i m) (ae (inI i n) (ae (Bool.and (Nat.ble (Nat.add z0 4) cp.length) (jw [y0,y0, .slice 1,y0] cp z0)) (aj (eqI (asI (bT cp x0)) f) (aj (eqI w0 0) (ae (List.all (zC u0) oneCell) (ae (Nat.ble t0 4194304) (ae (Nat.beq (Nat.add 0 (Nat.mul nd 1)) cd.length) (nb_ t0 1 s0 (nb_ n0 1 c0 (nb_ n1 1 c1 (nb_ n2 1 c2 (nb_ n3 1 c3 (some (.tuple ⟨[r0,q0,p0,sl_ 6 t0,o0,m0,l0]⟩,ag [k0,lb_ j0 n0 1 c0 5,lb_ j0 n1 1 c1 5,lb_ j0 n2 1 c2 5,lb_ j0 n3 1 c3 5, .cells (af true j0 cp) 132 false,lb_ j0 t0 1 s0 5])))))))))) (aj (eqI w0 1) (ae (eF 0 i0 h0) (aj (Nat.ble 1 h0) (nb_ g0 1 cd (nb_ n0 1 c0 (nb_ n1 1 c1 (nb_ n2 1 c2 (nb_ n3 1 c3 (some (.tuple ⟨[r0,q0,p0,sl_ 6 g0,o0,m0,l0]⟩,ag [k0,e0,d0,b0,a0,Z0,lb_ f0 g0 1 cd 5]))))))) (nb_ n0 1 c0 (nb_ n1 1 c1 (nb_ n2 1 c2 (nb_ n3 1 c3 (some (.tuple ⟨[r0,q0,p0,sl_ 6 0,o0,m0,l0]⟩,ag [k0,e0,d0,b0,a0,Z0, .cells [] 5 false])))))))) (nb_ nd 1 cd (nb_ n0 1 c0 (nb_ n1 1 c1 (nb_ n2 1 c2 (nb_ n3 1 c3 (some (Y0,ag [k0,e0,d0,b0,a0,Z0,lb_ f0 nd 1 cd 5]))))))))) (nb_ nd 1 cd (nb_ n0 1 c0 (nb_ n1 1 c1 (nb_ n2 1 c2 (nb_ n3 1 c3 (some (Y0,ag [k0,lb_ X0 n0 1 c0 5,lb_ X0 n1 1 c1 5,lb_ X0 n2 1 c2 5,lb_ X0 n3 1 c3 5, .cells (af true X0 cp) 132 false,lb_ X0 nd 1 cd 5])))))))))) (nb_ nd 1 cd (nb_ n0 1 c0 (nb_ n1 1 c1 (nb_ n2 1 c2 (nb_ n3 1 c3 (some (.tuple ⟨[.int .i64 1,q0,p0,sl_ 6 nd,o0,m0, .int .i64 i]⟩,ag [k0,lb_ W0 n0 1 c0 5,lb_ W0 n1 1 c1 5,lb_ W0 n2 1 c2 5,lb_ W0 n3 1 c3 5, .cells (af true W0 cp) 132 false,lb_ W0 nd 1 cd 5]))))))))):=by kernel_rfl
theorem Vx(C:List Value->List Blk->Bool)(off1 fused1:Bool)(fuse1 steps1:Int)(m0 m1 m2 m3 mp:Nat)(d0 d1 d2 d3 dp:List Value)(off fused:Bool)(fuse steps:Int)(n0 n1 n2 n3 np:Nat)(c0 c1 c2 c3 cp:List Value):bM P E (aC P fJ 1 79 (bI C (.leaf (.tuple ⟨[]⟩,[.cells (dkC off1 fused1 fuse1 steps1 m0 m1 m2 m3 mp) 108 true, .cells d0 5 false, .cells d1 5 false, .cells d2 5 false, .cells d3 5 false, .cells dp 132 false]))) ctF) 50 fJ [] [] 1 72 [.pointer (some ⟨0,0,none⟩)] [.cells (dkC off fused fuse steps n0 n1 n2 n3 np) 108 true, .cells c0 5 false, .cells c1 5 false, .cells c2 5 false, .cells c3 5 false, .cells cp 132 false] =
 (let z0:=Value.int .i64 6;let y0:=Value.bool true;let x0:=Value.bool off;let w0:=Value.bool fused;let v0:=Value.int .i64 fuse;let u0:=Value.int .i64 steps;let t0:=sl_ 1 n0;let s0:=sl_ 2 n1;let r0:=sl_ 3 n2;let q0:=sl_ 4 n3;let p0:=sl_ 5 np;let o0:=aH 0 [0,6,7,8,9,10];let l0:=lb_ o0 n0 1 c0 5;
 let k0:=lb_ o0 n1 1 c1 5;let j0:=lb_ o0 n2 1 c2 5;let i0:=lb_ o0 n3 1 c3 5;let h0:=lb_ o0 np 4 cp 132;let g0:=[pt_ 0,Value.int .i64 (ak np)];let f0:=Value.int .i64 (dI .i64 steps 1);let e0:=bC [0] 11;let b0:=af true e0 d0;let a0:=af true e0 d1;let Z0:=af true e0 d2;let Y0:=af true e0 d3;
 let X0:=af true e0 dp;let W0:=aH 0 [0,16,17,18,19,20];let V0:=nb_ m0 1 b0 (nb_ m1 1 a0 (nb_ m2 1 Z0 (nb_ m3 1 Y0 (nb_ mp 4 X0 (some (.int .i64 0,ag [.cells [y0, .bool off1, .bool fused1, .int .i64 fuse1, .int .i64 steps1,sl_ 1 m0,sl_ 2 m1,sl_ 3 m2,sl_ 4 m3,sl_ 5 mp] 108 true,lb_ W0 m0 1 b0 5,lb_ W0 m1 1 a0 5,lb_ W0 m2 1 Z0 5,lb_ W0 m3 1 Y0 5,lb_ W0 mp 4 X0 132]))))));
 (aj off (nb_ n0 1 c0 (nb_ n1 1 c1 (nb_ n2 1 c2 (nb_ n3 1 c3 (nb_ np 4 cp (some (z0,ag [.cells [y0,x0,w0,v0,u0,t0,s0,r0,q0,p0] 108 true,l0,k0,j0,i0,h0]))))))) (aj fused (aj (eqI fuse 0) (nb_ n0 1 c0 (nb_ n1 1 c1 (nb_ n2 1 c2 (nb_ n3 1 c3 (nb_ np 4 cp (some (z0,ag [.cells [y0,y0,w0,v0,u0,t0,s0,r0,q0,p0] 108 true,l0,k0,j0,i0,h0]))))))) (nb_ n0 1 c0 (nb_ n1 1 c1 (nb_ n2 1 c2 (nb_ n3 1 c3 (nb_ np 4 cp (ae (C g0 [.cells [y0,x0,w0, .int .i64 (eU .i64 fuse 1),f0,t0,s0,r0,q0,p0] 108 true,l0,k0,j0,i0,h0]) V0))))))) (nb_ n0 1 c0 (nb_ n1 1 c1 (nb_ n2 1 c2 (nb_ n3 1 c3 (nb_ np 4 cp (ae (C g0 [.cells [y0,x0,w0,v0,f0,t0,s0,r0,q0,p0] 108 true,l0,k0,j0,i0,h0]) V0))))))))):=by kernel_rfl
def heV(f:Int)(k n:Nat)(i:Int):List Value:=[p0, .int .i64 f, .slice (some ⟨6,0,none⟩) k 18446744073709551616, .slice (some ⟨5,0,none⟩) n 18446744073709551616, .int .i64 (ak n), .int .i64 i]
def heB(m:DkM)(d:List UInt8):List Blk:=[.cells (dkC m.off m.fused m.fuse m.steps m.d0.length m.d1.length m.d2.length m.d3.length m.pend.length) 108 true, .cells (bc m.d0) 5 false, .cells (bc m.d1) 5 false, .cells (bc m.d2) 5 false, .cells (bc m.d3) 5 false, .cells (ESt.all m.pend) 132 false, .cells (bc d) 5 false]
def p_(f:Int)(d:List UInt8)(s:StM):List UInt8:=match eqI s.file f with
 |true=>jr d s
 |false=>d
def XN(f:Int)(d:List UInt8)(s:StM):Prop:=eqI s.file f=true->0<=s.len/\(eqI s.kind 0=false->eqI s.kind 1=true->s.len.toNat<=d.length)/\d.length+s.bytes.length<=4194304
theorem VD{m:DkM}{f:Int}{d:List UInt8}{n i:Nat}(hi:i<n)(hn:n<=m.pend.length)(hm:m.pend.length<4194304)(ho:XN f d (m.pend[i]'(by omega))) :
  bV P E ctF 50 111 Bhe Dhe (heV f d.length n i) (heB m d)=some (.tuple ⟨exV .normal::heV f (p_ f d (m.pend[i]'(by omega))).length n ((i+1:Nat):Int)⟩,ag (heB m (p_ f d (m.pend[i]'(by omega))))):=by
 obtain⟨off,fused,fuse,steps,d0,d1,d2,d3,pend⟩:=m;simp only at hn hm;have hp:i<pend.length:=by omega
 unfold XN at ho;simp only at ho;obtain⟨R,hR⟩:∃ R:Res,R=some (.tuple ⟨exV .normal::heV f (p_ f d pend[i]).length n ((i+1:Nat):Int)⟩,ag (heB ⟨off,fused,fuse,steps,d0,d1,d2,d3,pend⟩ (p_ f d pend[i]))):=⟨_,rfl⟩
 refine Eq.trans ?_ hR;unfold heV p0 heB;simp only;rw[Ud];have b2:∀ n,Nat.ble n n=true:=fun n=>Nat.ble_eq_true_of_le (Nat.le_refl n);have b3:∀ n,Nat.beq n n=true:=Nat.beq_refl;have n4:∀ l:List StM,(ESt.all l).length=Nat.mul l.length 4:=fun l=>ESt.all_length l;have g1:ltI (i:Int) (ak n)=true:=by unfold ltI ak; exact decide_eq_true (by omega)
 have g2:inI (i:Int) n=true:=by unfold inI; exact decide_eq_true (by omega)
 have g3:Nat.ble (Nat.add (atN (i:Int) 4) 4) (Nat.mul pend.length 4)=true:=Nat.ble_eq_true_of_le (by
  show(i:Int).toNat*4+4<=pend.length*4;have:(i:Int).toNat=i:=by omega
  omega)
 have g4:=OI hp;have a1:dI .i64 (i:Int) 1=((i+1:Nat):Int):=by unfold dI; rw[wrap64 (by omega) (by omega)]; omega
 have ai:∀ (k:IntKind) (n:Int),asI (.int k n)=n:=fun _ _=>rfl;have zn:∀ l:List UInt8,zN (aJ 1 l.length 0 (bc l))=l.length:=fun l=>Ew (by decide);have zc:∀ l:List UInt8,zC (aJ 1 l.length 0 (bc l))=bc l:=fun l=>IB (by decide);have apl:∀ a b:List UInt8,(a++b).length=Nat.add a.length b.length:=fun _ _=>List.length_append;simp only[lb_,nb_,pt_,sl_,aO,n4,g1,g2,g3,g4,VV hp,Xf hp,Wu hp,XE hp,ai,zn,zc,a1,bD,aY,ax,b2,b3,aQ,bu,eH rfl,aX,Enc.all_ren,Tn,acv,Bool.and_self,aG,ay];generalize pend[i]=s at *;obtain⟨kind,file,bytes,len⟩:=s;simp only at ho;cases hf:eqI file f with
 |false=>
  simp only[lb_,nb_,pt_,sl_,aF];rw[hR,show p_ f d ⟨kind,file,bytes,len⟩=d from by unfold p_; simp only[lb_,nb_,pt_,sl_,hf]]
  rfl
 |true=>
  obtain⟨l0,l1,sz⟩:=ho hf;have t1:Nat.ble (Nat.add d.length bytes.length) 4194304=true:=Nat.ble_eq_true_of_le sz;have ct:takeC (Nat.add d.length bytes.length) (aU 0 (bc (d++bytes)))=bc (d++bytes):=eH (apl _ _).symm;have ck:takeC len.toNat (aU 0 (bc d))=bc (d.take len.toNat):=by rw[uV,List.drop_zero]
  have es:p_ f d ⟨kind,file,bytes,len⟩=jr d ⟨kind,file,bytes,len⟩:=by unfold p_; simp only[lb_,nb_,pt_,sl_,hf]
  cases k0:eqI kind 0 with
  |true=>
   simp only[lb_,nb_,pt_,sl_,t1,ct,b2,apl,ax,aX,aG,aF,ay];rw[hR,es,show jr d ⟨kind,file,bytes,len⟩=d++bytes from by unfold jr; simp only[lb_,nb_,pt_,sl_,k0]];unfold heV;simp only[lb_,nb_,pt_,sl_,apl]
   rfl
  |false=>
   cases k1:eqI kind 1 with
   |true=>
    have hl:=l1 k0 k1;have t2:eF 0 len d.length=true:=lY (by omega) l0 (by omega);have t3:Nat.ble len.toNat d.length=true:=Nat.ble_eq_true_of_le hl;have tl:(d.take len.toNat).length=len.toNat:=by rw[List.length_take]; omega
    have ed:jr d ⟨kind,file,bytes,len⟩=d.take len.toNat:=by unfold jr; simp only[lb_,nb_,pt_,sl_,k0,k1]
    cases hz:Nat.ble 1 d.length with
    |true=>
     simp only[lb_,nb_,pt_,sl_,t2,t3,ck,hz,b2,aX,aG,aF,ay];rw[hR,es,ed];unfold heV;simp only[lb_,nb_,pt_,sl_,tl]
     rfl
    |false=>
     have hz0:d.length=0:=by
      have:¬1<=d.length:=fun h=>by rw[Nat.ble_eq_true_of_le h]at hz; cases hz
      omega
     have hl0:len.toNat=0:=by omega
     obtain rfl:=List.length_eq_zero_iff.1 hz0;simp only[lb_,nb_,pt_,sl_,t2,hl0,hz,b2,aX,aG,aF,ay];rw[hR,es,ed,List.take_nil]
     rfl
   |false=>
    simp only[lb_,nb_,pt_,sl_,b2,aG,aF,ay];rw[hR,es,show jr d ⟨kind,file,bytes,len⟩=d from by unfold jr; simp only[lb_,nb_,pt_,sl_,k0,k1]]
    rfl
theorem acT{m:DkM}{f:Int}{d:List UInt8}{n:Nat}(hn:n<=m.pend.length):bV P E ctF 50 111 Bhe Dhe (heV f d.length n n) (heB m d)=some (.tuple ⟨exV (.exit 0)::heV f d.length n n⟩,ag (heB m d)):=by
 obtain⟨off,fused,fuse,steps,d0,d1,d2,d3,pend⟩:=m;unfold heV p0 heB;simp only;rw[Ud];have b2:∀ n,Nat.ble n n=true:=fun n=>Nat.ble_eq_true_of_le (Nat.le_refl n);have n4:∀ l:List StM,(ESt.all l).length=Nat.mul l.length 4:=fun l=>ESt.all_length l;have g1:ltI (n:Int) (ak n)=false:=by unfold ltI ak; exact decide_eq_false (by omega)
 simp only[lb_,nb_,pt_,sl_,aO,n4,g1,aY,ax,b2,eH rfl,aX,Enc.all_ren,Bool.and_self,aG,aF,ay]
 rfl
def qX(f:Int)(d:List UInt8)(l:List StM):List UInt8:=l.foldl (p_ f) d
def Bg(f:Int):List UInt8->List StM->Prop
 |_,[]=>True
 |d,s::l=>XN f d s/\Bg f (p_ f d s) l
theorem NF(f:Int)(m:DkM)(n:Nat)(h2:n<=m.pend.length)(h3:m.pend.length<4194304):∀ (k i:Nat) (d:List UInt8),i+k=n->Bg f d ((m.pend.drop i).take k)->
  LRX P 111 0 Bhe Dhe.head (heV f d.length n i) (heB m d) .normal (heV f (qX f d ((m.pend.drop i).take k)).length n n) (heB m (qX f d ((m.pend.drop i).take k)))
 |0,i,d,h1,h4=>by
  obtain rfl:i=n:=by omega
  exact LRX.stop (n:=50) (bf ctF) aA aW Oi (e:= .exit 0) (acT h2) (by intro h; cases h)
 |k+1,i,d,h1,h4=>by
  have hp:i<m.pend.length:=by omega
  have hd:(m.pend.drop i).take (k+1)=m.pend[i]::(m.pend.drop (i+1)).take k:=by rw[List.drop_eq_getElem_cons hp,List.take_succ_cons]
  rw[hd]at h4 ⊢;exact LRX.again (n:=50) (bf ctF) aA aW Oi (VD (by omega) h2 h3 h4.1) (NF f m n h2 h3 k (i+1) _ (by omega) h4.2)
structure HeS where
 m:DkM
 f:Int
 d:List UInt8
def kHe:Con HeS where
 enc s:=(heV s.f s.d.length s.m.pend.length 0,heB s.m s.d)
 ok s:=s.m.pend.length<4194304/\Bg s.f s.d s.m.pend
 inj a b h:=by
  obtain⟨a1,a2,a3⟩:=a;obtain⟨b1,b2,b3⟩:=b;simp only[Prod.mk.injEq]at h;obtain⟨h1,h2⟩:=h;have e1:aN a1=aN b1:=congrArg (List.take 6) h2;have e2:[Blk.cells (bc a3) 5 false]=[Blk.cells (bc b3) 5 false]:=congrArg (List.drop 6) h2;obtain rfl:=ny e1;simp only[List.cons.injEq,Blk.cells.injEq,and_true]at e2;obtain rfl:=tV e2;unfold heV at h1;simp only[List.cons.injEq,Value.int.injEq,true_and,and_true]at h1;obtain⟨rfl,_⟩:=h1
  rfl
 dflt:=⟨dk0,0,[]⟩
def Q4(s:HeS):DT (Ex×List Value×List Blk):= .leaf (.normal,heV s.f (qX s.f s.d s.m.pend).length s.m.pend.length s.m.pend.length,heB s.m (qX s.f s.d s.m.pend))
theorem Ug:LoopOkX P 111 0 Bhe Dhe.head (z_ kHe.C kHe.D Q4):=
 vC kHe (d_ Uy) fun s ho e vs' bs' hev=>by
  simp only[Q4,DT.eval,Option.some.injEq,Prod.mk.injEq]at hev;obtain⟨rfl,rfl,rfl⟩:=hev;have q:=NF s.f s.m s.m.pend.length (Nat.le_refl _) ho.1 s.m.pend.length 0 s.d (by omega);rw[List.drop_zero,List.take_length]at q;exact q ho.2
theorem V4(C:List Value->List Blk->Bool)(off1 fused1:Bool)(fuse1 steps1:Int)(m0 m1 m2 m3 mp md:Nat)(d0 d1 d2 d3 dp dd:List Value)(y1:Nat)(y0 y2 y3:Int)(off fused:Bool)(fuse steps:Int)(n0 n1 n2 n3 np:Nat)(c0 c1 c2 c3 cp:List Value)(f:Int):bM P E (fP P 111 0 Dhe (jd C (.leaf (.normal,[.pointer (some ⟨0,0,none⟩), .int .i64 y0, .slice (some ⟨6,0,none⟩) md 18446744073709551616, .slice (some ⟨5,0,none⟩) y1 18446744073709551616, .int .i64 y2, .int .i64 y3],[.cells (dkC off1 fused1 fuse1 steps1 m0 m1 m2 m3 mp) 108 true, .cells d0 5 false, .cells d1 5 false, .cells d2 5 false, .cells d3 5 false, .cells dp 132 false, .cells dd 5 false]))) ctF) 50 fJ [.val] [61] 1 111 [.pointer (some ⟨0,0,none⟩), .int .i64 f] [.cells (dkC off fused fuse steps n0 n1 n2 n3 np) 108 true, .cells c0 5 false, .cells c1 5 false, .cells c2 5 false, .cells c3 5 false, .cells cp 132 false] =
 (let z0:=takeC (Nat.mul n0 1) (aU 0 c0);let x0:=Nat.beq 0 0;let w0:=pt_ 0;let v0:=Value.int .i64 f;let u0:=sl_ 5 np;let t0:=Value.int .i64 (ak np);let s0:=Value.int .i64 0;let r0:=Value.bool true;let q0:=Blk.cells [r0, .bool off, .bool fused, .int .i64 fuse, .int .i64 steps,sl_ 1 n0,sl_ 2 n1,sl_ 3 n2,sl_ 4 n3,u0] 108 true;
 let p0:=aH 0 [0,8,9,10,11,5,7];let o0:=lb_ p0 n0 1 c0 5;let l0:=lb_ p0 n1 1 c1 5;let k0:=lb_ p0 n2 1 c2 5;let j0:=lb_ p0 n3 1 c3 5;let i0:=Blk.cells (af true p0 cp) 132 false;let h0:=bC [0] 12;let g0:=af true h0 dd;let f0:=af true h0 d0;let e0:=af true h0 d1;let b0:=af true h0 d2;
 let a0:=af true h0 d3;let Z0:=af true h0 dp;let Y0:=aH 0 [0,18,19,20,21,22];let X0:=ae (gV P 0 md 18446744073709551616 g0 5) (nb_ m0 1 f0 (nb_ m1 1 e0 (nb_ m2 1 b0 (nb_ m3 1 a0 (nb_ mp 4 Z0 (some (fb_ md 0 (takeC (Nat.mul md 1) (aU 0 g0)),ag [.cells [r0, .bool off1, .bool fused1, .int .i64 fuse1, .int .i64 steps1,sl_ 1 m0,sl_ 2 m1,sl_ 3 m2,sl_ 4 m3,sl_ 5 mp] 108 true,lb_ Y0 m0 1 f0 5,lb_ Y0 m1 1 e0 5,lb_ Y0 m2 1 b0 5,lb_ Y0 m3 1 a0 5,lb_ Y0 mp 4 Z0 132])))))));
 let W0:=takeC (Nat.mul n1 1) (aU 0 c1);let V0:=takeC (Nat.mul n2 1) (aU 0 c2);let U0:=takeC (Nat.mul n3 1) (aU 0 c3);
 (aj (eqI f 0) (nb_ n0 1 c0 (ae (List.all z0 oneCell) (ae (Bool.and x0 (Bool.and x0 (Nat.ble n0 4194304))) (nb_ n0 1 z0 (nb_ n0 1 c0 (nb_ n1 1 c1 (nb_ n2 1 c2 (nb_ n3 1 c3 (ae (C [w0,v0,sl_ 6 n0,u0,t0,s0] [q0,o0,l0,k0,j0,i0,lb_ p0 n0 1 z0 5]) X0))))))))) (aj (eqI f 1) (nb_ n1 1 c1 (ae (List.all W0 oneCell) (ae (Bool.and x0 (Bool.and x0 (Nat.ble n1 4194304))) (nb_ n1 1 W0 (nb_ n0 1 c0 (nb_ n1 1 c1 (nb_ n2 1 c2 (nb_ n3 1 c3 (ae (C [w0,v0,sl_ 6 n1,u0,t0,s0] [q0,o0,l0,k0,j0,i0,lb_ p0 n1 1 W0 5]) X0))))))))) (aj (eqI f 2) (nb_ n2 1 c2 (ae (List.all V0 oneCell) (ae (Bool.and x0 (Bool.and x0 (Nat.ble n2 4194304))) (nb_ n2 1 V0 (nb_ n0 1 c0 (nb_ n1 1 c1 (nb_ n2 1 c2 (nb_ n3 1 c3 (ae (C [w0,v0,sl_ 6 n2,u0,t0,s0] [q0,o0,l0,k0,j0,i0,lb_ p0 n2 1 V0 5]) X0))))))))) (ae (eqI f 3) (nb_ n3 1 c3 (ae (List.all U0 oneCell) (ae (Bool.and x0 (Bool.and x0 (Nat.ble n3 4194304))) (nb_ n3 1 U0 (nb_ n0 1 c0 (nb_ n1 1 c1 (nb_ n2 1 c2 (nb_ n3 1 c3 (ae (C [w0,v0,sl_ 6 n3,u0,t0,s0] [q0,o0,l0,k0,j0,i0,lb_ p0 n3 1 U0 5]) X0)))))))))))))):=by kernel_rfl
structure HcS where
 m:DkM
 f:Int
def HcS.h(s:HcS):HeS:=⟨s.m,s.f,fH s.m s.f⟩
def pI(m:DkM)(f:Int):List UInt8:=qX f (fH m f) m.pend
def kHc:Con HcS where
 enc s:=([p0, .int .i64 s.f],aN s.m)
 ok s:=(0<=s.f/\s.f<4)/\(fH s.m s.f).length<=4194304/\s.m.pend.length<4194304/\Bg s.f (fH s.m s.f) s.m.pend
 inj a b h:=by
  obtain⟨a1,a2⟩:=a;obtain⟨b1,b2⟩:=b;simp only[Prod.mk.injEq]at h;obtain⟨h1,h2⟩:=h;obtain rfl:=ny h2;simp only[List.cons.injEq,Value.int.injEq,true_and,and_true]at h1;subst h1
  rfl
 dflt:=⟨dk0,0⟩
def Xj(s:HcS):Ct:=fP P 111 0 Dhe (jd (kHe.at s.h) (Q4 s.h)) ctF
theorem Vt(s:HcS)(h0:0<=s.f/\s.f<4)(hl:(fH s.m s.f).length<=4194304):bM P E (Xj s) 50 fJ [.val] [61] 1 111 (kHc.enc s).1 (kHc.enc s).2=some (aJ 1 (pI s.m s.f).length 0 (bc (pI s.m s.f)),ag (aN s.m)):=by
 obtain⟨⟨off,fused,fuse,steps,d0,d1,d2,d3,pend⟩,f⟩:=s;simp only at h0 hl;have q:=fun(d:List UInt8)=>V4 (kHe.at ⟨⟨off,fused,fuse,steps,d0,d1,d2,d3,pend⟩,f,d⟩) off fused fuse steps d0.length d1.length d2.length d3.length pend.length (qX f d pend).length (bc d0) (bc d1) (bc d2) (bc d3) (ESt.all pend) (bc (qX f d pend))
  pend.length f (ak pend.length) pend.length off fused fuse steps d0.length d1.length d2.length d3.length pend.length (bc d0) (bc d1) (bc d2) (bc d3) (ESt.all pend) f
 obtain⟨d,hd⟩:∃ d,d=fH ⟨off,fused,fuse,steps,d0,d1,d2,d3,pend⟩ f:=⟨_,rfl⟩
 have eh:HcS.h ⟨⟨off,fused,fuse,steps,d0,d1,d2,d3,pend⟩,f⟩=⟨⟨off,fused,fuse,steps,d0,d1,d2,d3,pend⟩,f,d⟩:=by unfold HcS.h; rw[hd]
 have ef:pI ⟨off,fused,fuse,steps,d0,d1,d2,d3,pend⟩ f=qX f d pend:=by unfold pI; rw[hd]
 unfold Xj;simp only;rw[eh,ef];rw[<-hd]at hl;refine Eq.trans ?_ ((q d).trans ?_)
 ·rfl
 clear q eh ef;have b2:∀ n,Nat.ble n n=true:=fun n=>Nat.ble_eq_true_of_le (Nat.le_refl n);have b3:∀ n,Nat.beq n n=true:=Nat.beq_refl;have n4:∀ l:List StM,(ESt.all l).length=Nat.mul l.length 4:=fun l=>ESt.all_length l;have fz:=fun l:List UInt8=>EF (l:=l) rfl;have tl:Nat.ble d.length 4194304=true:=Nat.ble_eq_true_of_le hl;obtain⟨R,hR⟩:∃ R:Res,R=some (aJ 1 (qX f d pend).length 0 (bc (qX f d pend)),ag (aN ⟨off,fused,fuse,steps,d0,d1,d2,d3,pend⟩)):=⟨_,rfl⟩
 refine Eq.trans ?_ hR;simp only[fb_,lb_,nb_,pt_,sl_,aO,n4,aY,ax,b2,b3,fz,bD,eH rfl,nV rfl,aX,Enc.all_ren,Bool.and_self,Bool.true_and,aG,ay];rcases(show f=0\/f=1\/f=2\/f=3 by omega)with rfl | rfl | rfl | rfl
 ·have q0:eqI (0:Int) 0=true:=rfl;have e:d=d0:=hd;subst e;simp only[fb_,lb_,nb_,pt_,sl_,q0,tl,aG,ay];refine lu (k:=kHe) (s:=⟨⟨off,fused,fuse,steps,d,d1,d2,d3,pend⟩,0,d⟩) rfl rfl ?_;rw[hR];unfold aJ;rw[fzU]
  rfl
 ·have q0:eqI (1:Int) 0=false:=rfl;have q1:eqI (1:Int) 1=true:=rfl;have e:d=d1:=hd;subst e;simp only[fb_,lb_,nb_,pt_,sl_,q0,q1,tl,aG,aF,ay];refine lu (k:=kHe) (s:=⟨⟨off,fused,fuse,steps,d0,d,d2,d3,pend⟩,1,d⟩) rfl rfl ?_;rw[hR];unfold aJ;rw[fzU]
  rfl
 ·have q0:eqI (2:Int) 0=false:=rfl;have q1:eqI (2:Int) 1=false:=rfl;have q2:eqI (2:Int) 2=true:=rfl;have e:d=d2:=hd;subst e;simp only[fb_,lb_,nb_,pt_,sl_,q0,q1,q2,tl,aG,aF,ay];refine lu (k:=kHe) (s:=⟨⟨off,fused,fuse,steps,d0,d1,d,d3,pend⟩,2,d⟩) rfl rfl ?_;rw[hR];unfold aJ;rw[fzU]
  rfl
 ·have q0:eqI (3:Int) 0=false:=rfl;have q1:eqI (3:Int) 1=false:=rfl;have q2:eqI (3:Int) 2=false:=rfl;have q3:eqI (3:Int) 3=true:=rfl;have e:d=d3:=hd;subst e;simp only[fb_,lb_,nb_,pt_,sl_,q0,q1,q2,q3,tl,aG,aF,ay];refine lu (k:=kHe) (s:=⟨⟨off,fused,fuse,steps,d0,d1,d2,d,pend⟩,3,d⟩) rfl rfl ?_;rw[hR];unfold aJ;rw[fzU]
  rfl
def wZ(s:HcS):DT (Value×List Blk):= .leaf (aJ 1 (pI s.m s.f).length 0 (bc (pI s.m s.f)),aN s.m)
theorem Pm:CallOkX P 1 111 (uo kHc.C kHc.D wZ):=qL kHc fun s ho v bs' hev=>by
 simp only[wZ,DT.eval,Option.some.injEq,Prod.mk.injEq]at hev;obtain⟨rfl,rfl⟩:=hev;exact CRX.of (bf (Xj s)) aA (eu aW (xB kHe Ug (s:=s.h) ⟨ho.2.2.1,ho.2.2.2⟩)) (Vt s ho.1 ho.2.1)
def kZ(m:DkM):Int×DkM:=match m.off,jk m with
 |true,_=>(6,m)
 |false,none=>(6,{ m with off:=true })
 |false,some m'=>(0,oq ⟨m',m'.pend.length⟩)
def kSy:Con DkM where
 enc m:=([p0],aN m)
 ok m:=DkOk m/\∀ m',jk m=some m'->o9 m' m'.pend
 inj a b h:=by
  simp only[Prod.mk.injEq,true_and]at h;exact ny h
 dflt:=dk0
def syS(m:DkM):StS:=match jk m with
 |none=>⟨m,0⟩
 |some m'=>⟨m',m'.pend.length⟩
def WS(m:DkM):Ct:=aC P fJ 1 79 (bI (kSe.at (syS m)) (wz (syS m))) ctF
theorem VT(m:DkM)(ho:DkOk m):bM P E (WS m) 50 fJ [] [] 1 72 (kSy.enc m).1 (kSy.enc m).2=some (.int .i64 (kZ m).1,ag (aN (kZ m).2)):=by
 obtain⟨off,fused,fuse,steps,d0,d1,d2,d3,pend⟩:=m;obtain⟨s0,s1,f0,f1,p1⟩:=ho;simp only at s0 s1 f0 f1 p1;obtain⟨S,hS⟩:∃ S,S=syS ⟨off,fused,fuse,steps,d0,d1,d2,d3,pend⟩:=⟨_,rfl⟩
 obtain⟨M,hM⟩:∃ M,M=oq S:=⟨_,rfl⟩
 have q:=Vx (kSe.at S) M.off M.fused M.fuse M.steps M.d0.length M.d1.length M.d2.length M.d3.length M.pend.length (bc M.d0) (bc M.d1) (bc M.d2) (bc M.d3) (ESt.all M.pend) off fused fuse steps d0.length d1.length d2.length d3.length pend.length (bc d0) (bc d1) (bc d2) (bc d3) (ESt.all pend);unfold WS wz;rw[<-hS,<-hM];refine Eq.trans ?_ (q.trans ?_)
 ·rfl
 clear q;have b2:∀ n,Nat.ble n n=true:=fun n=>Nat.ble_eq_true_of_le (Nat.le_refl n);have n4:∀ l:List StM,(ESt.all l).length=Nat.mul l.length 4:=fun l=>ESt.all_length l;have hs:dI .i64 steps 1=steps+1:=by unfold dI; rw[wrap64 (by omega) (by omega)]
 have hf:eU .i64 fuse 1=fuse-1:=by unfold eU; rw[wrap64 (by omega) (by omega)]
 simp only[lb_,nb_,pt_,sl_,aO,n4,aY,ax,b2,hs,hf,eH rfl,nV rfl,aX,Enc.all_ren,Bool.and_self,aG,ay];cases off with
 |true=>rfl
 |false=>
  simp only[lb_,nb_,pt_,sl_,aF];cases fused with
  |false=>
   simp only[lb_,nb_,pt_,sl_,aF];have e:S=⟨⟨false,false,fuse,steps+1,d0,d1,d2,d3,pend⟩,pend.length⟩:=hS;refine lu (k:=kSe) (s:=S) (by rw[e]; rfl) (by rw[e]; rfl) ?_;rw[show kZ ⟨false,false,fuse,steps,d0,d1,d2,d3,pend⟩=(0,M) from by rw[hM,e]; rfl]
   rfl
  |true=>
   simp only[lb_,nb_,pt_,sl_,aG];cases hq:eqI fuse 0 with
   |true=>
    rw[show kZ ⟨false,true,fuse,steps,d0,d1,d2,d3,pend⟩=(6,⟨true,true,fuse,steps,d0,d1,d2,d3,pend⟩) from by unfold kZ jk; simp only[lb_,nb_,pt_,sl_,hq]]
    rfl
   |false=>
    simp only[lb_,nb_,pt_,sl_,aF];have e:S=⟨⟨false,true,fuse-1,steps+1,d0,d1,d2,d3,pend⟩,pend.length⟩:=by rw[hS]; unfold syS jk; simp only[lb_,nb_,pt_,sl_,hq]
    refine lu (k:=kSe) (s:=S) (by rw[e]; rfl) (by rw[e]; rfl) ?_;rw[show kZ ⟨false,true,fuse,steps,d0,d1,d2,d3,pend⟩=(0,M) from by rw[hM,e]; unfold kZ jk; simp only[lb_,nb_,pt_,sl_,hq]]
    rfl
theorem V8(C:List Value->List Blk->Bool)(nd:Nat)(cd:List Value)(off1 fused1:Bool)(fuse1 steps1:Int)(m0 m1 m2 m3 mp:Nat)(d0 d1 d2 d3 dp:List Value)(off fused:Bool)(fuse steps:Int)(n0 n1 n2 n3 np:Nat)(c0 c1 c2 c3 cp:List Value)(f:Int):bM P E (aC P fJ 1 111 (bI C (.leaf (aJ 1 nd 0 cd,[.cells (dkC off1 fused1 fuse1 steps1 m0 m1 m2 m3 mp) 108 true, .cells d0 5 false, .cells d1 5 false, .cells d2 5 false, .cells d3 5 false, .cells dp 132 false]))) ctF) 50 fJ [.val, .val] [61,0] 1 60 [.pointer (some ⟨0,0,none⟩), .int .i64 f] [.cells (dkC off fused fuse steps n0 n1 n2 n3 np) 108 true, .cells c0 5 false, .cells c1 5 false, .cells c2 5 false, .cells c3 5 false, .cells cp 132 false] =
 (let z0:=Value.iface 18446744073709551617 (.agg ⟨[.slice none 0 0]⟩);let y0:=Value.bool true;let x0:=aH 0 [0,6,7,8,9,10];let w0:=[Blk.cells [y0, .bool off, .bool fused, .int .i64 fuse, .int .i64 steps,sl_ 1 n0,sl_ 2 n1,sl_ 3 n2,sl_ 4 n3,sl_ 5 np] 108 true,lb_ x0 n0 1 c0 5,lb_ x0 n1 1 c1 5,lb_ x0 n2 1 c2 5,lb_ x0 n3 1 c3 5,lb_ x0 np 4 cp 132];
 let v0:=nb_ n0 1 c0 (nb_ n1 1 c1 (nb_ n2 1 c2 (nb_ n3 1 c3 (nb_ np 4 cp (some (.tuple ⟨[z0, .int .i64 2]⟩,ag w0))))));let u0:=bC [0] 11;let t0:=af true u0 d0;let s0:=af true u0 d1;let r0:=af true u0 d2;let q0:=af true u0 d3;let p0:=af true u0 dp;let o0:=aH 0 [0,16,17,18,19,20];
 (aj off (nb_ n0 1 c0 (nb_ n1 1 c1 (nb_ n2 1 c2 (nb_ n3 1 c3 (nb_ np 4 cp (some (.tuple ⟨[z0, .int .i64 6]⟩,ag w0))))))) (aj (geI f 0) (aj (f_ (ltI f 4)) v0 (nb_ n0 1 c0 (nb_ n1 1 c1 (nb_ n2 1 c2 (nb_ n3 1 c3 (nb_ np 4 cp (ae (C [pt_ 0, .int .i64 f] w0) (nb_ m0 1 t0 (nb_ m1 1 s0 (nb_ m2 1 r0 (nb_ m3 1 q0 (nb_ mp 4 p0 (some (.tuple ⟨[fb_ nd 0 cd, .int .i64 0]⟩,ag [.cells [y0, .bool off1, .bool fused1, .int .i64 fuse1, .int .i64 steps1,sl_ 1 m0,sl_ 2 m1,sl_ 3 m2,sl_ 4 m3,sl_ 5 mp] 108 true,lb_ o0 m0 1 t0 5,lb_ o0 m1 1 s0 5,lb_ o0 m2 1 r0 5,lb_ o0 m3 1 q0 5,lb_ o0 mp 4 p0 132])))))))))))))) v0))):=by kernel_rfl
theorem ZN(C:List Value->List Blk->Bool)(nd:Nat)(cd:List Value)(off1 fused1:Bool)(fuse1 steps1:Int)(m0 m1 m2 m3 mp:Nat)(d0 d1 d2 d3 dp:List Value)(off fused:Bool)(fuse steps:Int)(n0 n1 n2 n3 np:Nat)(c0 c1 c2 c3 cp:List Value)(f l:Int):bM P E (aC P fJ 1 111 (bI C (.leaf (aJ 1 nd 0 cd,[.cells (dkC off1 fused1 fuse1 steps1 m0 m1 m2 m3 mp) 108 true, .cells d0 5 false, .cells d1 5 false, .cells d2 5 false, .cells d3 5 false, .cells dp 132 false]))) ctF) 50 fJ [] [] 1 155 [.pointer (some ⟨0,0,none⟩), .int .i64 f, .int .i64 l] [.cells (dkC off fused fuse steps n0 n1 n2 n3 np) 108 true, .cells c0 5 false, .cells c1 5 false, .cells c2 5 false, .cells c3 5 false, .cells cp 132 false] =
 (let z0:=Value.int .i64 6;let y0:=Value.bool true;let x0:=aH 0 [0,6,7,8,9,10];let w0:=[Blk.cells [y0, .bool off, .bool fused, .int .i64 fuse, .int .i64 steps,sl_ 1 n0,sl_ 2 n1,sl_ 3 n2,sl_ 4 n3,sl_ 5 np] 108 true,lb_ x0 n0 1 c0 5,lb_ x0 n1 1 c1 5,lb_ x0 n2 1 c2 5,lb_ x0 n3 1 c3 5,lb_ x0 np 4 cp 132];
 let v0:=Value.int .i64 2;let u0:=nb_ n0 1 c0 (nb_ n1 1 c1 (nb_ n2 1 c2 (nb_ n3 1 c3 (nb_ np 4 cp (some (v0,ag w0))))));let t0:=Value.int .i64 f;let s0:=bC [0] 11;let r0:=af true s0 d0;let q0:=af true s0 d1;let p0:=af true s0 d2;let o0:=af true s0 d3;let l0:=af true s0 dp;let k0:=Value.bool off1;
 let j0:=Value.bool fused1;let i0:=Value.int .i64 fuse1;let h0:=Value.int .i64 steps1;let g0:=sl_ 1 m0;let f0:=sl_ 2 m1;let e0:=sl_ 3 m2;let b0:=sl_ 4 m3;let a0:=aH 0 [0,16,17,18,19,20];let Z0:=lb_ a0 m0 1 r0 5;let Y0:=lb_ a0 m1 1 q0 5;let X0:=lb_ a0 m2 1 p0 5;let W0:=lb_ a0 m3 1 o0 5;
 let V0:=lb_ a0 mp 4 l0 132;let U0:=Nat.add mp 1;let T0:=Nat.ble U0 4194304;let S0:=Nat.beq (Nat.add 0 (Nat.mul mp 4)) l0.length;let R0:=List.append (jC 0 l0) [.int .i64 1,t0, .iface 18446744073709551617 (.agg ⟨[.slice none 0 0]⟩), .int .i64 l];let Q0:=Value.int .i64 0;let P0:=Value.int .i64 (dI .i64 steps1 1);
 let O0:=aH 0 [0,18,19,20,21,22];let N0:=lb_ O0 m0 1 r0 5;let M0:=lb_ O0 m1 1 q0 5;let L0:=lb_ O0 m2 1 p0 5;let K0:=lb_ O0 m3 1 o0 5;let J0:=lb_ O0 U0 4 R0 132;
 (aj off (nb_ n0 1 c0 (nb_ n1 1 c1 (nb_ n2 1 c2 (nb_ n3 1 c3 (nb_ np 4 cp (some (z0,ag w0))))))) (aj (geI f 0) (aj (f_ (ltI f 4)) u0 (aj (ltI l 0) u0 (nb_ n0 1 c0 (nb_ n1 1 c1 (nb_ n2 1 c2 (nb_ n3 1 c3 (nb_ np 4 cp (ae (C [pt_ 0,t0] w0) (aj (gtI l (ak nd)) (nb_ m0 1 r0 (nb_ m1 1 q0 (nb_ m2 1 p0 (nb_ m3 1 o0 (nb_ mp 4 l0 (some (v0,ag [.cells [y0,k0,j0,i0,h0,g0,f0,e0,b0,sl_ 5 mp] 108 true,Z0,Y0,X0,W0,V0]))))))) (aj fused1 (aj (eqI fuse1 0) (nb_ m0 1 r0 (nb_ m1 1 q0 (nb_ m2 1 p0 (nb_ m3 1 o0 (nb_ mp 4 l0 (some (z0,ag [.cells [y0,y0,j0,i0,h0,g0,f0,e0,b0,sl_ 5 mp] 108 true,Z0,Y0,X0,W0,V0]))))))) (ae T0 (ae S0 (nb_ m0 1 r0 (nb_ m1 1 q0 (nb_ m2 1 p0 (nb_ m3 1 o0 (nb_ U0 4 R0 (some (Q0,ag [.cells [y0,k0,j0, .int .i64 (eU .i64 fuse1 1),P0,g0,f0,e0,b0,sl_ 5 U0] 108 true,N0,M0,L0,K0,J0])))))))))) (ae T0 (ae S0 (nb_ m0 1 r0 (nb_ m1 1 q0 (nb_ m2 1 p0 (nb_ m3 1 o0 (nb_ U0 4 R0 (some (Q0,ag [.cells [y0,k0,j0,i0,P0,g0,f0,e0,b0,sl_ 5 U0] 108 true,N0,M0,L0,K0,J0]))))))))))))))))))) u0))):=by kernel_rfl
theorem NL:CallOkX P 1 72 (uo kSy.C kSy.D fun m=> .leaf (.int .i64 (kZ m).1,aN (kZ m).2)):=qL kSy fun m ho v bs' hev=>by
 simp only[DT.eval,Option.some.injEq,Prod.mk.injEq]at hev;obtain⟨rfl,rfl⟩:=hev;refine CRX.of (bf (WS m)) aA (ah aW (Gh kSe UV (s:=syS m) ?_)) (VT m ho.1);unfold syS;cases hb:jk m with
 |none=>
  exact⟨Nat.zero_le _,ho.1.p1,trivial⟩
 |some m'=>
  have:=ho.2 m' hb;refine⟨Nat.le_refl _,?_,?_⟩
  ·have hp:m'.pend=m.pend:=by
    unfold jk at hb;split at hb
    ·obtain rfl:=Option.some.inj hb; rfl
    ·cases hb
    ·obtain rfl:=Option.some.inj hb; rfl
   show m'.pend.length<4194304;rw[hp]; exact ho.1.p1
  ·show o9 m' (m'.pend.take m'.pend.length);rw[List.take_length]; exact this
def nY(m:DkM)(f:Int):List UInt8×Int:=match m.off with
 |true=>([],6)
 |false=>(pI m f,0)
def Fe(s:HcS):Ct:=aC P fJ 1 111 (bI (kHc.at s) (wZ s)) ctF
theorem SE(s:HcS)(h0:0<=s.f/\s.f<4):bM P E (Fe s) 50 fJ [.val, .val] [61,0] 1 60 (kHc.enc s).1 (kHc.enc s).2=some (.tuple ⟨[aJ 1 (nY s.m s.f).1.length 0 (bc (nY s.m s.f).1), .int .i64 (nY s.m s.f).2]⟩,ag (aN s.m)):=by
 obtain⟨⟨off,fused,fuse,steps,d0,d1,d2,d3,pend⟩,f⟩:=s;simp only at h0;obtain⟨x,hx⟩:∃ x,x=pI ⟨off,fused,fuse,steps,d0,d1,d2,d3,pend⟩ f:=⟨_,rfl⟩
 have q:=V8 (kHc.at ⟨⟨off,fused,fuse,steps,d0,d1,d2,d3,pend⟩,f⟩) x.length (bc x) off fused fuse steps d0.length d1.length d2.length d3.length pend.length (bc d0) (bc d1) (bc d2) (bc d3) (ESt.all pend) off fused fuse steps d0.length d1.length d2.length d3.length pend.length (bc d0) (bc d1) (bc d2) (bc d3) (ESt.all pend) f;unfold Fe wZ nY;simp only;rw[<-hx];refine Eq.trans ?_ (q.trans ?_)
 ·rfl
 clear q;have b2:∀ n,Nat.ble n n=true:=fun n=>Nat.ble_eq_true_of_le (Nat.le_refl n);have n4:∀ l:List StM,(ESt.all l).length=Nat.mul l.length 4:=fun l=>ESt.all_length l;have g1:geI f 0=true:=by unfold geI; exact decide_eq_true h0.1
 have g2:ltI f 4=true:=by unfold ltI; exact decide_eq_true h0.2
 simp only[fb_,lb_,nb_,pt_,sl_,g1,g2,aO,n4,aY,ax,b2,eH rfl,nV rfl,aX,Enc.all_ren,Bool.and_self,aG,ay];cases off with
 |true=>
  unfold aJ;rw[fzU]
  rfl
 |false=>
  simp only[fb_,lb_,nb_,pt_,sl_,f_,Bool.not_true,aF];refine lu (k:=kHc) (s:=⟨⟨false,fused,fuse,steps,d0,d1,d2,d3,pend⟩,f⟩) rfl rfl ?_;unfold aJ;rw[fzU]
  rfl
theorem aaA:CallOkX P 1 60 (uo kHc.C kHc.D fun s=> .leaf (.tuple ⟨[aJ 1 (nY s.m s.f).1.length 0 (bc (nY s.m s.f).1), .int .i64 (nY s.m s.f).2]⟩,aN s.m)):=qL kHc fun s ho v bs' hev=>by
 simp only[DT.eval,Option.some.injEq,Prod.mk.injEq]at hev;obtain⟨rfl,rfl⟩:=hev;exact CRX.of (bf (Fe s)) aA (ah aW (Gh kHc Pm (s:=s) ho)) (SE s ho.1)
def yA(m:DkM)(f l:Int):Int×DkM:=match m.off,ltI l 0,gtI l (ak (pI m f).length),jk m with
 |true,_,_,_=>(6,m)
 |false,true,_,_=>(2,m)
 |false,false,true,_=>(2,m)
 |false,false,false,none=>(6,{ m with off:=true })
 |false,false,false,some m'=>(0,{ m' with pend:=m.pend++[⟨1,f,[],l⟩] })
theorem acW(l:List StM)(f n:Int):List.append (jC 0 (ESt.all l)) [.int .i64 1, .int .i64 f, .iface 18446744073709551617 (.agg ⟨[.slice none 0 0]⟩), .int .i64 n]=ESt.all (l++[⟨1,f,[],n⟩]):=by
 rw[ESt.all_append,ESt.all_one,<-fzU]
 rfl
theorem aaC(s:HcS)(l:Int)(h0:0<=s.f/\s.f<4)(ho:DkOk s.m):bM P E (Fe s) 50 fJ [] [] 1 155 [p0, .int .i64 s.f, .int .i64 l] (aN s.m)=some (.int .i64 (yA s.m s.f l).1,ag (aN (yA s.m s.f l).2)):=by
 obtain⟨⟨off,fused,fuse,steps,d0,d1,d2,d3,pend⟩,f⟩:=s;obtain⟨s0,s1,f0,f1,p1⟩:=ho;simp only at h0 s0 s1 f0 f1 p1;obtain⟨x,hx⟩:∃ x,x=pI ⟨off,fused,fuse,steps,d0,d1,d2,d3,pend⟩ f:=⟨_,rfl⟩
 have q:=ZN (kHc.at ⟨⟨off,fused,fuse,steps,d0,d1,d2,d3,pend⟩,f⟩) x.length (bc x) off fused fuse steps d0.length d1.length d2.length d3.length pend.length (bc d0) (bc d1) (bc d2) (bc d3) (ESt.all pend) off fused fuse steps d0.length d1.length d2.length d3.length pend.length (bc d0) (bc d1) (bc d2) (bc d3) (ESt.all pend) f l;unfold Fe wZ yA;simp only;rw[<-hx];refine Eq.trans ?_ (q.trans ?_)
 ·rfl
 clear q;have b2:∀ n,Nat.ble n n=true:=fun n=>Nat.ble_eq_true_of_le (Nat.le_refl n);have b3:∀ n,Nat.beq n n=true:=Nat.beq_refl;have n4:∀ l:List StM,(ESt.all l).length=Nat.mul l.length 4:=fun l=>ESt.all_length l;have g1:geI f 0=true:=by unfold geI; exact decide_eq_true h0.1
 have g2:ltI f 4=true:=by unfold ltI; exact decide_eq_true h0.2
 have hs:dI .i64 steps 1=steps+1:=by unfold dI; rw[wrap64 (by omega) (by omega)]
 have hf:eU .i64 fuse 1=fuse-1:=by unfold eU; rw[wrap64 (by omega) (by omega)]
 have hp:(pend++[(⟨1,f,[],l⟩:StM)]).length=Nat.add pend.length 1:=by simp
 have t1:Nat.ble (Nat.add pend.length 1) 4194304=true:=Nat.ble_eq_true_of_le (by show pend.length+1<=_; omega);have sa:=acW pend f l;simp only[lb_,nb_,pt_,sl_,g1,g2,aO,n4,aY,ax,b2,b3,hs,hf,t1,sa,hp,nV hp.symm,eH rfl,nV rfl,aX,Enc.all_ren,Bool.and_self,aG,ay];cases off with
 |true=>rfl
 |false=>
  simp only[lb_,nb_,pt_,sl_,f_,Bool.not_true,aF];cases ltI l 0 with
  |true=>rfl
  |false=>
   simp only[lb_,nb_,pt_,sl_,aF];refine lu (k:=kHc) (s:=⟨⟨false,fused,fuse,steps,d0,d1,d2,d3,pend⟩,f⟩) rfl rfl ?_;cases gtI l (ak x.length)with
   |true=>rfl
   |false=>
    simp only[lb_,nb_,pt_,sl_,aF];unfold jk;simp only;cases fused with
    |false=>
     simp only[lb_,nb_,pt_,sl_,aF];unfold aN;simp only[lb_,nb_,pt_,sl_,hp]
     rfl
    |true=>
     simp only[lb_,nb_,pt_,sl_,aG];cases hq:eqI fuse 0 with
     |true=>rfl
     |false=>
      simp only[lb_,nb_,pt_,sl_,aF];unfold aN;simp only[lb_,nb_,pt_,sl_,hp]
      rfl
structure CuS where
 m:DkM
 f:Int
 l:Int
def CuS.c(s:CuS):HcS:=⟨s.m,s.f⟩
def kCu:Con CuS where
 enc s:=([p0, .int .i64 s.f, .int .i64 s.l],aN s.m)
 ok s:=kHc.ok s.c/\DkOk s.m
 inj a b h:=by
  obtain⟨a1,a2,a3⟩:=a;obtain⟨b1,b2,b3⟩:=b;simp only[Prod.mk.injEq]at h;obtain⟨h1,h2⟩:=h;obtain rfl:=ny h2;simp only[List.cons.injEq,Value.int.injEq,true_and,and_true]at h1;obtain⟨rfl,rfl⟩:=h1
  rfl
 dflt:=⟨dk0,0,0⟩
theorem ab_:CallOkX P 1 155 (uo kCu.C kCu.D fun s=> .leaf (.int .i64 (yA s.m s.f s.l).1,aN (yA s.m s.f s.l).2)):=qL kCu fun s ho v bs' hev=>by
 simp only[DT.eval,Option.some.injEq,Prod.mk.injEq]at hev;obtain⟨rfl,rfl⟩:=hev;exact CRX.of (bf (Fe s.c)) aA (ah aW (Gh kHc Pm (s:=s.c) ho.1)) (aaC s.c s.l ho.1.1 ho.2)
def EIn:Enc Int where
 sz:=1
 f n:=[.int .i64 n]
 len _:=rfl
 pos:=by decide
 inj a b h:=by simpa using h
 nr _:=rfl
def au:Pol:=fun t=>match Nat.beq t 108,Nat.beq t 182,Nat.beq t 173,Nat.beq t 185,Nat.beq t 114 with
 |true,_,_,_,_=>some [.val, .val, .val, .val, .val, .own, .own, .own, .own, .own]
 |_,true,_,_,_=>some [.val, .val, .own, .own]
 |_,_,true,_,_=>some [.val, .val, .own]
 |_,_,_,true,_=>some [.val, .val, .own]
 |_,_,_,_,true=>some [.val, .val, .val, .val, .val, .val, .val, .val, .own, .val, .val, .val, .val]
 |_,_,_,_,_=>none
def lsV(k n:Nat):Value:= .slice (some ⟨k,0,none⟩) n 18446744073709551616
def ptV(k:Nat):Value:= .pointer (some ⟨k,0,none⟩)
def dP(a b c d e:Nat)(m:DkM):List Value:=[.bool true, .bool m.off, .bool m.fused, .int .i64 m.fuse, .int .i64 m.steps,lsV a m.d0.length,lsV b m.d1.length,lsV c m.d2.length,lsV d m.d3.length,lsV e m.pend.length]
def dkL(m:DkM):List Blk:=[.cells (bc m.d0) 5 false, .cells (bc m.d1) 5 false, .cells (bc m.d2) 5 false, .cells (bc m.d3) 5 false, .cells (ESt.all m.pend) 132 false]
structure WalM where
 dk:DkM
 br:Bool
 cs:List CmM
 es:List Int
def cZ(w:WalM):List Blk:=[.cells [ptV 1, .bool w.br,lsV 7 w.cs.length,lsV 8 w.es.length] 182 true, .cells (dP 2 3 4 5 6 w.dk) 108 true,
 .cells (bc w.dk.d0) 5 false, .cells (bc w.dk.d1) 5 false, .cells (bc w.dk.d2) 5 false, .cells (bc w.dk.d3) 5 false, .cells (ESt.all w.dk.pend) 132 false, .cells (ECm.all w.cs) 35 false, .cells (EIn.all w.es) 3 false]
def okD(d:DkM):DkM:={ d with off:=false }
theorem Zt(w:WalM):bM P E ctF 50 au [] [] 2 127 [p0] (cZ w) =
 (let z0:=w.cs.length;let y0:=Enc.all ECm w.cs;let x0:=w.es.length;let w0:=Enc.all EIn w.es;let v0:=w.dk;let u0:=v0.d0.length;let t0:=bc v0.d0;let s0:=v0.d1.length;let r0:=bc v0.d1;let q0:=v0.d2.length;let o0:=bc v0.d2;let n0:=v0.d3.length;let m0:=bc v0.d3;let l0:=v0.pend.length;let k0:=Enc.all ESt v0.pend;
 let j0:=Blk.cells [pt_ 1, .bool w.br,sl_ 7 z0,sl_ 8 x0] 182 true;let i0:=dk_ v0 2 3 4 5 6;let h0:=aH 0 [0,1,11,12,13,14,15,9,10];let g0:=eU .i64 (ak z0) 1;let f0:=Nat.add 0 (atN g0 3);let e0:=bT y0 f0;let d0:=aH 0 [0,1,25,26,27,28,29,23,24];
 (aj (eqI (ak z0) 0) (nb_ z0 3 y0 (nb_ x0 1 w0 (nb_ u0 1 t0 (nb_ s0 1 r0 (nb_ q0 1 o0 (nb_ n0 1 m0 (nb_ l0 4 k0 (some (.int .i64 0,ag [j0,i0,lb_ h0 u0 1 t0 5,lb_ h0 s0 1 r0 5,lb_ h0 q0 1 o0 5,lb_ h0 n0 1 m0 5,lb_ h0 l0 4 k0 132,lb_ h0 z0 3 y0 35,lb_ h0 x0 1 w0 3]))))))))) (ae (inI g0 z0) (ae (Bool.and (Nat.ble (Nat.add f0 1) y0.length) (ig (.int .i64) e0)) (nb_ z0 3 y0 (nb_ x0 1 w0 (nb_ u0 1 t0 (nb_ s0 1 r0 (nb_ q0 1 o0 (nb_ n0 1 m0 (nb_ l0 4 k0 (some (.int .i64 (asI e0),ag [j0,i0,lb_ d0 u0 1 t0 5,lb_ d0 s0 1 r0 5,lb_ d0 q0 1 o0 5,lb_ d0 n0 1 m0 5,lb_ d0 l0 4 k0 132,lb_ d0 z0 3 y0 35,lb_ d0 x0 1 w0 3]))))))))))))):=by kernel_rfl
theorem aB{l:List CmM}{n:Nat}(h:n=l.length):takeC (Nat.mul n 3) (aU 0 (ECm.all l))=ECm.all l:=by subst h; exact ECm.all_self l
theorem aK{l:List Int}{n:Nat}(h:n=l.length):takeC n (aU 0 (EIn.all l))=EIn.all l:=by
 subst h;have:=EIn.all_self l;rw[show l.length*EIn.sz=l.length from Nat.mul_one _]at this;exact this
theorem aP{l:List StM}{n:Nat}(h:n=l.length):takeC (Nat.mul n 4) (aU 0 (ESt.all l))=ESt.all l:=by subst h; exact ESt.all_self l
theorem dw(l:List CmM):(ECm.all l).length=Nat.mul l.length 3:=ECm.all_length l
theorem dC(l:List StM):(ESt.all l).length=Nat.mul l.length 4:=ESt.all_length l
theorem dB(l:List Int):(EIn.all l).length=l.length:=by rw[EIn.all_length]; exact Nat.mul_one _
theorem dQ(n:Nat):Nat.ble n n=true:=Nat.ble_eq_true_of_le (Nat.le_refl n)
theorem dA(n:Nat):Nat.beq n n=true:=Nat.beq_refl n
def mG(l:List Int):Int:=l.getLast?.getD 0
theorem adS{l:List Int}{i:Nat}(h:i<l.length):bT (EIn.all l) i = .int .i64 l[i]:=by
 have e:=EIn.nth (i:=i) (j:=0) h (by decide);rw[show i*EIn.sz+0=i from Nat.mul_one i]at e;rw[e]; rfl
def tC(t n b:Nat)(c:List Value):Bool:=EIn.fz 4194304 t n c
def zL(c:List Value):Int:=mG (EIn.dec c)
def Iz(K:Nat->Nat->Nat->List Value->Bool)(L:List Value->Int):kV:=fun args=>match args with
 |[.iface t (.agg ⟨.slice none n b::c⟩)]=>some (.ite (K t n b c) (.leaf (.int .i64 (L c),[])) .fail)
 |_=>none
theorem aad(n b:Nat)(c:List Value):lS P E rU 50 129 [aJ 1 n b c] =
 (let z0:=eU .i64 (ak n) 1;let y0:=bT c (atN z0 1);
 (aj (eqI (ak n) 0) (some (.int .i64 0,ag [])) (ae (Bool.and (Nat.beq 1 1) (inI z0 n)) (ae (Bool.and (Nat.ble (Nat.add (atN z0 1) 1) c.length) (ig (.int .i64) y0)) (some (.int .i64 (asI y0),ag [])))))):=by kernel_rfl
theorem last_at{α:Type}(l:List α)(h:l≠[]):l.getLast? = some (l[l.length-1]'(by have:=List.length_pos_iff.2 h; omega)):=by
 rw[List.getLast?_eq_some_getLast h,List.getLast_eq_getElem]
theorem Us:CallOkR P 129 (Iz tC zL):=Eh (qE P) (n:=50) fun args t hR v bs hev=>by
 unfold Iz at hR;split at hR
 ·rename_i t0 n b c;obtain rfl:=Option.some.inj hR;cases hc:tC t0 n b c with
  |false=>rw[hc]at hev; cases hev
  |true=>
   rw[hc]at hev;obtain⟨l,h1,rfl,rfl,h2,h3⟩:=EIn.fz_of hc;have h1:t0=FZ+1:=h1;subst h1;simp only[DT.eval,Option.some.injEq,Prod.mk.injEq,zL,h3]at hev;obtain⟨rfl,rfl⟩:=hev;refine(aad l.length b (EIn.all l)).trans ?_;have hf:aJ 1 l.length b (EIn.all l)=aJ 1 l.length b (EIn.all l):=rfl;by_cases h0:l=[]
   ·subst h0; rfl
   ·have hp:=List.length_pos_iff.2 h0;have g0:eqI (ak l.length) 0=false:=by unfold eqI ak; exact decide_eq_false (by omega)
    have g1:eU .i64 (ak l.length) 1=((l.length-1:Nat):Int):=by unfold eU ak; rw[wrap64 (by omega) (by omega)]; omega
    have g2:inI ((l.length-1:Nat):Int) l.length=true:=jF (by omega) (by omega);have g3:atN ((l.length-1:Nat):Int) 1=l.length-1:=by simp[atN]
    have g4:bT (EIn.all l) (l.length-1) = .int .i64 (l[l.length-1]'(by omega)):=adS (by omega);have g5:Nat.ble (Nat.add (l.length-1) 1) l.length=true:=Nat.ble_eq_true_of_le (by show l.length-1+1<=_; omega);have g6:mG l=l[l.length-1]'(by omega):=by unfold mG; rw[last_at l h0]; rfl
    have g7:∀ x:Int,ig (.int .i64) (.int .i64 x)=true:=fun _=>rfl;simp only[g0,g1,g2,g3,g4,dB,g5,g7,dA,Bool.and_self,aF,ay];rw[g6]; rfl
 ·cases hR
def ad7(K:Nat->Nat->Nat->List Value->Bool)(L:List Value->Int)(C0 C1 C2 C3 C4 C5:List Value->List Blk->Bool)(e:Int)(x f:List UInt8)(r:Int)(d2:DkM)(w:WalM)(c:CmM):Ct:=
 aC P au 2 127 (bI C0 (.leaf (.int .i64 e,cZ w))) (aC P au 0 126 (bI C1 (.leaf (.tuple ⟨[aJ 1 x.length 0 (bc x), .int .i64 0]⟩,[]))) (aC P au 0 9 (bI C2 (.leaf (ui (0,0),[])))
 (aC P au 0 69 (bI C3 (.leaf (.tuple ⟨[aJ 1 f.length 0 (bc f), .int .i64 0]⟩,[]))) (aC P au 1 71 (bI C4 (.leaf (.int .i64 r,aN d2))) (aC P au 0 56 (bI C5 (.leaf (cmV c,[]))) (jh P 129 (Iz K L) ctF))))))
theorem YE(K:Nat->Nat->Nat->List Value->Bool)(L:List Value->Int)(C0 C1 C2 C3 C4 C5:List Value->List Blk->Bool)(e:Int)(x f:List UInt8)(r:Int)(d d2:DkM)(cs:List CmM)(es:List Int)(c:CmM):bM P E (ad7 K L C0 C1 C2 C3 C4 C5 e x f r d2 ⟨okD d,false,cs,es⟩ c) 50 au [] [] 2 73 [p0,cmV c] (cZ ⟨okD d,false,cs,es⟩) =
 (let z0:=Value.int .i64 c.e;let y0:=Value.int .i64 c.n;let x0:=fa_ c.ops.length 0 (Enc.all EOp c.ops);let w0:=[z0,y0,x0];let v0:=Value.agg ⟨w0⟩;let u0:=WalM.mk (okD d) false cs es;let t0:=u0.cs.length;let s0:=Enc.all ECm u0.cs;let r0:=u0.es.length;let q0:=Enc.all EIn u0.es;let o0:=u0.dk;let n0:=o0.d0.length;
 let m0:=bc o0.d0;let l0:=o0.d1.length;let k0:=bc o0.d1;let j0:=o0.d2.length;let i0:=bc o0.d2;let h0:=o0.d3.length;let g0:=bc o0.d3;let f0:=o0.pend.length;let e0:=Enc.all ESt o0.pend;let d0:=pt_ 1;let c0:=Value.bool u0.br;let b0:=Blk.cells [d0,c0,sl_ 7 t0,sl_ 8 r0] 182 true;let a0:=aH 0 [0,1,21,22,23,24,25,19,20];
 let Z0:=bZ v0 v0;let Y0:=bC [0,1] 26;let X0:=af true Y0 m0;let W0:=af true Y0 k0;let V0:=af true Y0 i0;let U0:=af true Y0 g0;let T0:=af true Y0 e0;let S0:=Value.int .i64 0;let R0:=aH 0 [1,33,34,35,36,37];let Q0:=neI r 0;let P0:=af true Y0 s0;let O0:=af true Y0 q0;
 let N0:=d2.d0.length;let M0:=bC [1] 38;let L0:=af true M0 (bc d2.d0);let K0:=d2.d1.length;let J0:=af true M0 (bc d2.d1);let I0:=d2.d2.length;let H0:=af true M0 (bc d2.d2);let G0:=d2.d3.length;let F0:=af true M0 (bc d2.d3);let E0:=d2.pend.length;let D0:=af true M0 (Enc.all ESt d2.pend);
 let B0:=Value.int .i64 r;let A0:=Value.bool true;let z1:=dk_ d2 2 3 4 5 6;let y1:=aH 0 [0,1,45,46,47,48,49,43,44];let x1:=lb_ y1 N0 1 L0 5;let w1:=lb_ y1 K0 1 J0 5;let v1:=lb_ y1 I0 1 H0 5;let u1:=lb_ y1 G0 1 F0 5;let t1:=lb_ y1 E0 4 D0 132;let s1:=lb_ y1 t0 3 P0 35;let r1:=lb_ y1 r0 1 O0 3;
 let q1:=C5 [v0] [];let p1:=Nat.add t0 1;let o1:=Nat.ble p1 4194304;let n1:=Nat.beq (Nat.add 0 (Nat.mul t0 3)) P0.length;let m1:=sl_ 31 t0;let l1:=bZ m1 m1;let k1:=Nat.mul r0 1;let j1:=Nat.add 0 k1;let i1:=Bool.and (Nat.ble j1 O0.length) (Nat.ble 1 1);let h1:=takeC k1 (aU 0 O0);let g1:=K 18446744073709551617 r0 0 h1;
 let f1:=Nat.add r0 1;let e1:=Nat.ble f1 4194304;let d1:=Nat.beq j1 O0.length;let c1:=sl_ 32 r0;let b1:=bZ c1 c1;let a1:=ak f.length;let Z1:=Value.int .i64 a1;let Y1:=bZ Z1 Z1;let X1:=List.append (jC 0 P0) w0;let W1:=List.append (jC 0 O0) [.int .i64 (dI .i64 (L h1) a1)];let V1:=aH 0 [0,1,77,78,79,80,81,75,76];
 let U1:=lb_ V1 N0 1 L0 5;let T1:=lb_ V1 K0 1 J0 5;let S1:=lb_ V1 I0 1 H0 5;let R1:=lb_ V1 G0 1 F0 5;let Q1:=lb_ V1 E0 4 D0 132;let P1:=lb_ V1 p1 3 X1 35;let O1:=lb_ V1 f1 1 W1 3;
 (ae (C1 [v0] []) (nb_ t0 3 s0 (nb_ r0 1 q0 (nb_ n0 1 m0 (nb_ l0 1 k0 (nb_ j0 1 i0 (nb_ h0 1 g0 (nb_ f0 4 e0 (ae (C0 [pt_ 0] [b0,dk_ o0 2 3 4 5 6,lb_ a0 n0 1 m0 5,lb_ a0 l0 1 k0 5,lb_ a0 j0 1 i0 5,lb_ a0 h0 1 g0 5,lb_ a0 f0 4 e0 132,lb_ a0 t0 3 s0 35,lb_ a0 r0 1 q0 3]) (ae (C2 [.int .i64 e, .int .i64 (ak t0), .iface 18446744073709551619 (.agg ⟨[.slice none 1 0,z0,y0,x0]⟩)] []) (ae Z0 (ae Z0 (ae (C3 [.iface 18446744073709551617 (.agg ⟨[.slice none 0 0]⟩),fb_ x.length 0 (bc x)] []) (nb_ n0 1 X0 (nb_ l0 1 W0 (nb_ j0 1 V0 (nb_ h0 1 U0 (nb_ f0 4 T0 (ae (C4 [pt_ 0,S0,fb_ f.length 0 (bc f)] [dk_ o0 1 2 3 4 5,lb_ R0 n0 1 X0 5,lb_ R0 l0 1 W0 5,lb_ R0 j0 1 V0 5,lb_ R0 h0 1 U0 5,lb_ R0 f0 4 T0 132]) (aj Q0 (aj Q0 (nb_ t0 3 P0 (nb_ r0 1 O0 (nb_ N0 1 L0 (nb_ K0 1 J0 (nb_ I0 1 H0 (nb_ G0 1 F0 (nb_ E0 4 D0 (some (B0,ag [.cells [d0,A0,sl_ 7 t0,sl_ 8 r0] 182 true,z1,x1,w1,v1,u1,t1,s1,r1]))))))))) (ae q1 (ae o1 (ae n1 (ae l1 (ae i1 (ae (gX h1) (ae g1 (ae e1 (ae d1 (ae b1 (ae Y1 (nb_ p1 3 X1 (nb_ f1 1 W1 (nb_ N0 1 L0 (nb_ K0 1 J0 (nb_ I0 1 H0 (nb_ G0 1 F0 (nb_ E0 4 D0 (some (S0,ag [.cells [d0,A0,sl_ 7 p1,sl_ 8 f1] 182 true,z1,U1,T1,S1,R1,Q1,P1,O1]))))))))))))))))))))) (aj Q0 (nb_ t0 3 P0 (nb_ r0 1 O0 (nb_ N0 1 L0 (nb_ K0 1 J0 (nb_ I0 1 H0 (nb_ G0 1 F0 (nb_ E0 4 D0 (some (B0,ag [b0,z1,x1,w1,v1,u1,t1,s1,r1]))))))))) (ae q1 (ae o1 (ae n1 (ae l1 (ae i1 (ae (gX h1) (ae g1 (ae e1 (ae d1 (ae b1 (ae Y1 (nb_ p1 3 X1 (nb_ f1 1 W1 (nb_ N0 1 L0 (nb_ K0 1 J0 (nb_ I0 1 H0 (nb_ G0 1 F0 (nb_ E0 4 D0 (some (S0,ag [.cells [d0,c0,sl_ 7 p1,sl_ 8 f1] 182 true,z1,U1,T1,S1,R1,Q1,P1,O1])))))))))))))))))))))))))))))))))))))))))):=by kernel_rfl
theorem aal{w:WalM}(hl:w.cs.length<4194304):CRX P 2 127 [p0] (cZ w) (.int .i64 (dL w.cs)) (cZ w):=by
 refine CRX.of (pol:=au) (fl:=[]) (ts:=[]) (n:=50) (bf _) aA aW ((Zt w).trans ?_);have nt:=fun(l:List CmM) (i:Nat) (h:i<l.length)=>k_ h;by_cases h0:w.cs=[]
 ·have e0:w.cs.length=0:=by rw[h0]; rfl
  have g0:eqI (ak w.cs.length) 0=true:=by unfold eqI ak; exact decide_eq_true (by omega)
  have g6:dL w.cs=0:=by rw[h0]; rfl
  simp only[dk_,lb_,nb_,pt_,sl_,g0,dw,dC,dB,dQ,aB rfl,aK rfl,aP rfl,Enc.all_ren,aQ,bH,bz,bu,bg,ax,aX,bD,Int.toNat_natCast,aY,aO,bF,bU,dH,bP,bW,dK,Bool.and_self,aG,aF,ay];rw[g6]; rfl
 ·have hp:=List.length_pos_iff.2 h0;have g0:eqI (ak w.cs.length) 0=false:=by unfold eqI ak; exact decide_eq_false (by omega)
  have g1:eU .i64 (ak w.cs.length) 1=((w.cs.length-1:Nat):Int):=by unfold eU ak; rw[wrap64 (by omega) (by omega)]; omega
  have g2:inI ((w.cs.length-1:Nat):Int) w.cs.length=true:=jF (by omega) (by omega);have g4:=k_ (l:=w.cs) (i:=w.cs.length-1) (by omega);have g5:Nat.ble (Nat.add (atN ((w.cs.length-1:Nat):Int) 3) 1) (Nat.mul w.cs.length 3)=true:=Nat.ble_eq_true_of_le (by
   show((w.cs.length-1:Nat):Int).toNat*3+1<=w.cs.length*3
   omega)
  have g6:dL w.cs=(w.cs[w.cs.length-1]'(by omega)).e:=by unfold dL; rw[last_at w.cs h0]; rfl
  have g7:∀ x:Int,ig (.int .i64) (.int .i64 x)=true:=fun _=>rfl;have aI:∀ k b,asI (.int k b)=b:=fun _ _=>rfl;simp only[dk_,lb_,nb_,pt_,sl_,g0,g1,g2,g4,g5,g7,aI,dw,dC,dB,dQ,aB rfl,aK rfl,aP rfl,Enc.all_ren,aQ,bH,bz,bu,bg,ax,aX,bD,Int.toNat_natCast,aY,aO,bF,bU,dH,bP,bW,dK,Bool.and_self,aG,aF,ay];rw[g6]; rfl
def Ku(w:WalM)(c:CmM):Int×WalM:=match eqI (writeM ⟨w.dk,0,frM (gp c)⟩).1 0 with
 |true=>(0,⟨(writeM ⟨w.dk,0,frM (gp c)⟩).2,w.br,w.cs++[c],w.es++[mG w.es+((frM (gp c)).length:Int)]⟩)
 |false=>((writeM ⟨w.dk,0,frM (gp c)⟩).1,⟨(writeM ⟨w.dk,0,frM (gp c)⟩).2,true,w.cs,w.es⟩)
theorem yh{c:CmM}(h:cmE c=0):(gp c).length<=1024:=by
 obtain⟨_,_,hb⟩:=jf.1 h;obtain⟨b1,b2,b3⟩:=gq.1 hb;have d1:=eY (n:=c.e.toNat);have d2:=eY (n:=c.n.toNat);have d3:=eY (n:=c.ops.length);have d4:=vW c.ops [] b3;unfold gp lV;simp only[List.length_append];omega
theorem di(n b:Nat)(c:List Value):aJ 1 n b c = .iface 18446744073709551617 (.agg ⟨.slice none n b::c⟩):=by unfold aJ; rw[fzU]
theorem bG(n b:Nat)(c:List Value):aJ 3 n b c = .iface 18446744073709551619 (.agg ⟨.slice none n b::c⟩):=by unfold aJ; rw[um]
theorem az(a:List Value)(b:List Blk):aV a b a b=true:=Hg rfl rfl
theorem dG(a b:Int)(t n k:Nat)(l:List OpM):bZ (.agg ⟨[.int .i64 a, .int .i64 b, .iface t (.agg ⟨.slice none n k::EOp.all l⟩)]⟩) (.agg ⟨[.int .i64 a, .int .i64 b, .iface t (.agg ⟨.slice none n k::EOp.all l⟩)]⟩)=true:=by simp[bZ,uA,iR,GH]
theorem Bj(c:CmM):ECm.all [c]=[.int .i64 c.e, .int .i64 c.n,aJ 3 c.ops.length 0 (EOp.all c.ops)]:=by rw[ECm.all_one]; rfl
theorem aaF(n:Int):EIn.all [n]=[.int .i64 n]:=by rw[EIn.all_one]; rfl
theorem D6{d:DkM}(h:d.off=false):okD d=d:=by cases d; simp only at h; subst h; rfl
theorem KR{l:List CmM}{n:Nat}(h:n=l.length):gV P 0 n 18446744073709551616 (ECm.all l) 35=true:=by
 subst h;have he:esz P 35=3:=by kernel_rfl
 unfold gV;rw[he,ECm.all_nr,ECm.all_length];have h2:Nat.ble (Nat.add 0 (Nat.mul l.length 3)) (l.length*ECm.sz)=true:=Nat.ble_eq_true_of_le (by show 0+l.length*3<=l.length*3; omega);rw[h2]; rfl
theorem JP(l:List Int):gX (EIn.all l)=true:=by
 induction l with
 |nil=>rfl
 |cons n l ih=>rw[EIn.all_cons]; exact ih
theorem Oa{l:List Int}(h:l.length<=4194304):tC 18446744073709551617 l.length 0 (EIn.all l)=true:=by
 unfold tC;rw[<-fz1];exact EIn.fz_all h rfl rfl
theorem NU(l:List Int):zL (EIn.all l)=mG l:=by unfold zL; rw[EIn.dec_all]
theorem wE(l:List CmM)(c:CmM):List.append (ECm.all l) [.int .i64 c.e, .int .i64 c.n, .iface 18446744073709551619 (.agg ⟨.slice none c.ops.length 0::EOp.all c.ops⟩)]=ECm.all (l++[c]):=by
 rw[ECm.all_append,Bj,bG]; rfl
theorem ads(l:List Int)(n:Int):List.append (EIn.all l) [.int .i64 n]=EIn.all (l++[n]):=by rw[EIn.all_append,aaF]; rfl
theorem aay{w:WalM}{c:CmM}(hoff:w.dk.off=false)(hbr:w.br=false)(hc:cmE c=0)(hf:fD (dL w.cs) (w.cs.length:Int) 0 [c]=(0,0))(hd:oO w.dk 20)(hn:w.cs.length<4194300)(hm:w.es.length<4194300)(he:0<=mG w.es/\mG w.es<4611686018427387904) :
  CRX P 2 73 [p0,cmV c] (cZ w) (.int .i64 (Ku w c).1) (cZ (Ku w c).2):=by
 obtain⟨dk,br,cs,es⟩:=w;simp only at hoff hbr hf hd hn hm he;subst hbr;obtain⟨_,_,hb⟩:=jf.1 hc;obtain⟨b1,b2,b3⟩:=gq.1 hb;have hl:=yh hc;have hfl:(frM (gp c)).length<=1035:=by unfold frM; rw[List.length_append]; have:=eY (n:=(gp c).length); omega
 have q0:=aal (w:=⟨dk,false,cs,es⟩) (by show cs.length<_; omega);have q1:=Nb hc;have q2:=mX (e:=dL cs) (n:=(cs.length:Int)) (l:=[c]) (by show 1<4194304; decide) (by intro x hx; obtain rfl:=List.mem_singleton.1 hx; omega);have q3:=Fg (r:=gp c) (by omega);have q4:=Jg.at (s:=⟨dk,0,frM (gp c)⟩) ⟨by show(frM (gp c)).length<=_; omega,by
  show oO dk (nG (frM (gp c)).length);have:nG (frM (gp c)).length<=20:=by unfold nG; omega
  exact⟨hd.1,by have:=hd.2.1; omega,hd.2.2.1,hd.2.2.2.1,by have:=hd.2.2.2.2; omega⟩⟩ rfl
 have q5:=uK (c:=c) b1 (by omega);rw[hf]at q2;have q:=YE tC zL (aV [p0] (cZ ⟨dk,false,cs,es⟩)) (aV [cmV c] []) (aV [.int .i64 (dL cs), .int .i64 (cs.length:Int),fzCms [c]] []) (aV [aJ 1 0 0 [],aJ 1 (gp c).length 0 (bc (gp c))] []) (aV [p0, .int .i64 0,aJ 1 (frM (gp c)).length 0 (bc (frM (gp c)))] (aN dk)) (aV [cmV c] [])
  (dL cs) (gp c) (frM (gp c)) (writeM ⟨dk,0,frM (gp c)⟩).1 dk (writeM ⟨dk,0,frM (gp c)⟩).2 cs es c
 rw[D6 hoff]at q;refine CRX.of (pol:=au) (fl:=[]) (ts:=[]) (n:=50) (bf _) aA (ah (pol:=au) (ah (pol:=au) (ah (pol:=au) (ah (pol:=au) (ah (pol:=au) (ah (pol:=au) (iG aW Us) (aZ q5)) (aZ q4)) (aZ q3)) (aZ q2)) (aZ q1)) (aZ q0)) (q.trans ?_);clear q q0 q1 q2 q3 q4 q5;unfold Ku;simp only;generalize writeM ⟨dk,0,frM (gp c)⟩=W;obtain⟨r,d2⟩:=W;have hcn:(ak cs.length:Int)=(cs.length:Int):=rfl;have ha:dI .i64 (mG es) (ak (frM (gp c)).length)=mG es+((frM (gp c)).length:Int):=by unfold dI ak; rw[wrap64 (by omega) (by omega)]
 have h1:(cs++[c]).length=Nat.add cs.length 1:=by simp
 have h2:∀ x:Int,(es++[x]).length=Nat.add es.length 1:=fun x=>by simp
 have hk:=Oa (l:=es) (by omega);simp (disch:=first | omega | (simp only[List.length_append,List.length_drop,List.length_take,List.length_singleton,Nat.add_eq,bJ]<;>omega) | fail) only[dk_,fa_,fb_,lb_,nb_,pt_,sl_,hcn,Bj,hoff,wE,ads,JP,hk,NU,ha,cZ,dP,lsV,ptV,p0,aN,dkC,bn,fzCms,cmV,di,bG,az,dG,dn,dR,dE,dF,dD,dw,dC,dB,dQ,dA,aB,aK,aP,Enc.all_ren,aQ,bH,bz,bu,bg,ax,aX,bD,Int.toNat_natCast,aY,aO,bF,bU,dH,bP,bW,dK,Bool.and_self,aG,aF,ay,List.length_singleton,aB h1.symm,aK (h2 _).symm,h1,h2];cases hr:eqI r 0 with
 |true=>
  have hn:neI r 0=false:=by unfold neI; unfold eqI at hr; simpa using hr
  simp only[dk_,fa_,fb_,lb_,nb_,pt_,sl_,hn,aF,cZ,dP,lsV,ptV,p0,aN,dkC,bn,fzCms,cmV,di,bG,az,dG,dn,dR,dE,dF,dD,dw,dC,dB,dQ,dA,aB,aK,aP,Enc.all_ren,h1,h2]
 |false=>
  have hn:neI r 0=true:=by unfold neI; unfold eqI at hr; simpa using hr
  simp only[dk_,fa_,fb_,lb_,nb_,pt_,sl_,hn,aG,cZ,dP,lsV,ptV,p0,aN,dkC,bn,fzCms,cmV,di,bG,az,dG,dn,dR,dE,dF,dD,dw,dC,dB,dQ,dA,aB,aK,aP,Enc.all_ren]
def Xt(e:MapEntry):Bool:=match e.key with | .string _=>true | _=>false
def Ru(es:List MapEntry):Bool:=es.all Xt
theorem Jo{k:ByteArray}:∀ {es:List MapEntry} (i:Nat),Ru es=true->∃ r,Instr.findNow .string (.string k) es i=some r
 |[],i,_=>⟨none,rfl⟩
 |e::es,i,h=>by
  simp only[Ru,List.all_cons,Bool.and_eq_true]at h;obtain⟨h1,h2⟩:=h;unfold Xt at h1;split at h1
  ·rename_i s hs;obtain⟨r,hr⟩:=Jo (k:=k) (es:=es) (i+1) h2;have hq:∃ b,Instr.sameNow .string (.string k) e.key=some b:=by rw[hs]; exact⟨_,rfl⟩
   obtain⟨b,hb⟩:=hq;cases b with
   |true=>exact⟨some (i,e.val),by simp only[Instr.findNow,hb]⟩
   |false=>exact⟨r,by simp only[Instr.findNow,hb]; exact hr⟩
  ·cases h1
theorem Vg{es:List MapEntry}(h:Ru es=true)(k:ByteArray):EP es k=true:=by
 obtain⟨r,hr⟩:=Jo (k:=k) 0 h;unfold EP;rw[hr]; rfl
structure TbM where
 es:List MapEntry
 ck:Nat
def tbV(o:OpM):Value:= .agg ⟨[.string o.v, .bool o.p]⟩
def tb1(t:TbM)(o:OpM):TbM:=⟨(CQ t.es t.ck o.k (tbV o)).1,(CQ t.es t.ck o.k (tbV o)).2⟩
def tbM(t:TbM)(l:List OpM):TbM:=l.foldl tb1 t
def tbB(t:TbM):List Blk:=[.cells [.map (some 1)] 141 true, .map t.es t.ck]
def Dt1:HeadX:=⟨2,39,[0,1,4,11,12,13],[.val, .val, .val, .val, .val, .val],[],au⟩
def Bt1:Code:=(dZ P 39 0).getD .skip
theorem RF:dZ P 39 0=some Bt1:=by kernel_rfl
theorem Za:Occ P 39 (.block 0 (.loop Bt1)):=fM RF
def Dt2:HeadX:=⟨2,39,[0,4,21,22,23],[.val, .val, .val, .val, .val],[],au⟩
def Bt2:Code:=(dZ P 39 2).getD .skip
theorem Tc:dZ P 39 2=some Bt2:=by kernel_rfl
theorem abq:Occ P 39 (.block 2 (.loop Bt2)):=fM Tc
theorem Tm(O:Bool->ByteArray->ByteArray->Bool)(t:TbM)(r z i:Int)(n b n' b':Nat)(c c':List Value):bV P E (VW O) 50 39 Bt1 Dt1 [p0,aJ 3 n' b' c', .int .i64 r,aJ 3 n b c, .int .i64 z, .int .i64 i] (tbB t) =
 (let z0:=atN i 3;let y0:=Nat.add z0 1;let x0:=pt_ 0;let w0:=fa_ n' b' c';let v0:=Value.int .i64 r;let u0:=fa_ n b c;let t0:=Value.int .i64 z;let s0:=ag [.cells [.map (some 1)] 141 true, .map (eP true (aH 0 [0,1]) t.es) t.ck];let r0:=Value.int .i64 i;
 (aj (ltI i z) (ae (Bool.and (Nat.beq 3 3) (inI i n)) (ae (Bool.and (Nat.ble (Nat.add z0 3) c.length) (jw [.bool, .string, .string] c z0)) (aj (O (asB (bT c z0)) (asS (bT c y0)) (asS (bT c (Nat.add y0 1)))) (some (.tuple ⟨[.int .i64 0,x0,w0,v0,u0,t0, .int .i64 (dI .i64 i 1)]⟩,s0)) (some (.tuple ⟨[.int .i64 (-1),x0,w0, .int .i64 2,u0,t0,r0]⟩,s0))))) (some (.tuple ⟨[.int .i64 1,x0,w0,v0,u0,t0,r0]⟩,s0)))):=by kernel_rfl
theorem SQ(t:TbM)(r z i:Int)(n b:Nat)(c:List Value):bV P E ctF 50 39 Bt2 Dt2 [p0, .int .i64 r,aJ 3 n b c, .int .i64 z, .int .i64 i] (tbB t) =
 (let z0:=atN i 3;let y0:=Nat.add z0 1;let x0:=asS (bT c y0);let w0:=Value.int .i64 r;let v0:=fa_ n b c;let u0:=Value.int .i64 z;let t0:=Blk.cells [.map (some 1)] 141 true;let s0:=aH 0 [0,1];let r0:=CQ t.es t.ck x0 (.agg ⟨[.string (asS (bT c (Nat.add y0 1))), .bool (asB (bT c z0))]⟩);
 (aj (ltI i z) (ae (Bool.and (Nat.beq 3 3) (inI i n)) (ae (Bool.and (Nat.ble (Nat.add z0 3) c.length) (jw [.bool, .string, .string] c z0)) (ae (EP t.es x0) (some (.tuple ⟨[.int .i64 0,pt_ 0,w0,v0,u0, .int .i64 (dI .i64 i 1)]⟩,ag [t0, .map (eP true s0 (Prod.fst r0)) (Prod.snd r0)]))))) (some (.tuple ⟨[.int .i64 3,pt_ 0,w0,v0,u0, .int .i64 i]⟩,ag [t0, .map (eP true s0 t.es) t.ck])))):=by kernel_rfl
def adT(C1 C2:List Value->List Blk->Bool)(t:TbM)(l:List OpM):Ct:=fP P 39 0 Dt1 (jd C1 (.leaf (.normal,[p0,bn l, .int .i64 0,bn l, .int .i64 (ak l.length), .int .i64 (l.length:Int)],tbB t)))
 (fP P 39 2 Dt2 (jd C2 (.leaf (.normal,[p0, .int .i64 0,bn l, .int .i64 (ak l.length), .int .i64 (l.length:Int)],tbB (tbM t l)))) ctF)
theorem acR(C1 C2:List Value->List Blk->Bool)(t:TbM)(l:List OpM):bM P E (adT C1 C2 t l) 50 au [] [] 2 39 [p0,bn l] (tbB t) =
 (let z0:=fa_ l.length 0 (Enc.all EOp l);let y0:=Value.int .i64 0;let x0:=Value.int .i64 (ak l.length);let w0:=Blk.cells [.map (some 1)] 141 true;let v0:=aH 0 [0,1];let u0:=bC [0,1] 2;
 (ae (C1 [pt_ 0,z0,y0,z0,x0,y0] [w0, .map (eP true v0 t.es) t.ck]) (ae (C2 [pt_ 0,y0,z0,x0,y0] [w0, .map (eP true v0 (eP true u0 t.es)) t.ck]) (some (y0,ag [w0, .map (eP true v0 (eP true u0 (TbM.es (tbM t l)))) (TbM.ck (tbM t l))]))))):=by kernel_rfl
def tbE(e:MapEntry):Prop:=∃ k v b,e.key = .string k/\e.val = .agg ⟨[.string v, .bool b]⟩
def gZ(t:TbM):Prop:=∀ e∈t.es,tbE e
theorem gZ.str{t:TbM}(h:gZ t):Ru t.es=true:=List.all_eq_true.2 fun e he=>by
 obtain⟨k,v,b,h1,_⟩:=h e he;unfold Xt; rw[h1]
theorem gZ.ren{t:TbM}(h:gZ t)(ρ:Nat->Option Nat):eP true ρ t.es=t.es:=by
 obtain⟨es,ck⟩:=t;unfold gZ at h;simp only at h ⊢
 induction es with
 |nil=>rfl
 |cons e es ih=>
  obtain⟨k,v,b,h1,h2⟩:=h e (List.mem_cons_self ..);obtain⟨ek,ev,eb⟩:=e;simp only at h1 h2;subst h1 h2;have:=ih fun e he=>h e (List.mem_cons_of_mem _ he);simp[eP,fE,x8,af,this]
theorem gZ.put{t:TbM}(h:gZ t)(o:OpM):gZ (tb1 t o):=by
 unfold tb1 gZ CQ;simp only;split
 ·unfold pU;simp only[if_true];intro e he;obtain⟨j,hj,rfl⟩:=List.mem_iff_getElem.1 he;rw[List.getElem_modify];split
  ·exact⟨_,_,_,rfl,rfl⟩
  ·exact h _ (List.getElem_mem _)
 ·unfold pU;simp only[Bool.false_eq_true,if_false];intro e he;rcases List.mem_append.1 he with he | he
  ·exact h e he
  ·obtain rfl:=List.mem_singleton.1 he;exact⟨_,_,_,rfl,rfl⟩
theorem gZ.all{t:TbM}(h:gZ t)(l:List OpM):gZ (tbM t l):=by
 induction l generalizing t with
 |nil=>exact h
 |cons o l ih=>exact ih (h.put o)
theorem V7{t:TbM}(ht:gZ t){l:List OpM}{i:Nat}(hi:i<l.length)(hl:l.length<=8)(ho:okO l[i]=true)(l':List OpM):bV P E ctB 50 39 Bt1 Dt1 [p0,bn l', .int .i64 0,bn l, .int .i64 (ak l.length), .int .i64 (i:Int)] (tbB t)=some (.tuple ⟨exV .normal::[p0,bn l', .int .i64 0,bn l, .int .i64 (ak l.length), .int .i64 ((i+1:Nat):Int)]⟩,ag (tbB t)):=by
 unfold ctB bn;rw[Tm];have n3:∀ l:List OpM,(EOp.all l).length=Nat.mul l.length 3:=fun l=>EOp.all_length l;have g1:ltI (i:Int) (ak l.length)=true:=by unfold ltI ak; exact decide_eq_true (by omega)
 have g2:inI (i:Int) l.length=true:=by unfold inI; exact decide_eq_true (by omega)
 have g3:Nat.ble (Nat.add (atN (i:Int) 3) 3) (Nat.mul l.length 3)=true:=Nat.ble_eq_true_of_le (by
  show(i:Int).toNat*3+3<=l.length*3;have:(i:Int).toNat=i:=by omega
  omega)
 have g4:=wV hi;have a1:dI .i64 (i:Int) 1=((i+1:Nat):Int):=by unfold dI; rw[wrap64 (by omega) (by omega)]; omega
 have ab:∀ b,asB (.bool b)=b:=fun _=>rfl;have aS:∀ b,asS (.string b)=b:=fun _=>rfl;have ho':uY l[i].p l[i].k l[i].v=true:=ho;simp only[fa_,pt_,n3,g1,g2,g3,g4,FU hi,Fv hi,F_ hi,ab,aS,a1,ho',ht.ren,dA,bG,aQ,bH,bz,bu,bg,ax,aX,bD,Int.toNat_natCast,aY,aO,bF,bU,dH,bP,bW,dK,Bool.and_self,aG,aF,ay]
 rfl
theorem acY{t:TbM}(ht:gZ t){l l':List OpM}:bV P E ctB 50 39 Bt1 Dt1 [p0,bn l', .int .i64 0,bn l, .int .i64 (ak l.length), .int .i64 (l.length:Int)] (tbB t)=some (.tuple ⟨exV (.exit 0)::[p0,bn l', .int .i64 0,bn l, .int .i64 (ak l.length), .int .i64 (l.length:Int)]⟩,ag (tbB t)):=by
 unfold ctB bn;rw[Tm];have g1:ltI (l.length:Int) (ak l.length)=false:=by unfold ltI ak; exact decide_eq_false (by omega)
 simp only[fa_,pt_,g1,ht.ren,bG,aQ,bH,bz,bu,bg,ax,aX,bD,Int.toNat_natCast,aY,aO,bF,bU,dH,bP,bW,dK,Bool.and_self,aG,aF,ay]
 rfl
theorem XD{t:TbM}(ht:gZ t){l:List OpM}{i:Nat}(hi:i<l.length)(hl:l.length<=8):bV P E ctF 50 39 Bt2 Dt2 [p0, .int .i64 0,bn l, .int .i64 (ak l.length), .int .i64 (i:Int)] (tbB t)=some (.tuple ⟨exV .normal::[p0, .int .i64 0,bn l, .int .i64 (ak l.length), .int .i64 ((i+1:Nat):Int)]⟩,ag (tbB (tb1 t l[i]))):=by
 unfold bn;rw[SQ];have n3:∀ l:List OpM,(EOp.all l).length=Nat.mul l.length 3:=fun l=>EOp.all_length l;have g1:ltI (i:Int) (ak l.length)=true:=by unfold ltI ak; exact decide_eq_true (by omega)
 have g2:inI (i:Int) l.length=true:=by unfold inI; exact decide_eq_true (by omega)
 have g3:Nat.ble (Nat.add (atN (i:Int) 3) 3) (Nat.mul l.length 3)=true:=Nat.ble_eq_true_of_le (by
  show(i:Int).toNat*3+3<=l.length*3;have:(i:Int).toNat=i:=by omega
  omega)
 have g4:=wV hi;have a1:dI .i64 (i:Int) 1=((i+1:Nat):Int):=by unfold dI; rw[wrap64 (by omega) (by omega)]; omega
 have ab:∀ b,asB (.bool b)=b:=fun _=>rfl;have aS:∀ b,asS (.string b)=b:=fun _=>rfl;have hr:=(ht.put l[i]).ren;unfold tb1 tbV at hr;simp only at hr;simp only[fa_,pt_,n3,g1,g2,g3,g4,FU hi,Fv hi,F_ hi,ab,aS,a1,Vg ht.str,hr,dA,bG,aQ,bH,bz,bu,bg,ax,aX,bD,Int.toNat_natCast,aY,aO,bF,bU,dH,bP,bW,dK,Bool.and_self,aG,aF,ay]
 rfl
theorem abR{t:TbM}(ht:gZ t){l:List OpM}:bV P E ctF 50 39 Bt2 Dt2 [p0, .int .i64 0,bn l, .int .i64 (ak l.length), .int .i64 (l.length:Int)] (tbB t)=some (.tuple ⟨exV (.exit 2)::[p0, .int .i64 0,bn l, .int .i64 (ak l.length), .int .i64 (l.length:Int)]⟩,ag (tbB t)):=by
 unfold bn;rw[SQ];have g1:ltI (l.length:Int) (ak l.length)=false:=by unfold ltI ak; exact decide_eq_false (by omega)
 simp only[fa_,pt_,g1,ht.ren,bG,aQ,bH,bz,bu,bg,ax,aX,bD,Int.toNat_natCast,aY,aO,bF,bU,dH,bP,bW,dK,Bool.and_self,aG,aF,ay]
 rfl
theorem WN(t:TbM)(l:List OpM)(o:OpM):tbM t (l++[o])=tb1 (tbM t l) o:=by unfold tbM; rw[List.foldl_append]; rfl
theorem SH{t:TbM}(ht:gZ t){l:List OpM}(h:mZ l=0):CRX P 2 39 [p0,bn l] (tbB t) (.int .i64 0) (tbB (tbM t l)):=by
 obtain⟨b1,b2,b3⟩:=gq.1 h;have q1:=LRX.rounds (n:=50) (bf _) aA EL Za (vs:=fun i=>[p0,bn l, .int .i64 0,bn l, .int .i64 (ak l.length), .int .i64 (i:Int)]) (bs:=fun _=>tbB t) (e:= .exit 0) l.length (fun i hi=>V7 ht hi b2 (List.all_eq_true.1 b3 _ (List.getElem_mem hi)) l) (acY ht) (by intro h; cases h);have q2:=LRX.rounds (n:=50) (bf _) aA aW abq (vs:=fun i=>[p0, .int .i64 0,bn l, .int .i64 (ak l.length), .int .i64 (i:Int)]) (bs:=fun i=>tbB (tbM t (l.take i))) (e:= .exit 2) l.length (fun i hi=>by
  have e:l.take (i+1)=l.take i++[l[i]]:=by rw[List.take_succ_eq_append_getElem hi]
  rw[e,WN]
  exact XD (ht.all _) hi b2) (abR (ht.all _)) (by intro h; cases h)
 simp only[fa_,pt_,List.take_length]at q2;refine CRX.of (pol:=au) (fl:=[]) (ts:=[]) (n:=50) (bf _) aA (eu (eu aW (fU (d_ Tc) q2)) (fU (d_ RF) q1)) ((acR (aV _ _) (aV _ _) t l).trans ?_);have hr:=(ht.all l).ren;simp only[fa_,pt_,ht.ren,hr,bn,bG,p0,tbB,List.take_zero,az,aQ,bH,bz,bu,bg,ax,aX,bD,Int.toNat_natCast,aY,aO,bF,bU,dH,bP,bW,dK,Bool.and_self,aG,aF,ay];exact oh rfl rfl (oh rfl rfl rfl)
def h_(l:List RunM):Int:=(l.getLast?.map RunM.b).getD 0
structure RnM where
 dk:DkM
 br:Bool
 rs:List RunM
def rnB(r:RnM):List Blk:=[.cells [ptV 1, .bool r.br,lsV 7 r.rs.length] 173 true, .cells (dP 2 3 4 5 6 r.dk) 108 true]++dkL r.dk++[.cells (iC.all r.rs) 136 false]
theorem aT{l:List RunM}{n:Nat}(h:n=l.length):takeC (Nat.mul n 3) (aU 0 (iC.all l))=iC.all l:=by subst h; exact iC.all_self l
theorem dN(l:List RunM):(iC.all l).length=Nat.mul l.length 3:=iC.all_length l
theorem abb(r:RnM):bM P E ctF 50 au [] [] 2 65 [p0] (rnB r) =
 (let z0:=r.rs.length;let y0:=Enc.all iC r.rs;let x0:=r.dk;let w0:=x0.d0.length;let v0:=bc x0.d0;let u0:=x0.d1.length;let t0:=bc x0.d1;let s0:=x0.d2.length;let r0:=bc x0.d2;let q0:=x0.d3.length;let o0:=bc x0.d3;let n0:=x0.pend.length;let m0:=Enc.all ESt x0.pend;let l0:=Blk.cells [pt_ 1, .bool r.br,sl_ 7 z0] 173 true;
 let k0:=dk_ x0 2 3 4 5 6;let j0:=aH 0 [0,1,9,10,11,12,13,8];let i0:=eU .i64 (ak z0) 1;let h0:=Nat.add (Nat.add 0 (atN i0 3)) 1;let g0:=bT y0 h0;let f0:=aH 0 [0,1,23,24,25,26,27,22];
 (aj (eqI (ak z0) 0) (nb_ z0 3 y0 (nb_ w0 1 v0 (nb_ u0 1 t0 (nb_ s0 1 r0 (nb_ q0 1 o0 (nb_ n0 4 m0 (some (.int .i64 0,ag [l0,k0,lb_ j0 w0 1 v0 5,lb_ j0 u0 1 t0 5,lb_ j0 s0 1 r0 5,lb_ j0 q0 1 o0 5,lb_ j0 n0 4 m0 132,lb_ j0 z0 3 y0 136])))))))) (ae (inI i0 z0) (ae (Bool.and (Nat.ble (Nat.add h0 1) y0.length) (ig (.int .i64) g0)) (nb_ z0 3 y0 (nb_ w0 1 v0 (nb_ u0 1 t0 (nb_ s0 1 r0 (nb_ q0 1 o0 (nb_ n0 4 m0 (some (.int .i64 (asI g0),ag [l0,k0,lb_ f0 w0 1 v0 5,lb_ f0 u0 1 t0 5,lb_ f0 s0 1 r0 5,lb_ f0 q0 1 o0 5,lb_ f0 n0 4 m0 132,lb_ f0 z0 3 y0 136])))))))))))):=by kernel_rfl
structure SrM where
 tb:TbM
 rn:RnM
 rest:List CmM
def srB(s:SrM):List Blk:=[.cells [ptV 1,ptV 3,lsV 11 s.rest.length] 185 true, .cells [.map (some 2)] 141 true, .map s.tb.es s.tb.ck, .cells [ptV 4, .bool s.rn.br,lsV 10 s.rn.rs.length] 173 true, .cells (dP 5 6 7 8 9 s.rn.dk) 108 true]++dkL s.rn.dk++[.cells (iC.all s.rn.rs) 136 false, .cells (ECm.all s.rest) 35 false]
def ad5(C1 C2 C3 C4:List Value->List Blk->Bool)(e:Int)(rn:RnM)(tb:TbM)(c:CmM):Ct:=aC P au 0 50 (bI C1 (.leaf (.int .i64 0,[]))) (aC P au 2 65 (bI C2 (.leaf (.int .i64 e,rnB rn))) (aC P au 0 56 (bI C3 (.leaf (cmV c,[]))) (aC P au 2 39 (bI C4 (.leaf (.int .i64 0,tbB tb))) ctF)))
theorem acO(C1 C2 C3 C4:List Value->List Blk->Bool)(e:Int)(tb:TbM)(s:SrM)(c:CmM):bM P E (ad5 C1 C2 C3 C4 e s.rn tb c) 50 au [] [] 5 75 [p0,cmV c] (srB s) =
 (let z0:=Value.int .i64 c.n;let y0:=fa_ c.ops.length 0 (Enc.all EOp c.ops);let x0:=[Value.int .i64 c.e,z0,y0];let w0:=[Value.agg ⟨x0⟩];let v0:=s.rn.rs.length;let u0:=Enc.all iC s.rn.rs;let t0:=s.rn.dk;let s0:=t0.d0.length;let r0:=bc t0.d0;let q0:=t0.d1.length;let o0:=bc t0.d1;let n0:=t0.d2.length;
 let m0:=bc t0.d2;let l0:=t0.d3.length;let k0:=bc t0.d3;let j0:=t0.pend.length;let i0:=Enc.all ESt t0.pend;let h0:=pt_ 1;let g0:=Value.bool s.rn.br;let f0:=aH 0 [3,4,50,51,52,53,54,49];let e0:=s.rest.length;let d0:=sl_ 11 e0;let c0:=bZ d0 d0;let b0:=ak e0;let a0:=Value.int .i64 b0;
 let Z0:=bZ z0 z0;let Y0:=Enc.all ECm s.rest;let X0:=bC [3,4] 55;let W0:=af true X0 u0;let V0:=af true X0 r0;let U0:=af true X0 o0;let T0:=af true X0 m0;let S0:=af true X0 k0;let R0:=af true X0 i0;let Q0:=Blk.cells [.map (some 2)] 141 true;let P0:=aH 0 [0,1,2,3,4,63,64,65,66,67,62,61];
 let O0:=Blk.cells [pt_ 4,g0,sl_ 10 v0] 173 true;let N0:=dk_ t0 5 6 7 8 9;let M0:=nb_ e0 3 Y0 (nb_ v0 3 W0 (nb_ s0 1 V0 (nb_ q0 1 U0 (nb_ n0 1 T0 (nb_ l0 1 S0 (nb_ j0 4 R0 (some (.int .i64 15,ag [.cells [h0,pt_ 3,d0] 185 true,Q0, .map (eP true P0 s.tb.es) s.tb.ck,O0,N0,lb_ P0 s0 1 V0 5,lb_ P0 q0 1 U0 5,lb_ P0 n0 1 T0 5,lb_ P0 l0 1 S0 5,lb_ P0 j0 4 R0 132,lb_ P0 v0 3 W0 136,lb_ P0 e0 3 Y0 35]))))))));
 let L0:=eU .i64 b0 1;let K0:=Nat.add 0 (atN L0 3);let J0:=bT Y0 K0;let I0:=Nat.add e0 1;let H0:=List.append (jC 0 Y0) x0;let G0:=aH 0 [0,1,2,3,4,84,85,86,87,88,83,82];let F0:=ae (C3 w0 []) (ae (Nat.ble I0 4194304) (ae (Nat.beq (Nat.add 0 (Nat.mul e0 3)) Y0.length) (ae c0 (ae (C4 [pt_ 0,y0] [.cells [.map (some 1)] 141 true, .map (eP true (aH 0 [1,2]) s.tb.es) s.tb.ck]) (nb_ I0 3 H0 (nb_ v0 3 W0 (nb_ s0 1 V0 (nb_ q0 1 U0 (nb_ n0 1 T0 (nb_ l0 1 S0 (nb_ j0 4 R0 (some (.int .i64 0,ag [.cells [h0,pt_ 3,sl_ 11 I0] 185 true,Q0, .map (eP true G0 (eP true (bC [1,2] 82) tb.es)) tb.ck,O0,N0,lb_ G0 s0 1 V0 5,lb_ G0 q0 1 U0 5,lb_ G0 n0 1 T0 5,lb_ G0 l0 1 S0 5,lb_ G0 j0 4 R0 132,lb_ G0 v0 3 W0 136,lb_ G0 I0 3 H0 35])))))))))))));
 (ae (C1 w0 []) (nb_ v0 3 u0 (nb_ s0 1 r0 (nb_ q0 1 o0 (nb_ n0 1 m0 (nb_ l0 1 k0 (nb_ j0 4 i0 (ae (C2 [pt_ 0] [.cells [h0,g0,sl_ 7 v0] 173 true,dk_ t0 2 3 4 5 6,lb_ f0 s0 1 r0 5,lb_ f0 q0 1 o0 5,lb_ f0 n0 1 m0 5,lb_ f0 l0 1 k0 5,lb_ f0 j0 4 i0 132,lb_ f0 v0 3 u0 136]) (ae c0 (ae (bZ a0 a0) (aj (neI (eU .i64 c.n 1) (dI .i64 e b0)) (ae Z0 M0) (aj (gtI b0 0) (ae (inI L0 e0) (ae (Bool.and (Nat.ble (Nat.add K0 1) Y0.length) (ig (.int .i64) J0)) (ae Z0 (aj (ltI c.e (asI J0)) M0 F0)))) (ae Z0 F0)))))))))))))):=by kernel_rfl
theorem adQ{l:List RunM}{i:Nat}(h:i<l.length):bT (iC.all l) (Nat.add (atN (i:Int) 3) 1) = .int .i64 l[i].b:=by
 have e:Nat.add (atN (i:Int) 3) 1=i*iC.sz+1:=by simp[atN]; rfl
 rw[e,iC.nth h (by decide)]; rfl
theorem kz{α:Type}{l:List α}(h0:l≠[])(hl:l.length<4194304):eqI (ak l.length) 0=false/\gtI (ak l.length) 0=true/\eU .i64 (ak l.length) 1=((l.length-1:Nat):Int)/\inI ((l.length-1:Nat):Int) l.length=true:=by
 have hp:=List.length_pos_iff.2 h0;refine⟨by unfold eqI ak; exact decide_eq_false (by omega),by unfold gtI ak; exact decide_eq_true (by omega),by unfold eU ak; rw[wrap64 (by omega) (by omega)]; omega,jF (by omega) (by omega)⟩
theorem mD{n k:Nat}(h:0<n)(hk:k<=3):Nat.ble (Nat.add (atN ((n-1:Nat):Int) 3) k) (Nat.mul n 3)=true:=Nat.ble_eq_true_of_le (by
 show((n-1:Nat):Int).toNat*3+k<=n*3
 omega)
theorem kF(x:Int):ig (.int .i64) (.int .i64 x)=true:=rfl
theorem iI(k:IntKind)(b:Int):asI (.int k b)=b:=rfl
theorem xq{r:RnM}(hl:r.rs.length<4194304):CRX P 2 65 [p0] (rnB r) (.int .i64 (h_ r.rs)) (rnB r):=by
 refine CRX.of (pol:=au) (fl:=[]) (ts:=[]) (n:=50) (bf _) aA aW ((abb r).trans ?_);by_cases h0:r.rs=[]
 ·have e0:r.rs.length=0:=by rw[h0]; rfl
  have g0:eqI (ak r.rs.length) 0=true:=by unfold eqI ak; exact decide_eq_true (by omega)
  have g6:h_ r.rs=0:=by rw[h0]; rfl
  simp only[dk_,lb_,nb_,pt_,sl_,g0,g6,cZ,rnB,srB,tbB,dkL,List.cons_append,List.nil_append,List.append_assoc,dN,aT,dP,lsV,ptV,p0,aN,dkC,bn,fzCms,cmV,di,bG,az,dG,dn,dR,dE,dF,dD,dw,dC,dB,dQ,dA,aB,aK,aP,Enc.all_ren,aB rfl,aK rfl,aP rfl,aT rfl,aQ,bH,bz,bu,bg,ax,aX,bD,Int.toNat_natCast,aY,aO,bF,bU,dH,bP,bW,dK,Bool.and_self,aG,aF,ay]
 ·obtain⟨g0,_,g1,g2⟩:=kz h0 hl;have hp:=List.length_pos_iff.2 h0;have g4:=adQ (l:=r.rs) (i:=r.rs.length-1) (by omega);have g5:Nat.ble (Nat.add (Nat.add (atN ((r.rs.length-1:Nat):Int) 3) 1) 1) (Nat.mul r.rs.length 3)=true:=mD (k:=2) hp (by decide);have g6:h_ r.rs=(r.rs[r.rs.length-1]'(by omega)).b:=by unfold h_; rw[last_at r.rs h0]; rfl
  simp only[dk_,lb_,nb_,pt_,sl_,g0,g1,g2,g4,g5,kF,iI,g6,cZ,rnB,srB,tbB,dkL,List.cons_append,List.nil_append,List.append_assoc,dN,aT,dP,lsV,ptV,p0,aN,dkC,bn,fzCms,cmV,di,bG,az,dG,dn,dR,dE,dF,dD,dw,dC,dB,dQ,dA,aB,aK,aP,Enc.all_ren,aB rfl,aK rfl,aP rfl,aT rfl,aQ,bH,bz,bu,bg,ax,aX,bD,Int.toNat_natCast,aY,aO,bF,bU,dH,bP,bW,dK,Bool.and_self,aG,aF,ay]
theorem acS{s:SrM}{c:CmM}(ht:gZ s.tb)(hc:cmE c=0)(hn:c.n-1=h_ s.rn.rs+s.rest.length)(he:s.rest=[]\/dL s.rest<=c.e)(hr:s.rn.rs.length<4194304)(hl:s.rest.length<4194300)(h0:0<=h_ s.rn.rs) :
  CRX P 5 75 [p0,cmV c] (srB s) (.int .i64 0) (srB ⟨tbM s.tb c.ops,s.rn,s.rest++[c]⟩):=by
 obtain⟨⟨_,_⟩,⟨n1,n2⟩,hb⟩:=jf.1 hc;obtain⟨b1,b2,b3⟩:=gq.1 hb;have q1:=AU (c:=c) (by omega);rw[hc]at q1;have q2:=xq hr;have q3:=uK (c:=c) b1 (by omega);have q4:=SH ht hb;have q:=acO (aV [cmV c] []) (aV [p0] (rnB s.rn)) (aV [cmV c] []) (aV [p0,bn c.ops] (tbB s.tb)) (h_ s.rn.rs) (tbM s.tb c.ops) s c;refine CRX.of (pol:=au) (fl:=[]) (ts:=[]) (n:=50) (bf _) aA (ah (pol:=au) (ah (pol:=au) (ah (pol:=au) (ah (pol:=au) aW (aZ q4)) (aZ q3)) (aZ q2)) (aZ q1)) (q.trans ?_);clear q q1 q2 q3 q4;have hr2:=(ht.all c.ops).ren;have a1:eU .i64 c.n 1=c.n-1:=by unfold eU; rw[wrap64 (by omega) (by omega)]
 have a2:dI .i64 (h_ s.rn.rs) (ak s.rest.length)=c.n-1:=by unfold dI ak; rw[wrap64 (by omega) (by omega)]; omega
 have a3:neI (c.n-1) (c.n-1)=false:=by unfold neI; simp
 have h1:(s.rest++[c]).length=Nat.add s.rest.length 1:=by simp
 by_cases h0:s.rest=[]
 ·have g0:gtI (ak s.rest.length) 0=false:=by rw[h0]; rfl
  simp (disch:=first | omega | (simp only[List.length_append,List.length_drop,List.length_take,List.length_singleton,Nat.add_eq,bJ]<;>omega) | fail) only[dk_,fa_,lb_,nb_,pt_,sl_,a1,a2,a3,g0,ht.ren,hr2,Bj,wE,cZ,rnB,srB,tbB,dkL,List.cons_append,List.nil_append,List.append_assoc,dN,aT,dP,lsV,ptV,p0,aN,dkC,bn,fzCms,cmV,di,bG,az,dG,dn,dR,dE,dF,dD,dw,dC,dB,dQ,dA,aB,aK,aP,Enc.all_ren,aB rfl,aB h1.symm,aK rfl,aP rfl,aT rfl,h1,aQ,bH,bz,bu,bg,ax,aX,bD,Int.toNat_natCast,aY,aO,bF,bU,dH,bP,bW,dK,Bool.and_self,aG,aF,ay]
 ·obtain⟨_,g0,g1,g2⟩:=kz h0 (by omega);have hp:=List.length_pos_iff.2 h0;have g4:=k_ (l:=s.rest) (i:=s.rest.length-1) (by omega);have g5:=mD (n:=s.rest.length) (k:=1) hp (by decide);have g6:dL s.rest=(s.rest[s.rest.length-1]'(by omega)).e:=by unfold dL; rw[last_at s.rest h0]; rfl
  have g7:ltI c.e (dL s.rest)=false:=by
   unfold ltI;rcases he with he | he
   ·exact absurd he h0
   ·exact decide_eq_false (by omega)
  rw[g6]at g7;simp (disch:=first | omega | (simp only[List.length_append,List.length_drop,List.length_take,List.length_singleton,Nat.add_eq,bJ]<;>omega) | fail) only[dk_,fa_,lb_,nb_,pt_,sl_,a1,a2,a3,g0,g1,g2,g4,g5,g7,kF,iI,ht.ren,hr2,Bj,wE,cZ,rnB,srB,tbB,dkL,List.cons_append,List.nil_append,List.append_assoc,dN,aT,dP,lsV,ptV,p0,aN,dkC,bn,fzCms,cmV,di,bG,az,dG,dn,dR,dE,dF,dD,dw,dC,dB,dQ,dA,aB,aK,aP,Enc.all_ren,aB rfl,aB h1.symm,aK rfl,aP rfl,aT rfl,h1,aQ,bH,bz,bu,bg,ax,aX,bD,Int.toNat_natCast,aY,aO,bF,bU,dH,bP,bW,dK,Bool.and_self,aG,aF,ay]
structure PgM where
 ep:Int
 ro:Int
 ac:Int
 ph:Int
 fo:Int
 ba:Int
def pgC(p:PgM):List Value:=[.int .i64 p.ep, .int .u8 p.ro, .int .i64 p.ac, .int .u8 p.ph, .int .i64 p.fo, .int .i64 p.ba]
def pgV(p:PgM):Value:= .agg ⟨pgC p⟩
def pg_(p:PgM):Value:=(Value.agg (Array.mk [(Value.int IntKind.i64 (PgM.ep p)),(Value.int IntKind.u8 (PgM.ro p)),(Value.int IntKind.i64 (PgM.ac p)),(Value.int IntKind.u8 (PgM.ph p)),(Value.int IntKind.i64 (PgM.fo p)),(Value.int IntKind.i64 (PgM.ba p))]))
theorem Ze(p:PgM):bM P E ctF 50 au [] [] 0 52 [pgV p] [] =
 (let z0:=eqI p.ro 1;let y0:=leI p.ep 1048576;let x0:=some (Value.int .i64 2,ag []);let w0:=some (Value.int .i64 0,ag []);let v0:=aj (eqI p.fo 0) (aj (f_ (eqI p.ba 0)) x0 w0) x0;let u0:=aj (eqI p.ph 0) v0 x0;let t0:=eqI p.ro 2;let s0:=eqI p.ac 0;let r0:=eqI p.ro 3;let q0:=eqI p.ph 2;
 let p0:=aj (geI p.fo 0) (aj (leI p.fo 1048576) (aj (geI p.ba 0) (aj (f_ (leI p.ba 1073741824)) x0 w0) x0) x0) x0;let o0:=eqI p.ph 3;
 (aj (geI p.ep 1) (aj z0 (aj y0 (aj (geI p.ac 0) (aj (leI p.ac 1048576) u0 x0) x0) x0) (aj t0 (aj y0 (aj s0 u0 x0) x0) (aj r0 (aj y0 (aj s0 (aj (eqI p.ph 1) v0 (aj q0 (aj q0 p0 x0) (aj o0 (aj o0 p0 x0) (aj (eqI p.ph 4) p0 x0)))) x0) x0) x0))) (aj z0 x0 (aj t0 x0 (aj r0 x0 x0))))):=by kernel_rfl
def adW(V:Nat->List UInt8)(C:Int->Bool)(C1:List Value->List Blk->Bool):Ct:=aC P au 0 52 (bI C1 (.leaf (.int .i64 0,[]))) (nH P 123 (jh P 123 (sU V C) ctF))
theorem abd(V:Nat->List UInt8)(C:Int->Bool)(C1:List Value->List Blk->Bool)(p:PgM):bM P E (adW V C C1) 80 au [.val, .val] [61,0] 0 68 [pgV p] [] =
 (let z0:=cvI .u64 p.ep;let y0:=HAppend.hAppend [] (V (Int.toNat z0));let x0:=y0.length;let w0:=af false (fQ 3) (bc y0);let v0:=takeC (Nat.mul x0 1) (aU 0 w0);let u0:=cvI .u64 (cvI .i64 p.ro);let t0:=HAppend.hAppend (List.map byteOf v0) (V (Int.toNat u0));let s0:=t0.length;let r0:=af false (fQ 4) (bc t0);
 let q0:=takeC (Nat.mul s0 1) (aU 0 r0);let p0:=cvI .u64 p.ac;let o0:=HAppend.hAppend (List.map byteOf q0) (V (Int.toNat p0));let n0:=o0.length;let m0:=af false (fQ 5) (bc o0);let l0:=takeC (Nat.mul n0 1) (aU 0 m0);let k0:=cvI .u64 (cvI .i64 p.ph);let j0:=HAppend.hAppend (List.map byteOf l0) (V (Int.toNat k0));
 let i0:=j0.length;let h0:=af false (fQ 6) (bc j0);let g0:=takeC (Nat.mul i0 1) (aU 0 h0);let f0:=cvI .u64 p.fo;let e0:=HAppend.hAppend (List.map byteOf g0) (V (Int.toNat f0));let d0:=e0.length;let c0:=af false (fQ 7) (bc e0);let b0:=takeC (Nat.mul d0 1) (aU 0 c0);let a0:=cvI .u64 p.ba;
 let Z0:=HAppend.hAppend (List.map byteOf b0) (V (Int.toNat a0));let Y0:=Z0.length;let X0:=af false (fQ 8) (bc Z0);
 (ae (C1 [pg_ p] []) (ae (Bool.and (fzB 18446744073709551617 0 []) (C z0)) (ae (gV P 0 x0 18446744073709551616 w0 5) (ae (Bool.and (fzB 18446744073709551617 x0 v0) (C u0)) (ae (gV P 0 s0 18446744073709551616 r0 5) (ae (Bool.and (fzB 18446744073709551617 s0 q0) (C p0)) (ae (gV P 0 n0 18446744073709551616 m0 5) (ae (Bool.and (fzB 18446744073709551617 n0 l0) (C k0)) (ae (gV P 0 i0 18446744073709551616 h0 5) (ae (Bool.and (fzB 18446744073709551617 i0 g0) (C f0)) (ae (gV P 0 d0 18446744073709551616 c0 5) (ae (Bool.and (fzB 18446744073709551617 d0 b0) (C a0)) (ae (gV P 0 Y0 18446744073709551616 X0 5) (some (.tuple ⟨[fb_ Y0 0 (takeC (Nat.mul Y0 1) (aU 0 X0)), .int .i64 0]⟩,ag [])))))))))))))))):=by kernel_rfl
def Gv(p:PgM):Bool:=geI p.ep 1&&leI p.ep 1048576&&(match eqI p.ro 1,eqI p.ro 2,eqI p.ro 3 with
 |true,_,_=>geI p.ac 0&&leI p.ac 1048576&&eqI p.ph 0&&eqI p.fo 0&&eqI p.ba 0
 |false,true,_=>eqI p.ac 0&&eqI p.ph 0&&eqI p.fo 0&&eqI p.ba 0
 |false,false,true=>eqI p.ac 0&&(match eqI p.ph 1,eqI p.ph 2 || eqI p.ph 3 || eqI p.ph 4 with
  |true,_=>eqI p.fo 0&&eqI p.ba 0
  |false,true=>geI p.fo 0&&leI p.fo 1048576&&geI p.ba 0&&leI p.ba 1073741824
  |false,false=>false)
 |false,false,false=>false)
def pgE(p:PgM):Int:=match Gv p with | true=>0 | false=>2
theorem qK(p:PgM):CRX P 0 52 [pgV p] [] (.int .i64 (pgE p)) []:=by
 refine CRX.of (pol:=au) (fl:=[]) (ts:=[]) (n:=50) (bf _) aA aW ((Ze p).trans ?_);unfold pgE Gv;simp only;cases geI p.ep 1
 ·cases eqI p.ro 1<;>cases eqI p.ro 2<;>cases eqI p.ro 3<;>rfl
 ·cases leI p.ep 1048576
  ·cases eqI p.ro 1<;>cases eqI p.ro 2<;>cases eqI p.ro 3<;>rfl
  ·cases eqI p.ro 1
   ·cases eqI p.ro 2
    ·cases eqI p.ro 3
     ·rfl
     ·cases eqI p.ac 0
      ·rfl
      ·cases eqI p.ph 1
       ·cases geI p.fo 0<;>cases leI p.fo 1048576<;>cases geI p.ba 0<;>cases leI p.ba 1073741824<;>cases eqI p.ph 2<;>cases eqI p.ph 3<;>cases eqI p.ph 4<;>rfl
       ·cases eqI p.fo 0<;>cases eqI p.ba 0<;>rfl
    ·cases eqI p.ac 0<;>cases eqI p.ph 0<;>cases eqI p.fo 0<;>cases eqI p.ba 0<;>rfl
   ·cases geI p.ac 0<;>cases leI p.ac 1048576<;>cases eqI p.ph 0<;>cases eqI p.fo 0<;>cases eqI p.ba 0<;>rfl
def kH(p:PgM):List UInt8:=bK p.ep.toNat++bK p.ro.toNat++bK p.ac.toNat++bK p.ph.toNat++bK p.fo.toNat++bK p.ba.toNat
structure PgR(p:PgM):Prop where
 e:0<=p.ep/\p.ep<=1073741824
 r:0<=p.ro/\p.ro<=255
 a:0<=p.ac/\p.ac<=1073741824
 h:0<=p.ph/\p.ph<=255
 f:0<=p.fo/\p.fo<=1073741824
 b:0<=p.ba/\p.ba<=1073741824
theorem acV{p:PgM}(h:pgE p=0):PgR p:=by
 have h:Gv p=true:=by
  unfold pgE at h;cases hq:Gv p with
  |true=>rfl
  |false=>rw[hq]at h; cases h
 unfold Gv at h;simp only[Bool.and_eq_true,geI,leI,decide_eq_true_eq]at h;obtain⟨⟨h1,h2⟩,h3⟩:=h;split at h3<;>simp only[Bool.and_eq_true,geI,leI,eqI,beq_iff_eq,decide_eq_true_eq,Bool.false_eq_true]at *
 ·exact⟨by omega,by omega,by omega,by omega,by omega,by omega⟩
 ·exact⟨by omega,by omega,by omega,by omega,by omega,by omega⟩
 ·obtain⟨h4,h5⟩:=h3;split at h5<;>simp only[Bool.and_eq_true,Bool.or_eq_true,geI,leI,eqI,beq_iff_eq,decide_eq_true_eq,Bool.false_eq_true]at *
  ·exact⟨by omega,by omega,by omega,by omega,by omega,by omega⟩
  ·exact⟨by omega,by omega,by omega,by omega,by omega,by omega⟩
theorem cvN{x:Int}(h:0<=x/\x<=1073741824):cvI .u64 x=(x.toNat:Int):=by rw[<-Int.toNat_of_nonneg h.1]; exact iU (by omega)
theorem cvS{x:Int}(h:0<=x/\x<=255):cvI .i64 x=x:=by unfold cvI; exact wrap64 (by omega) (by omega)
theorem GL(p:PgM):(kH p).length<=66:=by
 have d1:=eY (n:=p.ep.toNat);have d2:=eY (n:=p.ro.toNat);have d3:=eY (n:=p.ac.toNat);have d4:=eY (n:=p.ph.toNat);have d5:=eY (n:=p.fo.toNat);have d6:=eY (n:=p.ba.toNat);unfold kH;simp only[List.length_append];omega
theorem ZE{p:PgM}(h:pgE p=0):CRX P 0 68 [pgV p] [] (.tuple ⟨[aJ 1 (kH p).length 0 (bc (kH p)), .int .i64 0]⟩) []:=by
 have q:=qK p;rw[h]at q;obtain⟨r1,r2,r3,r4,r5,r6⟩:=acV h;have d1:=eY (n:=p.ep.toNat);have d2:=eY (n:=p.ro.toNat);have d3:=eY (n:=p.ac.toNat);have d4:=eY (n:=p.ph.toNat);have d5:=eY (n:=p.fo.toNat);have d6:=eY (n:=p.ba.toNat);refine CRX.of (pol:=au) (fl:=[.val, .val]) (ts:=[61,0]) (n:=80) (bf _) aA (ah (pol:=au) (mg (g:=123) (iG aW t_)) (aZ q)) ((abd bK lJ (aV _ _) p).trans ?_);have c2:=cvS r2;have c4:=cvS r4;have uu:∀ n:Nat,n<=1073741824->lJ (n:Int)=true:=fun n hn=>jF (by omega) (by omega);have u1:=uu p.ep.toNat (by omega);have u2:=uu p.ro.toNat (by omega);have u3:=uu p.ac.toNat (by omega);have u4:=uu p.ph.toNat (by omega);have u5:=uu p.fo.toNat (by omega);have u6:=uu p.ba.toNat (by omega);have z:fzB 18446744073709551617 0 []=true:=by rw[<-fz1]; exact xf (l:=[]) rfl (by simp)
 simp (disch:=first | omega | (simp only[List.length_append,List.length_drop,List.length_take,List.length_singleton,Nat.add_eq,bJ]<;>omega) | fail) only[fb_,pg_,c2,c4,cvN r1,cvN (x:=p.ro) ⟨r2.1,by omega⟩,cvN r3,cvN (x:=p.ph) ⟨r4.1,by omega⟩,cvN r5,cvN r6,u1,u2,u3,u4,u5,u6,z,List.nil_append,pgV,pgC,az,di,aQ,bH,bz,bu,bg,ax,aX,bD,Int.toNat_natCast,aY,aO,bF,bU,dH,bP,bW,dK,Bool.and_self,aG,aF,ay]
 rfl
theorem aaw(C:List Value->List Blk->Bool)(r:Int)(d d2:DkM)(cs:List CmM)(es:List Int):bM P E (aC P au 1 72 (bI C (.leaf (.int .i64 r,aN d2))) ctF) 50 au [] [] 2 74 [p0] (cZ ⟨okD d,false,cs,es⟩) =
 (let z0:=WalM.mk (okD d) false cs es;let y0:=z0.dk;let x0:=y0.d0.length;let w0:=y0.d1.length;let v0:=y0.d2.length;let u0:=y0.d3.length;let t0:=y0.pend.length;let s0:=Enc.all ESt y0.pend;let r0:=aH 0 [1,9,10,11,12,13];let q0:=z0.cs.length;let o0:=Enc.all ECm z0.cs;let n0:=z0.es.length;
 let m0:=Enc.all EIn z0.es;let l0:=d2.d0.length;let k0:=bC [1] 14;let j0:=af true k0 (bc d2.d0);let i0:=d2.d1.length;let h0:=af true k0 (bc d2.d1);let g0:=d2.d2.length;let f0:=af true k0 (bc d2.d2);let e0:=d2.d3.length;let d0:=af true k0 (bc d2.d3);let c0:=d2.pend.length;let b0:=af true k0 (Enc.all ESt d2.pend);
 let a0:=Value.int .i64 r;let Z0:=dk_ d2 2 3 4 5 6;let Y0:=aH 0 [0,1,21,22,23,24,25,19,20];let X0:=lb_ Y0 l0 1 j0 5;let W0:=lb_ Y0 i0 1 h0 5;let V0:=lb_ Y0 g0 1 f0 5;let U0:=lb_ Y0 e0 1 d0 5;let T0:=lb_ Y0 c0 4 b0 132;let S0:=lb_ Y0 q0 3 o0 35;let R0:=lb_ Y0 n0 1 m0 3;
 (nb_ x0 1 (bc y0.d0) (nb_ w0 1 (bc y0.d1) (nb_ v0 1 (bc y0.d2) (nb_ u0 1 (bc y0.d3) (nb_ t0 4 s0 (ae (C [pt_ 0] [dk_ y0 1 2 3 4 5,lb_ r0 x0 1 (bc y0.d0) 5,lb_ r0 w0 1 (bc y0.d1) 5,lb_ r0 v0 1 (bc y0.d2) 5,lb_ r0 u0 1 (bc y0.d3) 5,lb_ r0 t0 4 s0 132]) (aj (neI r 0) (nb_ q0 3 o0 (nb_ n0 1 m0 (nb_ l0 1 j0 (nb_ i0 1 h0 (nb_ g0 1 f0 (nb_ e0 1 d0 (nb_ c0 4 b0 (some (a0,ag [.cells [pt_ 1, .bool true,sl_ 7 q0,sl_ 8 n0] 182 true,Z0,X0,W0,V0,U0,T0,S0,R0]))))))))) (nb_ q0 3 o0 (nb_ n0 1 m0 (nb_ l0 1 j0 (nb_ i0 1 h0 (nb_ g0 1 f0 (nb_ e0 1 d0 (nb_ c0 4 b0 (some (a0,ag [.cells [pt_ 1, .bool z0.br,sl_ 7 q0,sl_ 8 n0] 182 true,Z0,X0,W0,V0,U0,T0,S0,R0]))))))))))))))))):=by kernel_rfl
def adV(K:Nat->Nat->Nat->List Value->Bool)(L:List Value->Int)(C:List Value->List Blk->Bool)(r:Int)(d2:DkM):Ct:=aC P au 1 155 (bI C (.leaf (.int .i64 r,aN d2))) (jh P 129 (Iz K L) ctF)
theorem Z_(K:Nat->Nat->Nat->List Value->Bool)(L:List Value->Int)(C:List Value->List Blk->Bool)(r:Int)(d d2:DkM)(cs:List CmM)(es:List Int)(n:Nat):bM P E (adV K L C r d2) 50 au [] [] 2 174 [p0, .int .i64 (n:Int)] (cZ ⟨okD d,false,cs,es⟩) =
 (let z0:=Nat.cast n;let y0:=WalM.mk (okD d) false cs es;let x0:=y0.cs.length;let w0:=Enc.all ECm y0.cs;let v0:=y0.es.length;let u0:=Enc.all EIn y0.es;let t0:=y0.dk;let s0:=t0.d0.length;let r0:=bc t0.d0;let q0:=t0.d1.length;let o0:=bc t0.d1;let n0:=t0.d2.length;let m0:=bc t0.d2;let l0:=t0.d3.length;
 let k0:=bc t0.d3;let j0:=t0.pend.length;let i0:=Enc.all ESt t0.pend;let h0:=pt_ 1;let g0:=Value.bool y0.br;let f0:=Blk.cells [h0,g0,sl_ 7 x0,sl_ 8 v0] 182 true;let e0:=aH 0 [0,1,11,12,13,14,15,9,10];let d0:=u0.length;let c0:=Nat.div (Nat.sub d0 0) 1;let b0:=eF 0 z0 c0;let a0:=fZ 0 z0;
 let Z0:=Nat.mul a0 1;let Y0:=takeC Z0 (aU 0 u0);let X0:=Value.int .i64 0;let W0:=aH 0 [1,24,25,26,27,28];let V0:=[dk_ t0 1 2 3 4 5,lb_ W0 s0 1 r0 5,lb_ W0 q0 1 o0 5,lb_ W0 n0 1 m0 5,lb_ W0 l0 1 k0 5,lb_ W0 j0 4 i0 132];let U0:=neI r 0;let T0:=d2.d0.length;let S0:=bC [1] 29;let R0:=af true S0 (bc d2.d0);
 let Q0:=d2.d1.length;let P0:=af true S0 (bc d2.d1);let O0:=d2.d2.length;let N0:=af true S0 (bc d2.d2);let M0:=d2.d3.length;let L0:=af true S0 (bc d2.d3);let K0:=d2.pend.length;let J0:=af true S0 (Enc.all ESt d2.pend);let I0:=Value.int .i64 r;let H0:=Value.bool true;let G0:=dk_ d2 2 3 4 5 6;
 let F0:=aH 0 [0,1,36,37,38,39,40,34,35];let E0:=lb_ F0 T0 1 R0 5;let D0:=lb_ F0 Q0 1 P0 5;let C0:=lb_ F0 O0 1 N0 5;let B0:=lb_ F0 M0 1 L0 5;let A0:=lb_ F0 K0 4 J0 132;let z1:=lb_ F0 x0 3 w0 35;let y1:=lb_ F0 v0 1 u0 3;let x1:=Int.toNat z0;let w1:=eF 0 z0 x1;let v1:=Nat.ble (Nat.succ x1) 18446744073709551616;
 let u1:=Bool.and w1 (Bool.and (eF 0 z0 (Nat.div (Nat.sub w0.length 0) 3)) v1);let t1:=Bool.and w1 (Bool.and b0 v1);let s1:=Value.slice (some ⟨8,0,none⟩) x1 x1;let r1:=bZ s1 s1;let q1:=Nat.beq x1 18446744073709551616;let p1:=sl_ 7 x1;let o1:=sl_ 8 x1;let n1:=aH 0 [0,1,58,59,60,61,62,56,57];
 let m1:=lb_ n1 T0 1 R0 5;let l1:=lb_ n1 Q0 1 P0 5;let k1:=lb_ n1 O0 1 N0 5;let j1:=lb_ n1 M0 1 L0 5;let i1:=lb_ n1 K0 4 J0 132;let h1:=lb_ n1 x1 3 w0 35;let g1:=lb_ n1 x1 1 u0 3;let f1:=nb_ T0 1 R0 (nb_ Q0 1 P0 (nb_ O0 1 N0 (nb_ M0 1 L0 (nb_ K0 4 J0 (some (X0,ag [.cells [h0,H0,p1,o1] 182 true,G0,m1,l1,k1,j1,i1,h1,g1]))))));
 let e1:=Nat.ble 18446744073709551616 x1;let d1:=sl_ 8 0;let c1:=Blk.cells [] 3 false;let b1:=Nat.ble x1 x1;let a1:=Bool.and b1 (Nat.ble (Nat.add 0 (Nat.mul x1 1)) d0);let Z1:=aH 0 [0,1,57,58,59,60,61,56,8];let Y1:=lb_ Z1 T0 1 R0 5;let X1:=lb_ Z1 Q0 1 P0 5;let W1:=lb_ Z1 O0 1 N0 5;let V1:=lb_ Z1 M0 1 L0 5;
 let U1:=lb_ Z1 K0 4 J0 132;let T1:=lb_ Z1 x1 3 w0 35;let S1:=Blk.cells (af true Z1 u0) 3 false;let R1:=aj q1 (nb_ x1 1 u0 f1) (aj e1 (nb_ T0 1 R0 (nb_ Q0 1 P0 (nb_ O0 1 N0 (nb_ M0 1 L0 (nb_ K0 4 J0 (some (X0,ag [.cells [h0,H0,p1,d1] 182 true,G0,m1,l1,k1,j1,i1,h1,c1]))))))) (aj a1 f1 (nb_ T0 1 R0 (nb_ Q0 1 P0 (nb_ O0 1 N0 (nb_ M0 1 L0 (nb_ K0 4 J0 (some (X0,ag [.cells [h0,H0,p1,s1] 182 true,G0,Y1,X1,W1,V1,U1,T1,S1])))))))));
 let Q1:=sl_ 7 0;let P1:=Blk.cells [] 35 false;let O1:=nb_ T0 1 R0 (nb_ Q0 1 P0 (nb_ O0 1 N0 (nb_ M0 1 L0 (nb_ K0 4 J0 (some (X0,ag [.cells [h0,H0,Q1,o1] 182 true,G0,m1,l1,k1,j1,i1,P1,g1]))))));let N1:=Bool.and b1 (Nat.ble (Nat.add 0 (Nat.mul x1 3)) w0.length);let M1:=Value.slice (some ⟨7,0,none⟩) x1 x1;
 let L1:=aH 0 [0,1,57,58,59,60,61,7,56];let K1:=lb_ L1 T0 1 R0 5;let J1:=lb_ L1 Q0 1 P0 5;let I1:=lb_ L1 O0 1 N0 5;let H1:=lb_ L1 M0 1 L0 5;let G1:=lb_ L1 K0 4 J0 132;let F1:=Blk.cells (af true L1 w0) 35 false;let E1:=lb_ L1 x1 1 u0 3;let D1:=nb_ T0 1 R0 (nb_ Q0 1 P0 (nb_ O0 1 N0 (nb_ M0 1 L0 (nb_ K0 4 J0 (some (X0,ag [.cells [h0,H0,M1,o1] 182 true,G0,K1,J1,I1,H1,G1,F1,E1]))))));
 let C1:=aH 0 [0,1,56,57,58,59,60,7,8];let B1:=lb_ C1 T0 1 R0 5;let A1:=lb_ C1 Q0 1 P0 5;let z2:=lb_ C1 O0 1 N0 5;let y2:=lb_ C1 M0 1 L0 5;let x2:=lb_ C1 K0 4 J0 132;let w2:=Blk.cells (af true C1 w0) 35 false;let v2:=Blk.cells (af true C1 u0) 3 false;let u2:=nb_ T0 1 R0 (nb_ Q0 1 P0 (nb_ O0 1 N0 (nb_ M0 1 L0 (nb_ K0 4 J0 (some (X0,ag [.cells [h0,g0,p1,o1] 182 true,G0,m1,l1,k1,j1,i1,h1,g1]))))));
 let t2:=aj q1 (nb_ x1 1 u0 u2) (aj e1 (nb_ T0 1 R0 (nb_ Q0 1 P0 (nb_ O0 1 N0 (nb_ M0 1 L0 (nb_ K0 4 J0 (some (X0,ag [.cells [h0,g0,p1,d1] 182 true,G0,m1,l1,k1,j1,i1,h1,c1]))))))) (aj a1 u2 (nb_ T0 1 R0 (nb_ Q0 1 P0 (nb_ O0 1 N0 (nb_ M0 1 L0 (nb_ K0 4 J0 (some (X0,ag [.cells [h0,g0,p1,s1] 182 true,G0,Y1,X1,W1,V1,U1,T1,S1])))))))));
 let s2:=nb_ T0 1 R0 (nb_ Q0 1 P0 (nb_ O0 1 N0 (nb_ M0 1 L0 (nb_ K0 4 J0 (some (X0,ag [.cells [h0,g0,Q1,o1] 182 true,G0,m1,l1,k1,j1,i1,P1,g1]))))));let r2:=nb_ T0 1 R0 (nb_ Q0 1 P0 (nb_ O0 1 N0 (nb_ M0 1 L0 (nb_ K0 4 J0 (some (X0,ag [.cells [h0,g0,M1,o1] 182 true,G0,K1,J1,I1,H1,G1,F1,E1]))))));
 let q2:=aj U0 (aj U0 (nb_ x0 3 w0 (nb_ v0 1 u0 (nb_ T0 1 R0 (nb_ Q0 1 P0 (nb_ O0 1 N0 (nb_ M0 1 L0 (nb_ K0 4 J0 (some (I0,ag [.cells [h0,H0,sl_ 7 x0,sl_ 8 v0] 182 true,G0,E0,D0,C0,B0,A0,z1,y1]))))))))) (ae u1 (ae t1 (ae t1 (ae r1 (aj q1 (nb_ x1 3 w0 R1) (aj e1 (aj q1 (nb_ x1 1 u0 O1) (aj e1 (nb_ T0 1 R0 (nb_ Q0 1 P0 (nb_ O0 1 N0 (nb_ M0 1 L0 (nb_ K0 4 J0 (some (X0,ag [.cells [h0,H0,Q1,d1] 182 true,G0,m1,l1,k1,j1,i1,P1,c1]))))))) (aj a1 O1 (nb_ T0 1 R0 (nb_ Q0 1 P0 (nb_ O0 1 N0 (nb_ M0 1 L0 (nb_ K0 4 J0 (some (X0,ag [.cells [h0,H0,Q1,s1] 182 true,G0,Y1,X1,W1,V1,U1,P1,S1])))))))))) (aj N1 R1 (aj q1 (nb_ x1 1 u0 D1) (aj e1 (nb_ T0 1 R0 (nb_ Q0 1 P0 (nb_ O0 1 N0 (nb_ M0 1 L0 (nb_ K0 4 J0 (some (X0,ag [.cells [h0,H0,M1,d1] 182 true,G0,K1,J1,I1,H1,G1,F1,c1]))))))) (aj a1 D1 (nb_ T0 1 R0 (nb_ Q0 1 P0 (nb_ O0 1 N0 (nb_ M0 1 L0 (nb_ K0 4 J0 (some (X0,ag [.cells [h0,H0,M1,s1] 182 true,G0,B1,A1,z2,y2,x2,w2,v2])))))))))))))))))) (aj U0 (nb_ x0 3 w0 (nb_ v0 1 u0 (nb_ T0 1 R0 (nb_ Q0 1 P0 (nb_ O0 1 N0 (nb_ M0 1 L0 (nb_ K0 4 J0 (some (I0,ag [f0,G0,E0,D0,C0,B0,A0,z1,y1]))))))))) (ae u1 (ae t1 (ae t1 (ae r1 (aj q1 (nb_ x1 3 w0 t2) (aj e1 (aj q1 (nb_ x1 1 u0 s2) (aj e1 (nb_ T0 1 R0 (nb_ Q0 1 P0 (nb_ O0 1 N0 (nb_ M0 1 L0 (nb_ K0 4 J0 (some (X0,ag [.cells [h0,g0,Q1,d1] 182 true,G0,m1,l1,k1,j1,i1,P1,c1]))))))) (aj a1 s2 (nb_ T0 1 R0 (nb_ Q0 1 P0 (nb_ O0 1 N0 (nb_ M0 1 L0 (nb_ K0 4 J0 (some (X0,ag [.cells [h0,g0,Q1,s1] 182 true,G0,Y1,X1,W1,V1,U1,P1,S1])))))))))) (aj N1 t2 (aj q1 (nb_ x1 1 u0 r2) (aj e1 (nb_ T0 1 R0 (nb_ Q0 1 P0 (nb_ O0 1 N0 (nb_ M0 1 L0 (nb_ K0 4 J0 (some (X0,ag [.cells [h0,g0,M1,d1] 182 true,G0,K1,J1,I1,H1,G1,F1,c1]))))))) (aj a1 r2 (nb_ T0 1 R0 (nb_ Q0 1 P0 (nb_ O0 1 N0 (nb_ M0 1 L0 (nb_ K0 4 J0 (some (X0,ag [.cells [h0,g0,M1,s1] 182 true,G0,B1,A1,z2,y2,x2,w2,v2]))))))))))))))))));
 (aj (gtI z0 (ak x0)) (nb_ x0 3 w0 (nb_ v0 1 u0 (nb_ s0 1 r0 (nb_ q0 1 o0 (nb_ n0 1 m0 (nb_ l0 1 k0 (nb_ j0 4 i0 (some (.int .i64 2,ag [f0,dk_ t0 2 3 4 5 6,lb_ e0 s0 1 r0 5,lb_ e0 q0 1 o0 5,lb_ e0 n0 1 m0 5,lb_ e0 l0 1 k0 5,lb_ e0 j0 4 i0 132,lb_ e0 x0 3 w0 35,lb_ e0 v0 1 u0 3]))))))))) (ae b0 (aj (Nat.ble 1 c0) (ae (Bool.and (Nat.ble (Nat.add 0 Z0) d0) (Nat.ble 1 1)) (ae (gX Y0) (ae (K 18446744073709551617 a0 0 Y0) (nb_ s0 1 r0 (nb_ q0 1 o0 (nb_ n0 1 m0 (nb_ l0 1 k0 (nb_ j0 4 i0 (ae (C [pt_ 0,X0, .int .i64 (L Y0)] V0) q2))))))))) (ae (K 18446744073709551617 0 0 []) (nb_ s0 1 r0 (nb_ q0 1 o0 (nb_ n0 1 m0 (nb_ l0 1 k0 (nb_ j0 4 i0 (ae (C [pt_ 0,X0, .int .i64 (L [])] V0) q2))))))))))):=by kernel_rfl
def Dj(w:WalM):Int×WalM:=((kZ w.dk).1,⟨(kZ w.dk).2,neI (kZ w.dk).1 0,w.cs,w.es⟩)
theorem Nh{w:WalM}(hoff:w.dk.off=false)(hbr:w.br=false)(hd:kSy.ok w.dk):CRX P 2 74 [p0] (cZ w) (.int .i64 (Dj w).1) (cZ (Dj w).2):=by
 obtain⟨dk,br,cs,es⟩:=w;simp only at hoff hbr hd;subst hbr;have q1:=NL.at (s:=dk) hd rfl;have q:=aaw (aV [p0] (aN dk)) (kZ dk).1 dk (kZ dk).2 cs es;rw[D6 hoff]at q;refine CRX.of (pol:=au) (fl:=[]) (ts:=[]) (n:=50) (bf _) aA (ah (pol:=au) aW (aZ q1)) (q.trans ?_);clear q q1;unfold Dj;simp only;generalize kZ dk=W;obtain⟨r,d2⟩:=W;simp only[dk_,lb_,nb_,pt_,sl_,hoff,cZ,dP,lsV,ptV,p0,aN,dkC,bn,fzCms,cmV,di,bG,az,dG,dn,dR,dE,dF,dD,dw,dC,dB,dQ,dA,aB,aK,aP,Enc.all_ren,aQ,bH,bz,bu,bg,ax,aX,bD,Int.toNat_natCast,aY,aO,bF,bU,dH,bP,bW,dK,Bool.and_self,aG,aF,ay,aB rfl,aK rfl,aP rfl];cases neI r 0<;>rfl
structure StaM where
 off:Bool
 pg:PgM
 log:List CmM
 held:Int
 dk:DkM
 wbr:Bool
 wcs:List CmM
 wes:List Int
 rbr:Bool
 rs:List RunM
 tb:TbM
 rest:List CmM
def StaM.wal(s:StaM):WalM:=⟨s.dk,s.wbr,s.wcs,s.wes⟩
def StaM.rn(s:StaM):RnM:=⟨s.dk,s.rbr,s.rs⟩
def StaM.sr(s:StaM):SrM:=⟨s.tb,s.rn,s.rest⟩
def stB(s:StaM):List Blk:=[.cells ([ptV 1, .bool s.off]++pgC s.pg++[lsV 12 s.log.length,ptV 2,ptV 3,ptV 4, .int .i64 s.held]) 114 true, .cells (dP 7 8 9 10 11 s.dk) 108 true,
 .cells [ptV 1, .bool s.wbr,lsV 13 s.wcs.length,lsV 14 s.wes.length] 182 true, .cells [ptV 1, .bool s.rbr,lsV 15 s.rs.length] 173 true, .cells [ptV 5,ptV 3,lsV 16 s.rest.length] 185 true, .cells [.map (some 6)] 141 true, .map s.tb.es s.tb.ck]++dkL s.dk++
 [.cells (ECm.all s.log) 35 false, .cells (ECm.all s.wcs) 35 false, .cells (EIn.all s.wes) 3 false, .cells (iC.all s.rs) 136 false, .cells (ECm.all s.rest) 35 false]
def ns_(s:StaM)(x:Res):Res:=(ae (Nat.ble (Nat.add 0 (Nat.mul (List.length (StaM.log s)) 3)) (List.length (Enc.all ECm (StaM.log s)))) (ae (Nat.ble (Nat.add 0 (Nat.mul (List.length (DkM.d0 (StaM.dk s))) 1)) (List.length (bc (DkM.d0 (StaM.dk s))))) (ae (Nat.ble (Nat.add 0 (Nat.mul (List.length (DkM.d1 (StaM.dk s))) 1)) (List.length (bc (DkM.d1 (StaM.dk s))))) (ae (Nat.ble (Nat.add 0 (Nat.mul (List.length (DkM.d2 (StaM.dk s))) 1)) (List.length (bc (DkM.d2 (StaM.dk s))))) (ae (Nat.ble (Nat.add 0 (Nat.mul (List.length (DkM.d3 (StaM.dk s))) 1)) (List.length (bc (DkM.d3 (StaM.dk s))))) (ae (Nat.ble (Nat.add 0 (Nat.mul (List.length (DkM.pend (StaM.dk s))) 4)) (List.length (Enc.all ESt (DkM.pend (StaM.dk s))))) (ae (Nat.ble (Nat.add 0 (Nat.mul (List.length (StaM.wcs s)) 3)) (List.length (Enc.all ECm (StaM.wcs s)))) (ae (Nat.ble (Nat.add 0 (Nat.mul (List.length (StaM.wes s)) 1)) (List.length (Enc.all EIn (StaM.wes s)))) (ae (Nat.ble (Nat.add 0 (Nat.mul (List.length (StaM.rs s)) 3)) (List.length (Enc.all iC (StaM.rs s)))) (ae (Nat.ble (Nat.add 0 (Nat.mul (List.length (StaM.rest s)) 3)) (List.length (Enc.all ECm (StaM.rest s)))) x))))))))))
def nw_(s:StaM)(b:Nat->Option Nat)(x:Res):Res:=(ae (Nat.ble (Nat.add 0 (Nat.mul (List.length (StaM.log s)) 3)) (List.length (af Bool.true b (Enc.all ECm (StaM.log s))))) (ae (Nat.ble (Nat.add 0 (Nat.mul (List.length (DkM.d0 (StaM.dk s))) 1)) (List.length (af Bool.true b (bc (DkM.d0 (StaM.dk s)))))) (ae (Nat.ble (Nat.add 0 (Nat.mul (List.length (DkM.d1 (StaM.dk s))) 1)) (List.length (af Bool.true b (bc (DkM.d1 (StaM.dk s)))))) (ae (Nat.ble (Nat.add 0 (Nat.mul (List.length (DkM.d2 (StaM.dk s))) 1)) (List.length (af Bool.true b (bc (DkM.d2 (StaM.dk s)))))) (ae (Nat.ble (Nat.add 0 (Nat.mul (List.length (DkM.d3 (StaM.dk s))) 1)) (List.length (af Bool.true b (bc (DkM.d3 (StaM.dk s)))))) (ae (Nat.ble (Nat.add 0 (Nat.mul (List.length (DkM.pend (StaM.dk s))) 4)) (List.length (af Bool.true b (Enc.all ESt (DkM.pend (StaM.dk s)))))) (ae (Nat.ble (Nat.add 0 (Nat.mul (List.length (StaM.wcs s)) 3)) (List.length (af Bool.true b (Enc.all ECm (StaM.wcs s))))) (ae (Nat.ble (Nat.add 0 (Nat.mul (List.length (StaM.wes s)) 1)) (List.length (af Bool.true b (Enc.all EIn (StaM.wes s))))) (ae (Nat.ble (Nat.add 0 (Nat.mul (List.length (StaM.rs s)) 3)) (List.length (af Bool.true b (Enc.all iC (StaM.rs s))))) (ae (Nat.ble (Nat.add 0 (Nat.mul (List.length (StaM.rest s)) 3)) (List.length (af Bool.true b (Enc.all ECm (StaM.rest s))))) x))))))))))
def sm_(s:StaM)(f:Nat->Option Nat):List Blk:=[(Blk.cells [(Value.pointer (Option.some (Addr.mk 1 0 none))),(Value.bool (StaM.off s)),(Value.int IntKind.i64 (PgM.ep (StaM.pg s))),(Value.int IntKind.u8 (PgM.ro (StaM.pg s))),(Value.int IntKind.i64 (PgM.ac (StaM.pg s))),(Value.int IntKind.u8 (PgM.ph (StaM.pg s))),(Value.int IntKind.i64 (PgM.fo (StaM.pg s))),(Value.int IntKind.i64 (PgM.ba (StaM.pg s))),(Value.slice (Option.some (Addr.mk 12 0 none)) (List.length (StaM.log s)) 18446744073709551616),(Value.pointer (Option.some (Addr.mk 2 0 none))),(Value.pointer (Option.some (Addr.mk 3 0 none))),(Value.pointer (Option.some (Addr.mk 4 0 none))),(Value.int IntKind.i64 (StaM.held s))] 114 Bool.true),(Blk.cells [(Value.bool Bool.true),(Value.bool (DkM.off (StaM.dk s))),(Value.bool (DkM.fused (StaM.dk s))),(Value.int IntKind.i64 (DkM.fuse (StaM.dk s))),(Value.int IntKind.i64 (DkM.steps (StaM.dk s))),(Value.slice (Option.some (Addr.mk 7 0 none)) (List.length (DkM.d0 (StaM.dk s))) 18446744073709551616),(Value.slice (Option.some (Addr.mk 8 0 none)) (List.length (DkM.d1 (StaM.dk s))) 18446744073709551616),(Value.slice (Option.some (Addr.mk 9 0 none)) (List.length (DkM.d2 (StaM.dk s))) 18446744073709551616),(Value.slice (Option.some (Addr.mk 10 0 none)) (List.length (DkM.d3 (StaM.dk s))) 18446744073709551616),(Value.slice (Option.some (Addr.mk 11 0 none)) (List.length (DkM.pend (StaM.dk s))) 18446744073709551616)] 108 Bool.true),(Blk.cells [(Value.pointer (Option.some (Addr.mk 1 0 none))),(Value.bool (StaM.wbr s)),(Value.slice (Option.some (Addr.mk 13 0 none)) (List.length (StaM.wcs s)) 18446744073709551616),(Value.slice (Option.some (Addr.mk 14 0 none)) (List.length (StaM.wes s)) 18446744073709551616)] 182 Bool.true),(Blk.cells [(Value.pointer (Option.some (Addr.mk 1 0 none))),(Value.bool (StaM.rbr s)),(Value.slice (Option.some (Addr.mk 15 0 none)) (List.length (StaM.rs s)) 18446744073709551616)] 173 Bool.true),(Blk.cells [(Value.pointer (Option.some (Addr.mk 5 0 none))),(Value.pointer (Option.some (Addr.mk 3 0 none))),(Value.slice (Option.some (Addr.mk 16 0 none)) (List.length (StaM.rest s)) 18446744073709551616)] 185 Bool.true),(Blk.cells [(Value.map (Option.some 6))] 141 Bool.true),(Blk.map (eP Bool.true f (TbM.es (StaM.tb s))) (TbM.ck (StaM.tb s))),(Blk.cells (af Bool.true f (takeC (Nat.mul (List.length (DkM.d0 (StaM.dk s))) 1) (aU 0 (bc (DkM.d0 (StaM.dk s)))))) 5 Bool.false),(Blk.cells (af Bool.true f (takeC (Nat.mul (List.length (DkM.d1 (StaM.dk s))) 1) (aU 0 (bc (DkM.d1 (StaM.dk s)))))) 5 Bool.false),(Blk.cells (af Bool.true f (takeC (Nat.mul (List.length (DkM.d2 (StaM.dk s))) 1) (aU 0 (bc (DkM.d2 (StaM.dk s)))))) 5 Bool.false),(Blk.cells (af Bool.true f (takeC (Nat.mul (List.length (DkM.d3 (StaM.dk s))) 1) (aU 0 (bc (DkM.d3 (StaM.dk s)))))) 5 Bool.false),(Blk.cells (af Bool.true f (takeC (Nat.mul (List.length (DkM.pend (StaM.dk s))) 4) (aU 0 (Enc.all ESt (DkM.pend (StaM.dk s)))))) 132 Bool.false),(Blk.cells (af Bool.true f (takeC (Nat.mul (List.length (StaM.log s)) 3) (aU 0 (Enc.all ECm (StaM.log s))))) 35 Bool.false),(Blk.cells (af Bool.true f (takeC (Nat.mul (List.length (StaM.wcs s)) 3) (aU 0 (Enc.all ECm (StaM.wcs s))))) 35 Bool.false),(Blk.cells (af Bool.true f (takeC (Nat.mul (List.length (StaM.wes s)) 1) (aU 0 (Enc.all EIn (StaM.wes s))))) 3 Bool.false),(Blk.cells (af Bool.true f (takeC (Nat.mul (List.length (StaM.rs s)) 3) (aU 0 (Enc.all iC (StaM.rs s))))) 136 Bool.false),(Blk.cells (af Bool.true f (takeC (Nat.mul (List.length (StaM.rest s)) 3) (aU 0 (Enc.all ECm (StaM.rest s))))) 35 Bool.false)]
def sw_(s:StaM)(f b:Nat->Option Nat):List Blk:=[(Blk.cells [(Value.pointer (Option.some (Addr.mk 1 0 none))),(Value.bool (StaM.off s)),(Value.int IntKind.i64 (PgM.ep (StaM.pg s))),(Value.int IntKind.u8 (PgM.ro (StaM.pg s))),(Value.int IntKind.i64 (PgM.ac (StaM.pg s))),(Value.int IntKind.u8 (PgM.ph (StaM.pg s))),(Value.int IntKind.i64 (PgM.fo (StaM.pg s))),(Value.int IntKind.i64 (PgM.ba (StaM.pg s))),(Value.slice (Option.some (Addr.mk 12 0 none)) (List.length (StaM.log s)) 18446744073709551616),(Value.pointer (Option.some (Addr.mk 2 0 none))),(Value.pointer (Option.some (Addr.mk 3 0 none))),(Value.pointer (Option.some (Addr.mk 4 0 none))),(Value.int IntKind.i64 (StaM.held s))] 114 Bool.true),(Blk.cells [(Value.bool Bool.true),(Value.bool (DkM.off (StaM.dk s))),(Value.bool (DkM.fused (StaM.dk s))),(Value.int IntKind.i64 (DkM.fuse (StaM.dk s))),(Value.int IntKind.i64 (DkM.steps (StaM.dk s))),(Value.slice (Option.some (Addr.mk 7 0 none)) (List.length (DkM.d0 (StaM.dk s))) 18446744073709551616),(Value.slice (Option.some (Addr.mk 8 0 none)) (List.length (DkM.d1 (StaM.dk s))) 18446744073709551616),(Value.slice (Option.some (Addr.mk 9 0 none)) (List.length (DkM.d2 (StaM.dk s))) 18446744073709551616),(Value.slice (Option.some (Addr.mk 10 0 none)) (List.length (DkM.d3 (StaM.dk s))) 18446744073709551616),(Value.slice (Option.some (Addr.mk 11 0 none)) (List.length (DkM.pend (StaM.dk s))) 18446744073709551616)] 108 Bool.true),(Blk.cells [(Value.pointer (Option.some (Addr.mk 1 0 none))),(Value.bool (StaM.wbr s)),(Value.slice (Option.some (Addr.mk 13 0 none)) (List.length (StaM.wcs s)) 18446744073709551616),(Value.slice (Option.some (Addr.mk 14 0 none)) (List.length (StaM.wes s)) 18446744073709551616)] 182 Bool.true),(Blk.cells [(Value.pointer (Option.some (Addr.mk 1 0 none))),(Value.bool (StaM.rbr s)),(Value.slice (Option.some (Addr.mk 15 0 none)) (List.length (StaM.rs s)) 18446744073709551616)] 173 Bool.true),(Blk.cells [(Value.pointer (Option.some (Addr.mk 5 0 none))),(Value.pointer (Option.some (Addr.mk 3 0 none))),(Value.slice (Option.some (Addr.mk 16 0 none)) (List.length (StaM.rest s)) 18446744073709551616)] 185 Bool.true),(Blk.cells [(Value.map (Option.some 6))] 141 Bool.true),(Blk.map (eP Bool.true f (eP Bool.true b (TbM.es (StaM.tb s)))) (TbM.ck (StaM.tb s))),(Blk.cells (af Bool.true f (takeC (Nat.mul (List.length (DkM.d0 (StaM.dk s))) 1) (aU 0 (af Bool.true b (bc (DkM.d0 (StaM.dk s))))))) 5 Bool.false),(Blk.cells (af Bool.true f (takeC (Nat.mul (List.length (DkM.d1 (StaM.dk s))) 1) (aU 0 (af Bool.true b (bc (DkM.d1 (StaM.dk s))))))) 5 Bool.false),(Blk.cells (af Bool.true f (takeC (Nat.mul (List.length (DkM.d2 (StaM.dk s))) 1) (aU 0 (af Bool.true b (bc (DkM.d2 (StaM.dk s))))))) 5 Bool.false),(Blk.cells (af Bool.true f (takeC (Nat.mul (List.length (DkM.d3 (StaM.dk s))) 1) (aU 0 (af Bool.true b (bc (DkM.d3 (StaM.dk s))))))) 5 Bool.false),(Blk.cells (af Bool.true f (takeC (Nat.mul (List.length (DkM.pend (StaM.dk s))) 4) (aU 0 (af Bool.true b (Enc.all ESt (DkM.pend (StaM.dk s))))))) 132 Bool.false),(Blk.cells (af Bool.true f (takeC (Nat.mul (List.length (StaM.log s)) 3) (aU 0 (af Bool.true b (Enc.all ECm (StaM.log s)))))) 35 Bool.false),(Blk.cells (af Bool.true f (takeC (Nat.mul (List.length (StaM.wcs s)) 3) (aU 0 (af Bool.true b (Enc.all ECm (StaM.wcs s)))))) 35 Bool.false),(Blk.cells (af Bool.true f (takeC (Nat.mul (List.length (StaM.wes s)) 1) (aU 0 (af Bool.true b (Enc.all EIn (StaM.wes s)))))) 3 Bool.false),(Blk.cells (af Bool.true f (takeC (Nat.mul (List.length (StaM.rs s)) 3) (aU 0 (af Bool.true b (Enc.all iC (StaM.rs s)))))) 136 Bool.false),(Blk.cells (af Bool.true f (takeC (Nat.mul (List.length (StaM.rest s)) 3) (aU 0 (af Bool.true b (Enc.all ECm (StaM.rest s)))))) 35 Bool.false)]
def gw_(s:StaM)(t:TbM)(r:List CmM)(f b:Nat->Option Nat):List Blk:=[(Blk.cells [(Value.pointer (Option.some (Addr.mk 1 0 none))),(Value.bool (StaM.off s)),(Value.int IntKind.i64 (PgM.ep (StaM.pg s))),(Value.int IntKind.u8 (PgM.ro (StaM.pg s))),(Value.int IntKind.i64 (PgM.ac (StaM.pg s))),(Value.int IntKind.u8 (PgM.ph (StaM.pg s))),(Value.int IntKind.i64 (PgM.fo (StaM.pg s))),(Value.int IntKind.i64 (PgM.ba (StaM.pg s))),(Value.slice (Option.some (Addr.mk 15 0 none)) (List.length (StaM.log s)) 18446744073709551616),(Value.pointer (Option.some (Addr.mk 2 0 none))),(Value.pointer (Option.some (Addr.mk 3 0 none))),(Value.pointer (Option.some (Addr.mk 7 0 none))),(Value.int IntKind.i64 (StaM.held s))] 114 Bool.true),(Blk.cells [(Value.bool Bool.true),(Value.bool (DkM.off (StaM.dk s))),(Value.bool (DkM.fused (StaM.dk s))),(Value.int IntKind.i64 (DkM.fuse (StaM.dk s))),(Value.int IntKind.i64 (DkM.steps (StaM.dk s))),(Value.slice (Option.some (Addr.mk 10 0 none)) (List.length (DkM.d0 (StaM.dk s))) 18446744073709551616),(Value.slice (Option.some (Addr.mk 11 0 none)) (List.length (DkM.d1 (StaM.dk s))) 18446744073709551616),(Value.slice (Option.some (Addr.mk 12 0 none)) (List.length (DkM.d2 (StaM.dk s))) 18446744073709551616),(Value.slice (Option.some (Addr.mk 13 0 none)) (List.length (DkM.d3 (StaM.dk s))) 18446744073709551616),(Value.slice (Option.some (Addr.mk 14 0 none)) (List.length (DkM.pend (StaM.dk s))) 18446744073709551616)] 108 Bool.true),(Blk.cells [(Value.pointer (Option.some (Addr.mk 1 0 none))),(Value.bool (StaM.wbr s)),(Value.slice (Option.some (Addr.mk 16 0 none)) (List.length (StaM.wcs s)) 18446744073709551616),(Value.slice (Option.some (Addr.mk 17 0 none)) (List.length (StaM.wes s)) 18446744073709551616)] 182 Bool.true),(Blk.cells [(Value.pointer (Option.some (Addr.mk 1 0 none))),(Value.bool (StaM.rbr s)),(Value.slice (Option.some (Addr.mk 18 0 none)) (List.length (StaM.rs s)) 18446744073709551616)] 173 Bool.true),(Blk.cells [(Value.pointer (Option.some (Addr.mk 5 0 none))),(Value.pointer (Option.some (Addr.mk 3 0 none))),(Value.slice (Option.some (Addr.mk 20 0 none)) (List.length r) 18446744073709551616)] 185 Bool.true),(Blk.cells [(Value.map (Option.some 6))] 141 Bool.true),(Blk.map (eP Bool.true f (eP Bool.true b (TbM.es t))) (TbM.ck t)),(Blk.cells [(Value.pointer (Option.some (Addr.mk 8 0 none))),(Value.pointer (Option.some (Addr.mk 3 0 none))),(Value.slice (Option.some (Addr.mk 19 0 none)) (List.length (StaM.rest s)) 18446744073709551616)] 185 Bool.true),(Blk.cells [(Value.map (Option.some 9))] 141 Bool.true),(Blk.map (eP Bool.true f (eP Bool.true b (TbM.es (StaM.tb s)))) (TbM.ck (StaM.tb s))),(Blk.cells (af Bool.true f (takeC (Nat.mul (List.length (DkM.d0 (StaM.dk s))) 1) (aU 0 (af Bool.true b (bc (DkM.d0 (StaM.dk s))))))) 5 Bool.false),(Blk.cells (af Bool.true f (takeC (Nat.mul (List.length (DkM.d1 (StaM.dk s))) 1) (aU 0 (af Bool.true b (bc (DkM.d1 (StaM.dk s))))))) 5 Bool.false),(Blk.cells (af Bool.true f (takeC (Nat.mul (List.length (DkM.d2 (StaM.dk s))) 1) (aU 0 (af Bool.true b (bc (DkM.d2 (StaM.dk s))))))) 5 Bool.false),(Blk.cells (af Bool.true f (takeC (Nat.mul (List.length (DkM.d3 (StaM.dk s))) 1) (aU 0 (af Bool.true b (bc (DkM.d3 (StaM.dk s))))))) 5 Bool.false),(Blk.cells (af Bool.true f (takeC (Nat.mul (List.length (DkM.pend (StaM.dk s))) 4) (aU 0 (af Bool.true b (Enc.all ESt (DkM.pend (StaM.dk s))))))) 132 Bool.false),(Blk.cells (af Bool.true f (takeC (Nat.mul (List.length (StaM.log s)) 3) (aU 0 (af Bool.true b (Enc.all ECm (StaM.log s)))))) 35 Bool.false),(Blk.cells (af Bool.true f (takeC (Nat.mul (List.length (StaM.wcs s)) 3) (aU 0 (af Bool.true b (Enc.all ECm (StaM.wcs s)))))) 35 Bool.false),(Blk.cells (af Bool.true f (takeC (Nat.mul (List.length (StaM.wes s)) 1) (aU 0 (af Bool.true b (Enc.all EIn (StaM.wes s)))))) 3 Bool.false),(Blk.cells (af Bool.true f (takeC (Nat.mul (List.length (StaM.rs s)) 3) (aU 0 (af Bool.true b (Enc.all iC (StaM.rs s)))))) 136 Bool.false),(Blk.cells (af Bool.true f (takeC (Nat.mul (List.length (StaM.rest s)) 3) (aU 0 (af Bool.true b (Enc.all ECm (StaM.rest s)))))) 35 Bool.false),(Blk.cells (af Bool.true f (takeC (Nat.mul (List.length r) 3) (aU 0 (af Bool.true b (Enc.all ECm r))))) 35 Bool.false)]
def mw_(s:StaM)(f b:Nat->Option Nat):List Blk:=[(Blk.cells [(Value.bool Bool.true),(Value.bool (DkM.off (StaM.dk s))),(Value.bool (DkM.fused (StaM.dk s))),(Value.int IntKind.i64 (DkM.fuse (StaM.dk s))),(Value.int IntKind.i64 (DkM.steps (StaM.dk s))),(Value.slice (Option.some (Addr.mk 7 0 none)) (List.length (DkM.d0 (StaM.dk s))) 18446744073709551616),(Value.slice (Option.some (Addr.mk 8 0 none)) (List.length (DkM.d1 (StaM.dk s))) 18446744073709551616),(Value.slice (Option.some (Addr.mk 9 0 none)) (List.length (DkM.d2 (StaM.dk s))) 18446744073709551616),(Value.slice (Option.some (Addr.mk 10 0 none)) (List.length (DkM.d3 (StaM.dk s))) 18446744073709551616),(Value.slice (Option.some (Addr.mk 11 0 none)) (List.length (DkM.pend (StaM.dk s))) 18446744073709551616)] 108 Bool.true),(Blk.cells [(Value.pointer (Option.some (Addr.mk 0 0 none))),(Value.bool (StaM.off s)),(Value.int IntKind.i64 (PgM.ep (StaM.pg s))),(Value.int IntKind.u8 (PgM.ro (StaM.pg s))),(Value.int IntKind.i64 (PgM.ac (StaM.pg s))),(Value.int IntKind.u8 (PgM.ph (StaM.pg s))),(Value.int IntKind.i64 (PgM.fo (StaM.pg s))),(Value.int IntKind.i64 (PgM.ba (StaM.pg s))),(Value.slice (Option.some (Addr.mk 12 0 none)) (List.length (StaM.log s)) 18446744073709551616),(Value.pointer (Option.some (Addr.mk 2 0 none))),(Value.pointer (Option.some (Addr.mk 3 0 none))),(Value.pointer (Option.some (Addr.mk 4 0 none))),(Value.int IntKind.i64 (StaM.held s))] 114 Bool.true),(Blk.cells [(Value.pointer (Option.some (Addr.mk 0 0 none))),(Value.bool (StaM.wbr s)),(Value.slice (Option.some (Addr.mk 13 0 none)) (List.length (StaM.wcs s)) 18446744073709551616),(Value.slice (Option.some (Addr.mk 14 0 none)) (List.length (StaM.wes s)) 18446744073709551616)] 182 Bool.true),(Blk.cells [(Value.pointer (Option.some (Addr.mk 0 0 none))),(Value.bool (StaM.rbr s)),(Value.slice (Option.some (Addr.mk 15 0 none)) (List.length (StaM.rs s)) 18446744073709551616)] 173 Bool.true),(Blk.cells [(Value.pointer (Option.some (Addr.mk 5 0 none))),(Value.pointer (Option.some (Addr.mk 3 0 none))),(Value.slice (Option.some (Addr.mk 16 0 none)) (List.length (StaM.rest s)) 18446744073709551616)] 185 Bool.true),(Blk.cells [(Value.map (Option.some 6))] 141 Bool.true),(Blk.map (eP Bool.true f (eP Bool.true b (TbM.es (StaM.tb s)))) (TbM.ck (StaM.tb s))),(Blk.cells (af Bool.true f (takeC (Nat.mul (List.length (DkM.d0 (StaM.dk s))) 1) (aU 0 (af Bool.true b (bc (DkM.d0 (StaM.dk s))))))) 5 Bool.false),(Blk.cells (af Bool.true f (takeC (Nat.mul (List.length (DkM.d1 (StaM.dk s))) 1) (aU 0 (af Bool.true b (bc (DkM.d1 (StaM.dk s))))))) 5 Bool.false),(Blk.cells (af Bool.true f (takeC (Nat.mul (List.length (DkM.d2 (StaM.dk s))) 1) (aU 0 (af Bool.true b (bc (DkM.d2 (StaM.dk s))))))) 5 Bool.false),(Blk.cells (af Bool.true f (takeC (Nat.mul (List.length (DkM.d3 (StaM.dk s))) 1) (aU 0 (af Bool.true b (bc (DkM.d3 (StaM.dk s))))))) 5 Bool.false),(Blk.cells (af Bool.true f (takeC (Nat.mul (List.length (DkM.pend (StaM.dk s))) 4) (aU 0 (af Bool.true b (Enc.all ESt (DkM.pend (StaM.dk s))))))) 132 Bool.false),(Blk.cells (af Bool.true f (takeC (Nat.mul (List.length (StaM.log s)) 3) (aU 0 (af Bool.true b (Enc.all ECm (StaM.log s)))))) 35 Bool.false),(Blk.cells (af Bool.true f (takeC (Nat.mul (List.length (StaM.wcs s)) 3) (aU 0 (af Bool.true b (Enc.all ECm (StaM.wcs s)))))) 35 Bool.false),(Blk.cells (af Bool.true f (takeC (Nat.mul (List.length (StaM.wes s)) 1) (aU 0 (af Bool.true b (Enc.all EIn (StaM.wes s)))))) 3 Bool.false),(Blk.cells (af Bool.true f (takeC (Nat.mul (List.length (StaM.rs s)) 3) (aU 0 (af Bool.true b (Enc.all iC (StaM.rs s)))))) 136 Bool.false),(Blk.cells (af Bool.true f (takeC (Nat.mul (List.length (StaM.rest s)) 3) (aU 0 (af Bool.true b (Enc.all ECm (StaM.rest s)))))) 35 Bool.false)]
def Da1:HeadX:=⟨7,114,[0,1,4,62,63,64],[.val, .val, .val, .val, .val, .val],[],au⟩
def Ba1:Code:=(dZ P 27 0).getD .skip
theorem Jh:dZ P 27 0=some Ba1:=by kernel_rfl
theorem OW:Occ P 27 (.block 0 (.loop Ba1)):=fM Jh
def Da2:HeadX:=⟨7,114,[0,4,90,91,92],[.val, .val, .val, .val, .val],[],au⟩
def Ba2:Code:=(dZ P 27 2).getD .skip
theorem Jf:dZ P 27 2=some Ba2:=by kernel_rfl
theorem Ox:Occ P 27 (.block 2 (.loop Ba2)):=fM Jf
def Vq(C:List Value->List Blk->Bool)(r:Int)(w:WalM):Ct:=aC P au 2 73 (bI C (.leaf (.int .i64 r,cZ w))) ctF
theorem U4(C:List Value->List Blk->Bool)(r:Int)(w:WalM)(s:StaM)(l' l:List CmM)(z i:Int):bV P E (Vq C r w) 50 27 Ba1 Da1 [p0,fzCms l', .int .i64 0,fzCms l, .int .i64 z, .int .i64 i] (stB s) =
 (let z0:=atN i 3;let y0:=Enc.all ECm l;let x0:=Eta.int .i64;let w0:=s.wcs.length;let v0:=Enc.all ECm s.wcs;let u0:=s.wes.length;let t0:=Enc.all EIn s.wes;let s0:=s.dk;let r0:=s0.d0.length;let q0:=s0.d1.length;let o0:=s0.d2.length;let n0:=s0.d3.length;let m0:=s0.pend.length;let l0:=Enc.all ESt s0.pend;
 let k0:=pt_ 0;let j0:=Nat.add z0 1;let i0:=bT y0 (Nat.add j0 1);let h0:=pt_ 1;let g0:=aH 0 [2,1,29,30,31,32,33,27,28];let f0:=s.log.length;let e0:=Enc.all ECm s.log;let d0:=w.dk;let c0:=d0.d0.length;let b0:=bC [2,1] 34;let a0:=af true b0 (bc d0.d0);let Z0:=d0.d1.length;let Y0:=af true b0 (bc d0.d1);
 let X0:=d0.d2.length;let W0:=af true b0 (bc d0.d2);let V0:=d0.d3.length;let U0:=af true b0 (bc d0.d3);let T0:=d0.pend.length;let S0:=af true b0 (Enc.all ESt d0.pend);let R0:=w.cs.length;let Q0:=af true b0 (Enc.all ECm w.cs);let P0:=w.es.length;let O0:=af true b0 (Enc.all EIn w.es);
 let N0:=s.rs.length;let M0:=Enc.all iC s.rs;let L0:=s.rest.length;let K0:=Enc.all ECm s.rest;let J0:=fa_ (List.length l') 0 (Enc.all ECm l');let I0:=fa_ l.length 0 y0;let H0:=Value.int .i64 z;let G0:=Value.int .i64 i;let F0:=Value.tuple ⟨[.int .i64 (-1),k0,J0, .int .i64 r,I0,H0,G0]⟩;let E0:=s.pg;
 let D0:=Value.int .i64 E0.ep;let C0:=Value.int .u8 E0.ro;let B0:=Value.int .i64 E0.ac;let A0:=Value.int .u8 E0.ph;let z1:=Value.int .i64 E0.fo;let y1:=Value.int .i64 E0.ba;let x1:=sl_ 12 f0;let w1:=pt_ 3;let v1:=Value.int .i64 s.held;let u1:=dk_ d0 7 8 9 10 11;let t1:=Blk.cells [h0, .bool w.br,sl_ 13 R0,sl_ 14 P0] 182 true;
 let s1:=Blk.cells [h0, .bool s.rbr,sl_ 15 N0] 173 true;let r1:=Blk.cells [pt_ 5,w1,sl_ 16 L0] 185 true;let q1:=Blk.cells [.map (some 6)] 141 true;let p1:=aH 0 [0,1,2,3,4,5,6,42,43,44,45,46,41,47,48,49,50];let o1:=Blk.map (eP true p1 s.tb.es) s.tb.ck;let n1:=lb_ p1 c0 1 a0 5;
 let m1:=lb_ p1 Z0 1 Y0 5;let l1:=lb_ p1 X0 1 W0 5;let k1:=lb_ p1 V0 1 U0 5;let j1:=lb_ p1 T0 4 S0 132;let i1:=lb_ p1 f0 3 e0 35;let h1:=lb_ p1 R0 3 Q0 35;let g1:=lb_ p1 P0 1 O0 3;let f1:=lb_ p1 N0 3 M0 136;let e1:=lb_ p1 L0 3 K0 35;let d1:=ag [.cells [h0, .bool true,D0,C0,B0,A0,z1,y1,x1,pt_ 2,w1,pt_ 4,v1] 114 true,u1,t1,s1,r1,q1,o1,n1,m1,l1,k1,j1,i1,h1,g1,f1,e1];
 let c1:=Value.int .i64 0;let b1:=Value.tuple ⟨[c1,k0,J0,c1,I0,H0, .int .i64 (dI .i64 i 1)]⟩;let a1:=ag [.cells [h0, .bool (eqI r 6),D0,C0,B0,A0,z1,y1,x1,pt_ 2,w1,pt_ 4,v1] 114 true,u1,t1,s1,r1,q1,o1,n1,m1,l1,k1,j1,i1,h1,g1,f1,e1];
 (aj (ltI i z) (ae (Bool.and (Nat.beq 3 3) (inI i l.length)) (ae (Bool.and (Nat.ble (Nat.add z0 3) y0.length) (jw [x0,x0, .slice 3] y0 z0)) (nb_ w0 3 v0 (nb_ u0 1 t0 (nb_ r0 1 (bc s0.d0) (nb_ q0 1 (bc s0.d1) (nb_ o0 1 (bc s0.d2) (nb_ n0 1 (bc s0.d3) (nb_ m0 4 l0 (ae (C [k0, .agg ⟨[.int .i64 (asI (bT y0 z0)), .int .i64 (asI (bT y0 j0)),fa_ (zN i0) (zB i0) (zC i0)]⟩] [.cells [h0, .bool s.wbr,sl_ 7 w0,sl_ 8 u0] 182 true,dk_ s0 2 3 4 5 6,lb_ g0 r0 1 (bc s0.d0) 5,lb_ g0 q0 1 (bc s0.d1) 5,lb_ g0 o0 1 (bc s0.d2) 5,lb_ g0 n0 1 (bc s0.d3) 5,lb_ g0 m0 4 l0 132,lb_ g0 w0 3 v0 35,lb_ g0 u0 1 t0 3]) (aj s.off (aj (neI r 0) (nb_ f0 3 e0 (nb_ c0 1 a0 (nb_ Z0 1 Y0 (nb_ X0 1 W0 (nb_ V0 1 U0 (nb_ T0 4 S0 (nb_ R0 3 Q0 (nb_ P0 1 O0 (nb_ N0 3 M0 (nb_ L0 3 K0 (some (F0,d1)))))))))))) (nb_ f0 3 e0 (nb_ c0 1 a0 (nb_ Z0 1 Y0 (nb_ X0 1 W0 (nb_ V0 1 U0 (nb_ T0 4 S0 (nb_ R0 3 Q0 (nb_ P0 1 O0 (nb_ N0 3 M0 (nb_ L0 3 K0 (some (b1,d1))))))))))))) (aj (neI r 0) (nb_ f0 3 e0 (nb_ c0 1 a0 (nb_ Z0 1 Y0 (nb_ X0 1 W0 (nb_ V0 1 U0 (nb_ T0 4 S0 (nb_ R0 3 Q0 (nb_ P0 1 O0 (nb_ N0 3 M0 (nb_ L0 3 K0 (some (F0,a1)))))))))))) (nb_ f0 3 e0 (nb_ c0 1 a0 (nb_ Z0 1 Y0 (nb_ X0 1 W0 (nb_ V0 1 U0 (nb_ T0 4 S0 (nb_ R0 3 Q0 (nb_ P0 1 O0 (nb_ N0 3 M0 (nb_ L0 3 K0 (some (b1,a1)))))))))))))))))))))))) (ns_ s (some (.tuple ⟨[.int .i64 1,k0,J0,c1,I0,H0,G0]⟩,ag (sm_ s (aH 0 [0,1,2,3,4,5,6,18,19,20,21,22,17,23,24,25,26]))))))):=by kernel_rfl
def Xv(C1 C2:List Value->List Blk->Bool)(c:CmM)(s:SrM):Ct:=aC P au 0 56 (bI C1 (.leaf (cmV c,[]))) (aC P au 5 75 (bI C2 (.leaf (.int .i64 0,srB s))) ctF)
theorem RY(C1 C2:List Value->List Blk->Bool)(c:CmM)(sr:SrM)(s:StaM)(l:List CmM)(z i:Int):bV P E (Xv C1 C2 c sr) 50 27 Ba2 Da2 [p0, .int .i64 0,fzCms l, .int .i64 z, .int .i64 i] (stB s) =
 (let z0:=atN i 3;let y0:=Enc.all ECm l;let x0:=Eta.int .i64;let w0:=Nat.add z0 1;let v0:=bT y0 (Nat.add w0 1);let u0:=Value.agg ⟨[.int .i64 (asI (bT y0 z0)), .int .i64 (asI (bT y0 w0)),fa_ (zN v0) (zB v0) (zC v0)]⟩;let t0:=s.log.length;let s0:=Nat.add t0 1;let r0:=Enc.all ECm s.log;let q0:=sl_ 12 t0;
 let o0:=s.rest.length;let n0:=Enc.all ECm s.rest;let m0:=s.rs.length;let l0:=Enc.all iC s.rs;let k0:=s.dk;let j0:=k0.d0.length;let i0:=k0.d1.length;let h0:=k0.d2.length;let g0:=k0.d3.length;let f0:=k0.pend.length;let e0:=Enc.all ESt k0.pend;let d0:=pt_ 0;let c0:=pt_ 1;let b0:=pt_ 3;let a0:=aH 0 [4,5,6,3,1,39,40,41,42,43,38,37];
 let Z0:=List.append (jC 0 r0) [.int .i64 c.e, .int .i64 c.n,fa_ c.ops.length 0 (Enc.all EOp c.ops)];let Y0:=sr.rn.dk;let X0:=Y0.d0.length;let W0:=bC [4,5,6,3,1] 44;let V0:=af true W0 (bc Y0.d0);let U0:=Y0.d1.length;let T0:=af true W0 (bc Y0.d1);let S0:=Y0.d2.length;let R0:=af true W0 (bc Y0.d2);
 let Q0:=Y0.d3.length;let P0:=af true W0 (bc Y0.d3);let O0:=Y0.pend.length;let N0:=af true W0 (Enc.all ESt Y0.pend);let M0:=s.wcs.length;let L0:=Enc.all ECm s.wcs;let K0:=s.wes.length;let J0:=Enc.all EIn s.wes;let I0:=sr.rn.rs.length;let H0:=af true W0 (Enc.all iC sr.rn.rs);let G0:=sr.rest.length;
 let F0:=af true W0 (Enc.all ECm sr.rest);let E0:=Value.int .i64 0;let D0:=fa_ l.length 0 y0;let C0:=Value.int .i64 z;let B0:=s.pg;let A0:=aH 0 [0,1,2,3,4,5,6,52,53,54,55,56,51,57,58,59,60];
 (aj (ltI i z) (ae (Bool.and (Nat.beq 3 3) (inI i l.length)) (ae (Bool.and (Nat.ble (Nat.add z0 3) y0.length) (jw [x0,x0, .slice 3] y0 z0)) (ae (C1 [u0] []) (ae (Nat.ble s0 4194304) (ae (Nat.beq (Nat.add 0 (Nat.mul t0 3)) r0.length) (ae (bZ q0 q0) (nb_ o0 3 n0 (nb_ m0 3 l0 (nb_ j0 1 (bc k0.d0) (nb_ i0 1 (bc k0.d1) (nb_ h0 1 (bc k0.d2) (nb_ g0 1 (bc k0.d3) (nb_ f0 4 e0 (ae (C2 [d0,u0] [.cells [c0,b0,sl_ 11 o0] 185 true, .cells [.map (some 2)] 141 true, .map (eP true a0 s.tb.es) s.tb.ck, .cells [pt_ 4, .bool s.rbr,sl_ 10 m0] 173 true,dk_ k0 5 6 7 8 9,lb_ a0 j0 1 (bc k0.d0) 5,lb_ a0 i0 1 (bc k0.d1) 5,lb_ a0 h0 1 (bc k0.d2) 5,lb_ a0 g0 1 (bc k0.d3) 5,lb_ a0 f0 4 e0 132,lb_ a0 m0 3 l0 136,lb_ a0 o0 3 n0 35]) (nb_ s0 3 Z0 (nb_ X0 1 V0 (nb_ U0 1 T0 (nb_ S0 1 R0 (nb_ Q0 1 P0 (nb_ O0 4 N0 (nb_ M0 3 L0 (nb_ K0 1 J0 (nb_ I0 3 H0 (nb_ G0 3 F0 (some (.tuple ⟨[E0,d0,E0,D0,C0, .int .i64 (dI .i64 i 1)]⟩,ag [.cells [c0, .bool s.off, .int .i64 B0.ep, .int .u8 B0.ro, .int .i64 B0.ac, .int .u8 B0.ph, .int .i64 B0.fo, .int .i64 B0.ba,sl_ 12 s0,pt_ 2,b0,pt_ 4, .int .i64 s.held] 114 true,dk_ Y0 7 8 9 10 11, .cells [c0, .bool s.wbr,sl_ 13 M0,sl_ 14 K0] 182 true, .cells [c0, .bool sr.rn.br,sl_ 15 I0] 173 true, .cells [pt_ 5,b0,sl_ 16 G0] 185 true, .cells [.map (some 6)] 141 true, .map (eP true A0 (eP true W0 sr.tb.es)) sr.tb.ck,lb_ A0 X0 1 V0 5,lb_ A0 U0 1 T0 5,lb_ A0 S0 1 R0 5,lb_ A0 Q0 1 P0 5,lb_ A0 O0 4 N0 132,lb_ A0 s0 3 Z0 35,lb_ A0 M0 3 L0 35,lb_ A0 K0 1 J0 3,lb_ A0 I0 3 H0 136,lb_ A0 G0 3 F0 35])))))))))))))))))))))))))) (ns_ s (some (.tuple ⟨[.int .i64 3,d0,E0,D0,C0, .int .i64 i]⟩,ag (sm_ s (aH 0 [0,1,2,3,4,5,6,18,19,20,21,22,17,23,24,25,26]))))))):=by kernel_rfl
def StaM.setW(s:StaM)(w:WalM):StaM:={ s with dk:=w.dk,wbr:=w.br,wcs:=w.cs,wes:=w.es }
theorem zF(n b:Nat)(c:List Value):zN (.iface 18446744073709551619 (.agg ⟨.slice none n b::c⟩))=n/\zB (.iface 18446744073709551619 (.agg ⟨.slice none n b::c⟩))=b/\zC (.iface 18446744073709551619 (.agg ⟨.slice none n b::c⟩))=c:=by
 rw[<-bG];exact⟨Ew (by decide),Yh (by decide),IB (by decide)⟩
theorem lw{n i k:Nat}(h:i<n)(hk:k<=3):Nat.ble (Nat.add (atN (i:Int) 3) k) (Nat.mul n 3)=true:=Nat.ble_eq_true_of_le (by
 show(i:Int).toNat*3+k<=n*3;have:(i:Int).toNat=i:=by omega
 omega)
theorem nU{n i:Nat}(h:i<n)(hn:n<4194304):ltI (i:Int) (ak n)=true/\inI (i:Int) n=true/\dI .i64 (i:Int) 1=((i+1:Nat):Int):=
 ⟨by unfold ltI ak; exact decide_eq_true (by omega),jF (by omega) (by omega),by unfold dI; rw[wrap64 (by omega) (by omega)]; omega⟩
theorem lZ(n:Nat):ltI (n:Int) (ak n)=false:=by unfold ltI ak; exact decide_eq_false (by omega)
def a1V(l' l:List CmM)(r i:Int):List Value:=[p0,fzCms l', .int .i64 r,fzCms l, .int .i64 (ak l.length), .int .i64 i]
theorem Xo{s:StaM}(hs:s.off=false)(ht:gZ s.tb){l' l:List CmM}{i:Nat}(hi:i<l.length)(hl:l.length<4194304){r:Int}{w:WalM}(h:CRX P 2 73 [p0,cmV l[i]] (cZ s.wal) (.int .i64 r) (cZ w)) :
  bV P E (Vq (aV [p0,cmV l[i]] (cZ s.wal)) r w) 50 27 Ba1 Da1 (a1V l' l 0 i) (stB s)=match eqI r 0 with
   |true=>some (.tuple ⟨exV .normal::a1V l' l 0 ((i+1:Nat):Int)⟩,ag (stB (s.setW w)))
   |false=>some (.tuple ⟨exV .ret::a1V l' l r i⟩,ag (stB { s.setW w with off:=eqI r 6 })):=by
 obtain⟨g1,g2,a1⟩:=nU hi hl;have g4:=ni hi;unfold a1V;rw[U4];simp only[dk_,fa_,lb_,nb_,ns_,pt_,sl_,sm_,hs,ht.ren,g1,g2,a1,g4,lw hi (Nat.le_refl 3),k_ hi,vP hi,uh hi,iI,(zF _ _ _).1,(zF _ _ _).2.1,(zF _ _ _).2.2,StaM.wal,stB,pgC,cZ,rnB,srB,tbB,dkL,List.cons_append,List.nil_append,List.append_assoc,dN,aT,dP,lsV,ptV,p0,aN,dkC,bn,fzCms,cmV,di,bG,az,dG,dn,dR,dE,dF,dD,dw,dC,dB,dQ,dA,aB,aK,aP,Enc.all_ren,aB rfl,aK rfl,aP rfl,aT rfl,aQ,bH,bz,bu,bg,ax,aX,bD,Int.toNat_natCast,aY,aO,bF,bU,dH,bP,bW,dK,Bool.and_self,aG,aF,ay];cases hr:eqI r 0 with
 |true=>
  have hn:neI r 0=false:=by unfold neI; unfold eqI at hr; simpa using hr
  have h6:eqI r 6=false:=by
   unfold eqI at hr ⊢;have:r=0:=by simpa using hr
   subst this; rfl
  simp only[dk_,fa_,lb_,nb_,ns_,pt_,sl_,sm_,hn,h6,aF,StaM.setW,hs,cZ,rnB,srB,tbB,dkL,List.cons_append,List.nil_append,List.append_assoc,dN,aT,dP,lsV,ptV,p0,aN,dkC,bn,fzCms,cmV,di,bG,az,dG,dn,dR,dE,dF,dD,dw,dC,dB,dQ,dA,aB,aK,aP,Enc.all_ren]
  rfl
 |false=>
  have hn:neI r 0=true:=by unfold neI; unfold eqI at hr; simpa using hr
  simp only[dk_,fa_,lb_,nb_,ns_,pt_,sl_,sm_,hn,aG,StaM.setW,cZ,rnB,srB,tbB,dkL,List.cons_append,List.nil_append,List.append_assoc,dN,aT,dP,lsV,ptV,p0,aN,dkC,bn,fzCms,cmV,di,bG,az,dG,dn,dR,dE,dF,dD,dw,dC,dB,dQ,dA,aB,aK,aP,Enc.all_ren]
  rfl
theorem acp{C:List Value->List Blk->Bool}{r:Int}{w:WalM}{s:StaM}(ht:gZ s.tb){l' l:List CmM}:bV P E (Vq C r w) 50 27 Ba1 Da1 (a1V l' l 0 l.length) (stB s)=some (.tuple ⟨exV (.exit 0)::a1V l' l 0 l.length⟩,ag (stB s)):=by
 unfold a1V;rw[U4];simp only[dk_,fa_,lb_,nb_,ns_,pt_,sl_,sm_,lZ,ht.ren,stB,pgC,cZ,rnB,srB,tbB,dkL,List.cons_append,List.nil_append,List.append_assoc,dN,aT,dP,lsV,ptV,p0,aN,dkC,bn,fzCms,cmV,di,bG,az,dG,dn,dR,dE,dF,dD,dw,dC,dB,dQ,dA,aB,aK,aP,Enc.all_ren,aB rfl,aK rfl,aP rfl,aT rfl,aQ,bH,bz,bu,bg,ax,aX,bD,Int.toNat_natCast,aY,aO,bF,bU,dH,bP,bW,dK,Bool.and_self,aG,aF,ay]
 rfl
def a2V(l:List CmM)(i:Int):List Value:=[p0, .int .i64 0,fzCms l, .int .i64 (ak l.length), .int .i64 i]
def StaM.add1(s:StaM)(sr:SrM)(c:CmM):StaM:={ s with log:=s.log++[c],dk:=sr.rn.dk,rbr:=sr.rn.br,rs:=sr.rn.rs,tb:=sr.tb,rest:=sr.rest }
theorem V_{s:StaM}(ht:gZ s.tb){l:List CmM}{i:Nat}(hi:i<l.length)(hl:l.length<4194304)(hg:s.log.length<4194300){sr:SrM}(hts:gZ sr.tb) :
  bV P E (Xv (aV [cmV l[i]] []) (aV [p0,cmV l[i]] (srB s.sr)) l[i] sr) 50 27 Ba2 Da2 (a2V l i) (stB s)=some (.tuple ⟨exV .normal::a2V l ((i+1:Nat):Int)⟩,ag (stB (s.add1 sr l[i]))):=by
 obtain⟨g1,g2,a1⟩:=nU hi hl;have g4:=ni hi;have h1:(s.log++[l[i]]).length=Nat.add s.log.length 1:=by simp
 unfold a2V;rw[RY];simp (disch:=first | omega | (simp only[List.length_append,List.length_drop,List.length_take,List.length_singleton,Nat.add_eq,bJ]<;>omega) | fail) only[dk_,fa_,lb_,nb_,ns_,pt_,sl_,sm_,ht.ren,hts.ren,g1,g2,a1,g4,lw hi (Nat.le_refl 3),k_ hi,vP hi,uh hi,iI,(zF _ _ _).1,(zF _ _ _).2.1,(zF _ _ _).2.2,StaM.sr,StaM.rn,StaM.add1,stB,pgC,h1,wE,cZ,rnB,srB,tbB,dkL,List.cons_append,List.nil_append,List.append_assoc,dN,aT,dP,lsV,ptV,p0,aN,dkC,bn,fzCms,cmV,di,bG,az,dG,dn,dR,dE,dF,dD,dw,dC,dB,dQ,dA,aB,aK,aP,Enc.all_ren,aB rfl,aB h1.symm,aK rfl,aP rfl,aT rfl,aQ,bH,bz,bu,bg,ax,aX,bD,Int.toNat_natCast,aY,aO,bF,bU,dH,bP,bW,dK,Bool.and_self,aG,aF,ay]
 rfl
theorem acZ{C1 C2:List Value->List Blk->Bool}{c:CmM}{sr:SrM}{s:StaM}(ht:gZ s.tb){l:List CmM}:bV P E (Xv C1 C2 c sr) 50 27 Ba2 Da2 (a2V l l.length) (stB s)=some (.tuple ⟨exV (.exit 2)::a2V l l.length⟩,ag (stB s)):=by
 unfold a2V;rw[RY];simp only[dk_,fa_,lb_,nb_,ns_,pt_,sl_,sm_,lZ,ht.ren,stB,pgC,cZ,rnB,srB,tbB,dkL,List.cons_append,List.nil_append,List.append_assoc,dN,aT,dP,lsV,ptV,p0,aN,dkC,bn,fzCms,cmV,di,bG,az,dG,dn,dR,dE,dF,dD,dw,dC,dB,dQ,dA,aB,aK,aP,Enc.all_ren,aB rfl,aK rfl,aP rfl,aT rfl,aQ,bH,bz,bu,bg,ax,aX,bD,Int.toNat_natCast,aY,aO,bF,bU,dH,bP,bW,dK,Bool.and_self,aG,aF,ay]
 rfl
theorem aau(s:StaM)(p:PgM)(en ep ru:Int):bM P E ctF 50 au [] [] 7 63 [p0,pgV p, .int .i64 en, .int .i64 ep, .int .i64 ru] (stB s) =
 (let z0:=eqI p.ro 3;let y0:=leI p.ac en;let x0:=eqI p.ph 4;let w0:=ltI ep p.ep;let v0:=ag (sm_ s (aH 0 [0,1,2,3,4,5,6,42,43,44,45,46,41,47,48,49,50]));let u0:=Value.bool false;let t0:=ns_ s (some (u0,v0));let s0:=aj (leI ru p.fo) (aj (leI p.fo en) (ns_ s (some (.bool (leI p.ba s.held),v0))) t0) t0;
 let r0:=aj (eqI p.fo en) s0 t0;let q0:=eqI p.ph 2;let o0:=aj w0 s0 t0;let n0:=ag (sm_ s (aH 0 [0,1,2,3,4,5,6,19,20,21,22,23,18,24,25,26,27]));let m0:=ns_ s (some (.bool w0,n0));let l0:=eqI p.ph 3;let k0:=ns_ s (some (u0,n0));let j0:=aj x0 t0 (aj q0 (aj q0 t0 k0) (aj l0 t0 k0));
 let i0:=aj y0 s0 t0;let h0:=ns_ s (some (.bool y0,n0));let g0:=aj z0 j0 j0;
 (aj (leI ru en) (aj (leI ep p.ep) (aj z0 (aj y0 (aj x0 (aj w0 r0 t0) (aj q0 (aj q0 o0 m0) (aj l0 o0 m0))) j0) (aj x0 (aj y0 r0 t0) (aj q0 (aj q0 i0 h0) (aj l0 i0 h0)))) g0) g0)):=by kernel_rfl
def okS(s:StaM):StaM:={ s with off:=false,dk:=okD s.dk }
def adP(C0 C1 C2 C3 C4 C5 C6:List Value->List Blk->Bool)(e ru r i1 i2:Int)(s s1 s2:StaM)(w:WalM)(l:List CmM):Ct:=
 (aC P au 0 9 (bI C1 (.leaf (ui (0,0),[]))) (aC P au 2 65 (bI C2 (.leaf (.int .i64 ru,rnB s.rn)))
 (aC P au 7 63 (bI C3 (.leaf (.bool true,stB s))) (fP P 27 0 Da1 (jd C4 (.leaf (.normal,a1V l l 0 i1,stB s1))) (aC P au 2 74 (bI C5 (.leaf (.int .i64 r,cZ w))) (fP P 27 2 Da2 (jd C6 (.leaf (.normal,a2V l i2,stB s2))) ctF))))))
theorem NK(C0 C1 C2 C3 C4 C5 C6:List Value->List Blk->Bool)(e ru r i1 i2:Int)(s s1 s2:StaM)(w:WalM)(l:List CmM):bM P E (adP C0 C1 C2 C3 C4 C5 C6 e ru r i1 i2 (okS s) s1 s2 w l) 50 au [] [] 7 27 [p0,fzCms l] (stB (okS s)) =
 (let z0:=okS s;let y0:=z0.log.length;let x0:=ak y0;let w0:=Value.int .i64 0;let v0:=Value.int .i64 x0;let u0:=l.length;let t0:=Enc.all ECm l;let s0:=fa_ u0 0 t0;let r0:=sl_ 12 y0;let q0:=bZ r0 r0;let o0:=bZ v0 v0;let n0:=ak u0;let m0:=eU .i64 n0 1;let l0:=Bool.and (Nat.beq 3 3) (inI m0 u0);
 let k0:=Nat.add (atN m0 3) 0;let j0:=Eta.int .i64;let i0:=bT t0 k0;let h0:=Bool.and (Nat.ble (Nat.add k0 1) t0.length) (ig j0 i0);let g0:=z0.rs.length;let f0:=Enc.all iC z0.rs;let e0:=z0.dk;let d0:=e0.d0.length;let c0:=bc e0.d0;let b0:=e0.d1.length;let a0:=bc e0.d1;let Z0:=e0.d2.length;
 let Y0:=bc e0.d2;let X0:=e0.d3.length;let W0:=bc e0.d3;let V0:=e0.pend.length;let U0:=Enc.all ESt e0.pend;let T0:=pt_ 0;let S0:=pt_ 1;let R0:=Blk.cells [S0, .bool z0.rbr,sl_ 7 g0] 173 true;let Q0:=dk_ e0 2 3 4 5 6;let P0:=aH 0 [3,1,56,57,58,59,60,55];let O0:=Enc.all ECm z0.log;let N0:=z0.rn.dk;
 let M0:=N0.d0.length;let L0:=bC [3,1] 61;let K0:=af true L0 (bc N0.d0);let J0:=N0.d1.length;let I0:=af true L0 (bc N0.d1);let H0:=N0.d2.length;let G0:=af true L0 (bc N0.d2);let F0:=N0.d3.length;let E0:=af true L0 (bc N0.d3);let D0:=N0.pend.length;let B0:=Enc.all ESt N0.pend;let A0:=af true L0 B0;
 let z1:=z0.wcs.length;let y1:=Enc.all ECm z0.wcs;let x1:=z0.wes.length;let w1:=Enc.all EIn z0.wes;let v1:=z0.rn.rs.length;let u1:=Enc.all iC z0.rn.rs;let t1:=af true L0 u1;let r1:=z0.rest.length;let q1:=Enc.all ECm z0.rest;let p1:=z0.pg;let o1:=pg_ p1;let n1:=Value.int .i64 (asI i0);let m1:=[T0,o1,Value.int .i64 (dI .i64 x0 n0),n1,Value.int .i64 ru];
 let l1:=pt_ 2;let k1:=pt_ 3;let j1:=pt_ 4;let h1:=Blk.cells [S0, .bool z0.off, .int .i64 p1.ep, .int .u8 p1.ro, .int .i64 p1.ac, .int .u8 p1.ph, .int .i64 p1.fo, .int .i64 p1.ba,r0,l1,k1,j1, .int .i64 z0.held] 114 true;let g1:=dk_ N0 7 8 9 10 11;let f1:=Blk.cells [S0, .bool z0.wbr,sl_ 13 z1,sl_ 14 x1] 182 true;
 let e1:=Blk.cells [S0, .bool z0.rn.br,sl_ 15 v1] 173 true;let d1:=Blk.cells [pt_ 5,k1,sl_ 16 r1] 185 true;let c1:=Blk.cells [.map (some 6)] 141 true;let b1:=aH 0 [0,1,2,3,4,5,6,68,69,70,71,72,67,73,74,75,76];let a1:=bZ o1 o1;let Z1:=Value.int .i64 n0;let Y1:=bZ Z1 Z1;let X1:=bZ n1 n1;
 let W1:=[0,1,2,3,4,5,6];let V1:=bC W1 77;let U1:=[T0,s0,w0,s0,Z1,w0];let T1:=s1.wcs.length;let S1:=bC W1 97;let R1:=Enc.all ECm s1.wcs;let Q1:=af true S1 R1;let P1:=s1.wes.length;let O1:=Enc.all EIn s1.wes;let N1:=af true S1 O1;let M1:=s1.dk;let L1:=M1.d0.length;let K1:=af true S1 (bc M1.d0);
 let J1:=M1.d1.length;let I1:=af true S1 (bc M1.d1);let H1:=M1.d2.length;let G1:=af true S1 (bc M1.d2);let F1:=M1.d3.length;let E1:=af true S1 (bc M1.d3);let D1:=M1.pend.length;let B1:=Enc.all ESt M1.pend;let A1:=af true S1 B1;let z2:=Blk.cells [S0, .bool s1.wbr,sl_ 7 T1,sl_ 8 P1] 182 true;
 let y2:=dk_ M1 2 3 4 5 6;let x2:=aH 0 [2,1,109,110,111,112,113,107,108];let w2:=neI r 0;let v2:=s1.log.length;let u2:=Enc.all ECm s1.log;let t2:=af true S1 u2;let r2:=w.dk;let q2:=r2.d0.length;let p2:=bC [2,1] 114;let o2:=af true p2 (bc r2.d0);let n2:=r2.d1.length;let m2:=af true p2 (bc r2.d1);
 let l2:=r2.d2.length;let k2:=af true p2 (bc r2.d2);let j2:=r2.d3.length;let h2:=af true p2 (bc r2.d3);let g2:=r2.pend.length;let f2:=Enc.all ESt r2.pend;let e2:=af true p2 f2;let d2:=w.cs.length;let c2:=Enc.all ECm w.cs;let b2:=af true p2 c2;let a2:=w.es.length;let Z2:=Enc.all EIn w.es;
 let Y2:=af true p2 Z2;let X2:=s1.rs.length;let W2:=Enc.all iC s1.rs;let V2:=af true S1 W2;let U2:=s1.rest.length;let T2:=Enc.all ECm s1.rest;let S2:=af true S1 T2;let R2:=Value.int .i64 r;let Q2:=s1.pg;let P2:=Value.int .i64 Q2.ep;let O2:=Value.int .u8 Q2.ro;let N2:=Value.int .i64 Q2.ac;
 let M2:=Value.int .u8 Q2.ph;let L2:=Value.int .i64 Q2.fo;let K2:=Value.int .i64 Q2.ba;let J2:=sl_ 12 v2;let I2:=Value.int .i64 s1.held;let H2:=Blk.cells [S0, .bool true,P2,O2,N2,M2,L2,K2,J2,l1,k1,j1,I2] 114 true;let G2:=dk_ r2 7 8 9 10 11;let F2:=Blk.cells [S0, .bool w.br,sl_ 13 d2,sl_ 14 a2] 182 true;
 let E2:=Blk.cells [S0, .bool s1.rbr,sl_ 15 X2] 173 true;let D2:=Blk.cells [pt_ 5,k1,sl_ 16 U2] 185 true;let B2:=aH 0 [0,1,2,3,4,5,6,122,123,124,125,126,121,127,128,129,130];let A2:=Blk.map (eP true B2 (eP true S1 s1.tb.es)) s1.tb.ck;let z3:=lb_ B2 q2 1 o2 5;let y3:=lb_ B2 n2 1 m2 5;
 let x3:=lb_ B2 l2 1 k2 5;let w3:=lb_ B2 j2 1 h2 5;let v3:=lb_ B2 g2 4 e2 132;let u3:=lb_ B2 v2 3 t2 35;let t3:=lb_ B2 d2 3 b2 35;let s3:=lb_ B2 a2 1 Y2 3;let r3:=lb_ B2 X2 3 V2 136;let q3:=lb_ B2 U2 3 S2 35;let p3:=[H2,G2,F2,E2,D2,c1,A2,z3,y3,x3,w3,v3,u3,t3,s3,r3,q3];let o3:=[T0,w0,s0,Z1,w0];
 let n3:=bC W1 131;let m3:=nw_ s2 n3 (some (w0,ag (sw_ s2 (aH 0 [0,1,2,3,4,5,6,142,143,144,145,146,141,147,148,149,150]) n3)));let l3:=Blk.cells [S0, .bool (eqI r 6),P2,O2,N2,M2,L2,K2,J2,l1,k1,j1,I2] 114 true;let k3:=[l3,G2,F2,E2,D2,c1,A2,z3,y3,x3,w3,v3,u3,t3,s3,r3,q3];
 let j3:=eU .i64 x0 1;let i3:=Nat.add 0 (atN j3 3);let h3:=bT O0 i3;let g3:=aH 0 [3,1,70,71,72,73,74,69];let f3:=bC [3,1] 75;let e3:=af true f3 (bc N0.d0);let d3:=af true f3 (bc N0.d1);let c3:=af true f3 (bc N0.d2);let b3:=af true f3 (bc N0.d3);let a3:=af true f3 B0;
 let Z3:=af true f3 u1;let Y3:=aH 0 [0,1,2,3,4,5,6,82,83,84,85,86,81,87,88,89,90];let X3:=bC W1 91;let W3:=bC W1 111;let V3:=af true W3 R1;let U3:=af true W3 O1;let T3:=af true W3 (bc M1.d0);let S3:=af true W3 (bc M1.d1);let R3:=af true W3 (bc M1.d2);let Q3:=af true W3 (bc M1.d3);
 let P3:=af true W3 B1;let O3:=aH 0 [2,1,123,124,125,126,127,121,122];let N3:=af true W3 u2;let M3:=bC [2,1] 128;let L3:=af true M3 (bc r2.d0);let K3:=af true M3 (bc r2.d1);let J3:=af true M3 (bc r2.d2);let I3:=af true M3 (bc r2.d3);let H3:=af true M3 f2;let G3:=af true M3 c2;
 let F3:=af true M3 Z2;let E3:=af true W3 W2;let D3:=af true W3 T2;let B3:=aH 0 [0,1,2,3,4,5,6,136,137,138,139,140,135,141,142,143,144];let A3:=Blk.map (eP true B3 (eP true W3 s1.tb.es)) s1.tb.ck;let z4:=lb_ B3 q2 1 L3 5;let y4:=lb_ B3 n2 1 K3 5;let x4:=lb_ B3 l2 1 J3 5;
 let w4:=lb_ B3 j2 1 I3 5;let v4:=lb_ B3 g2 4 H3 132;let u4:=lb_ B3 v2 3 N3 35;let t4:=lb_ B3 d2 3 G3 35;let s4:=lb_ B3 a2 1 F3 3;let r4:=lb_ B3 X2 3 E3 136;let q4:=lb_ B3 U2 3 D3 35;let p4:=[H2,G2,F2,E2,D2,c1,A3,z4,y4,x4,w4,v4,u4,t4,s4,r4,q4];let o4:=bC W1 145;let n4:=nw_ s2 o4 (some (w0,ag (sw_ s2 (aH 0 [0,1,2,3,4,5,6,156,157,158,159,160,155,161,162,163,164]) o4)));
 let m4:=[l3,G2,F2,E2,D2,c1,A3,z4,y4,x4,w4,v4,u4,t4,s4,r4,q4];
 (aj (eqI x0 0) (ae (C1 [w0,v0,s0] []) (ae q0 (ae o0 (aj (eqI n0 0) (ns_ z0 (some (w0,ag (sm_ z0 (aH 0 [0,1,2,3,4,5,6,29,30,31,32,33,28,34,35,36,37]))))) (ae l0 (ae h0 (nb_ g0 3 f0 (nb_ d0 1 c0 (nb_ b0 1 a0 (nb_ Z0 1 Y0 (nb_ X0 1 W0 (nb_ V0 4 U0 (ae (C2 [T0] [R0,Q0,lb_ P0 d0 1 c0 5,lb_ P0 b0 1 a0 5,lb_ P0 Z0 1 Y0 5,lb_ P0 X0 1 W0 5,lb_ P0 V0 4 U0 132,lb_ P0 g0 3 f0 136]) (nb_ y0 3 O0 (nb_ M0 1 K0 (nb_ J0 1 I0 (nb_ H0 1 G0 (nb_ F0 1 E0 (nb_ D0 4 A0 (nb_ z1 3 y1 (nb_ x1 1 w1 (nb_ v1 3 t1 (nb_ r1 3 q1 (ae (C3 m1 [h1,g1,f1,e1,d1,c1, .map (eP true b1 z0.tb.es) z0.tb.ck,lb_ b1 M0 1 K0 5,lb_ b1 J0 1 I0 5,lb_ b1 H0 1 G0 5,lb_ b1 F0 1 E0 5,lb_ b1 D0 4 A0 132,lb_ b1 y0 3 O0 35,lb_ b1 z1 3 y1 35,lb_ b1 x1 1 w1 3,lb_ b1 v1 3 t1 136,lb_ b1 r1 3 q1 35]) (ae a1 (ae q0 (ae o0 (ae Y1 (ae Y1 (ae h0 (ae X1 (nw_ z0 V1 (ae (C4 U1 (sw_ z0 (aH 0 [0,1,2,3,4,5,6,88,89,90,91,92,87,93,94,95,96]) V1)) (nb_ T1 3 Q1 (nb_ P1 1 N1 (nb_ L1 1 K1 (nb_ J1 1 I1 (nb_ H1 1 G1 (nb_ F1 1 E1 (nb_ D1 4 A1 (ae (C5 [T0] [z2,y2,lb_ x2 L1 1 K1 5,lb_ x2 J1 1 I1 5,lb_ x2 H1 1 G1 5,lb_ x2 F1 1 E1 5,lb_ x2 D1 4 A1 132,lb_ x2 T1 3 Q1 35,lb_ x2 P1 1 N1 3]) (aj s1.off (aj w2 (nb_ v2 3 t2 (nb_ q2 1 o2 (nb_ n2 1 m2 (nb_ l2 1 k2 (nb_ j2 1 h2 (nb_ g2 4 e2 (nb_ d2 3 b2 (nb_ a2 1 Y2 (nb_ X2 3 V2 (nb_ U2 3 S2 (some (R2,ag p3)))))))))))) (nb_ v2 3 t2 (nb_ q2 1 o2 (nb_ n2 1 m2 (nb_ l2 1 k2 (nb_ j2 1 h2 (nb_ g2 4 e2 (nb_ d2 3 b2 (nb_ a2 1 Y2 (nb_ X2 3 V2 (nb_ U2 3 S2 (ae (C6 o3 p3) m3)))))))))))) (aj w2 (nb_ v2 3 t2 (nb_ q2 1 o2 (nb_ n2 1 m2 (nb_ l2 1 k2 (nb_ j2 1 h2 (nb_ g2 4 e2 (nb_ d2 3 b2 (nb_ a2 1 Y2 (nb_ X2 3 V2 (nb_ U2 3 S2 (some (R2,ag k3)))))))))))) (nb_ v2 3 t2 (nb_ q2 1 o2 (nb_ n2 1 m2 (nb_ l2 1 k2 (nb_ j2 1 h2 (nb_ g2 4 e2 (nb_ d2 3 b2 (nb_ a2 1 Y2 (nb_ X2 3 V2 (nb_ U2 3 S2 (ae (C6 o3 k3) m3)))))))))))))))))))))))))))))))))))))))))))))))))))))) (ae (inI j3 y0) (ae (Bool.and (Nat.ble (Nat.add i3 1) O0.length) (ig j0 h3)) (ae (C1 [.int .i64 (asI h3),v0,s0] []) (ae q0 (ae o0 (aj (eqI n0 0) (ns_ z0 (some (w0,ag (sm_ z0 (aH 0 [0,1,2,3,4,5,6,43,44,45,46,47,42,48,49,50,51]))))) (ae l0 (ae h0 (nb_ g0 3 f0 (nb_ d0 1 c0 (nb_ b0 1 a0 (nb_ Z0 1 Y0 (nb_ X0 1 W0 (nb_ V0 4 U0 (ae (C2 [T0] [R0,Q0,lb_ g3 d0 1 c0 5,lb_ g3 b0 1 a0 5,lb_ g3 Z0 1 Y0 5,lb_ g3 X0 1 W0 5,lb_ g3 V0 4 U0 132,lb_ g3 g0 3 f0 136]) (nb_ y0 3 O0 (nb_ M0 1 e3 (nb_ J0 1 d3 (nb_ H0 1 c3 (nb_ F0 1 b3 (nb_ D0 4 a3 (nb_ z1 3 y1 (nb_ x1 1 w1 (nb_ v1 3 Z3 (nb_ r1 3 q1 (ae (C3 m1 [h1,g1,f1,e1,d1,c1, .map (eP true Y3 z0.tb.es) z0.tb.ck,lb_ Y3 M0 1 e3 5,lb_ Y3 J0 1 d3 5,lb_ Y3 H0 1 c3 5,lb_ Y3 F0 1 b3 5,lb_ Y3 D0 4 a3 132,lb_ Y3 y0 3 O0 35,lb_ Y3 z1 3 y1 35,lb_ Y3 x1 1 w1 3,lb_ Y3 v1 3 Z3 136,lb_ Y3 r1 3 q1 35]) (ae a1 (ae q0 (ae o0 (ae Y1 (ae Y1 (ae h0 (ae X1 (nw_ z0 X3 (ae (C4 U1 (sw_ z0 (aH 0 [0,1,2,3,4,5,6,102,103,104,105,106,101,107,108,109,110]) X3)) (nb_ T1 3 V3 (nb_ P1 1 U3 (nb_ L1 1 T3 (nb_ J1 1 S3 (nb_ H1 1 R3 (nb_ F1 1 Q3 (nb_ D1 4 P3 (ae (C5 [T0] [z2,y2,lb_ O3 L1 1 T3 5,lb_ O3 J1 1 S3 5,lb_ O3 H1 1 R3 5,lb_ O3 F1 1 Q3 5,lb_ O3 D1 4 P3 132,lb_ O3 T1 3 V3 35,lb_ O3 P1 1 U3 3]) (aj s1.off (aj w2 (nb_ v2 3 N3 (nb_ q2 1 L3 (nb_ n2 1 K3 (nb_ l2 1 J3 (nb_ j2 1 I3 (nb_ g2 4 H3 (nb_ d2 3 G3 (nb_ a2 1 F3 (nb_ X2 3 E3 (nb_ U2 3 D3 (some (R2,ag p4)))))))))))) (nb_ v2 3 N3 (nb_ q2 1 L3 (nb_ n2 1 K3 (nb_ l2 1 J3 (nb_ j2 1 I3 (nb_ g2 4 H3 (nb_ d2 3 G3 (nb_ a2 1 F3 (nb_ X2 3 E3 (nb_ U2 3 D3 (ae (C6 o3 p4) n4)))))))))))) (aj w2 (nb_ v2 3 N3 (nb_ q2 1 L3 (nb_ n2 1 K3 (nb_ l2 1 J3 (nb_ j2 1 I3 (nb_ g2 4 H3 (nb_ d2 3 G3 (nb_ a2 1 F3 (nb_ X2 3 E3 (nb_ U2 3 D3 (some (R2,ag m4)))))))))))) (nb_ v2 3 N3 (nb_ q2 1 L3 (nb_ n2 1 K3 (nb_ l2 1 J3 (nb_ j2 1 I3 (nb_ g2 4 H3 (nb_ d2 3 G3 (nb_ a2 1 F3 (nb_ X2 3 E3 (nb_ U2 3 D3 (ae (C6 o3 m4) n4)))))))))))))))))))))))))))))))))))))))))))))))))))))))))):=by kernel_rfl
end Go.VS.Tryz
end
