/- The law 'NodeReads': whatever its arguments, the call returns true. Conditions: none. -/
import Derived.Test.YtofceohboacaoaaGreatNodeReadsQ2
import Derived.Test.YtofceohboacaoaaGreatNodeReadsQ3
import Derived.Test.YtofceohboacaoaaGreatNodeReadsQ4
import Derived.Test.YtofceohboacaoaaGreatNodeReadsQ5
import Derived.ChangeSlices
import Derived.Deep.Slices
import Derived.ChangeArms
import Derived.Test.YtofceohboacaoaaGreatRows
import Derived.Test.YtofceohboacaoaaGreatNrF2
set_option linter.unusedSimpArgs false
set_option linter.unusedVariables false
noncomputable section
namespace Go.VS.Tryz
open Go.VS
set_option maxRecDepth 1000000
theorem Wn{l:List OpM}{i:Nat}(hi:i<l.length)(hl:l.length<4194304):bV P E ctF 50 45 F9 LQ (k1V l i) []=some (.tuple ⟨exV .normal::k1V l ((i+1:Nat):Int)⟩,af []):=by
 obtain⟨g1,g2,a1⟩:=iM hi hl;have g4:=qy hi;have n3:(EOp.all l).length=Nat.mul l.length 3:=EOp.all_length l;have ab:∀ b,asB (.bool b)=b:=fun _=>rfl;have aS:∀ b,asS (.string b)=b:=fun _=>rfl;have e1:∀ b:Bool,eqB b b=true:=fun b=>by cases b<;>rfl
 have e2:∀ s:ByteArray,eqS s s=true:=fun s=>by unfold eqS; simp
 rw[Vh];simp only[fa_,io_,g1,g2,a1,g4,n3,iG hi (Nat.le_refl 3),ve hi,qh hi,vk hi,ab,aS,e1,e2,jI,show Nat.beq 3 3=true from rfl,k1V,aJ,bQ,aA,bC,aV,a_,aO,ah,aP,bu,Int.toNat_natCast,aQ,aG,bz,bK,b_,bJ,bP,dm,Bool.and_self,aK,aH,ax]
 rfl
theorem acI{l:List OpM}:bV P E ctF 50 45 F9 LQ (k1V l l.length) []=some (.tuple ⟨exV (.exit 0)::k1V l l.length⟩,af []):=by
 rw[Vh];simp only[fa_,io_,kJ,k1V,aJ,bQ,aA,bC,aV,a_,aO,ah,aP,bu,Int.toNat_natCast,aQ,aG,bz,bK,b_,bJ,bP,dm,Bool.and_self,aK,aH,ax]
 rfl
theorem acN{l:List OpM}(hl:l.length<4194304):CRX P 0 45 [aJ l,aJ l] [] (.bool true) []:=by
 have q:LRX P 45 0 F9 LQ.head (k1V l (0:Nat)) [] .normal (k1V l l.length) []:=LRX.rounds (n:=50) (bf ctF) az bn VT (vs:=fun i=>k1V l i) (bs:=fun i=>[]) (e:= .exit 0) l.length (fun i hi=>Wn hi hl) acI (by intro h; cases h);refine CRX.of (pol:=au) (fl:=[]) (ts:=[]) (n:=50) (bf _) az (dV bn (fG (dL NW) q)) ((aak (bM (k1V l (0:Nat)) []) l).trans ?_);have z0:((0:Nat):Int)=0:=rfl;have e:neI (ag l.length) (ag l.length)=false:=by unfold neI; simp
 simp only[fa_,io_,z0,e,k1V,aJ,bQ,aN,ax,aH]
theorem acn{c:CmM}(hl:c.ops.length<4194304):CRX P 0 19 [cmV c,cmV c] [] (.bool true) []:=by
 refine CRX.of (pol:=au) (fl:=[]) (ts:=[]) (n:=50) (bf _) az (aj (pol:=au) bn (bF (acN hl))) ((acF (bM [aJ c.ops,aJ c.ops] []) c).trans ?_);have e:∀ x:Int,eqI x x=true:=fun x=>by unfold eqI; simp
 simp only[fa_,e,aJ,bQ,aN,ax,aK]
theorem A_{x:Int}{n:Nat}(hn:n<4194304):∃ k:Nat,k<=n/\CRX P 0 6 [.int .i64 x, .int .i64 ((n:Int)+1)] [] (.int .i64 (k:Int)) []:=by
 have h0:vH ((n:Int)+1)=true:=by unfold vH; simp; omega
 have h1:(Bool.and (Decidable.decide (Eq IntKind.i64 IntKind.i64)) (vH ((n:Int)+1)))=true:=by rw[h0]; rfl
 have m1:Int.tmod x ((n:Int)+1)<(n:Int)+1:=Int.tmod_lt_of_pos x (by omega);have m2:-((n:Int)+1)<Int.tmod x ((n:Int)+1):=by
  have:=Int.neg_tmod x ((n:Int)+1);have h3:Int.tmod (-x) ((n:Int)+1)<(n:Int)+1:=Int.tmod_lt_of_pos (-x) (by omega);rw[Int.neg_tmod]at h3;omega
 have hr:AC x ((n:Int)+1)=Int.tmod x ((n:Int)+1):=by unfold AC; first | rfl | exact wrap64 (by omega) (by omega)
 by_cases hlt:Int.tmod x ((n:Int)+1)<0
 ·refine⟨(Int.tmod x ((n:Int)+1)+((n:Int)+1)).toNat,by omega,?_⟩;refine CRX.of (pol:=au) (fl:=[]) (ts:=[]) (n:=50) (bf _) az bn ((NY x ((n:Int)+1)).trans ?_);have e1:ltI (AC x ((n:Int)+1)) 0=true:=by rw[hr]; unfold ltI; exact decide_eq_true hlt
  have e2:dO .i64 (AC x ((n:Int)+1)) ((n:Int)+1)=((Int.tmod x ((n:Int)+1)+((n:Int)+1)).toNat:Int):=by rw[hr]; unfold dO; rw[wrap64 (by omega) (by omega)]; omega
  simp only[io_,h0,e1,e2,decide_true,Bool.and_self,ax,aK]
 ·refine⟨(Int.tmod x ((n:Int)+1)).toNat,by omega,?_⟩;refine CRX.of (pol:=au) (fl:=[]) (ts:=[]) (n:=50) (bf _) az bn ((NY x ((n:Int)+1)).trans ?_);have e1:ltI (AC x ((n:Int)+1)) 0=false:=by rw[hr]; unfold ltI; exact decide_eq_false hlt
  have e2:AC x ((n:Int)+1)=((Int.tmod x ((n:Int)+1)).toNat:Int):=by rw[hr]; omega
  simp only[io_,h0,e1,decide_true,Bool.and_self,ax,aH];rw[<-e2]
theorem x_{l:List ActM}{i:Nat}(h:i<l.length):iq [.int .i64, .int .i64, .int .i64, .string, .slice 3, .int .i64, .int .i64, .int .u8, .int .i64, .slice 2, .int .i64, .int .i64, .slice 3, .slice 1] (fU.all l) (atN (i:Int) 14)=true:=by
 rw[atA];have c0:aU (fU.all l) (i*14+0) = .int .i64 l[i].kd:=jF h (by decide);have c1:aU (fU.all l) (i*14+1) = .int .i64 l[i].n:=jF h (by decide);have c2:aU (fU.all l) (i*14+2) = .int .i64 l[i].t:=jF h (by decide);have c3:aU (fU.all l) (i*14+3) = .string l[i].key:=jF h (by decide);have c4:aU (fU.all l) (i*14+4)=aX 3 l[i].ops.length 0 (EOp.all l[i].ops):=jF h (by decide);have c5:aU (fU.all l) (i*14+5) = .int .i64 l[i].m.k:=jF h (by decide);have c6:aU (fU.all l) (i*14+6) = .int .i64 l[i].m.e:=jF h (by decide);have c7:aU (fU.all l) (i*14+7) = .int .u8 l[i].m.ro:=jF h (by decide);have c8:aU (fU.all l) (i*14+8) = .int .i64 l[i].m.en:=jF h (by decide);have c9:aU (fU.all l) (i*14+9)=aX 2 l[i].m.st.length 0 (ESa.all l[i].m.st):=jF h (by decide);have c10:aU (fU.all l) (i*14+10) = .int .i64 l[i].m.fr:=jF h (by decide);have c11:aU (fU.all l) (i*14+11) = .int .i64 l[i].m.pv:=jF h (by decide);have c12:aU (fU.all l) (i*14+12)=aX 3 l[i].m.cs.length 0 (ECm.all l[i].m.cs):=jF h (by decide);have c13:aU (fU.all l) (i*14+13)=aX 1 l[i].b.length 0 (bc l[i].b):=jF h (by decide);show(and (eu (.int .i64) (aU (fU.all l) (i*14+0))) (and (eu (.int .i64) (aU (fU.all l) (i*14+1))) (and (eu (.int .i64) (aU (fU.all l) (i*14+2))) (and (eu (.string) (aU (fU.all l) (i*14+3))) (and (eu (.slice 3) (aU (fU.all l) (i*14+4))) (and (eu (.int .i64) (aU (fU.all l) (i*14+5))) (and (eu (.int .i64) (aU (fU.all l) (i*14+6))) (and (eu (.int .u8) (aU (fU.all l) (i*14+7))) (and (eu (.int .i64) (aU (fU.all l) (i*14+8))) (and (eu (.slice 2) (aU (fU.all l) (i*14+9))) (and (eu (.int .i64) (aU (fU.all l) (i*14+10))) (and (eu (.int .i64) (aU (fU.all l) (i*14+11))) (and (eu (.slice 3) (aU (fU.all l) (i*14+12))) (and (eu (.slice 1) (aU (fU.all l) (i*14+13))) true))))))))))))))=true;rw[c0,c1,c2,c3,c4,c5,c6,c7,c8,c9,c10,c11,c12,c13];rw[yZ (s:=3) (by decide),yZ (s:=2) (by decide),yZ (s:=3) (by decide),yZ (s:=1) (by decide)]
 rfl
theorem Fz{l:List ActM}{i:Nat}(h:i<l.length):aU (fU.all l) (Nat.add (Nat.add (Nat.add (Nat.add (atN (i:Int) 14) 1) 1) 1) 1)=aX 3 l[i].ops.length 0 (EOp.all l[i].ops):=Yi h
theorem EM{l:List ActM}{i:Nat}(h:i<l.length):aU (fU.all l) (atN (i:Int) 14) = .int .i64 l[i].kd:=adS h
theorem Eg{n i:Nat}(h:i<n):Nat.ble (Nat.add (atN (i:Int) 14) 14) (Nat.mul n 14)=true:=by rw[atA]; exact wP h (by decide)
theorem Xm{n:NdM}{T:List OpM}{i K D:Nat}(h:NR n T i (K+60000) D)(hi:i<40)(hK:200000<=K)(hD:D<=4000) :
  ∃ n3,NR n3 T (i+1) K (D+100)/\n3.s.log=n.s.log/\CRX P 6 23 [p0] (ndB n) (.int .i64 0) (ndB n3):=by
 have hn:=(h.ne (by omega)).mono (k:=100000) (by omega);obtain⟨pa,hpg,hp1,hp2⟩:=h.pg;have hac:=h.ac;have hru:=h.ru;have hln:=h.len;have hrl:=h.rl;have hsn:=h.q.sr.n;have hr0:=h.q.sr.r0;have hE:=yx h.ep;have hrc:∀ c∈n.s.rs,1<=c.ops.length/\c.ops.length<=4194304:=fun c hc=>by have:=(h.rok c hc).n; omega
 have hd1:=h.d1;have hso:∀ up:Int,up<=n.ac->nV n.s.held n.s.pg (n.s.log.length:Int) (eG n.s.log) up=true:=fun up hup=>by
  have f1:leI up (n.s.log.length:Int)=true:=by unfold leI; exact decide_eq_true (by omega)
  have f2:leI (eG n.s.log) 1=true:=by unfold leI; exact decide_eq_true hE
  have f3:leI pa (n.s.log.length:Int)=true:=by unfold leI; exact decide_eq_true (by omega)
  rw[hpg];unfold nV;simp only[f1,f2,f3]
  rfl
 by_cases hm:bI n.s.rs=n.ac
 ·have q2:=CRX.less (M:=5) (abb (s:=n.s) (h.q.mono (by omega)) (by omega) (hso _ hru)) (by decide);rw[hm]at q2;obtain⟨k,s3,k1,k2,q⟩:=U7 hn hpg hac hru (by omega) hrc q2 (h.q.mono (by omega)) rfl rfl (by omega) (by omega) hE;refine⟨_,?_,by rw[k2]; by_cases hp:pa<n.ac<;>simp only[hp,if_true,if_false]<;>rfl,q⟩;rw[k2];by_cases hp:pa<n.ac
  ·rw[if_pos hp];exact((h.mono (L:=K+20000) (Nat.le_refl _) h.le (by omega) (Nat.le_refl _)).paged k1).mono (by omega) (by omega) (Nat.le_refl _) (Nat.le_refl _)
  ·rw[if_neg hp];exact h.mono (by omega) (by omega) (by omega) (by omega)
 ·have hmm:bI n.s.rs+(((n.ac-bI n.s.rs).toNat:Nat):Int)=n.ac:=by omega
  generalize (n.ac-bI n.s.rs).toNat=m at hmm;obtain⟨k,x,k1,k2,q2⟩:=aaC (s:=n.s) (n:=m) (h.q.mono (by omega)) h.rbr (by omega) (by have:=h.d2; omega) (by omega) hmm.symm (by omega) h.all.2 (hso _ (Int.le_refl _));have h2:=NR.flushed (n:=n) (K:=K+40000) (x:=x) (k:=k) (m:=m) h hi k1 k2 (by omega) hmm;obtain⟨k',s3,k1',k2',q⟩:=U7 hn hpg hac hru (by omega) hrc q2 (h2.q.mono (by omega)) rfl rfl (by show n.s.dk.d1.length<=_; omega) (by have:=h2.ru; have h3:bI (n.s.flushed k x m).rs<=n.ac:=this; omega) hE;refine⟨_,?_,by rw[k2']; by_cases hp:pa<n.ac<;>simp only[hp,if_true,if_false]<;>rfl,q⟩;rw[k2'];by_cases hp:pa<n.ac
  ·rw[if_pos hp];exact((h2.mono (L:=K+20000) (Nat.le_refl _) h2.le (by omega) (Nat.le_refl _)).paged k1').mono (by omega) (by omega) (Nat.le_refl _) (Nat.le_refl _)
  ·rw[if_neg hp];exact h2.mono (by omega) (by omega) (by omega) (by omega)
theorem Yn{C:Bool}{N:Nat}{g:FuncId}{args:List Value}{bs bs' bs1:List Blk}{v v1:Value}(h:C=true->CRX P N g args bs v1 bs1)(hev:(DT.ite C (DT.leaf (v1,bs1)) DT.fail:DT (Value×List Blk)).eval=some (v,bs')):CRX P N g args bs v bs':=by
 cases C with
 |false=>cases hev
 |true=>
  have hev:some (v1,bs1)=some (v,bs'):=hev;simp only[Option.some.injEq,Prod.mk.injEq]at hev;obtain⟨rfl,rfl⟩:=hev;exact h rfl
theorem abq:∃ f:Int->Int->Int,∀ (x:Int) (n:Nat),n<4194304->∃ k:Nat,k<=n/\f x ((n:Int)+1)=k/\CRX P 0 6 [.int .i64 x, .int .i64 ((n:Int)+1)] [] (.int .i64 (k:Int)) []:=by
 classical
 refine⟨fun x m=>if h:(m-1).toNat<4194304 then((Classical.choose (A_ (x:=x) h):Nat):Int)else 0,fun x n hn=>?_⟩;have key:∀ (m:Nat) (hm:m<4194304),m=n->Classical.choose (A_ (x:=x) hm)<=n/\CRX P 0 6 [.int .i64 x, .int .i64 ((n:Int)+1)] [] (.int .i64 ((Classical.choose (A_ (x:=x) hm):Nat):Int)) []:=by
  intro m hm e;subst e;exact Classical.choose_spec (A_ (x:=x) hm)
 have h':(((n:Int)+1)-1).toNat<4194304:=by omega
 obtain⟨k1,k2⟩:=key _ h' (by omega);exact⟨_,k1,dif_pos h',k2⟩
open Classical in
def ng:List Value->List Blk->Bool:=fun a b=>decide (∃ (x:Int) (n:Nat),n<4194304/\a=[.int .i64 x, .int .i64 ((n:Int)+1)]/\b=[])
open Classical in
theorem qw{x:Int}{n:Nat}{m:Int}(hn:n<4194304)(hm:m=(n:Int)+1):ng [.int .i64 x, .int .i64 m] []=true:=by
 unfold ng;exact decide_eq_true ⟨x,n,hn,by rw[hm],rfl⟩
open Classical in
theorem Zm{a:List Value}{b:List Blk}(h:ng a b=true):∃ (x:Int) (n:Nat),n<4194304/\a=[.int .i64 x, .int .i64 ((n:Int)+1)]/\b=[]:=by
 unfold ng at h;exact of_decide_eq_true h
def Em(f:Int->Int->Int):Prop:=∀ (x:Int) (n:Nat),n<4194304->∃ k:Nat,k<=n/\f x ((n:Int)+1)=k/\CRX P 0 6 [.int .i64 x, .int .i64 ((n:Int)+1)] [] (.int .i64 (k:Int)) []
theorem PH{f:Int->Int->Int}(hf:Em f):CallOkX P 0 6 (Rl ng f):=⟨fun args bs t hR v bs' hev=>by
 unfold Rl at hR;split at hR
 ·rename_i k1 x k2 n;simp only[Option.some.injEq]at hR;subst hR;refine Yn (fun hc=>?_) hev;obtain⟨x',n',h1,h2,h3⟩:=Zm hc;subst h3;simp only[List.cons.injEq,Value.int.injEq,and_true]at h2;obtain⟨⟨rfl,rfl⟩,rfl,rfl⟩:=h2;obtain⟨k,_,e,q⟩:=hf x n' h1;rw[e];exact q
 ·cases hR⟩
theorem xC{C2 C3 C4 C5 C6 C7 C8 C9:List Value->List Blk->Bool}{f:Int->Int->Int}{nr er:Int}{n1 n2 n3:NdM}{t1:TbM}{b:List UInt8}{o:Int}(h1:Em f)
  (h2:CallOkX P 8 9 (cu C2 (.leaf (.tuple ⟨[.int .i64 nr, .int .i64 er]⟩,ndB n1)))) (h3:CallOkX P 8 11 (cu C3 (.leaf (bG n1.s.log,ndB n1)))) (h4:CallOkX P 0 19 (cu C4 (.leaf (.bool true,[])))) (h5:CallOkX P 2 20 (cu C5 (.leaf (.int .i64 0,tbB t1))))
  (h6:CallOkX P 0 21 (cu C6 (.leaf (.tuple ⟨[aX 1 b.length 0 (bc b), .int .i64 0]⟩,[])))) (h7:CallOkX P 8 22 (cu C7 (.leaf (.tuple ⟨[noL, .int .i64 0]⟩,ndB n2)))) (h8:CallOkX P 8 14 (cu C8 (.leaf (.int .i64 o,ndB n2)))) (h9:CallOkX P 6 23 (cu C9 (.leaf (.int .i64 0,ndB n3)))) :
  CtOk P (Dj ng C2 C3 C4 C5 C6 C7 C8 C9 f nr er n1 n2 n3 t1 b o):=
 aj (pol:=au) (aj (pol:=iT) (aj (pol:=iT) (aj (pol:=au) (aj (pol:=au) (aj (pol:=yD) (aj (pol:=iT) (aj (pol:=iT) (wz (pol:=iT) bn h9) h8) h7) h6) h5) h4) h3) h2) (PH h1)
def no9:List Value->List Blk->Bool:=fun _ _=>false
section
variable{l:List ActM}{ks:List ByteArray}{f:Int->Int->Int}{n:NdM}{t:TbM}{an:Int}{i:Nat}
theorem ads(hn:fJ n.s.tb)(ht:fJ t):oh P E (Dj ng no9 no9 no9 no9 no9 no9 no9 no9 f 0 0 n n n t [] 0) 50 4 Br0 Dr0 (r0V l ks an l.length) (nrB n t)=some (.tuple ⟨exV (.exit 0)::r0V l ks an l.length⟩,af (nrB n t)):=by
 rw[zi];simp (disch:=first | omega | (simp only[List.length_append,List.length_drop,List.length_take,List.length_singleton,Nat.add_eq,bg]<;>omega) | fail) only[bk_,cz_,dk_,dl_,dn_,fa_,fb_,fc_,io_,nh_,nl_,nn_,pt_,rb_,sb_,sc_,sl_,so_,tb_,w0_,wb_,hn.ren,ht.ren,kJ,r0V,fzActs,fzKys,mkA,nrB,ndB,stN,stB,mgV,lD,kN,pgC,dI,rnB,srB,tbB,dkL,List.cons_append,List.nil_append,List.append_assoc,dJ,aB,dM,lsV,ptV,p0,aW,dkC,aJ,bG,cmV,dA,bQ,aN,dH,dB,dU,dE,dG,dF,cZ,dC,dw,dS,dn,ay,aC,aF,Enc.all_ren,ay rfl,aC rfl,aF rfl,aB rfl,aA,bC,aV,a_,aO,ah,aP,bu,Int.toNat_natCast,aQ,aG,bz,bK,b_,bJ,bP,dm,Bool.and_self,aK,aH,ax]
 rfl
theorem adW{er:Int}(hn:fJ n.s.tb)(ht:fJ t)(hi:i<l.length)(hl:l.length<=40)(hk:f l[i].kd 3=0)(he:neI er 0=true) :
  oh P E (Dj ng (bM [p0,aJ l[i].ops] (ndB n)) no9 no9 no9 no9 no9 no9 no9 f 0 er n n n t [] 0) 50 4 Br0 Dr0 (r0V l ks an i) (nrB n t)=some (.tuple ⟨exV .normal::r0V l ks an ((i+1:Nat):Int)⟩,af (nrB n t)):=by
 obtain⟨g1,g2,g3⟩:=iM hi (by omega);have pk:ng [.int .i64 l[i].kd, .int .i64 3] []=true:=qw (n:=2) (by decide) rfl;have e0:eqI 0 0=true:=rfl;rw[zi];simp (disch:=first | omega | (simp only[List.length_append,List.length_drop,List.length_take,List.length_singleton,Nat.add_eq,bg]<;>omega) | fail) only[bk_,cz_,dk_,dl_,dn_,fa_,fb_,fc_,io_,nh_,nl_,nn_,pt_,rb_,sb_,sc_,sl_,so_,tb_,w0_,wb_,hn.ren,ht.ren,g1,g2,g3,pk,hk,e0,he,Eg hi,x_ hi,EM hi,Fz hi,(zF _ _ _).1,(zF _ _ _).2.1,(zF _ _ _).2.2,jI,ny,show Nat.beq 14 14=true from rfl,r0V,fzActs,fzKys,mkA,nrB,ndB,stN,stB,mgV,lD,kN,pgC,dI,rnB,srB,tbB,dkL,List.cons_append,List.nil_append,List.append_assoc,dJ,aB,dM,lsV,ptV,p0,aW,dkC,aJ,bG,cmV,dA,bQ,aN,dH,dB,dU,dE,dG,dF,cZ,dC,dw,dS,dn,ay,aC,aF,Enc.all_ren,ay rfl,aC rfl,aF rfl,aB rfl,aA,bC,aV,a_,aO,ah,aP,bu,Int.toNat_natCast,aQ,aG,bz,bK,b_,bJ,bP,dm,Bool.and_self,aK,aH,ax]
 rfl
theorem adP{n3:NdM}(hn:fJ n.s.tb)(hn3:fJ n3.s.tb)(ht:fJ t)(hi:i<l.length)(hl:l.length<=40)(hk:f l[i].kd 3=2) :
  oh P E (Dj ng no9 no9 no9 no9 no9 no9 no9 (bM [p0] (ndB n)) f 0 0 n n n3 t [] 0) 50 4 Br0 Dr0 (r0V l ks an i) (nrB n t)=some (.tuple ⟨exV .normal::r0V l ks an ((i+1:Nat):Int)⟩,af (nrB n3 t)):=by
 obtain⟨g1,g2,g3⟩:=iM hi (by omega);have pk:ng [.int .i64 l[i].kd, .int .i64 3] []=true:=qw (n:=2) (by decide) rfl;have e0:eqI 2 0=false:=rfl;have e1:eqI 2 1=false:=rfl;rw[zi];simp (disch:=first | omega | (simp only[List.length_append,List.length_drop,List.length_take,List.length_singleton,Nat.add_eq,bg]<;>omega) | fail) only[bk_,cz_,dk_,dl_,dn_,fa_,fb_,fc_,io_,nh_,nl_,nn_,pt_,rb_,sb_,sc_,sl_,so_,tb_,w0_,wb_,hn.ren,hn3.ren,ht.ren,g1,g2,g3,pk,hk,e0,e1,Eg hi,x_ hi,EM hi,Fz hi,(zF _ _ _).1,(zF _ _ _).2.1,(zF _ _ _).2.2,jI,ny,show Nat.beq 14 14=true from rfl,r0V,fzActs,fzKys,mkA,nrB,ndB,stN,stB,mgV,lD,kN,pgC,dI,rnB,srB,tbB,dkL,List.cons_append,List.nil_append,List.append_assoc,dJ,aB,dM,lsV,ptV,p0,aW,dkC,aJ,bG,cmV,dA,bQ,aN,dH,dB,dU,dE,dG,dF,cZ,dC,dw,dS,dn,ay,aC,aF,Enc.all_ren,ay rfl,aC rfl,aF rfl,aB rfl,aA,bC,aV,a_,aO,ah,aP,bu,Int.toNat_natCast,aQ,aG,bz,bK,b_,bJ,bP,dm,Bool.and_self,aK,aH,ax]
 rfl
theorem adc{n2:NdM}{b:List UInt8}{o en:Int}(hn:fJ n.s.tb)(hn2:fJ n2.s.tb)(ht:fJ t)(hi:i<l.length)(hl:l.length<=40)(hk:f l[i].kd 3=1)(hen:f l[i].n 60=en) :
  oh P E (Dj ng no9 no9 no9 no9 (bM [mV ⟨3,1,0,en,[],0,0,[]⟩] []) (fun a x=>bM [p0,aX 1 b.length 0 (bc b)] (ndB n) a x || bM [p0,aX 1 b.length 0 (bc b)] (ndB n2) a x) (bM [p0] (ndB n2)) no9 f 0 0 n n2 n t b o) 50 4 Br0 Dr0 (r0V l ks an i) (nrB n t)=some (.tuple ⟨exV .normal::r0V l ks an ((i+1:Nat):Int)⟩,af (nrB n2 t)):=by
 obtain⟨g1,g2,g3⟩:=iM hi (by omega);have pk:ng [.int .i64 l[i].kd, .int .i64 3] []=true:=qw (n:=2) (by decide) rfl;have pk2:ng [.int .i64 l[i].n, .int .i64 60] []=true:=qw (n:=59) (by decide) rfl;have e0:eqI 1 0=false:=rfl;have e1:eqI 1 1=true:=rfl;have e2:neI o o=false:=by unfold neI; simp
 have c1:aU (fU.all l) (Nat.add (atN (i:Int) 14) 1) = .int .i64 l[i].n:=adO hi;have n1:([]:List (Int×Int)).length=0:=rfl;have n2':ESa.all ([]:List (Int×Int))=[]:=rfl;have n3:([]:List CmM).length=0:=rfl;have n4:ECm.all ([]:List CmM)=[]:=rfl;rw[zi];simp (disch:=first | omega | (simp only[List.length_append,List.length_drop,List.length_take,List.length_singleton,Nat.add_eq,bg]<;>omega) | fail) only[bk_,cz_,dk_,dl_,dn_,fa_,fb_,fc_,io_,nh_,nl_,nn_,pt_,rb_,sb_,sc_,sl_,so_,tb_,w0_,wb_,hn.ren,hn2.ren,ht.ren,g1,g2,g3,pk,pk2,hk,hen,c1,n1,n2',n3,n4,e0,e1,e2,Eg hi,x_ hi,EM hi,Fz hi,(zF _ _ _).1,(zF _ _ _).2.1,(zF _ _ _).2.2,jI,ny,Bool.true_or,Bool.or_true,show Nat.beq 14 14=true from rfl,r0V,fzActs,fzKys,mkA,mV,nrB,ndB,stN,stB,mgV,lD,kN,pgC,dI,rnB,srB,tbB,dkL,List.cons_append,List.nil_append,List.append_assoc,dJ,aB,dM,lsV,ptV,p0,aW,dkC,aJ,bG,cmV,dA,bQ,aN,dH,dB,dU,dE,dG,dF,cZ,dC,dw,dS,dn,ay,aC,aF,Enc.all_ren,ay rfl,aC rfl,aF rfl,aB rfl,aA,bC,aV,a_,aO,ah,aP,bu,Int.toNat_natCast,aQ,aG,bz,bK,b_,bJ,bP,dm,Bool.and_self,aK,aH,ax]
 rfl
theorem abX{n1:NdM}{t1:TbM}{L:List CmM}(hn:fJ n.s.tb)(hn1:fJ n1.s.tb)(ht:fJ t)(ht1:fJ t1)(hi:i<l.length)(hl:l.length<=40)(hk:f l[i].kd 3=0)(hL:L.length<=40)(hlog:n1.s.log=L++[⟨1,(L.length:Int)+1,l[i].ops⟩]) :
  oh P E (Dj ng (bM [p0,aJ l[i].ops] (ndB n)) (bM [p0] (ndB n1)) (bM [cmV ⟨1,(L.length:Int)+1,l[i].ops⟩,cmV ⟨1,(L.length:Int)+1,l[i].ops⟩] []) (bM [p0,aJ l[i].ops] (tbB t)) no9 no9 no9 no9 f ((L.length:Int)+1) 0 n1 n n t1 [] 0) 50 4 Br0 Dr0 (r0V l ks L.length i) (nrB n t)=some (.tuple ⟨exV .normal::r0V l ks ((L.length:Int)+1) ((i+1:Nat):Int)⟩,af (nrB n1 t1)):=by
 obtain⟨g1,g2,g3⟩:=iM hi (by omega);have pk:ng [.int .i64 l[i].kd, .int .i64 3] []=true:=qw (n:=2) (by decide) rfl;have e0:eqI 0 0=true:=rfl;have e1:neI 0 0=false:=rfl;have a1:dO .i64 (L.length:Int) 1=(L.length:Int)+1:=by unfold dO; exact wrap64 (by omega) (by omega)
 have s1:fH .i64 ((L.length:Int)+1) 1=(L.length:Int):=by unfold fH; rw[wrap64 (by omega) (by omega)]; omega
 have hll:n1.s.log.length=L.length+1:=by rw[hlog,List.length_append,List.length_singleton]
 have hlt:L.length<n1.s.log.length:=by omega
 have e2:neI ((L.length:Int)+1) ((L.length:Int)+1)=false:=by unfold neI; simp
 have e3:ag n1.s.log.length=(L.length:Int)+1:=by unfold ag; omega
 obtain⟨_,k2,_⟩:=iM hlt (by omega);have hc:n1.s.log[L.length]=⟨1,(L.length:Int)+1,l[i].ops⟩:=by
  have:n1.s.log[L.length]? = some ⟨1,(L.length:Int)+1,l[i].ops⟩:=by rw[hlog]; simp
  rw[List.getElem?_eq_getElem hlt]at this;exact Option.some.inj this
 have c0:=pI hlt;have c1:=Az hlt;have c2:=xP hlt;rw[hc]at c0 c1 c2;have ce:=rJ hlt;have cb:=iG hlt (Nat.le_refl 3);rw[zi];simp (disch:=first | omega | (simp only[List.length_append,List.length_drop,List.length_take,List.length_singleton,Nat.add_eq,bg]<;>omega) | fail) only[bk_,cz_,dk_,dl_,dn_,fa_,fb_,fc_,io_,nh_,nl_,nn_,pt_,rb_,sb_,sc_,sl_,so_,tb_,w0_,wb_,hn.ren,hn1.ren,ht.ren,ht1.ren,g1,g2,g3,pk,hk,e0,e1,a1,s1,e2,e3,k2,c0,c1,c2,ce,cb,Eg hi,x_ hi,EM hi,Fz hi,(zF _ _ _).1,(zF _ _ _).2.1,(zF _ _ _).2.2,jI,ny,show Nat.beq 14 14=true from rfl,show Nat.beq 3 3=true from rfl,r0V,fzActs,fzKys,mkA,nrB,ndB,stN,stB,mgV,lD,kN,pgC,dI,rnB,srB,tbB,dkL,List.cons_append,List.nil_append,List.append_assoc,dJ,aB,dM,lsV,ptV,p0,aW,dkC,aJ,bG,cmV,dA,bQ,aN,dH,dB,dU,dE,dG,dF,cZ,dC,dw,dS,dn,ay,aC,aF,Enc.all_ren,ay rfl,aC rfl,aF rfl,aB rfl,aA,bC,aV,a_,aO,ah,aP,bu,Int.toNat_natCast,aQ,aG,bz,bK,b_,bJ,bP,dm,Bool.and_self,aK,aH,ax]
 rfl
end
theorem aac:Fe P rZ 6000 au [] [] 0 [] 5 [] [] =
 (some (Value.bool (BEq.beq 0 0),af [])):=by kernel_rfl
theorem aa2:CRX P 0 5 [] [] (.bool true) []:=
 CRX.ofE (pol:=au) (fl:=[]) (ts:=[]) (n:=6000) (kb:=[]) az (qE P) (aac.trans rfl)
theorem aaM{N:Nat}{g:FuncId}{a0:List Value}{b0 b1 B:List Blk}{v:Value}(h0:CRX P N g a0 b0 v B)(h1:CRX P N g a0 b1 v B):CallOkX P N g (cu (fun a x=>bM a0 b0 a x || bM a0 b1 a x) (.leaf (v,B))):=⟨fun args bs t hR v' bs' hev=>by
 unfold cu at hR;obtain rfl:=Option.some.inj hR;refine Yn (fun hc=>?_) hev;rcases Bool.or_eq_true _ _▸hc with hc | hc
 ·obtain⟨rfl,rfl⟩:=BQ hc;exact h0
 ·obtain⟨rfl,rfl⟩:=BQ hc
  exact h1⟩
theorem ja{N:Nat}{g:FuncId}{r:DT (Value×List Blk)}:CallOkX P N g (cu no9 r):=jw
theorem ZY{l:List ActM}{ks:List ByteArray}{f:Int->Int->Int}(hf:Em f){n:NdM}{T:List OpM}{i K D:Nat}(hi:i<l.length)(hl:l.length<=40)(h:NR n T i (K+100000) D)(hK:200000<=K)(hD:D<=4000) :
  ∃ n2 T2,NR n2 T2 (i+1) K (D+100)/\∀ {e:Ex} {vs:List Value} {bs:List Blk},LRX P 4 0 Br0 Dr0.head (r0V l ks n2.s.log.length ((i+1:Nat):Int)) (nrB n2 (eX T2)) e vs bs->LRX P 4 0 Br0 Dr0.head (r0V l ks n.s.log.length i) (nrB n (eX T)) e vs bs:=by
 have hn:=h.ne (by omega);obtain⟨pa,hpg,hp1,hp2⟩:=h.pg;have hac:=h.ac;have hln:=h.len;have hE:=yx h.ep;have htb:=h.q.sr.tb;have hT:=jv T;obtain⟨k0,hk0,ek0,_⟩:=hf l[i].kd 2 (by decide);have ek0:f l[i].kd 3=k0:=ek0;have hro:n.s.pg.ro=1:=by rw[hpg]
 have hep:n.s.pg.ep=1:=by rw[hpg]
 have h3:k0=0\/k0=1\/k0=2:=by omega
 rcases h3 with rfl | rfl | rfl
 ·cases hr:n.room l[i].ops with
  |false=>
   obtain⟨e,he,q⟩:=adu (l:=l[i].ops) (hn.mono (by omega)) hro hac hr;exact⟨n,T,h.mono (by omega) (by omega) (by omega) (by omega),fun hh=>LRX.againN (n:=50) (bf _) az (xC (n1:=n) (n2:=n) (n3:=n) (t1:=eX T) (b:=[]) (o:=0) hf (bF q) ja ja ja ja ja ja ja) wR (adW htb hT hi hl ek0 he) hh⟩
  |true=>
   have hb:jb l[i].ops=0:=by
    unfold NdM.room at hr;rw[Bool.and_eq_true]at hr;have:=hr.1; unfold eqI at this; exact of_decide_eq_true this
   obtain⟨b1,b2,b3⟩:=jc.1 hb;obtain⟨k,k1,q⟩:=Yw (l:=l[i].ops) (hn.mono (by omega)) hro (by rw[hpg]) (by rw[hpg]; show pa<=_; omega) (by rw[hep]; decide) (by rw[hep]; exact hE) hac hr;have h2:=NR.yes (k:=k) (h.mono (L:=K+20000) (Nat.le_refl _) h.le (by omega) (Nat.le_refl _)) (by omega) hb k1;have hcom:n.com l[i].ops=⟨1,(n.s.log.length:Int)+1,l[i].ops⟩:=by unfold NdM.com; rw[hep]
   have q3:=KX (h2.ne (by omega));have q4:=acn (c:=⟨1,(n.s.log.length:Int)+1,l[i].ops⟩) (by show l[i].ops.length<_; omega);have q5:=E_ hT hb;rw[SY]at q5;have hlog:({ n with s:=n.s.added k [n.com l[i].ops] }:NdM).s.log=n.s.log++[⟨1,(n.s.log.length:Int)+1,l[i].ops⟩]:=by show n.s.log++[n.com l[i].ops]=_; rw[hcom]
   refine⟨_,_,h2.mono (Nat.le_refl _) h2.le (Nat.le_refl _) (by omega),fun hh=>?_⟩;have hll:(({ n with s:=n.s.added k [n.com l[i].ops] }:NdM).s.log.length:Int)=(n.s.log.length:Int)+1:=by rw[hlog,List.length_append,List.length_singleton]; omega
   rw[hll]at hh;have ht1:=h2.q.sr.tb;generalize ({ n with s:=n.s.added k [n.com l[i].ops] }:NdM)=n1 at hh q q3 hlog ht1;exact LRX.againN (n:=50) (bf _) az (xC (n2:=n) (n3:=n) (b:=[]) (o:=0) hf (bF q) (bF q3) (bF q4) (bF q5) ja ja ja ja) wR (abX htb ht1 hT (jv _) hi hl ek0 (by omega) hlog) hh
 ·obtain⟨k1,hk1,ek1,_⟩:=hf l[i].n 59 (by decide);have ek1:f l[i].n 60=k1:=ek1;obtain⟨x,hx⟩:=ac5 (e:=1) (en:=(k1:Int)) (by decide) (by omega);have q1:=Pj (n:=n) (e:=1) (ac:=pa) (hn.mono (by omega)) hpg (by decide) rfl hx hac rfl;have ha1:n.ac<=max n.ac (min (max (max n.kn 0) (k1:Int)) n.s.log.length):=by omega
  have ha2:max n.ac (min (max (max n.kn 0) (k1:Int)) n.s.log.length)<=n.s.log.length:=by omega
  have hid:max (max n.ac (min (max (max n.kn 0) (k1:Int)) n.s.log.length)) (min (max (max (max (max n.kn 0) (k1:Int)) 0) (k1:Int)) n.s.log.length)=max n.ac (min (max (max n.kn 0) (k1:Int)) n.s.log.length):=by omega
  have hid2:max (max (max (max n.kn 0) (k1:Int)) 0) (k1:Int)=max (max n.kn 0) (k1:Int):=by omega
  have h2:=NR.ack (kn:=max (max n.kn 0) (k1:Int)) h ha1 ha2;have q2:=Pj (n:={ n with ac:=max n.ac (min (max (max n.kn 0) (k1:Int)) n.s.log.length),kn:=max (max n.kn 0) (k1:Int) }) (e:=1) (ac:=pa) ((h2.ne (by omega)).mono (by omega)) hpg (by decide) rfl hx h2.ac rfl;have e2:({ ({ n with ac:=max n.ac (min (max (max n.kn 0) (k1:Int)) n.s.log.length),kn:=max (max n.kn 0) (k1:Int) }:NdM)with ac:=max (max n.ac (min (max (max n.kn 0) (k1:Int)) n.s.log.length)) (min (max (max (max (max n.kn 0) (k1:Int)) 0) (k1:Int)) n.s.log.length),kn:=max (max (max (max n.kn 0) (k1:Int)) 0) (k1:Int) }:NdM)={ n with ac:=max n.ac (min (max (max n.kn 0) (k1:Int)) n.s.log.length),kn:=max (max n.kn 0) (k1:Int) }:=by rw[hid,hid2]
  have q2:=(congrArg (fun N2=>CRX P 8 22 [p0,aX 1 (3::x).length 0 (bc (3::x))] (ndB { n with ac:=max n.ac (min (max (max n.kn 0) (k1:Int)) n.s.log.length),kn:=max (max n.kn 0) (k1:Int) }) (.tuple ⟨[noL, .int .i64 0]⟩) (ndB N2)) e2).mp q2;have q3:=Xj (n:={ n with ac:=max n.ac (min (max (max n.kn 0) (k1:Int)) n.s.log.length),kn:=max (max n.kn 0) (k1:Int) }) (h2.ne (by omega)) hro h2.ac;refine⟨_,T,h2.mono (by omega) (by omega) (by omega) (by omega),fun hh=>?_⟩;have ht1:=h2.q.sr.tb;have hlg:({ n with ac:=max n.ac (min (max (max n.kn 0) (k1:Int)) n.s.log.length),kn:=max (max n.kn 0) (k1:Int) }:NdM).s.log.length=n.s.log.length:=rfl;rw[hlg]at hh;generalize ({ n with ac:=max n.ac (min (max (max n.kn 0) (k1:Int)) n.s.log.length),kn:=max (max n.kn 0) (k1:Int) }:NdM)=n2 at hh q1 q2 q3 ht1;exact LRX.againN (n:=50) (bf _) az (xC (n1:=n) (n3:=n) (t1:=eX T) (nr:=0) (er:=0) hf ja ja ja ja (bF hx.enc) (aaM q1 q2) (bF q3) ja) wR (adc htb ht1 hT hi hl ek0 ek1) hh
 ·obtain⟨n3,h2,hlg,q⟩:=Xm (K:=K) (h.mono (L:=K+60000) (Nat.le_refl _) h.le (by omega) (Nat.le_refl _)) (by omega) hK hD;refine⟨n3,T,h2,fun hh=>?_⟩;rw[hlg]at hh;exact LRX.againN (n:=50) (bf _) az (xC (n1:=n) (n2:=n) (t1:=eX T) (nr:=0) (er:=0) (b:=[]) (o:=0) hf ja ja ja ja ja ja ja (bF q)) wR (adP htb h2.q.sr.tb hT hi hl ek0) hh
theorem NH{l:List ActM}{ks:List ByteArray}{f:Int->Int->Int}(hf:Em f)(hl:l.length<=40):∀ (m i:Nat) (n:NdM) (T:List OpM),i+m=l.length->NR n T i (200000+100000*m) (100*i)->
  ∃ n9 T9,NR n9 T9 l.length 200000 4000/\LRX P 4 0 Br0 Dr0.head (r0V l ks n.s.log.length i) (nrB n (eX T)) .normal (r0V l ks n9.s.log.length (ag l.length)) (nrB n9 (eX T9))
 |0,i,n,T,h1,h=>by
  obtain rfl:i=l.length:=by omega
  exact⟨n,T,h.mono (Nat.le_refl _) h.le (by omega) (by omega),LRX.stopN (n:=50) (bf _) az (xC (n1:=n) (n2:=n) (n3:=n) (t1:=eX T) (b:=[]) (o:=0) (nr:=0) (er:=0) hf ja ja ja ja ja ja ja ja) wR (ads h.q.sr.tb (jv T)) (by intro h; cases h)⟩
 |m+1,i,n,T,h1,h=>by
  obtain⟨n2,T2,h2,st⟩:=ZY (ks:=ks) hf (i:=i) (K:=200000+100000*m) (by omega) hl (h.mono (Nat.le_refl _) h.le (by omega) (Nat.le_refl _)) (by omega) (by have:=h.le; omega);obtain⟨n9,T9,h9,q⟩:=NH hf hl m (i+1) n2 T2 (by omega) (h2.mono (Nat.le_refl _) h2.le (Nat.le_refl _) (by omega));exact⟨n9,T9,h9,st q⟩
theorem aei{ks:List ByteArray}{i:Nat}(h:i<ks.length):aU (EKy.all ks) (atN (i:Int) 1) = .string ks[i]:=by
 have e:atN (i:Int) 1=i*EKy.sz+0:=by show(i:Int).toNat*1=i*1+0; omega
 rw[e,EKy.nth h (by decide)]; rfl
theorem Yd(ks:List ByteArray):(EKy.all ks).length=ks.length:=by rw[EKy.all_length]; exact Nat.mul_one _
theorem aai{rs:List RunM}(h:∀ q∈rs,RunOk q):GI rs:=fun q hq=>⟨(h q hq).ris,by have:=(h q hq).n; omega⟩
theorem XM{n:NdM}{T:List OpM}{i0 K D:Nat}{ks:List ByteArray}{an:Int}{i:Nat}(h:NR n T i0 K D)(hi:i<ks.length)(hl:ks.length<=40){v:ByteArray}{p m:Bool} :
  bV P E (V5 (bM [p0, .string ks[i]] (ndB n)) (bM [p0, .string ks[i]] (tbB (eX T))) v p m n (eX T)) 50 4 Br3 Dr3 (r3V ks an i) (nrB n (eX T))=some (.tuple ⟨exV .normal::r3V ks an ((i+1:Nat):Int)⟩,af (nrB n (eX T))):=by
 obtain⟨g1,g2,g3⟩:=iM hi (by omega);have hn:=h.q.sr.tb;have ht:=jv T;have c0:=aei hi;have b0:Nat.ble (Nat.add (atN (i:Int) 1) 1) ks.length=true:=Nat.ble_eq_true_of_le (by show(i:Int).toNat*1+1<=_; omega);have b4:∀ s,eu .string (.string s)=true:=fun _=>rfl;have e1:neS v v=false:=by unfold neS; simp
 have e2:fM (eqB p p)=false:=by cases p<;>rfl
 rw[UV];simp (disch:=first | omega | (simp only[List.length_append,List.length_drop,List.length_take,List.length_singleton,Nat.add_eq,bg]<;>omega) | fail) only[bk_,cz_,dk_,dl_,dn_,fa_,fb_,fc_,io_,nh_,nl_,nn_,pt_,rb_,sb_,sc_,sl_,so_,tb_,w0_,wb_,hn.ren,ht.ren,g1,g2,g3,c0,b0,b4,e1,e2,qW,Yd,show Nat.beq 1 1=true from rfl,r3V,fzKys,nrB,ndB,stN,stB,mgV,lD,kN,pgC,dI,rnB,srB,tbB,dkL,List.cons_append,List.nil_append,List.append_assoc,dJ,aB,dM,lsV,ptV,p0,aW,dkC,aJ,bG,cmV,dA,bQ,aN,dH,dB,dU,dE,dG,dF,cZ,dC,dw,dS,dn,ay,aC,aF,Enc.all_ren,ay rfl,aC rfl,aF rfl,aB rfl,aA,bC,aV,a_,aO,ah,aP,bu,Int.toNat_natCast,aQ,aG,bz,bK,b_,bJ,bP,dm,Bool.and_self,aK,aH,ax]
 rfl
theorem aci{n:NdM}{T:List OpM}{i0 K D:Nat}{ks:List ByteArray}{an:Int}(h:NR n T i0 K D) :
  bV P E (V5 no9 no9 ⟨#[]⟩ false false n (eX T)) 50 4 Br3 Dr3 (r3V ks an ks.length) (nrB n (eX T))=some (.tuple ⟨exV (.exit 3)::r3V ks an ks.length⟩,af (nrB n (eX T))):=by
 have hn:=h.q.sr.tb;have ht:=jv T;rw[UV];simp (disch:=first | omega | (simp only[List.length_append,List.length_drop,List.length_take,List.length_singleton,Nat.add_eq,bg]<;>omega) | fail) only[bk_,cz_,dk_,dl_,dn_,fa_,fb_,fc_,io_,nh_,nl_,nn_,pt_,rb_,sb_,sc_,sl_,so_,tb_,w0_,wb_,hn.ren,ht.ren,kJ,Yd,r3V,fzKys,nrB,ndB,stN,stB,mgV,lD,kN,pgC,dI,rnB,srB,tbB,dkL,List.cons_append,List.nil_append,List.append_assoc,dJ,aB,dM,lsV,ptV,p0,aW,dkC,aJ,bG,cmV,dA,bQ,aN,dH,dB,dU,dE,dG,dF,cZ,dC,dw,dS,dn,ay,aC,aF,Enc.all_ren,ay rfl,aC rfl,aF rfl,aB rfl,aA,bC,aV,a_,aO,ah,aP,bu,Int.toNat_natCast,aQ,aG,bz,bK,b_,bJ,bP,dm,Bool.and_self,aK,aH,ax]
 rfl
theorem PG{n:NdM}{T:List OpM}{i0 K D:Nat}{ks:List ByteArray}{an:Int}(h:NR n T i0 K D)(hD:D<=3000000)(hl:ks.length<=40):∀ (m i:Nat),i+m=ks.length->
  LRX P 4 3 Br3 Dr3.head (r3V ks an i) (nrB n (eX T)) .normal (r3V ks an (ag ks.length)) (nrB n (eX T))
 |0,i,h1=>by
  obtain rfl:i=ks.length:=by omega
  exact LRX.stop (n:=50) (bf _) az (aj (pol:=iT) (aj (pol:=au) bn ja) ja) OJ (aci h) (by intro h; cases h)
 |m+1,i,h1=>by
  have hi:i<ks.length:=by omega
  obtain⟨pa,hpg,_,_⟩:=h.pg;have q1:=aaD (k:=ks[i]) (h.ne hD) hpg h.tb (aai h.rok);obtain⟨e1,e2⟩:=h.read ks[i];rw[e1,e2]at q1;have q2:=I5 T ks[i];exact LRX.again (n:=50) (bf _) az (aj (pol:=iT) (aj (pol:=au) bn (bF q2)) (bF q1)) OJ (XM h hi hl) (PG h hD hl m (i+1) (by omega))
theorem acm:CallOkR P 5 XF:=⟨fun args t hR v bs hev=>by
 unfold XF at hR;split at hR
 ·simp only[Option.some.injEq]at hR;subst hR;have hev:(DT.leaf ((.bool true:Value),([]:List Blk))).eval=some (v,bs):=hev;simp only[DT.eval,Option.some.injEq,Prod.mk.injEq]at hev;obtain⟨rfl,rfl⟩:=hev;exact CR.ofK0 aa2
 ·cases hR⟩
theorem N9{C1 C3 C4 L0 L3:List Value->List Blk->Bool}{sb:Bool}{f:Int->Int->Int}{l:List ActM}{ks:List ByteArray}{an:Int}{n0 n9:NdM}{t9:TbM}(h1:CallOkX P 0 17 (cu C1 (.leaf (.bool sb,[]))))(h2:Em f)
  (h3:CallOkX P 1 7 (cu C3 (.leaf (.tuple ⟨[ptV 1, .int .i64 0]⟩,ndD n0)))) (h4:CallOkX P 8 11 (cu C4 (.leaf (bG n9.s.log,ndB n9))))
  (k0:LoopOkX P 4 0 Br0 Dr0.head (gX L0 (.leaf (.normal,r0V l ks an (ag l.length),nrB n9 t9)))) (k3:LoopOkX P 4 3 Br3 Dr3.head (gX L3 (.leaf (.normal,r3V ks an (ag ks.length),nrB n9 t9)))) :
  CtOk P (adn C1 ng C3 C4 L0 L3 sb f l ks an n0 n9 t9):=
 ji (aj (pol:=au) (aj (pol:=au) (aj (pol:=fun _=>none) (aj (pol:=iT) (MI (dV bn k3) k0) h4) h3) (PH h2)) h1) acm
theorem WV{mo:Int}(hm:1<=mo/\mo<=16):NR (nd0 0 mo mD) [] 0 (200000+100000*40) 0:=by
 obtain⟨h,_⟩:=adM hm (K:=200000+100000*40) (by decide);exact⟨by decide,h.q,hm,rfl,(fun c hc=>by cases hc),Nat.le_refl 0,Int.le_refl 0,⟨0,rfl,by decide,by show(0:Int)<=0; decide⟩,⟨by show(0:Int)<=0; decide,by show(0:Int)<=0; decide⟩,by show(0:Int)<=0; decide,rfl,(fun q hq=>by cases hq),rfl,rfl,(fun k=>rfl),rfl,Nat.le_refl 0,Nat.le_refl 0⟩
theorem Le{l:List ActM}{ks:List ByteArray}{le:Int}(hl:l.length<=9223372036854775807)(h:40<l.length\/40<ks.length):CRX P 0 4 [.int .i64 le,fzActs l,fzKys ks] [] (.bool true) []:=by
 obtain⟨b,hb,q1⟩:=Ou hl;obtain⟨f,hf⟩:=abq;refine CRX.of (pol:=iT) (fl:=[]) (ts:=[]) (n:=50) (bf _) az (N9 (f:=f) (l:=l) (ks:=ks) (an:=0) (n0:=nd0 0 0 mD) (n9:=nd0 0 0 mD) (t9:=tb0) (bF q1) hf ja ja (nz (dL LH)) (nz (dL JF))) ((UC (bM [fzActs l] []) ng no9 no9 (fun _ _=>false) (fun _ _=>false) b f l ks 0 le (nd0 0 0 mD) (nd0 0 0 mD) tb0).trans ?_);clear q1;cases b with
 |false=>simp (disch:=first | omega | (simp only[List.length_append,List.length_drop,List.length_take,List.length_singleton,Nat.add_eq,bg]<;>omega) | fail) only[bk_,cz_,dk_,dl_,dn_,fa_,fb_,fc_,io_,nh_,nl_,nn_,pt_,rb_,sb_,sc_,sl_,so_,tb_,w0_,wb_,show fM false=true from rfl,fzActs,mkA,dI,rnB,srB,tbB,dkL,List.cons_append,List.nil_append,List.append_assoc,dJ,aB,dM,lsV,ptV,p0,aW,dkC,aJ,bG,cmV,dA,bQ,aN,dH,dB,dU,dE,dG,dF,cZ,dC,dw,dS,dn,ay,aC,aF,Enc.all_ren,aA,bC,aV,a_,aO,ah,aP,bu,Int.toNat_natCast,aQ,aG,bz,bK,b_,bJ,bP,dm,Bool.and_self,aK,aH,ax]
 |true=>
  have h1:=hb rfl;have g1:gtI (ag ks.length) 40=true:=by unfold gtI ag; exact decide_eq_true (by omega)
  simp (disch:=first | omega | (simp only[List.length_append,List.length_drop,List.length_take,List.length_singleton,Nat.add_eq,bg]<;>omega) | fail) only[bk_,cz_,dk_,dl_,dn_,fa_,fb_,fc_,io_,nh_,nl_,nn_,pt_,rb_,sb_,sc_,sl_,so_,tb_,w0_,wb_,show fM true=false from rfl,g1,fzActs,mkA,dI,rnB,srB,tbB,dkL,List.cons_append,List.nil_append,List.append_assoc,dJ,aB,dM,lsV,ptV,p0,aW,dkC,aJ,bG,cmV,dA,bQ,aN,dH,dB,dU,dE,dG,dF,cZ,dC,dw,dS,dn,ay,aC,aF,Enc.all_ren,aA,bC,aV,a_,aO,ah,aP,bu,Int.toNat_natCast,aQ,aG,bz,bK,b_,bJ,bP,dm,Bool.and_self,aK,aH,ax]
theorem aap{l:List ActM}{ks:List ByteArray}{le:Int}(hl:l.length<=40)(hk:ks.length<=40):CRX P 0 4 [.int .i64 le,fzActs l,fzKys ks] [] (.bool true) []:=by
 obtain⟨b,hb,q1⟩:=Ou (l:=l) (by omega);obtain⟨f,hf⟩:=abq;obtain⟨k0,hk0,ek0,_⟩:=hf le 15 (by decide);have ek0:f le 16=k0:=ek0;have hmo:1<=1+(k0:Int)/\1+(k0:Int)<=16:=by omega
 have q3:=Y2 hmo;have hA:=WV hmo;obtain⟨n9,T9,h9,q5⟩:=NH (ks:=ks) hf hl l.length 0 (nd0 0 (1+(k0:Int)) mD) [] (by omega) (hA.mono (Nat.le_refl _) (by decide) (by omega) (by decide));have q6:=PG (ks:=ks) (an:=(n9.s.log.length:Int)) h9 (by decide) hk ks.length 0 (by omega);have q4:=KX (h9.ne (by decide));have hz:((nd0 0 (1+(k0:Int)) mD).s.log.length:Int)=0:=rfl;have z0:((0:Nat):Int)=0:=rfl;rw[hz,z0]at q5;rw[z0]at q6;refine CRX.of (pol:=iT) (fl:=[]) (ts:=[]) (n:=50) (bf _) az (N9 (f:=f) (l:=l) (ks:=ks) (an:=(n9.s.log.length:Int)) (n0:=nd0 0 (1+(k0:Int)) mD) (n9:=n9) (t9:=eX T9) (bF q1) hf (bF q3) (bF q4) (fG (dL LH) q5) (fG (dL JF) q6)) ((UC (bM [fzActs l] []) ng (bM [.int .i64 0, .int .i64 (1+(k0:Int)),p0] xI) (bM [p0] (ndB n9)) (bM (r0V l ks 0 0) (nrB (nd0 0 (1+(k0:Int)) mD) (eX []))) (bM (r3V ks (n9.s.log.length:Int) 0) (nrB n9 (eX T9))) b f l ks (n9.s.log.length:Int) le (nd0 0 (1+(k0:Int)) mD) n9 (eX T9)).trans ?_);clear q1 q3 q4 q5 q6;cases b with
 |false=>simp (disch:=first | omega | (simp only[List.length_append,List.length_drop,List.length_take,List.length_singleton,Nat.add_eq,bg]<;>omega) | fail) only[bk_,cz_,dk_,dl_,dn_,fa_,fb_,fc_,io_,nh_,nl_,nn_,pt_,rb_,sb_,sc_,sl_,so_,tb_,w0_,wb_,show fM false=true from rfl,fzActs,mkA,dI,rnB,srB,tbB,dkL,List.cons_append,List.nil_append,List.append_assoc,dJ,aB,dM,lsV,ptV,p0,aW,dkC,aJ,bG,cmV,dA,bQ,aN,dH,dB,dU,dE,dG,dF,cZ,dC,dw,dS,dn,ay,aC,aF,Enc.all_ren,aA,bC,aV,a_,aO,ah,aP,bu,Int.toNat_natCast,aQ,aG,bz,bK,b_,bJ,bP,dm,Bool.and_self,aK,aH,ax]
 |true=>
  have g1:gtI (ag ks.length) 40=false:=by unfold gtI ag; exact decide_eq_false (by omega)
  have pk:ng [.int .i64 le, .int .i64 16] []=true:=qw (n:=15) (by decide) rfl;have a1:dO .i64 1 (k0:Int)=1+(k0:Int):=by unfold dO; exact wrap64 (by omega) (by omega)
  have e9:eqI (ag n9.s.log.length) (n9.s.log.length:Int)=true:=by unfold eqI ag; exact decide_eq_true rfl
  have hn0:=hA.q.sr.tb;have hn9:=h9.q.sr.tb;have ht9:=jv T9;generalize nd0 0 (1+(k0:Int)) mD=n0 at hn0;have z1:(eX []).es=[]:=rfl;have z2:(eX []).ck=0:=rfl;simp (disch:=first | omega | (simp only[List.length_append,List.length_drop,List.length_take,List.length_singleton,Nat.add_eq,bg]<;>omega) | fail) only[bk_,cz_,dk_,dl_,dn_,fa_,fb_,fc_,io_,nh_,nl_,nn_,pt_,rb_,sb_,sc_,sl_,so_,tb_,w0_,wb_,show fM true=false from rfl,g1,pk,ek0,a1,e9,hn0.ren,hn9.ren,ht9.ren,z1,z2,xI,r0V,r3V,fzKys,fzActs,mkA,ndD,nrB,ndB,stN,stB,mgV,lD,kN,pgC,dI,rnB,srB,tbB,dkL,List.cons_append,List.nil_append,List.append_assoc,dJ,aB,dM,lsV,ptV,p0,aW,dkC,aJ,bG,cmV,dA,bQ,aN,dH,dB,dU,dE,dG,dF,cZ,dC,dw,dS,dn,ay,aC,aF,Enc.all_ren,ay rfl,aC rfl,aF rfl,aB rfl,aA,bC,aV,a_,aO,ah,aP,bu,Int.toNat_natCast,aQ,aG,bz,bK,b_,bJ,bP,dm,Bool.and_self,aK,aH,ax]
theorem law9_crx{l:List ActM}{ks:List ByteArray}{le:Int}(hl:l.length<=9223372036854775807):CRX P 0 4 [.int .i64 le,fzActs l,fzKys ks] [] (.bool true) []:=by
 by_cases h1:40<l.length
 ·exact Le hl (Or.inl h1)
 ·by_cases h2:40<ks.length
  ·exact Le hl (Or.inr h2)
  ·exact aap (by omega) (by omega)
end Go.VS.Tryz
end

noncomputable section
namespace Go.VS

section
variable{P:Program}
theorem add_zero(a:Addr):a.add 0=a:=by unfold Addr.add; simp
theorem Hu{w:World}{a:Addr}{v:Value}(h:w.cell? (a.add 0)=some v):a.spot=none:=by
 rw[add_zero]at h;unfold World.cell? at h;split at h
 ·cases hs:a.spot with
  |none=>rfl
  |some s=>rw[hs]at h; cases h
 ·cases h
theorem xO{w:World}{a:Addr}{i:Nat}{v:Value}(hs:a.spot=none)(h:w.cell? (a.add i)=some v):∃ c e f,w.heap[a.block]? = some (.cells c e f)/\c[a.off+i]? = some v:=by
 have:a.add i=⟨a.block,a.off+i,none⟩:=by
  obtain⟨b,o,s⟩:=a;cases hs; simp[Addr.add]
 rw[this]at h;unfold World.cell? at h;split at h
 ·rename_i c e f hg;exact⟨c,e,f,hg,by simpa using h⟩
 ·cases h
theorem ab_{w:World}{a:Addr}{cs:List Value}{n sz cap:Nat}(hsz:sz≠0)(hcap:n<=cap)(hlen:cs.length=n*sz)(hf:gy cs=true)(hc:∀ i v,cs[i]? = some v->w.cell? (a.add i)=some v)(h1:∀ v∈cs,v.oneCell'=true):VR (envOf w) (aX sz n 0 cs) (.slice (some a) n cap):=by
 refine sH hsz ?_;unfold iU;rw[if_neg hsz];refine⟨hlen,?_⟩;by_cases hn:n=0
 ·exact Or.inr (Or.inl ⟨hn,a,cap,by rw[hn],fun h=>absurd rfl h⟩)
 ·have h0:0<cs.length:=by rw[hlen]; exact Nat.mul_pos (by omega) (by omega)
  obtain⟨v0,hv0⟩:∃ v,cs[0]? = some v:=⟨_,List.getElem?_eq_getElem h0⟩
  have g2:=Hu (hc 0 v0 hv0);obtain⟨c,e,f,g1,g3⟩:=xO g2 (hc 0 v0 hv0);have hget:∀ i v,cs[i]? = some v->c[a.off+i]? = some v:=by
   intro i v hi;obtain⟨c',e',f',k1,k3⟩:=xO g2 (hc i v hi);rw[g1]at k1;simp only[Option.some.injEq,Obj.cells.injEq]at k1;obtain⟨rfl,rfl,rfl⟩:=k1;exact k3
  have hseg:(c.toList.drop a.off).take cs.length=cs:=by
   apply List.ext_getElem?;intro i;rw[List.getElem?_take];split
   ·rename_i hi;rw[List.getElem?_drop,List.getElem?_eq_getElem hi];have:=hget i _ (List.getElem?_eq_getElem hi);rw[Array.getElem?_toList]; exact this
   ·rename_i hi;rw[List.getElem?_eq_none (by omega)]
  have hle:a.off+cs.length<=c.size:=by
   have:=hget (cs.length-1) _ (List.getElem?_eq_getElem (by omega));have:=(Array.getElem?_eq_some_iff.1 this).1;omega
  have haddr:a=⟨a.block,a.off,none⟩:=by
   obtain⟨b,o,s⟩:=a;cases g2; rfl
  have henv:envOf w (Int.negSucc a.block)=some ⟨a.block,0,0,0,some (.cells c e f),false⟩:=by simp[envOf,g1]
  refine Or.inr (Or.inr ⟨by omega,a.block,a.off,cap,c,e,f,_,by rw[<-haddr],fun h=>absurd rfl h,henv,rfl,hle,?_,?_⟩)
  ·rw[uh,hseg];exact VRL.flat_refl _ hf
  ·exact hcap
variable{H:Type}{enc:TypeId×Value->H}
open Go.ChangeShapes in
/-- A list of ints that came in. -/
theorem acV{w:World}{t e:TypeId}{k:IntKind}{v:Value}{d:DataW H}{ps:List MemPlace}{r:Reach}{b0:Nat}(ht:P.underlying t=some (.slice e))(he:P.underlying e=some (.int k))(hc:P.cellsOf e=1)
  (hval:Value.okWide P w r b0 t v) (h:DataW.Trod enc P w 0 (fun _=>true) true t v d ps) :
  ∃ zs rest:List Int,VR (envOf w) (aX 1 zs.length 0 (zs.map (Value.int k))) v/\(d = .nil/\zs=[]\/d = .slice (lits k zs) (lits k rest))/\∀ n∈zs,(Lit.int k n).wf=true:=by
 have hv:v.cells=#[v]:=by
  unfold Value.okWide at hval;rw[ht]at hval;have:=Lj hval;cases v<;>first | rfl | simp[Value.oneCell']at this
 obtain⟨fuel,h⟩:=h;rw[hv]at h;rcases open_ints ht he hc h with⟨h1,h2⟩ | ⟨a,len,cap,zs,h1,h2,h3,h4,h5,h6,h7,h8⟩
 ·simp only[List.cons.injEq,and_true]at h1;subst h1;simp only[Prod.mk.injEq]at h2;refine⟨[],[],?_,Or.inl ⟨h2.1,rfl⟩,by simp⟩;refine sH (by decide) ?_;unfold iU;rw[if_neg (by decide)];exact⟨rfl,Or.inl ⟨rfl,by omega,rfl⟩⟩
 ·simp only[List.cons.injEq,and_true]at h1;subst h1;simp only[if_true]at h5;simp only[Prod.mk.injEq]at h6;refine⟨zs.take len,zs.drop len,?_,Or.inr h6.1,fun n hn=>h8 n (List.mem_of_mem_take hn)⟩;have hl:(zs.take len).length=len:=by rw[List.length_take]; omega
  rw[hl];refine ab_ (by decide) h3 (by rw[List.length_map,hl,Nat.mul_one]) ?_ ?_ ?_
  ·generalize zs.take len=l
   induction l with
   |nil=>rfl
   |cons x l ih=>simpa [gy,flat]using ih
  ·intro i v hi;rw[List.getElem?_map,Option.map_eq_some_iff]at hi;obtain⟨n,hn,rfl⟩:=hi;have hi:i<len:=by have:=(List.getElem?_eq_some_iff.1 hn).1; omega
   rw[h7 i (by omega)];rw[List.getElem?_take,if_pos hi]at hn;rw[List.getD_eq_getElem?_getD,hn]; rfl
  ·intro v hv;obtain⟨n,_,rfl⟩:=List.mem_map.1 hv
   rfl
theorem Lp:∀ {zs:List Int},(∀ n∈zs,(Lit.int .u8 n).wf=true)->∃ l:List UInt8,zs.map (Value.int .u8)=l.map (fun b=>Value.int .u8 b.toNat)/\l.length=zs.length
 |[],_=>⟨[],rfl,rfl⟩
 |n::zs,h=>by
  obtain⟨l,h1,h2⟩:=Lp (zs:=zs) fun m hm=>h m (by simp[hm]);have hn:=h n (by simp);have hn:0<=n/\n<256:=by
   simp only[Lit.wf,Bool.and_eq_true,decide_eq_true_eq,show IntKind.u8.min=0 from rfl,show IntKind.u8.max=255 from rfl]at hn;omega
  refine⟨UInt8.ofNat n.toNat::l,?_,by simp[h2]⟩;simp only[List.map_cons,h1,List.cons.injEq,and_true];congr 1;simp only[UInt8.toNat_ofNat'];omega
end
section
variable{P:Program}
theorem NS{w:World}{a:Addr}{ms cs:List Value}{n sz cap:Nat}(hsz:sz≠0)(hcap:n<=cap)(hlen:cs.length=n*sz)(hm:VRL (envOf w) ms cs)(hc:∀ i v,cs[i]? = some v->w.cell? (a.add i)=some v):VR (envOf w) (aX sz n 0 ms) (.slice (some a) n cap):=by
 have hml:=hm.length;refine sH hsz ?_;unfold iU;rw[if_neg hsz,hml];refine⟨hlen,?_⟩;by_cases hn:n=0
 ·exact Or.inr (Or.inl ⟨hn,a,cap,by rw[hn],fun h=>absurd rfl h⟩)
 ·have h0:0<cs.length:=by rw[hlen]; exact Nat.mul_pos (by omega) (by omega)
  obtain⟨v0,hv0⟩:∃ v,cs[0]? = some v:=⟨_,List.getElem?_eq_getElem h0⟩
  have g2:=Hu (hc 0 v0 hv0);obtain⟨c,e,f,g1,g3⟩:=xO g2 (hc 0 v0 hv0);have hget:∀ i v,cs[i]? = some v->c[a.off+i]? = some v:=by
   intro i v hi;obtain⟨c',e',f',k1,k3⟩:=xO g2 (hc i v hi);rw[g1]at k1;simp only[Option.some.injEq,Obj.cells.injEq]at k1;obtain⟨rfl,rfl,rfl⟩:=k1;exact k3
  have hseg:(c.toList.drop a.off).take cs.length=cs:=by
   apply List.ext_getElem?;intro i;rw[List.getElem?_take];split
   ·rename_i hi;rw[List.getElem?_drop,List.getElem?_eq_getElem hi];have:=hget i _ (List.getElem?_eq_getElem hi);rw[Array.getElem?_toList]; exact this
   ·rename_i hi;rw[List.getElem?_eq_none (by omega)]
  have hle:a.off+cs.length<=c.size:=by
   have:=hget (cs.length-1) _ (List.getElem?_eq_getElem (by omega));have:=(Array.getElem?_eq_some_iff.1 this).1;omega
  have haddr:a=⟨a.block,a.off,none⟩:=by
   obtain⟨b,o,s⟩:=a;cases g2; rfl
  have henv:envOf w (Int.negSucc a.block)=some ⟨a.block,0,0,0,some (.cells c e f),false⟩:=by simp[envOf,g1]
  refine Or.inr (Or.inr ⟨by omega,a.block,a.off,cap,c,e,f,_,by rw[<-haddr],fun h=>absurd rfl h,henv,rfl,hle,?_,?_⟩)
  ·rw[uh,hseg];exact hm
  ·exact hcap
theorem La{β:Env}{α:Type}(f:α->List Value)(cs:Nat->List Value)(A:Nat->α):∀ n,(∀ i,i<n->VRL β (f (A i)) (cs i))->VRL β (((List.range n).map A).flatMap f) ((List.range n).flatMap cs)
 |0,_=>VRL.nil
 |n+1,h=>by
  rw[List.range_succ,List.map_append,List.flatMap_append,List.flatMap_append];refine(La f cs A n fun i hi=>h i (by omega)).append ?_;simpa using h n (by omega)
theorem flat_get{cs:Nat->List Value}{sz:Nat}(hs:sz≠0):∀ n,(∀ i,i<n->(cs i).length=sz)->((List.range n).flatMap cs).length=n*sz/\∀ j v,((List.range n).flatMap cs)[j]? = some v->∃ i k,i<n/\j=i*sz+k/\k<sz/\(cs i)[k]? = some v
 |0,_=>by simp
 |n+1,h=>by
  obtain⟨h1,h2⟩:=flat_get hs n fun i hi=>h i (by omega);rw[List.range_succ,List.flatMap_append];have hn:=h n (by omega);simp only[List.flatMap_cons,List.flatMap_nil,List.append_nil];refine⟨by rw[List.length_append,h1,hn,Nat.add_mul]; omega,fun j v hj=>?_⟩;by_cases hlt:j<n*sz
  ·rw[List.getElem?_append_left (by rw[h1]; exact hlt)]at hj;obtain⟨i,k,a,b,c,d⟩:=h2 j v hj;exact⟨i,k,by omega,b,c,d⟩
  ·rw[List.getElem?_append_right (by rw[h1]; omega),h1]at hj;have:=(List.getElem?_eq_some_iff.1 hj).1;exact⟨n,j-n*sz,by omega,by omega,by omega,hj⟩
variable{H:Type}{enc:TypeId×Value->H}
open Go.ChangeShapes Go.Deep in
/-- A list that came in: of each element it is known what it is. -/
theorem lF{α:Type}(f:α->List Value){sz:Nat}(hsz:sz≠0){good:α->Prop}{w:World}{t e:TypeId}{fuel:Nat}{cs:List Value}{x:DataW H×List MemPlace}(ht:P.underlying t=some (.slice e))(hc:P.cellsOf e=sz)
  (hel:∀ n cs' y,cs'.length=sz->DataW.trod enc P w 0 (fun _=>true) true n e cs'=some y->∃ a,VRL (envOf w) (f a) cs'/\good a)
  (h:DataW.trod enc P w 0 (fun _=>true) true fuel t cs=some x) :
  ∃ v,cs=[v]/\∃ l:List α,VR (envOf w) (aX sz l.length 0 (l.flatMap f)) v/\(∀ a∈l,good a)/\l.length<=maxLen:=by
 rcases open_slice ht h with⟨h1,h2⟩ | ⟨a,len,cap,m,n,D,Pl,h1,_,h3,h4,h5,_,h7⟩
 ·refine⟨_,h1,[],?_,by simp,Nat.zero_le _⟩;refine sH hsz ?_;unfold iU;rw[if_neg hsz];exact⟨by simp,Or.inl ⟨rfl,by omega,rfl⟩⟩
 ·refine⟨_,h1,?_⟩;rw[hc]at h7;have hlm:len<=m:=by rw[h5]; split<;>omega
  have q:∀ i,i<len->∃ p:α×List Value,w.cells? 0 (a.add (i*sz)) sz=some p.2/\p.2.length=sz/\VRL (envOf w) (f p.1) p.2/\good p.1:=fun i hi=>by
   obtain⟨cs',k1,k2⟩:=h7 i (by omega);have hl:=(World.cells?_some k1).1;have hl:cs'.length=sz:=by first | exact hl.2 | exact hl.1 | exact hl | exact(World.cells?_some k1).2.1
   obtain⟨a0,k3,k4⟩:=hel n cs' _ hl k2;exact⟨(a0,cs'),k1,hl,k3,k4⟩
  by_cases hl0:len=0
  ·subst hl0;refine⟨[],NS hsz h3 (by simp:([]:List Value).length=0*sz) VRL.nil (fun i v hv=>by simp at hv),by simp,Nat.zero_le _⟩
  ·have inh:Inhabited (α×List Value):=⟨(q 0 (by omega)).choose⟩
   obtain⟨A,hA⟩:=choose_lt q;refine⟨(List.range len).map fun i=>(A i).1,?_,?_,?_⟩
   ·obtain⟨l1,l2⟩:=flat_get (cs:=fun i=>(A i).2) hsz len fun i hi=>(hA i hi).2.1;rw[show((List.range len).map fun i=>(A i).1).length=len by simp];refine NS hsz h3 l1 (La f (fun i=>(A i).2) (fun i=>(A i).1) len fun i hi=>(hA i hi).2.2.1) fun j v hj=>?_;obtain⟨i,k,hi,hjk,hk,hv⟩:=l2 j v hj;have hcell:=(World.cells?_some (hA i hi).1)
    subst hjk;rw[<-add_add];first | exact hcell.2.2 k v hv | (have:=hcell.2.2 k hk; rw[this]; exact hv) | (have:=hcell.2 k hk; rw[this]; exact hv) | (have:=hcell.2.2 k; rw[hv]at this; exact this)
   ·intro b hb;obtain⟨i,hi,rfl⟩:=List.mem_map.1 hb;exact(hA i (List.mem_range.1 hi)).2.2.2
   ·simp; omega
end
end Go.VS
end

noncomputable section
namespace Go.VS.Tryz
open Go.VS Go.RowKit Go.ChangeShapes
set_option maxRecDepth 1000000
section
theorem iy{α:Type}{xs:List α}{n i:Nat}(h:xs.length=n)(hi:i<n):∃ y,xs[i]? = some y:=⟨xs[i]'(by omega),List.getElem?_eq_getElem (by omega)⟩
variable{H:Type}{enc:TypeId×Value->H}
theorem Ph{W:World}{n:Nat}{cs:List Value}{y:DataW H×List MemPlace}(hl:cs.length=3)(h:DataW.trod enc P W 0 (fun _=>true) true n 74 cs=some y):∃ o:OpM,VRL (envOf W) (EOp.f o) cs/\True:=by
 match cs,hl with
 |[c0,c1,c2],_=>
  obtain⟨xs,m,_,_,_,hx,hall⟩:=DataW.trod_struct Go.Proofs.Tryz.underlying74 h;have hx:xs.length=3:=hx;have cb:P.cellsOf 4=1:=by kernel_rfl
  have cs:P.cellsOf 9=1:=by kernel_rfl
  have h0:=hall 0 _ rfl;have h1:=hall 1 _ rfl;have h2:=hall 2 _ rfl;obtain⟨y0,e0⟩:=iy hx (i:=0) (by decide);obtain⟨y1,e1⟩:=iy hx (i:=1) (by decide);obtain⟨y2,e2⟩:=iy hx (i:=2) (by decide);have h0:DataW.trod enc P W 0 (fun _=>true) true m 4 (([c0,c1,c2].drop 0).take (P.cellsOf 4))=some y0:=h0.trans e0;have h1:DataW.trod enc P W 0 (fun _=>true) true m 9 (([c0,c1,c2].drop 1).take (P.cellsOf 9))=some y1:=h1.trans e1;have h2:DataW.trod enc P W 0 (fun _=>true) true m 9 (([c0,c1,c2].drop 2).take (P.cellsOf 9))=some y2:=h2.trans e2;rw[cb]at h0;rw[cs]at h1 h2;obtain⟨p,q0,_⟩:=DataW.trod_bool Go.Proofs.Tryz.underlying4 h0;obtain⟨k,q1,_⟩:=DataW.trod_string Go.Proofs.Tryz.underlying9 h1;obtain⟨v,q2,_⟩:=DataW.trod_string Go.Proofs.Tryz.underlying9 h2;replace q0:[c0]=[.bool p]:=q0;replace q1:[c1]=[.string k]:=q1;replace q2:[c2]=[.string v]:=q2;simp only[List.cons.injEq,and_true]at q0 q1 q2;subst q0 q1 q2;exact⟨⟨p,k,v⟩,VRL.cons rfl (VRL.cons rfl (VRL.cons rfl VRL.nil)),trivial⟩
theorem Zz{W:World}{n:Nat}{cs:List Value}{y:DataW H×List MemPlace}(hl:cs.length=2)(h:DataW.trod enc P W 0 (fun _=>true) true n 109 cs=some y):∃ o:Int×Int,VRL (envOf W) (ESa.f o) cs/\True:=by
 match cs,hl with
 |[c0,c1],_=>
  obtain⟨xs,m,_,_,_,hx,hall⟩:=DataW.trod_struct Go.Proofs.Tryz.underlying109 h;have hx:xs.length=2:=hx;have ci:P.cellsOf 3=1:=by kernel_rfl
  have h0:=hall 0 _ rfl;have h1:=hall 1 _ rfl;obtain⟨y0,e0⟩:=iy hx (i:=0) (by decide);obtain⟨y1,e1⟩:=iy hx (i:=1) (by decide);have h0:DataW.trod enc P W 0 (fun _=>true) true m 3 (([c0,c1].drop 0).take (P.cellsOf 3))=some y0:=h0.trans e0;have h1:DataW.trod enc P W 0 (fun _=>true) true m 3 (([c0,c1].drop 1).take (P.cellsOf 3))=some y1:=h1.trans e1;rw[ci]at h0 h1;obtain⟨p,q0,_,_⟩:=DataW.trod_int Go.Proofs.Tryz.underlying3 h0;obtain⟨k,q1,_,_⟩:=DataW.trod_int Go.Proofs.Tryz.underlying3 h1;replace q0:[c0]=[.int .i64 p]:=q0;replace q1:[c1]=[.int .i64 k]:=q1;simp only[List.cons.injEq,and_true]at q0 q1;subst q0 q1;exact⟨(p,k),VRL.cons rfl (VRL.cons rfl VRL.nil),trivial⟩
theorem ZX{W:World}{n:Nat}{cs:List Value}{y:DataW H×List MemPlace}(hl:cs.length=3)(h:DataW.trod enc P W 0 (fun _=>true) true n 47 cs=some y):∃ c:CmM,VRL (envOf W) (ECm.f c) cs/\True:=by
 match cs,hl with
 |[c0,c1,c2],_=>
  obtain⟨xs,m,_,_,_,hx,hall⟩:=DataW.trod_struct Go.Proofs.Tryz.underlying47 h;have hx:xs.length=3:=hx;have ci:P.cellsOf 3=1:=by kernel_rfl
  have co:P.cellsOf 33=1:=by kernel_rfl
  have h0:=hall 0 _ rfl;have h1:=hall 1 _ rfl;have h2:=hall 2 _ rfl;obtain⟨y0,e0⟩:=iy hx (i:=0) (by decide);obtain⟨y1,e1⟩:=iy hx (i:=1) (by decide);obtain⟨y2,e2⟩:=iy hx (i:=2) (by decide);have h0:DataW.trod enc P W 0 (fun _=>true) true m 3 (([c0,c1,c2].drop 0).take (P.cellsOf 3))=some y0:=h0.trans e0;have h1:DataW.trod enc P W 0 (fun _=>true) true m 3 (([c0,c1,c2].drop 1).take (P.cellsOf 3))=some y1:=h1.trans e1;have h2:DataW.trod enc P W 0 (fun _=>true) true m 33 (([c0,c1,c2].drop 2).take (P.cellsOf 33))=some y2:=h2.trans e2;rw[ci]at h0 h1;rw[co]at h2;obtain⟨a0,q0,_,_⟩:=DataW.trod_int Go.Proofs.Tryz.underlying3 h0;obtain⟨a1,q1,_,_⟩:=DataW.trod_int Go.Proofs.Tryz.underlying3 h1;obtain⟨v,q2,l,hv,_,_⟩:=lF EOp.f (sz:=3) (by decide) (good:=fun _=>True) Go.Proofs.Tryz.underlying33 (by kernel_rfl) (fun n cs' y hl h=>Ph hl h) h2;replace q0:[c0]=[.int .i64 a0]:=q0;replace q1:[c1]=[.int .i64 a1]:=q1;replace q2:[c2]=[v]:=q2;simp only[List.cons.injEq,and_true]at q0 q1 q2;subst q0 q1 q2;exact⟨⟨a0,a1,l⟩,VRL.cons rfl (VRL.cons rfl (VRL.cons hv VRL.nil)),trivial⟩
theorem Ci{W:World}{v:Value}{r:Reach}{b0:Nat}{t e:TypeId}(ht:P.underlying t=some (.slice e))(hval:Value.okWide P W r b0 t v):v.cells=#[v]:=by
 unfold Value.okWide at hval;rw[ht]at hval;have:=Lj hval;cases v<;>first | rfl | simp[Value.oneCell']at this
end
section
variable{H:Type}{enc:TypeId×Value->H}
theorem ZL{W:World}{fuel:Nat}{cs:List Value}{y:DataW H×List MemPlace}(hl:cs.length=8)(h:DataW.trod enc P W 0 (fun _=>true) true fuel 56 cs=some y):∃ m:MsgM,VRL (envOf W) (mgV m) cs:=by
 match cs,hl with
 |[c0,c1,c2,c3,c4,c5,c6,c7],_=>
  obtain⟨xs,m,_,_,_,hx,hall⟩:=DataW.trod_struct Go.Proofs.Tryz.underlying56 h;have hx:xs.length=8:=hx;have ci:P.cellsOf 3=1:=by kernel_rfl
  have cr:P.cellsOf 41=1:=by kernel_rfl
  have co:P.cellsOf 54=1:=by kernel_rfl
  have cc:P.cellsOf 35=1:=by kernel_rfl
  obtain⟨y0,e0⟩:=iy hx (i:=0) (by decide);obtain⟨y1,e1⟩:=iy hx (i:=1) (by decide);obtain⟨y2,e2⟩:=iy hx (i:=2) (by decide);obtain⟨y3,e3⟩:=iy hx (i:=3) (by decide);obtain⟨y4,e4⟩:=iy hx (i:=4) (by decide);obtain⟨y5,e5⟩:=iy hx (i:=5) (by decide);obtain⟨y6,e6⟩:=iy hx (i:=6) (by decide);obtain⟨y7,e7⟩:=iy hx (i:=7) (by decide);have h0:=hall 0 _ rfl;have h0:DataW.trod enc P W 0 (fun _=>true) true m 3 (([c0,c1,c2,c3,c4,c5,c6,c7].drop 0).take (P.cellsOf 3))=some y0:=h0.trans e0;have h1:=hall 1 _ rfl;have h1:DataW.trod enc P W 0 (fun _=>true) true m 3 (([c0,c1,c2,c3,c4,c5,c6,c7].drop 1).take (P.cellsOf 3))=some y1:=h1.trans e1;have h2:=hall 2 _ rfl;have h2:DataW.trod enc P W 0 (fun _=>true) true m 41 (([c0,c1,c2,c3,c4,c5,c6,c7].drop 2).take (P.cellsOf 41))=some y2:=h2.trans e2;have h3:=hall 3 _ rfl;have h3:DataW.trod enc P W 0 (fun _=>true) true m 3 (([c0,c1,c2,c3,c4,c5,c6,c7].drop 3).take (P.cellsOf 3))=some y3:=h3.trans e3;have h4:=hall 4 _ rfl;have h4:DataW.trod enc P W 0 (fun _=>true) true m 54 (([c0,c1,c2,c3,c4,c5,c6,c7].drop 4).take (P.cellsOf 54))=some y4:=h4.trans e4;have h5:=hall 5 _ rfl;have h5:DataW.trod enc P W 0 (fun _=>true) true m 3 (([c0,c1,c2,c3,c4,c5,c6,c7].drop 5).take (P.cellsOf 3))=some y5:=h5.trans e5;have h6:=hall 6 _ rfl;have h6:DataW.trod enc P W 0 (fun _=>true) true m 3 (([c0,c1,c2,c3,c4,c5,c6,c7].drop 6).take (P.cellsOf 3))=some y6:=h6.trans e6;have h7:=hall 7 _ rfl;have h7:DataW.trod enc P W 0 (fun _=>true) true m 35 (([c0,c1,c2,c3,c4,c5,c6,c7].drop 7).take (P.cellsOf 35))=some y7:=h7.trans e7;rw[ci]at h0 h1 h3 h5 h6;rw[cr]at h2;rw[co]at h4;rw[cc]at h7;obtain⟨a0,q0,_,_⟩:=DataW.trod_int Go.Proofs.Tryz.underlying3 h0;obtain⟨a1,q1,_,_⟩:=DataW.trod_int Go.Proofs.Tryz.underlying3 h1;obtain⟨a2,q2,_,_⟩:=DataW.trod_int Go.Proofs.Tryz.underlying41 h2;obtain⟨a3,q3,_,_⟩:=DataW.trod_int Go.Proofs.Tryz.underlying3 h3;obtain⟨v4,q4,l4,hv4,_,m4⟩:=lF ESa.f (sz:=2) (by decide) (good:=fun _=>True) Go.Proofs.Tryz.underlying54 (by kernel_rfl) (fun n cs' y hl h=>Zz hl h) h4;obtain⟨a5,q5,_,_⟩:=DataW.trod_int Go.Proofs.Tryz.underlying3 h5;obtain⟨a6,q6,_,_⟩:=DataW.trod_int Go.Proofs.Tryz.underlying3 h6;obtain⟨v7,q7,l7,hv7,_,m7⟩:=lF ECm.f (sz:=3) (by decide) (good:=fun _=>True) Go.Proofs.Tryz.underlying35 (by kernel_rfl) (fun n cs' y hl h=>ZX hl h) h7;replace q0:[c0]=[.int .i64 a0]:=q0;replace q1:[c1]=[.int .i64 a1]:=q1;replace q2:[c2]=[.int .u8 a2]:=q2;replace q3:[c3]=[.int .i64 a3]:=q3;replace q4:[c4]=[v4]:=q4;replace q5:[c5]=[.int .i64 a5]:=q5;replace q6:[c6]=[.int .i64 a6]:=q6;replace q7:[c7]=[v7]:=q7;simp only[List.cons.injEq,and_true]at q0 q1 q2 q3 q4 q5 q6 q7;subst q0 q1 q2 q3 q4 q5 q6 q7;exact⟨⟨a0,a1,a2,a3,l4,a5,a6,l7⟩,VRL.cons rfl (VRL.cons rfl (VRL.cons rfl (VRL.cons rfl (VRL.cons hv4 (VRL.cons rfl (VRL.cons rfl (VRL.cons hv7 VRL.nil)))))))⟩
theorem YK{W:World}{n:Nat}{cs:List Value}{y:DataW H×List MemPlace}(hl:cs.length=1)(h:DataW.trod enc P W 0 (fun _=>true) true n 5 cs=some y):∃ b:UInt8,VRL (envOf W) [.int .u8 b.toNat] cs/\True:=by
 match cs,hl with
 |[c0],_=>
  obtain⟨x,q0,_,hw⟩:=DataW.trod_int Go.Proofs.Tryz.underlying5 h;simp only[List.cons.injEq,and_true]at q0;subst q0;obtain⟨l,e,hl⟩:=Lp (zs:=[x]) (by intro n hn; rw[List.mem_singleton.1 hn]; exact hw)
  match l,hl with
  |[b],_=>
   simp only[List.map_cons,List.map_nil,List.cons.injEq,and_true]at e;rw[e];exact⟨b,VRL.cons rfl VRL.nil,trivial⟩
theorem Y9(l:List UInt8):(l.flatMap fun b=>[Value.int .u8 b.toNat])=bc l:=by
 unfold bc
 induction l with
 |nil=>rfl
 |cons b l ih=>rw[List.flatMap_cons,ih]; rfl
theorem Ws{W:World}{n:Nat}{cs:List Value}{y:DataW H×List MemPlace}(hl:cs.length=14)(h:DataW.trod enc P W 0 (fun _=>true) true n 59 cs=some y):∃ a:ActM,VRL (envOf W) (fU.f a) cs/\True:=by
 match cs,hl with
 |[c0,c1,c2,c3,c4,c5,c6,c7,c8,c9,c10,c11,c12,c13],_=>
  obtain⟨xs,m,_,_,_,hx,hall⟩:=DataW.trod_struct Go.Proofs.Tryz.underlying59 h;have hx:xs.length=7:=hx;have ci:P.cellsOf 3=1:=by kernel_rfl
  have cs:P.cellsOf 9=1:=by kernel_rfl
  have co:P.cellsOf 33=1:=by kernel_rfl
  have cm:P.cellsOf 56=8:=by kernel_rfl
  have cb:P.cellsOf 57=1:=by kernel_rfl
  obtain⟨y0,e0⟩:=iy hx (i:=0) (by decide);have h0:=hall 0 _ rfl;have h0:DataW.trod enc P W 0 (fun _=>true) true m 3 (([c0,c1,c2,c3,c4,c5,c6,c7,c8,c9,c10,c11,c12,c13].drop 0).take (P.cellsOf 3))=some y0:=h0.trans e0;obtain⟨y1,e1⟩:=iy hx (i:=1) (by decide);have h1:=hall 1 _ rfl;have h1:DataW.trod enc P W 0 (fun _=>true) true m 3 (([c0,c1,c2,c3,c4,c5,c6,c7,c8,c9,c10,c11,c12,c13].drop 1).take (P.cellsOf 3))=some y1:=h1.trans e1;obtain⟨y2,e2⟩:=iy hx (i:=2) (by decide);have h2:=hall 2 _ rfl;have h2:DataW.trod enc P W 0 (fun _=>true) true m 3 (([c0,c1,c2,c3,c4,c5,c6,c7,c8,c9,c10,c11,c12,c13].drop 2).take (P.cellsOf 3))=some y2:=h2.trans e2;obtain⟨y3,e3⟩:=iy hx (i:=3) (by decide);have h3:=hall 3 _ rfl;have h3:DataW.trod enc P W 0 (fun _=>true) true m 9 (([c0,c1,c2,c3,c4,c5,c6,c7,c8,c9,c10,c11,c12,c13].drop 3).take (P.cellsOf 9))=some y3:=h3.trans e3;obtain⟨y4,e4⟩:=iy hx (i:=4) (by decide);have h4:=hall 4 _ rfl;have h4:DataW.trod enc P W 0 (fun _=>true) true m 33 (([c0,c1,c2,c3,c4,c5,c6,c7,c8,c9,c10,c11,c12,c13].drop 4).take (P.cellsOf 33))=some y4:=h4.trans e4;obtain⟨y5,e5⟩:=iy hx (i:=5) (by decide);have h5:=hall 5 _ rfl;have h5:DataW.trod enc P W 0 (fun _=>true) true m 56 (([c0,c1,c2,c3,c4,c5,c6,c7,c8,c9,c10,c11,c12,c13].drop 5).take (P.cellsOf 56))=some y5:=h5.trans e5;obtain⟨y6,e6⟩:=iy hx (i:=6) (by decide);have h6:=hall 6 _ rfl;have h6:DataW.trod enc P W 0 (fun _=>true) true m 57 (([c0,c1,c2,c3,c4,c5,c6,c7,c8,c9,c10,c11,c12,c13].drop 13).take (P.cellsOf 57))=some y6:=h6.trans e6;rw[ci]at h0 h1 h2;rw[cs]at h3;rw[co]at h4;rw[cm]at h5;rw[cb]at h6;obtain⟨a0,q0,_,_⟩:=DataW.trod_int Go.Proofs.Tryz.underlying3 h0;obtain⟨a1,q1,_,_⟩:=DataW.trod_int Go.Proofs.Tryz.underlying3 h1;obtain⟨a2,q2,_,_⟩:=DataW.trod_int Go.Proofs.Tryz.underlying3 h2;obtain⟨a3,q3,_⟩:=DataW.trod_string Go.Proofs.Tryz.underlying9 h3;obtain⟨v4,q4,l4,hv4,_,_⟩:=lF EOp.f (sz:=3) (by decide) (good:=fun _=>True) Go.Proofs.Tryz.underlying33 (by kernel_rfl) (fun n cs' y hl h=>Ph hl h) h4;obtain⟨mm,hm⟩:=ZL (cs:=[c5,c6,c7,c8,c9,c10,c11,c12]) rfl h5;obtain⟨v6,q6,l6,hv6,_,_⟩:=lF (fun b:UInt8=>[Value.int .u8 b.toNat]) (sz:=1) (by decide) (good:=fun _=>True) Go.Proofs.Tryz.underlying57 (by kernel_rfl) (fun n cs' y hl h=>YK hl h) h6;rw[Y9]at hv6;replace q0:[c0]=[.int .i64 a0]:=q0;replace q1:[c1]=[.int .i64 a1]:=q1;replace q2:[c2]=[.int .i64 a2]:=q2;replace q3:[c3]=[.string a3]:=q3;replace q4:[c4]=[v4]:=q4;replace q6:[c13]=[v6]:=q6;simp only[List.cons.injEq,and_true]at q0 q1 q2 q3 q4 q6;subst q0 q1 q2 q3 q4 q6;refine⟨⟨a0,a1,a2,a3,l4,mm,l6⟩,VRL.cons rfl (VRL.cons rfl (VRL.cons rfl (VRL.cons rfl (VRL.cons hv4 ?_)))),trivial⟩;exact VRL.append hm (VRL.cons hv6 VRL.nil)
theorem open_acts{W:World}{v:Value}{d:DataW H}{ps:List MemPlace}{r:Reach}{b0:Nat}(hval:Value.okWide P W r b0 49 v)(h:DataW.Trod enc P W 0 (fun _=>true) true 49 v d ps) :
  ∃ l:List ActM,VR (envOf W) (fzActs l) v/\l.length<=9223372036854775807:=by
 have hv:=Ci Go.Proofs.Tryz.underlying49 hval;obtain⟨fuel,h⟩:=h;rw[hv]at h;obtain⟨v',e,l,h1,_,h3⟩:=lF fU.f (sz:=14) (by decide) (good:=fun _=>True) Go.Proofs.Tryz.underlying49 (by kernel_rfl) (fun n cs' y hl h=>Ws hl h) h;simp only[List.cons.injEq,and_true]at e;subst e;exact⟨l,h1,h3⟩
theorem aat{W:World}{n:Nat}{cs:List Value}{y:DataW H×List MemPlace}(hl:cs.length=1)(h:DataW.trod enc P W 0 (fun _=>true) true n 9 cs=some y):∃ o:ByteArray,VRL (envOf W) (EKy.f o) cs/\True:=by
 match cs,hl with
 |[c0],_=>
  obtain⟨s,q0,_⟩:=DataW.trod_string Go.Proofs.Tryz.underlying9 h;simp only[List.cons.injEq,and_true]at q0;subst q0;exact⟨s,VRL.cons rfl VRL.nil,trivial⟩
theorem open_kys{W:World}{v:Value}{d:DataW H}{ps:List MemPlace}{r:Reach}{b0:Nat}(hval:Value.okWide P W r b0 50 v)(h:DataW.Trod enc P W 0 (fun _=>true) true 50 v d ps) :
  ∃ l:List ByteArray,VR (envOf W) (fzKys l) v:=by
 have hv:=Ci Go.Proofs.Tryz.underlying50 hval;obtain⟨fuel,h⟩:=h;rw[hv]at h;obtain⟨v',e,l,h1,_,h3⟩:=lF EKy.f (sz:=1) (by decide) (good:=fun _=>True) Go.Proofs.Tryz.underlying50 (by kernel_rfl) (fun n cs' y hl h=>aat hl h) h;simp only[List.cons.injEq,and_true]at e;subst e;exact⟨l,h1⟩
end
end Go.VS.Tryz
end

noncomputable section
namespace Go.Proofs.YtofceohboacaoaaGreat.nodeReads
open Go.ChangeShapes Go.WideShapes Go.ChangeAt Go.RowKit
set_option maxRecDepth 1000000
theorem own:ownKnob Tryz.prog.godebug=none:=Facts.own
theorem laidOut:laidOutB Tryz.prog=true:=Facts.laid
theorem walk{l:List VS.Tryz.ActM}{ks:List ByteArray}{le:Int}{v1 v2:Value}(h1:l.length<=9223372036854775807)(w:World)(g1:VS.VR (VS.envOf w) (VS.Tryz.fzActs l) v1)(g2:VS.VR (VS.envOf w) (VS.Tryz.fzKys ks) v2) :
  Calls Tryz.prog 4 #[.int .i64 le,v1,v2] w fun e w'=>e = .returned (.bool true)/\Below w.heap.size w w':=
 VS.CR.true_calls (VS.CR.ofK0 (VS.Tryz.law9_crx (le:=le) (ks:=ks) h1)) (args':=#[.int .i64 le,v1,v2]) (VS.VRL.cons rfl (VS.VRL.cons g1 (VS.VRL.cons g2 VS.VRL.nil)))
theorem lifted(os:Os)(started:os.Started)(H:Type)(enc:TypeId×Value->H) :
  ReturnsInHanded {} Tryz.checked os 4 .any (Rows.nodeReadsSpec.pre6 enc Tryz.prog Tryz.f4 Rows.nodeReadsRow.domain false) (Rows.nodeReadsSpec.post enc Tryz.prog Tryz.f4 false true false false):=by
 refine returnsInHanded_of_change (C:=Tryz.checked) own started (by kernel_rfl) Tryz.func4
  (ChangeSpec.witness6 (enc:=enc) (C:=Tryz.checked) false ⟨#[],#[.int .i64 0, .slice none 0 0, .slice none 0 0],[]⟩ 8 (by kernel_rfl) (by kernel_rfl) (by kernel_rfl) (by kernel_rfl)) ?_
 intro W base args ds gs before hval0 hW hcnd _;have hval:∀ (j:Nat) t v,Tryz.f4.params[j]? = some t->args[j]? = some v->Value.okWide Tryz.prog W .any base t v:=hval0;have hW':=hW;obtain⟨p,q,hA0,hV,rfl,hfz,hnd⟩:=hW;have hA:DataW.TrodAll enc Tryz.prog W 0 (fun _=>true) true Tryz.f4.params.toList args.toList ds p:=hA0;rw[Tryz.params4]at hA hval;obtain⟨v0,vs0,d0,ds0,p0,q0,hargs,rfl,rfl,h0,r0⟩:=trodAll_cons hA;obtain⟨v1,vs1,d1,ds1,p1,q1,rfl,rfl,rfl,h1,r1⟩:=trodAll_cons r0;obtain⟨v2,vs2,d2,ds2,p2,q2,rfl,rfl,rfl,h2,r2⟩:=trodAll_cons r1;obtain⟨rfl,rfl,rfl⟩:=trodAll_nil r2;obtain rfl:args=#[v0,v1,v2]:=by cases args; simp_all
 obtain⟨rfl,rfl⟩:=trodVars_none hV;obtain⟨le,rfl⟩:∃ n,v0 = .int .i64 n:=okWide_int Tryz.underlying3 (hval 0 3 v0 rfl rfl);obtain⟨l,g1,hl⟩:=VS.Tryz.open_acts (hval 1 49 v1 rfl rfl) h1;obtain⟨ks,g2⟩:=VS.Tryz.open_kys (hval 2 50 v2 rfl rfl) h2;clear hA0 hval0;simp only[List.append_nil]at hW';have hlt0:∀ x∈p0,x.block<W.heap.size:=fun x hx=>by simpa using hW'.lt x (by simp[hx])
 have hlt1:∀ x∈p1,x.block<W.heap.size:=fun x hx=>by simpa using hW'.lt x (by simp[hx])
 have hlt2:∀ x∈p2,x.block<W.heap.size:=fun x hx=>by simpa using hW'.lt x (by simp[hx])
 refine(walk hl W g1 g2).mono fun e W' ⟨he,hg⟩=>?_;subst he;refine⟨_,rfl,_,_,_,[],p0++(p1++p2),[],hW',?_,?_,rfl,hg.frame _,fun h=>by cases h⟩
 ·exact trodAll_cons_mk (shut_bool Tryz.underlying4 _) trodAll_mk0
 ·have T3:=(trodAll_mk0:DataW.TrodAll enc Tryz.prog W' 0 (fun b=>decide (b<W.heap.size)) true [] [] [] [])
  have T2:=trodAll_cons_mk (Below.trod laidOut (by kernel_rfl) (of_decide_eq_true (by kernel_rfl)) h2 hg hlt2) T3;have T1:=trodAll_cons_mk (Below.trod laidOut (by kernel_rfl) (of_decide_eq_true (by kernel_rfl)) h1 hg hlt1) T2;have T0:=trodAll_cons_mk (Below.trod laidOut (by kernel_rfl) (of_decide_eq_true (by kernel_rfl)) h0 hg hlt0) T1;simp only[List.append_nil]at T0;exact T0
theorem over:Rows.nodeReadsRow.holds Tryz.pinned (OpenSpec.ofChange Rows.nodeReadsSpec):=
 OpenClaim.holds_of_wide 4 Tryz.f4 rfl rfl rfl rfl rfl rfl rfl ⟨rfl,rfl,rfl,rfl,rfl⟩ rfl rfl rfl rfl rfl k_func Tryz.func4 closed
  (of_decide_eq_true (by kernel_rfl)) (by unfold Func.isWrapper; first | (rw[if_pos (by decide +kernel)]; kernel_rfl) | (rw[if_neg (by decide +kernel)]; exact⟨rfl,rfl⟩))
  (fun os started H enc _=>lifted os started H enc)
theorem proved:Rows.NodeReadsSaid:=
 over
#print axioms proved
end Go.Proofs.YtofceohboacaoaaGreat.nodeReads
end
