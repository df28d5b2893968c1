/- Texts of the proof, merged. No conditions. -/
import Derived.Test.YtofceohboacaoaaGreatNodeReadsQ4
set_option linter.unusedSimpArgs false
set_option linter.unusedVariables false
noncomputable section
namespace Go.VS

section
variable{P:Program}{ct:Ct}
def Fe(P:Program)(ct:Ct)(n:Nat)(pol:Pol)(fl:List Fl)(ts:List TypeId)(N:Nat)(kb:List Bool)(g:FuncId)(args:List Value)(bs:List Blk):Res:=
 match iE P ct n g args (af bs)with
 |some (v,st)=>DT.run (kX P 60 fl ts (mX v) st fun vs1 ps st1=>qf P pol 200 (List.append (xJ args) (List.append ps (upL N 0))) [] st1 fun st2=>
  lK (jB st2) 1000 (List.append args (List.append vs1 (Aj (upL N 0)))) (kbF kb args) [] fun X L=>match Nat.beq vs1.length (mX v).length,iI 0 ((List.append (upL N 0) (geL N X)).append L) (fun i=>dZ (path i) st2.heap) ((List.append (upL N 0) (geL N X)).append L)with
  |true,some ms=> .leaf (rQ v (vs1.map (eP true (bY 0 ((List.append (upL N 0) (geL N X)).append L)))),ms)
  |_,_=> .fail) fun r=>some (r.1,af r.2)
 |none=>none
theorem CRX.ofE(hN:noNum P=true)(hct:CtOk P ct){n:Nat}{pol:Pol}{fl:List Fl}{ts:List TypeId}{N:Nat}{kb:List Bool}{g:FuncId}{args:List Value}{bs:List Blk}{v:Value}{bs':List Blk}(h:Fe P ct n pol fl ts N kb g args bs=some (v,af bs')):CRX P N g args bs v bs':=by
 intro K β w args' cs hid ha hr;unfold Fe at h;split at h
 ·rename_i v1 st1 h1;have h2:=h;obtain⟨β1,fr,w1,v',a1,a2,a3,a4,a5,a6⟩:=(gU hN hct n K).call g args (af bs) v1 st1 h1 β w args' .normal cs (Or.inl rfl) ha hr;obtain⟨r,hc,h2⟩:=DT.run_spec h2;obtain⟨vs1,ps,st2,f1,f2,f3⟩:=iQ _ _ _ _ _ _ hc;obtain⟨st3,g1,g2⟩:=jq _ _ _ _ _ f1;obtain⟨X0,L,hX⟩:=jE (jB st3) 1000 (List.append args (List.append vs1 (Aj (upL N 0)))) (kbF kb args) [] fun X L=>match Nat.beq vs1.length (mX v1).length,iI 0 ((List.append (upL N 0) (geL N X)).append L) (fun i=>dZ (path i) st3.heap) ((List.append (upL N 0) (geL N X)).append L)with
   |true,some ms=>DT.leaf (rQ v1 (vs1.map (eP true (bY 0 ((List.append (upL N 0) (geL N X)).append L)))),ms)
   |_,_=> .fail
  rw[hX]at g1;have hup:upTo N (upL N 0++geL N X0) 0=true:=vz N 0 _;generalize hY:upL N 0++geL N X0=X at hup;have hY':List.append (upL N 0) (geL N X0)=X:=hY;rw[hY']at g1;split at g1
  ·rename_i ms hvl hm;have hm:iI 0 (X++L) (fun i=>dZ (path i) st3.heap) (X++L)=some ms:=hm;simp only[DT.eval,Option.some.injEq]at g1;subst g1;simp only[Option.some.injEq,Prod.mk.injEq]at h2;obtain⟨rfl,hst⟩:=h2;obtain⟨m1,m2,m3⟩:=ig hm;simp only[dQ]at m2 m3;have hvl:=Nat.eq_of_beq_eq_true hvl;obtain⟨xs,x1,x2⟩:=uI a5;obtain⟨β2,c1,c2,c3⟩:=f3 K β1 w1 xs a3 x1;obtain⟨β3,d1,d2⟩:=g2 K β2 w1 c2;have hmid:=iZ (N:=0) (src:=X++L) d2 (fun i hi=>(hid i hi).elim) (Nat.zero_le _) m1 m2;have hren:=m_ (X++L) β3;have hmsl:ms.length=bs'.length:=by have:=congrArg St.next hst; exact this
   refine⟨⟨gu 0 (X++L) β3,fr,w1,v',a1,(((a2.trans c1).trans d1).leN _).trans (qB hup),?_,a4,?_,a6⟩,?_⟩
   ·rw[<-hst,m3]; exact hmid
   ·refine x2 _ _ (by rw[List.length_map]; exact hvl) ((c3.mono d1).mapr fun v _ x hx=>fO hren v x hx)
   ·rw[<-hmsl,m3,List.length_map,List.length_append];have:=(o6 _ _ _ hup).1;omega
  ·cases g1
 ·cases h
end
end Go.VS
end

noncomputable section
namespace Go.VS.Tryz
open Go.VS
set_option maxRecDepth 1000000
def dkN:DkM:=⟨false,false,0,0,[],[],[],[],[]⟩
def xI:List Blk:=[.cells [.bool true, .bool false, .bool false, .int .i64 0, .int .i64 0, .slice none 0 0, .slice none 0 0, .slice none 0 0, .slice none 0 0, .slice none 0 0] 86 true]
theorem aaz:Fe P rZ 4000 au [] [] 1 [] 67 [p0, .int .i64 0] xI =
 (let z:=io_ 0;let y:=Value.bool false;let x:=pt_ 0;let w:=Blk.cells [] 5 false;let v:=Blk.cells [] 47 false;
 (some (Value.tuple ⟨[pt_ 1,z]⟩,af [.cells [.bool true,y,y,z,z,sl_ 7 0,sl_ 8 0,sl_ 9 0,sl_ 10 0,sl_ 11 0] 86 true, .cells [x,y,io_ 1, .int .u8 1,z, .int .u8 0,z,z,sl_ 12 0,pt_ 2,pt_ 3,pt_ 4,z] 128 true, .cells [x,y,sl_ 13 0,sl_ 14 0] 170 true, .cells [x,y,sl_ 15 0] 168 true,so_ 5 3 16 0,tb_ 6, .map [] 0,w,w,w,w, .cells [] 163 false,v,v, .cells [] 3 false, .cells [] 161 false,v]))):=by kernel_rfl
def mD:StaM:=⟨false,⟨1,1,0,0,0,0⟩,[],0,dkN,false,[],[],false,[],tb0,[]⟩
def stD(s:StaM):List Blk:=[.cells (dM 7 8 9 10 11 s.dk) 86 true, .cells ([ptV 0, .bool s.off]++pgC s.pg++[lsV 12 s.log.length,ptV 2,ptV 3,ptV 4, .int .i64 s.held]) 128 true,
 .cells [ptV 0, .bool s.wbr,lsV 13 s.wcs.length,lsV 14 s.wes.length] 170 true, .cells [ptV 0, .bool s.rbr,lsV 15 s.rs.length] 168 true, .cells [ptV 5,ptV 3,lsV 16 s.rest.length] 174 true, .cells [.map (some 6)] 98 true, .map s.tb.es s.tb.ck]++dkL s.dk++
 [.cells (ECm.all s.log) 47 false, .cells (ECm.all s.wcs) 47 false, .cells (EIn.all s.wes) 3 false, .cells (eF.all s.rs) 161 false, .cells (ECm.all s.rest) 47 false]
theorem YP:CRX P 1 67 [p0, .int .i64 0] xI (.tuple ⟨[ptV 1, .int .i64 0]⟩) (stD mD):=
 CRX.ofE (pol:=au) (fl:=[]) (ts:=[]) (n:=4000) (kb:=[]) az (qE P) (aaz.trans rfl)
theorem nz{fid id:Nat}{B:Code}{H:Head}{r:DT (Ex×List Value×List Blk)}(hocc:∀ c,Occ P fid (.block id c)->c = .loop B):LoopOkX P fid id B H (gX (fun _ _=>false) r) where
 occ:=hocc
 run:=by
  intro vs bs t hR e' vs' bs' hev;unfold gX at hR;obtain rfl:=Option.some.inj hR;cases hev

end Go.VS.Tryz
end

noncomputable section
namespace Go.VS

section
variable{P:Program}{ct:Ct}
def flA(l:List Value):List Value:=@List.rec Value (fun _=>List Value) [] (fun v _ ih=>match v with
 | .agg ⟨a⟩=>List.append a ih
 |v=>v::ih) l
def unA(l:List Value):List Value->List Value:=@List.rec Value (fun _=>List Value->List Value) (fun _=>[]) (fun v _ ih vs=>match v with
 | .agg ⟨a⟩=> .agg ⟨vs.take a.length⟩::ih (vs.drop a.length)
 |_=>match vs with
  |x::vs=>x::ih vs
  |[]=>[]) l
theorem Ot{β:Env}:∀ {l xs:List Value},VRL β l xs->∃ ys,VRL β (flA l) ys/\∀ (β':Env) (vs:List Value),vs.length=(flA l).length->VRL β' vs ys->VRL β' (unA l vs) xs
 |[],xs,h=>by
  have hx:xs=[]:=List.length_eq_zero_iff.1 h.length.symm;subst hx;exact⟨[],VRL.nil,fun _ _ _ _=>VRL.nil⟩
 |v::l,xs,h=>by
  simp only[VRL]at h;obtain⟨x,xs',rfl,hx,hxs⟩:=h;obtain⟨ys,h1,h2⟩:=Ot hxs;by_cases ha:∃ a,v = .agg a
  ·obtain⟨⟨a⟩,rfl⟩:=ha;simp only[VR]at hx;obtain⟨a',rfl,haa⟩:=hx;have haa:VRL β a a'.toList:=by
    have:=jy.1 haa;exact this
   refine⟨a'.toList++ys,haa.append h1,fun β' vs hl hv=>?_⟩;have e:flA (.agg ⟨a⟩::l)=a++flA l:=rfl;rw[e,List.length_append]at hl;show VRL β' (.agg ⟨vs.take a.length⟩::unA l (vs.drop a.length)) (.agg a'::xs');have t1:=hv.take a.length;have t2:=hv.drop a.length;rw[haa.length,List.take_left' rfl]at t1;rw[haa.length,List.drop_left' rfl]at t2;refine VRL.cons ?_ (h2 β' _ (by rw[List.length_drop]; omega) (by rw[haa.length]; exact t2));simp only[VR];refine⟨a',rfl,jy.2 ?_⟩;rw[haa.length];exact t1
  ·have e1:flA (v::l)=v::flA l:=by cases v<;>first | rfl | exact absurd ⟨_,rfl⟩ ha
   have e2:∀ y vs,unA (v::l) (y::vs)=y::unA l vs:=by intro y vs; cases v<;>first | rfl | exact absurd ⟨_,rfl⟩ ha
   refine⟨x::ys,by rw[e1]; exact VRL.cons hx h1,fun β' vs hl hv=>?_⟩;rw[e1]at hl;cases vs with
   |nil=>cases hl
   |cons y vs=>
    rw[e2];simp only[VRL]at hv;obtain⟨z,zs,e,hy,hvs⟩:=hv;simp only[List.cons.injEq]at e;obtain⟨rfl,rfl⟩:=e;exact VRL.cons hy (h2 β' vs (by simpa using hl) hvs)
def IX(P:Program)(E:Eng)(ct:Ct)(n:Nat)(pol:Pol)(fl:List Fl)(ts:List TypeId)(N:Nat)(kb:List Bool)(g:FuncId)(args:List Value)(bs:List Blk):Res:=
 (o9 P E ct n n).call g args (af bs) fun v st=>DT.run (kX P 60 fl ts (flA (mX v)) st fun vs1 ps st1=>qf P pol 200 (List.append (xJ args) (List.append ps (upL N 0))) [] st1 fun st2=>
  lK (jB st2) 1000 (List.append args (List.append vs1 (Aj (upL N 0)))) (kbF kb args) [] fun X L=>match Nat.beq vs1.length (flA (mX v)).length,iI 0 ((List.append (upL N 0) (geL N X)).append L) (fun i=>dZ (path i) st2.heap) ((List.append (upL N 0) (geL N X)).append L)with
  |true,some ms=> .leaf (rQ v (unA (mX v) (vs1.map (eP true (bY 0 ((List.append (upL N 0) (geL N X)).append L))))),ms)
  |_,_=> .fail) fun r=>some (r.1,af r.2)
theorem CRX.ofF{E:Eng}(hE:EngOk P ct E)(hN:noNum P=true)(hct:CtOk P ct){n:Nat}{pol:Pol}{fl:List Fl}{ts:List TypeId}{N:Nat}{kb:List Bool}{g:FuncId}{args:List Value}{bs:List Blk}{v:Value}{bs':List Blk}(h:IX P E ct n pol fl ts N kb g args bs=some (v,af bs')):CRX P N g args bs v bs':=by
 intro K β w args' cs hid ha hr;unfold IX at h;obtain⟨m,v1,st1,h1,h2⟩:=(jP hE n n).call _ _ _ _ _ h;obtain⟨β1,fr,w1,v',a1,a2,a3,a4,a5,a6⟩:=(gU hN hct m K).call g args (af bs) v1 st1 h1 β w args' .normal cs (Or.inl rfl) ha hr;obtain⟨r,hc,h2⟩:=DT.run_spec h2;obtain⟨vs1,ps,st2,f1,f2,f3⟩:=iQ _ _ _ _ _ _ hc;obtain⟨st3,g1,g2⟩:=jq _ _ _ _ _ f1;obtain⟨X0,L,hX⟩:=jE (jB st3) 1000 (List.append args (List.append vs1 (Aj (upL N 0)))) (kbF kb args) [] fun X L=>match Nat.beq vs1.length (flA (mX v1)).length,iI 0 ((List.append (upL N 0) (geL N X)).append L) (fun i=>dZ (path i) st3.heap) ((List.append (upL N 0) (geL N X)).append L)with
  |true,some ms=>DT.leaf (rQ v1 (unA (mX v1) (vs1.map (eP true (bY 0 ((List.append (upL N 0) (geL N X)).append L))))),ms)
  |_,_=> .fail
 rw[hX]at g1;have hup:upTo N (upL N 0++geL N X0) 0=true:=vz N 0 _;generalize hY:upL N 0++geL N X0=X at hup;have hY':List.append (upL N 0) (geL N X0)=X:=hY;rw[hY']at g1;split at g1
 ·rename_i ms hvl hm;have hm:iI 0 (X++L) (fun i=>dZ (path i) st3.heap) (X++L)=some ms:=hm;simp only[DT.eval,Option.some.injEq]at g1;subst g1;simp only[Option.some.injEq,Prod.mk.injEq]at h2;obtain⟨rfl,hst⟩:=h2;obtain⟨m1,m2,m3⟩:=ig hm;simp only[dQ]at m2 m3;have hvl:=Nat.eq_of_beq_eq_true hvl;obtain⟨xs,x1,x2⟩:=uI a5;obtain⟨ys,y1,y2⟩:=Ot x1;obtain⟨β2,c1,c2,c3⟩:=f3 K β1 w1 ys a3 y1;obtain⟨β3,d1,d2⟩:=g2 K β2 w1 c2;have hmid:=iZ (N:=0) (src:=X++L) d2 (fun i hi=>(hid i hi).elim) (Nat.zero_le _) m1 m2;have hren:=m_ (X++L) β3;have hmsl:ms.length=bs'.length:=by have:=congrArg St.next hst; exact this
  refine⟨⟨gu 0 (X++L) β3,fr,w1,v',a1,(((a2.trans c1).trans d1).leN _).trans (qB hup),?_,a4,?_,a6⟩,?_⟩
  ·rw[<-hst,m3]; exact hmid
  ·have hy:=y2 _ _ (by rw[List.length_map]; exact hvl) ((c3.mono d1).mapr fun v _ x hx=>fO hren v x hx);exact x2 _ _ (hy.length.trans x1.length.symm) hy
  ·rw[<-hmsl,m3,List.length_map,List.length_append];have:=(o6 _ _ _ hup).1;omega
 ·cases g1
end
end Go.VS
end

noncomputable section
namespace Go.VS.Tryz
open Go.VS
set_option maxRecDepth 1000000
def XP(C:List UInt8->Int->Bool)(X N:List UInt8->Int):kY
 |[.iface t (.agg ⟨.slice none n b::c⟩), .int .i64 m]=>some (.ite (fzB t n c&&C (c.map byteOf) m) (.leaf (smV (X (c.map byteOf)) (N (c.map byteOf)) 0,[])) .fail)
 |_=>none
def smC(l:List UInt8)(m:Int):Bool:=DV m&&pK l m
def smX(l:List UInt8):Int:=((gZ l).1:Int)
def smN(l:List UInt8):Int:=((gZ l).2.1:Int)
theorem acX:CallOkR P 135 (XP smC smX smN):=⟨fun args t hR v bs hev=>by
 unfold XP at hR;split at hR
 ·rename_i t0 n b c m;obtain rfl:=Option.some.inj hR;cases hc:fzB t0 n c&&smC (c.map byteOf) m with
  |false=>rw[hc]at hev; cases hev
  |true=>
   rw[hc]at hev;unfold smC at hc;simp only[Bool.and_eq_true]at hc;obtain⟨h1,h2,h3⟩:=hc;refine Xg.run _ _ rfl v bs ?_;show(DT.ite (fzB t0 n c&&DV m) (.ite (pK (c.map byteOf) m) _ _) .fail).eval=_;rw[h1,h2];simp only[Bool.and_self];rw[h3];exact hev
 ·cases hR⟩
def Xv(C:List UInt8->Int->Bool)(X N:List UInt8->Int):Ct:=kG P 135 (XP C X N) ctF
theorem Og:CtOk P (Xv smC smX smN):=ji bn acX
def rdB(l:List UInt8)(b:Nat)(a:Int)(bad:Bool):List Blk:=[.cells [aX 1 l.length b (bc l), .int .i64 a, .bool bad] 249 true]
theorem aao(C:List UInt8->Int->Bool)(X N:List UInt8->Int)(l:List UInt8)(b:Nat)(a m:Int):dD P E (Xv C X N) 50 au [] [] 1 190 [p0, .int .i64 m] (rdB l b a false) =
 (let z:=l.length;let y:=iV a (ag z);let x:=takeC (Nat.mul y 1) (bT (atN a 1) (bc l));let w:=List.map byteOf x;
 (ae (Bool.and (Nat.beq 1 1) (gq a (ag z) z)) (ae (Bool.and (fw_ y x) (C w m)) (some (io_ (X w),af [.cells [fb_ z b (bc l),io_ (dO .i64 a (N w)), .bool false] 249 true]))))):=by kernel_rfl
def V7(C:List UInt8->Int->Int->Bool)(X A:List UInt8->Int->Int):iW:=fun args bs=>match args,bs with
 |[.pointer (some ⟨0,0,none⟩), .int .i64 m],[.cells [.iface t (.agg ⟨.slice none n b::c⟩), .int .i64 a, .bool bd] ty true]=>some (.ite (fzB t n c&&Nat.beq ty 249&&!bd&&C (c.map byteOf) a m) (.leaf (.int .i64 (X (c.map byteOf) a),[.cells [.iface t (.agg ⟨.slice none n b::c⟩), .int .i64 (A (c.map byteOf) a), .bool false] ty true])) .fail)
 |_,_=>none
def aeD(C:List UInt8->Int->Int->Bool)(X A:List UInt8->Int->Int):Ct:=aT P au 1 190 (V7 C X A) ctF
theorem YI(C:List UInt8->Int->Int->Bool)(X A:List UInt8->Int->Int)(l:List UInt8)(b:Nat)(a m:Int):dD P E (aeD C X A) 50 au [] [] 1 210 [p0, .int .i64 m] (rdB l b a false) =
 (let z:=l.length;let y:=bc l;let x:=List.map byteOf y;let w:=A x a;let v:=X x a;let u:=fb_ z b y;let t:=Nat.beq 1 1;let s:=dO .i64 w v;let r:=fH .i64 s v;let q:=takeC (Nat.mul (iV r s) 1) (bT (atN r 1) y);
 (ae (Bool.and (Bool.and (Bool.and (fw_ z y) (Nat.beq 249 249)) (Bool.not false)) (C x a m)) (ak (ltI (fH .i64 (ag z) w) v) (some (.string (ByteArray.mk #[]),af [.cells [u,io_ w, .bool true] 249 true])) (ae (Bool.and t (gq r s z)) (ae (Bool.and t (allBytes q)) (some (.string (Ag q),af [.cells [u,io_ s, .bool false] 249 true]))))))):=by kernel_rfl
theorem Ul{l:List UInt8}{m:Int}(h:pK l m=true):((gZ l).1:Int)<=m:=by
 unfold pK at h;rw[Bool.and_eq_true]at h;exact of_decide_eq_true h.2
theorem BF{b:List UInt8}{a m x a':Nat}(h:qj b a false m=(x,a',false)):pK (b.drop a) m=true/\x=(gZ (b.drop a)).1/\a'=a+(gZ (b.drop a)).2.1/\x<=m/\(a<=b.length->a'<=b.length):=by
 unfold qj at h;cases hs:pK (b.drop a) m with
 |false=>rw[hs]at h; simp at h
 |true=>
  rw[hs]at h;simp only[Prod.mk.injEq,and_true]at h;obtain⟨rfl,rfl⟩:=h;have h1:=Ul hs;have h2:=Es (b.drop a);rw[List.length_drop]at h2;exact⟨rfl,rfl,rfl,by omega,fun h=>by omega⟩
theorem Oq{b t:List UInt8}{a m a':Nat}(h:Eu b a false m=(t,a',false)):∃ x a1,qj b a false m=(x,a1,false)/\a1+x<=b.length/\t=(b.drop a1).take x/\a'=a1+x:=by
 unfold Eu at h;rcases hq:qj b a false m with⟨x,a1,bad⟩
 rw[hq]at h;cases bad with
 |true=>simp at h
 |false=>
  simp only[Bool.false_or]at h;by_cases hd:b.length<a1+x
  ·rw[decide_eq_true hd]at h; simp at h
  ·rw[decide_eq_false hd]at h;simp only[Prod.mk.injEq,and_true]at h;obtain⟨rfl,rfl⟩:=h;exact⟨x,a1,rfl,by omega,rfl,rfl⟩

def acd(C:List UInt8->Int->Int->Bool)(T:List UInt8->Int->ByteArray)(A:List UInt8->Int->Int):iW:=fun args bs=>match args,bs with
 |[.pointer (some ⟨0,0,none⟩), .int .i64 m],[.cells [.iface t (.agg ⟨.slice none n b::c⟩), .int .i64 a, .bool bd] ty true]=>some (.ite (fzB t n c&&Nat.beq ty 249&&!bd&&C (c.map byteOf) a m) (.leaf (.string (T (c.map byteOf) a),[.cells [.iface t (.agg ⟨.slice none n b::c⟩), .int .i64 (A (c.map byteOf) a), .bool false] ty true])) .fail)
 |_,_=>none
def opV(o:OpM):Value:= .agg ⟨[.bool o.p, .string o.k, .string o.v]⟩
theorem adh(l:List UInt8)(a:Nat):takeC (l.drop a).length (bT (atN (a:Int) 1) (bc l))=bc (l.drop a):=by
 have h1:atN (a:Int) 1=a:=by simp[atN]
 rw[h1,yw,List.take_of_length_le (Nat.le_refl _)]
theorem adv(l:List UInt8)(a:Nat):iV (a:Int) (ag l.length)=(l.drop a).length:=by rw[List.length_drop]; exact abw a l.length
theorem ace{a n:Nat}(h:a<=n):gq (a:Int) (ag n) n=true:=by unfold gq ag; exact decide_eq_true (by omega)
theorem PT:Nat.beq 1 1=true:=rfl
theorem YY{l:List UInt8}{a m x a' b:Nat}(hq:qj l a false m=(x,a',false))(ha:a<=l.length)(hl:l.length+64<=4194304)(hm:m<4611686018427387904) :
  CRX P 1 190 [p0, .int .i64 (m:Int)] (rdB l b a false) (.int .i64 (x:Int)) (rdB l b (a':Int) false):=by
 obtain⟨h1,h2,h3,h4,h5⟩:=BF hq;have h5:=h5 ha;refine CRX.of (pol:=au) (fl:=[]) (ts:=[]) (n:=50) (bf _) az Og ((aao smC smX smN l b a m).trans ?_);have hc:smC (l.drop a) (m:Int)=true:=by unfold smC DV; rw[h1,jk (by omega) (by omega)]; rfl
 have hX:smX (l.drop a)=(x:Int):=by unfold smX; omega
 have hN:smN (l.drop a)=(((gZ (l.drop a)).2.1:Nat):Int):=rfl;have a1:dO .i64 (a:Int) (((gZ (l.drop a)).2.1:Nat):Int)=(a':Int):=by unfold dO; rw[wrap64 (by omega) (by omega)]; omega
 simp (disch:=first | omega | (simp only[List.length_append,List.length_drop,List.length_take,List.length_singleton,Nat.add_eq,bg]<;>omega) | fail) only[fb_,fw_,io_,hc,hX,hN,a1,adh,adv,ace ha,PT,rdB,dI,rnB,srB,tbB,dkL,List.cons_append,List.nil_append,List.append_assoc,dJ,aB,dM,lsV,ptV,p0,aW,dkC,aJ,bG,cmV,dA,bQ,aN,dH,dB,dU,dE,dG,dF,cZ,dC,dw,dS,dn,ay,aC,aF,Enc.all_ren,aA,bC,aV,a_,aO,ah,aP,bu,Int.toNat_natCast,aQ,aG,bz,bK,b_,bJ,bP,dm,Bool.and_self,aK,aH,ax]
open Classical in
def nuC(l:List UInt8)(a m:Int):Bool:=decide (∃ (a0 m0 x a':Nat),a=a0/\m=m0/\qj l a0 false m0=(x,a',false)/\a0<=l.length/\m0<4611686018427387904)
def nuX(l:List UInt8)(a:Int):Int:=((gZ (l.drop a.toNat)).1:Int)
def nuA(l:List UInt8)(a:Int):Int:=((a.toNat+(gZ (l.drop a.toNat)).2.1:Nat):Int)
open Classical in
theorem UE{l:List UInt8}{a m x a':Nat}(h:qj l a false m=(x,a',false))(ha:a<=l.length)(hm:m<4611686018427387904):nuC l (a:Int) (m:Int)=true/\nuX l (a:Int)=(x:Int)/\nuA l (a:Int)=(a':Int):=by
 obtain⟨h1,h2,h3,h4,h5⟩:=BF h;refine⟨by unfold nuC; exact decide_eq_true ⟨a,m,x,a',rfl,rfl,h,ha,hm⟩,?_,?_⟩
 ·unfold nuX;rw[show(a:Int).toNat=a by omega,<-h2]
 ·unfold nuA;rw[show(a:Int).toNat=a by omega,<-h3]
open Classical in
theorem adY:CallOkX P 1 190 (V7 nuC nuX nuA):=⟨fun args bs t hR v bs' hev=>by
 unfold V7 at hR;split at hR
 ·rename_i m t0 n b c a bd ty;obtain rfl:=Option.some.inj hR;cases hc:(fzB t0 n c&&Nat.beq ty 249&&!bd&&nuC (c.map byteOf) a m)with
  |false=>rw[hc]at hev; cases hev
  |true=>
   rw[hc]at hev;simp only[Bool.and_eq_true]at hc;obtain⟨⟨⟨hf,hty⟩,hbd⟩,hn⟩:=hc;obtain rfl:=Nat.eq_of_beq_eq_true hty;obtain rfl:bd=false:=by cases bd with | false=>rfl | true=>cases hbd
   obtain⟨rfl,rfl,⟨l,rfl,hl⟩,h4⟩:=uZ hf;rw[<-hl]at hev hn;rw[ah]at h4 hev ⊢;have hn':=of_decide_eq_true hn;obtain⟨a0,m0,x,a',rfl,rfl,hq,ha,hm⟩:=hn';obtain⟨_,e2,e3⟩:=UE hq ha hm;simp only[DT.eval,Option.some.injEq,Prod.mk.injEq,e2,e3]at hev;obtain⟨rfl,rfl⟩:=hev;exact YY hq ha h4 hm
 ·cases hR⟩
theorem Zu{l t:List UInt8}{a m a' b:Nat}(hq:Eu l a false m=(t,a',false))(ha:a<=l.length)(hl:l.length+64<=4194304)(hm:m<4611686018427387904) :
  CRX P 1 210 [p0, .int .i64 (m:Int)] (rdB l b a false) (.string (txt t)) (rdB l b (a':Int) false):=by
 obtain⟨x,a1,h1,h2,h3,h4⟩:=Oq hq;obtain⟨_,_,_,_,h5⟩:=BF h1;have h5:=h5 ha;obtain⟨c1,c2,c3⟩:=UE h1 ha hm;refine CRX.of (pol:=au) (fl:=[]) (ts:=[]) (n:=50) (bf _) az (aj (pol:=au) bn adY) ((YI nuC nuX nuA l b a m).trans ?_);have g1:ltI (fH .i64 (ag l.length) (a1:Int)) (x:Int)=false:=by unfold ltI fH ag; rw[wrap64 (by omega) (by omega)]; exact decide_eq_false (by omega)
 have e1:dO .i64 (a1:Int) (x:Int)=(a':Int):=by unfold dO; rw[wrap64 (by omega) (by omega)]; omega
 have e2:fH .i64 (a':Int) (x:Int)=(a1:Int):=by unfold fH; rw[wrap64 (by omega) (by omega)]; omega
 have g2:gq (a1:Int) (a':Int) l.length=true:=by unfold gq; exact decide_eq_true (by omega)
 have t1:takeC (iV (a1:Int) (a':Int)) (bT (atN (a1:Int) 1) (bc l))=bc t:=by
  have h1:atN (a1:Int) 1=a1:=by simp[atN]
  have h2:iV (a1:Int) (a':Int)=x:=by unfold iV; omega
  rw[h1,h2,yw,h3]
 have t2:allBytes (bc t)=true:=by
  unfold allBytes;refine List.all_eq_true.2 fun x hx=>?_;unfold bc at hx;obtain⟨o,_,rfl⟩:=List.mem_map.1 hx;first | rfl | simp[isByte] | (have:=o.toNat_lt; simp[isByte]; omega)
 have t3:Ag (bc t)=txt t:=by unfold Ag txt; rw[aO]
 have z:Nat.beq 249 249=true:=rfl;have z2:(!false)=true:=rfl;simp (disch:=first | omega | (simp only[List.length_append,List.length_drop,List.length_take,List.length_singleton,Nat.add_eq,bg]<;>omega) | fail) only[fb_,fw_,io_,c1,c2,c3,g1,e1,e2,g2,t1,t2,t3,z,z2,PT,rdB,dI,rnB,srB,tbB,dkL,List.cons_append,List.nil_append,List.append_assoc,dJ,aB,dM,lsV,ptV,p0,aW,dkC,aJ,bG,cmV,dA,bQ,aN,dH,dB,dU,dE,dG,dF,cZ,dC,dw,dS,dn,ay,aC,aF,Enc.all_ren,aA,bC,aV,a_,aO,ah,aP,bu,Int.toNat_natCast,aQ,aG,bz,bK,b_,bJ,bP,dm,Bool.and_self,aK,aH,ax]
open Classical in
def txC(l:List UInt8)(a m:Int):Bool:=decide (∃ (a0 m0 a':Nat) (t:List UInt8),a=a0/\m=m0/\Eu l a0 false m0=(t,a',false)/\a0<=l.length/\m0<4611686018427387904)
def txT(l:List UInt8)(a:Int):ByteArray:=txt ((l.drop (a.toNat+(gZ (l.drop a.toNat)).2.1)).take (gZ (l.drop a.toNat)).1)
def txA(l:List UInt8)(a:Int):Int:=((a.toNat+(gZ (l.drop a.toNat)).2.1+(gZ (l.drop a.toNat)).1:Nat):Int)
open Classical in
theorem acb{l t:List UInt8}{a m a':Nat}(h:Eu l a false m=(t,a',false))(ha:a<=l.length)(hm:m<4611686018427387904):txC l (a:Int) (m:Int)=true/\txT l (a:Int)=txt t/\txA l (a:Int)=(a':Int):=by
 obtain⟨x,a1,h1,h2,h3,h4⟩:=Oq h;obtain⟨_,e2,e3,_,_⟩:=BF h1;refine⟨by unfold txC; exact decide_eq_true ⟨a,m,a',t,rfl,rfl,h,ha,hm⟩,?_,?_⟩
 ·unfold txT;rw[show(a:Int).toNat=a by omega,<-e3,<-e2,<-h3]
 ·unfold txA;rw[show(a:Int).toNat=a by omega,<-e3,<-e2,<-h4]
open Classical in
theorem aeN:CallOkX P 1 210 (acd txC txT txA):=⟨fun args bs t hR v bs' hev=>by
 unfold acd at hR;split at hR
 ·rename_i m t0 n b c a bd ty;obtain rfl:=Option.some.inj hR;cases hc:(fzB t0 n c&&Nat.beq ty 249&&!bd&&txC (c.map byteOf) a m)with
  |false=>rw[hc]at hev; cases hev
  |true=>
   rw[hc]at hev;simp only[Bool.and_eq_true]at hc;obtain⟨⟨⟨hf,hty⟩,hbd⟩,hn⟩:=hc;obtain rfl:=Nat.eq_of_beq_eq_true hty;obtain rfl:bd=false:=by cases bd with | false=>rfl | true=>cases hbd
   obtain⟨rfl,rfl,⟨l,rfl,hl⟩,h4⟩:=uZ hf;rw[<-hl]at hev hn;rw[ah]at h4 hev ⊢;have hn':=of_decide_eq_true hn;obtain⟨a0,m0,a',t,rfl,rfl,hq,ha,hm⟩:=hn';obtain⟨_,e2,e3⟩:=acb hq ha hm;simp only[DT.eval,Option.some.injEq,Prod.mk.injEq,e2,e3]at hev;obtain⟨rfl,rfl⟩:=hev;exact Zu hq ha h4 hm
 ·cases hR⟩
theorem Yq(l:List OpM)(o:OpM):List.append (EOp.all l) [.bool o.p, .string o.k, .string o.v]=EOp.all (l++[o]):=by rw[EOp.all_append]; rfl
theorem mg(l:List OpM):(EOp.all l).length=Nat.mul l.length 3:=EOp.all_length l
theorem qH{l:List OpM}{n:Nat}(h:n=l.length):takeC (Nat.mul n 3) (bT 0 (EOp.all l))=EOp.all l:=by subst h; exact EOp.all_self l
theorem SA{l:List OpM}{n:Nat}(h:n=l.length):j_ P 0 n 18446744073709551616 (EOp.all l) 74=true:=by
 subst h;have he:esz P 74=3:=by kernel_rfl
 unfold j_;rw[he,EOp.all_nr,EOp.all_length];have h2:Nat.ble (Nat.add 0 (Nat.mul l.length 3)) (l.length*EOp.sz)=true:=Nat.ble_eq_true_of_le (by show 0+l.length*3<=l.length*3; omega);rw[h2]; rfl
theorem vU(b:Bool):asB (.bool b)=b:=rfl
theorem qW(s:ByteArray):asS (.string s)=s:=rfl
def vlV(l:List OpM)(i:Int):List Value:=[ylV 0,aJ l, .int .i64 (ag l.length), .int .i64 i]
theorem VJ{l o:List OpM}{i:Nat}(hi:i<l.length)(hl:l.length<4194304)(ho:o.length<4194300) :
  lW P E ctF 50 194 Bvl Dvl (vlV l i) (vlB o.length (EOp.all o))=some (.tuple ⟨exV .normal::vlV l ((i+1:Nat):Int)⟩,af (vlB (o++[l[i]]).length (EOp.all (o++[l[i]])))):=by
 obtain⟨g1,g2,a1⟩:=iM hi hl;have g4:=qy hi;have h1:(o++[l[i]]).length=Nat.add o.length 1:=by simp
 unfold vlV;rw[Uj];simp (disch:=first | omega | (simp only[List.length_append,List.length_drop,List.length_take,List.length_singleton,Nat.add_eq,bg]<;>omega) | fail) only[fa_,io_,lb_,nb_,pt_,sl_,g1,g2,a1,g4,iG hi (Nat.le_refl 3),ve hi,qh hi,vk hi,vU,qW,h1,Yq,vlB,mg,qH rfl,qH h1.symm,dI,rnB,srB,tbB,dkL,List.cons_append,List.nil_append,List.append_assoc,dJ,aB,dM,lsV,ptV,p0,aW,dkC,aJ,bG,cmV,dA,bQ,aN,dH,dB,dU,dE,dG,dF,cZ,dC,dw,dS,dn,ay,aC,aF,Enc.all_ren,aA,bC,aV,a_,aO,ah,aP,bu,Int.toNat_natCast,aQ,aG,bz,bK,b_,bJ,bP,dm,Bool.and_self,aK,aH,ax]
 rfl
theorem acE{l o:List OpM}:lW P E ctF 50 194 Bvl Dvl (vlV l l.length) (vlB o.length (EOp.all o))=some (.tuple ⟨exV (.exit 0)::vlV l l.length⟩,af (vlB o.length (EOp.all o))):=by
 unfold vlV;rw[Uj];simp (disch:=first | omega | (simp only[List.length_append,List.length_drop,List.length_take,List.length_singleton,Nat.add_eq,bg]<;>omega) | fail) only[fa_,io_,lb_,nb_,pt_,sl_,kJ,vlB,mg,qH rfl,dI,rnB,srB,tbB,dkL,List.cons_append,List.nil_append,List.append_assoc,dJ,aB,dM,lsV,ptV,p0,aW,dkC,aJ,bG,cmV,dA,bQ,aN,dH,dB,dU,dE,dG,dF,cZ,dC,dw,dS,dn,ay,aC,aF,Enc.all_ren,aA,bC,aV,a_,aO,ah,aP,bu,Int.toNat_natCast,aQ,aG,bz,bK,b_,bJ,bP,dm,Bool.and_self,aK,aH,ax]
 rfl
theorem YD{l:List OpM}(hl:l.length<4194300):LRX P 194 0 Bvl Dvl.head (vlV l (0:Nat)) (vlB 0 (EOp.all [])) .normal (vlV l l.length) (vlB l.length (EOp.all l)):=by
 have q:=LRX.iterY (n:=50) (bf _) az bn O7 (vs:=fun i=>vlV l (i:Int)) (bs:=fun i=>vlB (l.take i).length (EOp.all (l.take i))) (e:=jM 0 (.exit 0)) (vs':=vlV l l.length) (bs':=vlB l.length (EOp.all l)) l.length (fun i hi=>by
  have q:=VJ (o:=l.take i) hi (by omega) (by rw[List.length_take]; omega);have e:l.take i++[l[i]]=l.take (i+1):=by rw[List.take_succ_eq_append_getElem hi]
  rw[e]at q;exact q) (by
  simp only[List.take_length]
  exact LRX.stopY (n:=50) (bf _) az bn O7 acE (by intro h; cases h))
 exact q
theorem Zq{l:List OpM}(hl:l.length<4194300):CRX P 1 140 [.func (.func 194) #[] #[ptV 0]] [.cells [aJ l] 33 true] (aJ l) [.cells [aJ l] 33 true]:=by
 have q1:=YD hl;refine CRX.of (pol:=WB) (fl:=[.val]) (ts:=[33]) (n:=50) (bf _) az (wG bn (fG (dL TR) q1)) ((YM (bM (vlV l (0:Nat)) (vlB 0 (EOp.all []))) l l (ag l.length) (l.length:Int)).trans ?_);clear q1;have z0:((0:Nat):Int)=0:=rfl;have e0:(EOp.all ([]:List OpM))=[]:=rfl;simp (disch:=first | omega | (simp only[List.length_append,List.length_drop,List.length_take,List.length_singleton,Nat.add_eq,bg]<;>omega) | fail) only[fa_,fq_,io_,pt_,sl_,z0,e0,SA rfl,vlV,vlB,ylV,mg,qH rfl,dI,rnB,srB,tbB,dkL,List.cons_append,List.nil_append,List.append_assoc,dJ,aB,dM,lsV,ptV,p0,aW,dkC,aJ,bG,cmV,dA,bQ,aN,dH,dB,dU,dE,dG,dF,cZ,dC,dw,dS,dn,ay,aC,aF,Enc.all_ren,aA,bC,aV,a_,aO,ah,aP,bu,Int.toNat_natCast,aQ,aG,bz,bK,b_,bJ,bP,dm,Bool.and_self,aK,aH,ax]
def Dz(ks:List (List UInt8)):Value:=aX 1 ks.length 0 (ks.map Go.Proofs.encStr)
def mpB(t:TbM):List Blk:=[.cells [.map (some 1)] 96 true, .map t.es t.ck]
def Dtl:HeadX:=⟨2,37,[0,3,14,15,16],[.val, .own, .val, .val, .val],[0,33,0,0,0],au⟩
def Btl:Code:=(dR P 170 0).getD .skip
theorem Un:dR P 170 0=some Btl:=by kernel_rfl
theorem O1:Occ P 170 (.block 0 (.loop Btl)):=fA Un
def tlB(t:TbM)(o:List OpM):List Blk:=[.cells [.map (some 1)] 98 true, .map t.es t.ck, .cells (EOp.all o) 74 false]
def tlV(ks:List (List UInt8))(o:List OpM)(z i:Int):List Value:=[p0,lsV 2 o.length,Dz ks, .int .i64 z, .int .i64 i]
theorem UU(t:TbM)(ks:List (List UInt8))(o:List OpM)(z i:Int):bV P E ctF 50 170 Btl Dtl (tlV ks o z i) (tlB t o) =
 (let y:=List.map Go.Proofs.encStr ks;let x:=aU y (atN i 1);let w:=asS x;let v:=zJ [.string (ByteArray.mk #[]), .bool false] t.es w;let u:=o.length;let s:=Nat.add u 1;let r:=Enc.all EOp o;let q:=List.append (jR 0 r) [.bool (asB (aU v 1)), .string w, .string (asS (aU v 0))];let p:=fb_ ks.length 0 y;
 let n:=bY 0 [0,1,6];let m:=bY 0 [0,1,3];
 (ak (ltI i z) (ae (Bool.and (Nat.beq 1 1) (inI i ks.length)) (ae (Bool.and (Nat.ble (Nat.add (atN i 1) 1) y.length) (eu .string x)) (ae (Bool.and (uo t.es w) (Bool.and (Nat.beq v.length 2) (iq [.string, .bool] v 0))) (ae (Nat.ble s 4194304) (ae (Nat.beq (Nat.add 0 (Nat.mul u 3)) r.length) (nb_ s 3 q (some (.tuple ⟨[io_ 0,pt_ 0,sl_ 2 s,p,io_ z,io_ (dO .i64 i 1)]⟩,af [tb_ 1, .map (bD true n t.es) t.ck,lb_ n s 3 q 74])))))))) (nb_ u 3 r (some (.tuple ⟨[io_ 1,pt_ 0,sl_ 2 u,p,io_ z,io_ i]⟩,af [tb_ 1, .map (bD true m t.es) t.ck,lb_ m u 3 r 74]))))):=by kernel_rfl
def aeg(C1 C2:List Value->List Blk->Bool)(t:TbM)(ks:List (List UInt8))(o:List OpM)(z i:Int):Ct:=aT P au 2 195 (cu C1 (.leaf (Dz ks,mpB t))) (eY P 170 0 Dtl (gX C2 (.leaf (.normal,tlV ks o z i,tlB t o))) ctF)
theorem YQ(C1 C2:List Value->List Blk->Bool)(t:TbM)(ks:List (List UInt8))(o:List OpM)(z i:Int):dD P E (aeg C1 C2 t ks o z i) 50 au [.val] [33] 2 170 [p0] (tbB t) =
 (let y:=o.length;let x:=bH [0,1] 4;let w:=aZ true x (Enc.all EOp o);
 (ae (C1 [.func (Go.Fn.func 215) ⟨[]⟩ ⟨[pt_ 0]⟩] [.cells [.map (some 1)] 96 true, .map (bD true (bY 0 [2,1]) t.es) t.ck]) (ae (C2 [pt_ 0,sl_ 2 0,fb_ ks.length 0 (List.map Go.Proofs.encStr ks),io_ (ag ks.length),io_ 0] [tb_ 1, .map (bD true (bY 0 [0,1,3]) (bD true (bH [2,1] 3) t.es)) t.ck, .cells [] 74 false]) (ae (fq_ y w 74) (some (fa_ y 0 (takeC (Nat.mul y 3) (bT 0 w)),af [tb_ 1, .map (bD true (bY 0 [0,1]) (bD true x t.es)) t.ck])))))):=by kernel_rfl
theorem Wj(t:TbM)(k:ByteArray):dD P E ctF 50 au [] [] 2 25 [p0, .string k] (tbB t) =
 (let z:=zJ [.string (ByteArray.mk #[]), .bool false] t.es k;
 (ae (Bool.and (uo t.es k) (Bool.and (Nat.beq z.length 2) (iq [.string, .bool] z 0))) (some (.tuple ⟨[.string (asS (aU z 0)), .bool (KR t.es k), .bool (asB (aU z 1))]⟩,af [tb_ 1, .map (bD true (bY 0 [0,1]) t.es) t.ck])))):=by kernel_rfl
def qm(r:RunM):Value:= .agg ⟨[.int .i64 r.a, .int .i64 r.b,aJ r.ops]⟩
def Drk:HeadX:=⟨1,52,[1,25,26,27],[.val, .val, .val, .val],[],au⟩
def Brk:Code:=(dR P 192 0).getD .skip
theorem Tz:dR P 192 0=some Brk:=by kernel_rfl
theorem ZP:Occ P 192 (.block 0 (.loop Brk)):=fA Tz
def rkB(a b:Int)(l:List OpM):List Blk:=[.cells [.int .i64 a, .int .i64 b,aJ l] 161 true]
def rkV(l:List OpM)(z i:Int):List Value:=[p0,aJ l, .int .i64 z, .int .i64 i]
theorem RN(a b:Int)(l:List OpM)(z i:Int):bV P E ctB 50 192 Brk Drk (rkV l z i) (rkB a b l) =
 (let y:=Nat.beq 3 3;let x:=l.length;let w:=atN i 3;let v:=Enc.all EOp l;let u:=Nat.add w 1;let t:=asS (aU v u);let s:=fH .i64 i 1;let r:=Nat.add (atN s 3) 1;let q:=pt_ 0;let p:=fa_ x 0 v;let o:=io_ z;let n:=af [.cells [io_ a,io_ b,p] 161 true];let m:=some (Value.tuple ⟨[io_ (-1),q,p,o,io_ i]⟩,n);
 let k:=some (Value.tuple ⟨[io_ 0,q,p,o,io_ (dO .i64 i 1)]⟩,n);
 (ak (ltI i z) (ae (Bool.and y (inI i x)) (ae (Bool.and (Nat.ble (Nat.add w 3) v.length) (iq [.bool, .string, .string] v w)) (ak (pG (asB (aU v w)) t (asS (aU v (Nat.add u 1)))) (ak (gtI i 0) (ae (Bool.and y (inI s x)) (ae (Bool.and (Nat.ble (Nat.add r 1) v.length) (eu .string (aU v r))) (ak (leS t (asS (aU v r))) m k))) k) m))) (some (.tuple ⟨[io_ 1,q,p,o,io_ i]⟩,n)))):=by kernel_rfl
theorem YT(C:List Value->List Blk->Bool)(a b:Int)(l:List OpM)(z i:Int):dD P E (eY P 192 0 Drk (gX C (.leaf (.normal,rkV l z i,rkB a b l))) ctF) 50 au [] [] 0 192 [.agg ⟨[.int .i64 a, .int .i64 b,aJ l]⟩] [] =
 (let y:=ag l.length;let x:=af [];let w:=some (io_ 2,x);let v:=fa_ l.length 0 (Enc.all EOp l);
 (ak (gtI y 1024) (some (io_ 3,x)) (ak (ltI a 1) w (ak (ltI b a) w (ak (gtI b 1048576) w (ae (C [pt_ 0,v,io_ y,io_ 0] [.cells [io_ a,io_ b,v] 161 true]) (some (io_ 0,x)))))))):=by kernel_rfl
def kF(l:List OpM)(k:ByteArray):OpM:=(l.find? fun x=>x.k=k).getD ⟨false,k,⟨#[]⟩⟩
def Au(l:List OpM)(k:ByteArray):Bool:=(l.find? fun x=>x.k=k).isSome
theorem zQ{α:Type}(k:ByteArray)(f:Value->α)(z:α):∀ (l:List OpM) (i j:Nat),(match Instr.findNow .string (.string k) (je l i) j with
  |some (some (_,v))=>f v
  |_=>z)=match l.find? fun x=>x.k=k with
  |some o=>f (tbV o)
  |none=>z
 |[],i,j=>rfl
 |o::l,i,j=>by
  have ih:=zQ k f z l (i+1) (j+1);by_cases h:o.k=k
  ·subst h;have h2:(o.k == o.k)=true:=by rw[Fb]; exact decide_eq_true rfl
   simp only[je,FW,Instr.findNow,wI,h2,List.find?_cons,decide_true]
  ·have h2:(k == o.k)=false:=by rw[Fb]; exact decide_eq_false fun e=>h e.symm
   simp only[je,FW,Instr.findNow,wI,h2,List.find?_cons,h,decide_false];exact ih
theorem Ov(l:List OpM)(k:ByteArray):zJ [.string ⟨#[]⟩, .bool false] (eX l).es k=[.string (kF l k).v, .bool (kF l k).p]:=by
 have:=zQ k (fun v=>match v with | .agg ⟨c⟩=>c | _=>[]) [.string ⟨#[]⟩, .bool false] l 0 0;unfold zJ kF;refine this.trans ?_;cases l.find? fun x=>x.k=k<;>rfl
theorem Y6(l:List OpM)(k:ByteArray):KR (eX l).es k=Au l k:=by
 have:=zQ k (fun _=>true) false l 0 0;unfold KR Au;refine Eq.trans ?_ (this.trans ?_)
 ·show(match Instr.findNow .string (.string k) (je l 0) 0 with
   |some (some _)=>true
   |_=>false)=_
  cases Instr.findNow .string (.string k) (je l 0) 0 with
  |none=>rfl
  |some o=>cases o<;>rfl
 ·cases l.find? fun x=>x.k=k<;>rfl
theorem I5(l:List OpM)(k:ByteArray):CRX P 2 25 [p0, .string k] (tbB (eX l)) (.tuple ⟨[.string (kF l k).v, .bool (Au l k), .bool (kF l k).p]⟩) (tbB (eX l)):=by
 refine CRX.of (pol:=au) (fl:=[]) (ts:=[]) (n:=50) (bf _) az bn ((Wj (eX l) k).trans ?_);have b2:Nat.beq (List.length [Value.string (kF l k).v, .bool (kF l k).p]) 2=true:=rfl;have b3:iq [.string, .bool] [Value.string (kF l k).v, .bool (kF l k).p] 0=true:=rfl;simp only[tb_,AL (jv l).str,Ov,Y6,b2,b3,(jv l).ren,aA,bC,aV,a_,aO,ah,aP,bu,Int.toNat_natCast,aQ,aG,bz,bK,b_,bJ,bP,dm,Bool.and_self,aK,aH,ax]
 rfl
def oC(l:List OpM)(b:List UInt8):OpM:=⟨(kF l (kS b)).p,kS b,(kF l (kS b)).v⟩
def kZ(l:List OpM):List OpM:=(lh l).map (oC l)
theorem adL{ks:List (List UInt8)}{i:Nat}(h:i<ks.length):aU (ks.map Go.Proofs.encStr) (atN (i:Int) 1) = .string (kS ks[i]):=by
 have e:atN (i:Int) 1=i:=by show(i:Int).toNat*1=i; omega
 rw[e];have hl:i<(ks.map Go.Proofs.encStr).length:=by rw[List.length_map]; exact h
 have:=xZ (c:=ks.map Go.Proofs.encStr) (n:=i) hl;rw[List.getElem?_eq_getElem hl,List.getElem_map]at this;exact(Option.some.inj this).symm
theorem adb{ks:List (List UInt8)}{i:Nat}(h:i<ks.length):Nat.ble (Nat.add (atN (i:Int) 1) 1) (ks.map Go.Proofs.encStr).length=true:=Nat.ble_eq_true_of_le (by
 rw[List.length_map];show(i:Int).toNat*1+1<=_;have:(i:Int).toNat=i:=by omega
 omega)
theorem VQ{l:List OpM}{ks:List (List UInt8)}{o:List OpM}{i:Nat}(hi:i<ks.length)(hl:ks.length<4194304)(ho:o.length<4194300) :
  bV P E ctF 50 170 Btl Dtl (tlV ks o (ag ks.length) i) (tlB (eX l) o)=some (.tuple ⟨exV .normal::tlV ks (o++[oC l ks[i]]) (ag ks.length) ((i+1:Nat):Int)⟩,af (tlB (eX l) (o++[oC l ks[i]]))):=by
 obtain⟨g1,g2,a1⟩:=iM hi hl;have h1:(o++[oC l ks[i]]).length=Nat.add o.length 1:=by simp
 have b2:∀ k,Nat.beq (List.length [Value.string (kF l k).v, .bool (kF l k).p]) 2=true:=fun _=>rfl;have b3:∀ k,iq [.string, .bool] [Value.string (kF l k).v, .bool (kF l k).p] 0=true:=fun _=>rfl;have b4:∀ s,eu .string (.string s)=true:=fun _=>rfl;have b5:∀ (a b:Value),aU [a,b] 0=a/\aU [a,b] 1=b:=fun _ _=>⟨rfl,rfl⟩
 have b6:List.append (EOp.all o) [.bool (kF l (kS ks[i])).p, .string (kS ks[i]), .string (kF l (kS ks[i])).v]=EOp.all (o++[oC l ks[i]]):=Yq o (oC l ks[i]);rw[UU];simp (disch:=first | omega | (simp only[List.length_append,List.length_drop,List.length_take,List.length_singleton,Nat.add_eq,bg]<;>omega) | fail) only[fb_,io_,lb_,nb_,pt_,sl_,tb_,g1,g2,a1,adL hi,adb hi,vU,qW,AL (jv l).str,Ov,b2,b3,b4,(b5 _ _).1,(b5 _ _).2,b6,h1,tlV,tlB,Dz,(jv l).ren,mg,qH rfl,qH h1.symm,dI,rnB,srB,tbB,dkL,List.cons_append,List.nil_append,List.append_assoc,dJ,aB,dM,lsV,ptV,p0,aW,dkC,aJ,bG,cmV,dA,bQ,aN,dH,dB,dU,dE,dG,dF,cZ,dC,dw,dS,dn,ay,aC,aF,Enc.all_ren,aA,bC,aV,a_,aO,ah,aP,bu,Int.toNat_natCast,aQ,aG,bz,bK,b_,bJ,bP,dm,Bool.and_self,aK,aH,ax]
 rfl
theorem acH{l:List OpM}{ks:List (List UInt8)}{o:List OpM}:bV P E ctF 50 170 Btl Dtl (tlV ks o (ag ks.length) ks.length) (tlB (eX l) o)=some (.tuple ⟨exV (.exit 0)::tlV ks o (ag ks.length) ks.length⟩,af (tlB (eX l) o)):=by
 rw[UU];simp (disch:=first | omega | (simp only[List.length_append,List.length_drop,List.length_take,List.length_singleton,Nat.add_eq,bg]<;>omega) | fail) only[fb_,io_,lb_,nb_,pt_,sl_,tb_,kJ,tlV,tlB,Dz,(jv l).ren,mg,qH rfl,dI,rnB,srB,tbB,dkL,List.cons_append,List.nil_append,List.append_assoc,dJ,aB,dM,lsV,ptV,p0,aW,dkC,aJ,bG,cmV,dA,bQ,aN,dH,dB,dU,dE,dG,dF,cZ,dC,dw,dS,dn,ay,aC,aF,Enc.all_ren,aA,bC,aV,a_,aO,ah,aP,bu,Int.toNat_natCast,aQ,aG,bz,bK,b_,bJ,bP,dm,Bool.and_self,aK,aH,ax]
 rfl
theorem YX{l:List OpM}{ks:List (List UInt8)}(hl:ks.length<4194300):LRX P 170 0 Btl Dtl.head (tlV ks [] (ag ks.length) (0:Nat)) (tlB (eX l) []) .normal (tlV ks (ks.map (oC l)) (ag ks.length) ks.length) (tlB (eX l) (ks.map (oC l))):=by
 have q:=LRX.iter (n:=50) (bf _) az bn O1 (vs:=fun i=>tlV ks ((ks.take i).map (oC l)) (ag ks.length) (i:Int)) (bs:=fun i=>tlB (eX l) ((ks.take i).map (oC l))) (e:=jM 0 (.exit 0)) (vs':=tlV ks (ks.map (oC l)) (ag ks.length) ks.length) (bs':=tlB (eX l) (ks.map (oC l))) ks.length (fun i hi=>by
  have q:=VQ (l:=l) (o:=(ks.take i).map (oC l)) hi (by omega) (by rw[List.length_map,List.length_take]; omega);have e:(ks.take i).map (oC l)++[oC l ks[i]]=(ks.take (i+1)).map (oC l):=by rw[List.take_succ_eq_append_getElem hi,List.map_append]; rfl
  rw[e]at q;exact q) (by
  simp only[List.take_length]
  exact LRX.stop (n:=50) (bf _) az bn O1 acH (by intro h; cases h))
 exact q
theorem Ht(l:List OpM):(lh l).length=l.length:=by unfold lh; rw[List.length_mergeSort,List.length_map]
theorem aaR{l:List OpM}(hn:ndK l)(hl:l.length<=100000)(hk:∀ o∈l,o.k.size<=16):CRX P 2 170 [p0] (tbB (eX l)) (aJ (kZ l)) (tbB (eX l)):=by
 have q1:=aaB hn hl hk;have hkl:=Ht l;have q2:=YX (l:=l) (ks:=lh l) (by omega);rw[show aX 1 l.length 0 ((lh l).map Go.Proofs.encStr)=Dz (lh l) by unfold Dz; rw[hkl]]at q1;refine CRX.of (pol:=au) (fl:=[.val]) (ts:=[33]) (n:=50) (bf _) az (aj (pol:=au) (dV bn (fG (dL Un) q2)) (bF q1)) ((YQ (bM [.func (.func 215) #[] #[ptV 0]] (mpB (eX l))) (bM (tlV (lh l) [] (ag (lh l).length) (0:Nat)) (tlB (eX l) [])) (eX l) (lh l) (kZ l) (ag (lh l).length) ((lh l).length:Int)).trans ?_);clear q1 q2;have z0:((0:Nat):Int)=0:=rfl;have e0:(EOp.all ([]:List OpM))=[]:=rfl;have e1:([]:List OpM).length=0:=rfl;simp (disch:=first | omega | (simp only[List.length_append,List.length_drop,List.length_take,List.length_singleton,Nat.add_eq,bg]<;>omega) | fail) only[fa_,fb_,fq_,io_,pt_,sl_,tb_,z0,e0,e1,SA rfl,(jv l).ren,mpB,tlV,tlB,Dz,mg,qH rfl,dI,rnB,srB,tbB,dkL,List.cons_append,List.nil_append,List.append_assoc,dJ,aB,dM,lsV,ptV,p0,aW,dkC,aJ,bG,cmV,dA,bQ,aN,dH,dB,dU,dE,dG,dF,cZ,dC,dw,dS,dn,ay,aC,aF,Enc.all_ren,aA,bC,aV,a_,aO,ah,aP,bu,Int.toNat_natCast,aQ,aG,bz,bK,b_,bJ,bP,dm,Bool.and_self,aK,aH,ax]
def Xb(V:Nat->List UInt8)(C:Int->Bool):Ct:=nO P 50 (kG P 50 (sK V C) ctF)
theorem Pq:CtOk P (Xb dP jK):=mF (ji bn tC)
theorem YF(V:Nat->List UInt8)(C:Int->Bool)(b:List UInt8)(bb:Nat)(s:ByteArray):dD P E (Xb V C) 50 au [.val] [57] 0 211 [aX 1 b.length bb (bc b), .string s] [] =
 (let z:=cvI .u64 (ag s.size);let y:=Go.byteCells s;let x:=HAppend.hAppend (List.map byteOf (bc b)) (V (Int.toNat z));let w:=Nat.add x.length s.size;let v:=aZ false (fF 0) (bc x);let u:=List.append (jR 0 v) y;
 (ae (Bool.and (fw_ b.length (bc b)) (C z)) (ae (List.all y oneCell) (ae (Nat.ble w 4194304) (ae (Nat.beq (Nat.add 0 (Nat.mul x.length 1)) v.length) (ae (fq_ w u 5) (some (fb_ w 0 (takeC (Nat.mul w 1) (bT 0 u)),af [])))))))):=by kernel_rfl
def XB(K:Nat->Nat->List Value->ByteArray->Bool)(X:List Value->ByteArray->List UInt8):iW:=fun args bs=>match args,bs with
 |[.iface t (.agg ⟨.slice none n b::c⟩), .string s],[]=>some (.ite (K t n c s) (.leaf (aX 1 (X c s).length 0 (bc (X c s)),[])) .fail)
 |_,_=>none
def VA(K:Nat->Nat->List Value->ByteArray->Bool)(X:List Value->ByteArray->List UInt8):Ct:=aT P au 0 211 (XB K X) ctB
theorem Zi(K:Nat->Nat->List Value->ByteArray->Bool)(X:List Value->ByteArray->List UInt8)(b:List UInt8)(bb:Nat)(k v:ByteArray):dD P E (VA K X) 50 au [.val, .val] [57,0] 0 193 [aX 1 b.length bb (bc b), .agg ⟨[.bool true, .string k, .string v]⟩] [] =
 (let z:=Nat.beq 0 0;let y:=b.length;let x:=Nat.add y 1;let w:=List.append (jR 0 (bc b)) [.int .u8 1];let u:=takeC (Nat.mul x 1) (bT 0 w);let t:=Value.string k;let s:=Value.agg ⟨[.bool true,t, .string v]⟩;let r:=bU t t;let q:=bc (X u k);
 (ak (pG true k v) (ae (List.all (bc b) oneCell) (ae (Bool.and z (Bool.and z (Nat.ble y 4194304))) (ae (Nat.ble x 4194304) (ae (Nat.beq (Nat.add 0 (Nat.mul y 1)) (List.length (bc b))) (ae (fq_ x w 5) (ae (K 18446744073709551617 x u k) (ae (bU s s) (ae r (ae r (ae r (ae (K 18446744073709551617 (List.length (X u k)) q v) (some (.tuple ⟨[fb_ (List.length (X q v)) 0 (bc (X q v)),io_ 0]⟩,af []))))))))))))) (some (.tuple ⟨[fb_ 0 0 [],io_ 2]⟩,af [])))):=by kernel_rfl
theorem Zj(K:Nat->Nat->List Value->ByteArray->Bool)(X:List Value->ByteArray->List UInt8)(b:List UInt8)(bb:Nat)(k v:ByteArray):dD P E (VA K X) 50 au [.val, .val] [57,0] 0 193 [aX 1 b.length bb (bc b), .agg ⟨[.bool false, .string k, .string v]⟩] [] =
 (let z:=Nat.beq 0 0;let y:=b.length;let x:=Nat.add y 1;let w:=List.append (jR 0 (bc b)) [.int .u8 0];let u:=takeC (Nat.mul x 1) (bT 0 w);let t:=Value.string k;let s:=Value.agg ⟨[.bool false,t, .string v]⟩;let r:=bU t t;
 (ak (pG false k v) (ae (List.all (bc b) oneCell) (ae (Bool.and z (Bool.and z (Nat.ble y 4194304))) (ae (Nat.ble x 4194304) (ae (Nat.beq (Nat.add 0 (Nat.mul y 1)) (List.length (bc b))) (ae (fq_ x w 5) (ae (K 18446744073709551617 x u k) (ae (bU s s) (ae r (ae r (ae r (some (.tuple ⟨[fb_ (List.length (X u k)) 0 (bc (X u k)),io_ 0]⟩,af [])))))))))))) (some (.tuple ⟨[fb_ 0 0 [],io_ 2]⟩,af [])))):=by kernel_rfl
def oD(b:List UInt8):Value:=aX 1 b.length 0 (bc b)
def Den:HeadX:=⟨0,46,[5,32,33,34],[.val, .val, .val, .val],[57,0,0,0],au⟩
def Ben:Code:=(dR P 166 2).getD .skip
theorem Uy:dR P 166 2=some Ben:=by kernel_rfl
theorem OL:Occ P 166 (.block 2 (.loop Ben)):=fA Uy
def enV(b:List UInt8)(l:List OpM)(z i:Int):List Value:=[oD b,aJ l, .int .i64 z, .int .i64 i]
theorem OV(C:List Value->List Blk->Bool)(x b:List UInt8)(l:List OpM)(z i:Int):bV P E (aT P au 0 193 (cu C (.leaf (.tuple ⟨[oD x, .int .i64 0]⟩,[]))) ctF) 50 166 Ben Den (enV b l z i) [] =
 (let y:=atN i 3;let w:=Enc.all EOp l;let v:=fb_ b.length 0 (bc b);let u:=Nat.add y 1;let t:=fa_ l.length 0 w;
 (ak (ltI i z) (ae (Bool.and (Nat.beq 3 3) (inI i l.length)) (ae (Bool.and (Nat.ble (Nat.add y 3) w.length) (iq [.bool, .string, .string] w y)) (ae (C [v, .agg ⟨[.bool (asB (aU w y)), .string (asS (aU w u)), .string (asS (aU w (Nat.add u 1)))]⟩] []) (some (.tuple ⟨[io_ 0,fb_ x.length 0 (bc x),t,io_ z,io_ (dO .i64 i 1)]⟩,af []))))) (some (.tuple ⟨[io_ 3,v,t,io_ z,io_ i]⟩,af [])))):=by kernel_rfl
def aea(V:Nat->List UInt8)(C:Int->Bool)(C1 C2:List Value->List Blk->Bool)(x:List UInt8)(l:List OpM)(z i:Int):Ct:=aT P au 0 192 (cu C1 (.leaf (.int .i64 0,[]))) (eY P 166 2 Den (gX C2 (.leaf (.normal,enV x l z i,[]))) (Xb V C))
theorem V3(V:Nat->List UInt8)(C:Int->Bool)(C1 C2:List Value->List Blk->Bool)(x:List UInt8)(a b:Int)(l:List OpM)(z i:Int):dD P E (aea V C C1 C2 x l z i) 50 au [.val, .val] [57,0] 0 166 [.agg ⟨[.int .i64 a, .int .i64 b,aJ l]⟩] [] =
 (let y:=fa_ l.length 0 (Enc.all EOp l);let w:=cvI .u64 a;let v:=HAppend.hAppend [] (V (Int.toNat w));let u:=v.length;let t:=aZ false (fF 1) (bc v);let s:=takeC (Nat.mul u 1) (bT 0 t);let r:=cvI .u64 b;let q:=HAppend.hAppend (List.map byteOf s) (V (Int.toNat r));let p:=q.length;let o:=aZ false (fF 2) (bc q);
 let n:=takeC (Nat.mul p 1) (bT 0 o);let m:=ag l.length;let k:=cvI .u64 m;let j:=HAppend.hAppend (List.map byteOf n) (V (Int.toNat k));let h:=j.length;let g:=aZ false (fF 3) (bc j);
 (ae (C1 [.agg ⟨[io_ a,io_ b,y]⟩] []) (ae (Bool.and (fw_ 0 []) (C w)) (ae (fq_ u t 5) (ae (Bool.and (fw_ u s) (C r)) (ae (fq_ p o 5) (ae (Bool.and (fw_ p n) (C k)) (ae (fq_ h g 5) (ae (C2 [fb_ h 0 (takeC (Nat.mul h 1) (bT 0 g)),y,io_ m,io_ 0] []) (some (.tuple ⟨[fb_ x.length 0 (bc x),io_ 0]⟩,af []))))))))))):=by kernel_rfl
def qp(s:ByteArray):List UInt8:=dP s.size++lst s
def opL(o:OpM):List UInt8:=(bif o.p then [1]else [0])++qp o.k++(bif o.p then qp o.v else [])
theorem aaf{b:List UInt8}{bb:Nat}{s:ByteArray}(hb:b.length+500<=4194304)(hs:s.size<=100):CRX P 0 211 [aX 1 b.length bb (bc b), .string s] [] (oD (b++qp s)) []:=by
 have d1:=eH (n:=s.size);have hl:=bg s;have c1:cvI .u64 (ag s.size)=(s.size:Int):=gY (by omega);have u1:jK (s.size:Int)=true:=jk (by omega) (by omega);refine CRX.of (pol:=au) (fl:=[.val]) (ts:=[57]) (n:=50) (bf _) az Pq ((YF dP jK b bb s).trans ?_);have e:b++qp s=b++dP s.size++lst s:=by unfold qp; rw[List.append_assoc]
 simp (disch:=first | omega | (simp only[List.length_append,List.length_drop,List.length_take,List.length_singleton,Nat.add_eq,bg]<;>omega) | fail) only[fb_,fq_,fw_,c1,u1,Ik,aA,bC,aV,a_,aO,ah,aP,bu,Int.toNat_natCast,aQ,aG,bz,bK,b_,bJ,bP,dm,Bool.and_self,aK,aH,ax];unfold oD aX;rw[e,fzU,List.length_append (bs:=lst s),hl]
 rfl
def coK(t n:Nat)(c:List Value)(s:ByteArray):Bool:=fzB t n c&&Nat.ble (c.length+500) 4194304&&Nat.ble s.size 100
def coX(c:List Value)(s:ByteArray):List UInt8:=c.map byteOf++qp s
theorem abT:CallOkX P 0 211 (XB coK coX):=⟨fun args bs t hR v bs' hev=>by
 unfold XB at hR;split at hR
 ·rename_i t0 n b c s;obtain rfl:=Option.some.inj hR;cases hc:coK t0 n c s with
  |false=>rw[hc]at hev; cases hev
  |true=>
   rw[hc]at hev;unfold coK at hc;simp only[Bool.and_eq_true]at hc;obtain⟨⟨h1,h2⟩,h3⟩:=hc;obtain⟨rfl,rfl,⟨l,rfl,hl⟩,_⟩:=uZ h1;have h2:=Nat.le_of_ble_eq_true h2;have h3:=Nat.le_of_ble_eq_true h3;rw[ah]at h2;simp only[DT.eval,Option.some.injEq,Prod.mk.injEq]at hev;obtain⟨rfl,rfl⟩:=hev;have q:=aaf (b:=l) (bb:=b) (s:=s) h2 h3;unfold coX;rw[aO,ah];exact q
 ·cases hR⟩
theorem UW{n:Nat}{l:List UInt8}{s:ByteArray}(h:n=l.length)(h2:l.length+500<=4194304)(h3:s.size<=100):coK 18446744073709551617 n (bc l) s=true:=by
 unfold coK;rw[b_ h (by omega),ah,Nat.ble_eq_true_of_le h2,Nat.ble_eq_true_of_le h3]; rfl
theorem Ut(l:List UInt8)(s:ByteArray):coX (bc l) s=l++qp s:=by unfold coX; rw[aO]
theorem NL:CtOk P (VA coK coX):=aj (pol:=au) wY abT
theorem yB{s:ByteArray}:(qp s).length<=11+s.size:=by
 have d1:=eH (n:=s.size);unfold qp;rw[List.length_append,bg]; omega
theorem Z_{o:OpM}(h:okO o=true):(opL o).length<=80:=by
 obtain⟨h1,h2,h3,h4⟩:=xh h;have d1:=yB (s:=o.k);have d2:=yB (s:=o.v);unfold opL;cases o.p<;>simp<;>omega
theorem YS{b:List UInt8}{bb:Nat}{o:OpM}(h:okO o=true)(hb:b.length+1000<=4194304):CRX P 0 193 [aX 1 b.length bb (bc b),opV o] [] (.tuple ⟨[oD (b++opL o), .int .i64 0]⟩) []:=by
 obtain⟨h1,h2,h3,h4⟩:=xh h;have d1:=yB (s:=o.k);have d2:=yB (s:=o.v);have ho:pG o.p o.k o.v=true:=h;obtain⟨p,k,v⟩:=o;simp only at h1 h2 h3 d1 d2 ho;unfold opV opL;cases p with
 |true=>
  refine CRX.of (pol:=au) (fl:=[.val, .val]) (ts:=[57,0]) (n:=50) (bf _) az NL ((Zi coK coX b bb k v).trans ?_);have bO:bU (.agg ⟨[.bool true, .string k, .string v]⟩) (.agg ⟨[.bool true, .string k, .string v]⟩)=true:=Dh rfl;have e:b++([1]++qp k++qp v)=b++[1]++qp k++qp v:=by simp
  simp (disch:=first | omega | (simp only[List.length_append,List.length_drop,List.length_take,List.length_singleton,Nat.add_eq,bg]<;>omega) | fail) only[fb_,fq_,io_,ho,UW,Ut,bO,dm,cond_true,e,aA,bC,aV,a_,aO,ah,aP,bu,Int.toNat_natCast,aQ,aG,bz,bK,b_,bJ,bP,dm,Bool.and_self,aK,aH,ax];unfold oD aX;rw[fzU]
 |false=>
  refine CRX.of (pol:=au) (fl:=[.val, .val]) (ts:=[57,0]) (n:=50) (bf _) az NL ((Zj coK coX b bb k v).trans ?_);have bO:bU (.agg ⟨[.bool false, .string k, .string v]⟩) (.agg ⟨[.bool false, .string k, .string v]⟩)=true:=Dh rfl;have e:b++([0]++qp k++[])=b++[0]++qp k:=by simp
  simp (disch:=first | omega | (simp only[List.length_append,List.length_drop,List.length_take,List.length_singleton,Nat.add_eq,bg]<;>omega) | fail) only[fb_,fq_,io_,ho,UW,Ut,bO,dm,cond_false,e,aA,bC,aV,a_,aO,ah,aP,bu,Int.toNat_natCast,aQ,aG,bz,bK,b_,bJ,bP,dm,Bool.and_self,aK,aH,ax];unfold oD aX;rw[fzU]
def ris(l:List OpM):Prop:=(l.map fun o=>kB o.k).Pairwise (·<·)
theorem JX{l:List OpM}(h:ris l){i j:Nat}(hij:i<j)(hj:j<l.length):kB (l[i]'(by omega)).k<kB l[j].k:=by
 have:=List.pairwise_iff_getElem.1 h i j (by rw[List.length_map]; omega) (by rw[List.length_map]; exact hj) hij;simpa using this
theorem acS(a b:ByteArray):leS a b=decide (kB a<=kB b):=by
 unfold leS;rw[toList_data,toList_data,Go.Proofs.bytesLess_eq];by_cases h:kB a<=kB b
 ·rw[decide_eq_true h];rcases List.le_iff_lt_or_eq.1 h with h | h
  ·rw[decide_eq_true h]; rfl
  ·rw[show(a.data.toList == b.data.toList)=true by rw[show a.data.toList=b.data.toList from h]; exact beq_self_eq_true _]; simp
 ·rw[decide_eq_false h];have h1:¬a.data.toList<b.data.toList:=fun x=>h (List.le_of_lt x);have h2:(a.data.toList == b.data.toList)=false:=by
   cases hq:a.data.toList == b.data.toList with
   |false=>rfl
   |true=>exact absurd (by rw[show kB a=kB b from eq_of_beq hq]; exact List.le_refl _) h
  rw[decide_eq_false h1,h2]; rfl
theorem XI{a b:Int}{l:List OpM}{i:Nat}(hi:i<l.length)(hl:l.length<=1024)(hok:l.all okO=true)(hr:ris l) :
  bV P E ctB 50 192 Brk Drk (rkV l (ag l.length) i) (rkB a b l)=some (.tuple ⟨exV .normal::rkV l (ag l.length) ((i+1:Nat):Int)⟩,af (rkB a b l)):=by
 obtain⟨g1,g2,a1⟩:=iM hi (by omega);have g4:=qy hi;have ho:pG l[i].p l[i].k l[i].v=true:=List.all_eq_true.1 hok _ (List.getElem_mem hi);have b4:∀ s,eu .string (.string s)=true:=fun _=>rfl;rw[RN];cases i with
 |zero=>
  have gz:gtI ((0:Nat):Int) 0=false:=rfl;simp (disch:=first | omega | (simp only[List.length_append,List.length_drop,List.length_take,List.length_singleton,Nat.add_eq,bg]<;>omega) | fail) only[fa_,io_,pt_,g1,g2,a1,g4,gz,iG hi (Nat.le_refl 3),ve hi,qh hi,vk hi,vU,qW,ho,rkV,rkB,mg,dI,rnB,srB,tbB,dkL,List.cons_append,List.nil_append,List.append_assoc,dJ,aB,dM,lsV,ptV,p0,aW,dkC,aJ,bG,cmV,dA,bQ,aN,dH,dB,dU,dE,dG,dF,cZ,dC,dw,dS,dn,ay,aC,aF,Enc.all_ren,aA,bC,aV,a_,aO,ah,aP,bu,Int.toNat_natCast,aQ,aG,bz,bK,b_,bJ,bP,dm,Bool.and_self,aK,aH,ax]
  rfl
 |succ j=>
  have hj:j<l.length:=by omega
  have gz:gtI ((j+1:Nat):Int) 0=true:=by unfold gtI; exact decide_eq_true (by omega)
  have s1:fH .i64 ((j+1:Nat):Int) 1=(j:Int):=by unfold fH; rw[wrap64 (by omega) (by omega)]; omega
  obtain⟨_,k2,_⟩:=iM hj (by omega);have k3:Nat.ble (Nat.add (Nat.add (atN (j:Int) 3) 1) 1) (Nat.mul l.length 3)=true:=Nat.ble_eq_true_of_le (by
   show(j:Int).toNat*3+1+1<=l.length*3;have:(j:Int).toNat=j:=by omega
   omega)
  have k4:leS l[j+1].k l[j].k=false:=by rw[acS]; exact decide_eq_false (List.not_le.2 (JX hr (Nat.lt_succ_self j) hi))
  simp (disch:=first | omega | (simp only[List.length_append,List.length_drop,List.length_take,List.length_singleton,Nat.add_eq,bg]<;>omega) | fail) only[fa_,io_,pt_,g1,g2,a1,g4,gz,s1,k2,k3,k4,b4,iG hi (Nat.le_refl 3),ve hi,qh hi,vk hi,qh hj,vU,qW,ho,rkV,rkB,mg,dI,rnB,srB,tbB,dkL,List.cons_append,List.nil_append,List.append_assoc,dJ,aB,dM,lsV,ptV,p0,aW,dkC,aJ,bG,cmV,dA,bQ,aN,dH,dB,dU,dE,dG,dF,cZ,dC,dw,dS,dn,ay,aC,aF,Enc.all_ren,aA,bC,aV,a_,aO,ah,aP,bu,Int.toNat_natCast,aQ,aG,bz,bK,b_,bJ,bP,dm,Bool.and_self,aK,aH,ax]
  rfl
theorem rk_end{a b:Int}{l:List OpM}:bV P E ctB 50 192 Brk Drk (rkV l (ag l.length) l.length) (rkB a b l)=some (.tuple ⟨exV (.exit 0)::rkV l (ag l.length) l.length⟩,af (rkB a b l)):=by
 rw[RN];simp (disch:=first | omega | (simp only[List.length_append,List.length_drop,List.length_take,List.length_singleton,Nat.add_eq,bg]<;>omega) | fail) only[fa_,io_,pt_,kJ,rkV,rkB,mg,dI,rnB,srB,tbB,dkL,List.cons_append,List.nil_append,List.append_assoc,dJ,aB,dM,lsV,ptV,p0,aW,dkC,aJ,bG,cmV,dA,bQ,aN,dH,dB,dU,dE,dG,dF,cZ,dC,dw,dS,dn,ay,aC,aF,Enc.all_ren,aA,bC,aV,a_,aO,ah,aP,bu,Int.toNat_natCast,aQ,aG,bz,bK,b_,bJ,bP,dm,Bool.and_self,aK,aH,ax]
 rfl
theorem Zd{a b:Int}{l:List OpM}(h1:1<=a)(h2:a<=b)(h3:b<=1048576)(hl:l.length<=1024)(hok:l.all okO=true)(hr:ris l):CRX P 0 192 [.agg ⟨[.int .i64 a, .int .i64 b,aJ l]⟩] [] (.int .i64 0) []:=by
 have q:=LRX.rounds (n:=50) (bf _) az wY ZP (vs:=fun i=>rkV l (ag l.length) (i:Int)) (bs:=fun _=>rkB a b l) (e:= .exit 0) l.length (fun i hi=>XI hi hl hok hr) rk_end (by intro h; cases h);refine CRX.of (pol:=au) (fl:=[]) (ts:=[]) (n:=50) (bf _) az (dV bn (fG (dL Tz) q)) ((YT (bM (rkV l (ag l.length) (0:Nat)) (rkB a b l)) a b l (ag l.length) (l.length:Int)).trans ?_);clear q;have e1:gtI (ag l.length) 1024=false:=by unfold gtI ag; exact decide_eq_false (by omega)
 have e2:ltI a 1=false:=by unfold ltI; exact decide_eq_false (by omega)
 have e3:ltI b a=false:=by unfold ltI; exact decide_eq_false (by omega)
 have e4:gtI b 1048576=false:=by unfold gtI; exact decide_eq_false (by omega)
 have z0:((0:Nat):Int)=0:=rfl;simp (disch:=first | omega | (simp only[List.length_append,List.length_drop,List.length_take,List.length_singleton,Nat.add_eq,bg]<;>omega) | fail) only[fa_,io_,pt_,e1,e2,e3,e4,z0,rkV,rkB,dI,rnB,srB,tbB,dkL,List.cons_append,List.nil_append,List.append_assoc,dJ,aB,dM,lsV,ptV,p0,aW,dkC,aJ,bG,cmV,dA,bQ,aN,dH,dB,dU,dE,dG,dF,cZ,dC,dw,dS,dn,ay,aC,aF,Enc.all_ren,aA,bC,aV,a_,aO,ah,aP,bu,Int.toNat_natCast,aQ,aG,bz,bK,b_,bJ,bP,dm,Bool.and_self,aK,aH,ax]
def opsL(l:List OpM):List UInt8:=(l.map opL).flatten
def encR(a b:Int)(l:List OpM):List UInt8:=dP a.toNat++dP b.toNat++dP l.length++opsL l
theorem Jy{l:List OpM}(h:l.all okO=true):(opsL l).length<=80*l.length:=by
 unfold opsL
 induction l with
 |nil=>simp
 |cons o l ih=>
  simp only[List.all_cons,Bool.and_eq_true]at h;have d:=Z_ h.1;have:=ih h.2;rw[List.map_cons,List.flatten_cons,List.length_append,List.length_cons];omega
theorem RZ{l:List OpM}{i:Nat}(hi:i<l.length):opsL (l.take (i+1))=opsL (l.take i)++opL l[i]:=by
 unfold opsL;rw[List.take_succ_eq_append_getElem hi,List.map_append,List.flatten_append]; simp
theorem all_take{l:List OpM}(h:l.all okO=true)(i:Nat):(l.take i).all okO=true:=List.all_eq_true.2 fun x hx=>List.all_eq_true.1 h x (List.mem_of_mem_take hx)
theorem XN{c:List UInt8}{l:List OpM}{i:Nat}(hi:i<l.length)(hl:l.length<=1024) :
  bV P E (aT P au 0 193 (cu (bM [oD c,opV l[i]] []) (.leaf (.tuple ⟨[oD (c++opL l[i]), .int .i64 0]⟩,[]))) ctF) 50 166 Ben Den (enV c l (ag l.length) i) []=some (.tuple ⟨exV .normal::enV (c++opL l[i]) l (ag l.length) ((i+1:Nat):Int)⟩,af []):=by
 obtain⟨g1,g2,a1⟩:=iM hi (by omega);have g4:=qy hi;rw[OV];simp (disch:=first | omega | (simp only[List.length_append,List.length_drop,List.length_take,List.length_singleton,Nat.add_eq,bg]<;>omega) | fail) only[fa_,fb_,io_,g1,g2,a1,g4,iG hi (Nat.le_refl 3),ve hi,qh hi,vk hi,vU,qW,enV,oD,opV,mg,dI,rnB,srB,tbB,dkL,List.cons_append,List.nil_append,List.append_assoc,dJ,aB,dM,lsV,ptV,p0,aW,dkC,aJ,bG,cmV,dA,bQ,aN,dH,dB,dU,dE,dG,dF,cZ,dC,dw,dS,dn,ay,aC,aF,Enc.all_ren,aA,bC,aV,a_,aO,ah,aP,bu,Int.toNat_natCast,aQ,aG,bz,bK,b_,bJ,bP,dm,Bool.and_self,aK,aH,ax]
 rfl
theorem abY{c:List UInt8}{l:List OpM}{C:List Value->List Blk->Bool}{x:List UInt8}:bV P E (aT P au 0 193 (cu C (.leaf (.tuple ⟨[oD x, .int .i64 0]⟩,[]))) ctF) 50 166 Ben Den (enV c l (ag l.length) l.length) []=some (.tuple ⟨exV (.exit 2)::enV c l (ag l.length) l.length⟩,af []):=by
 rw[OV];simp (disch:=first | omega | (simp only[List.length_append,List.length_drop,List.length_take,List.length_singleton,Nat.add_eq,bg]<;>omega) | fail) only[fa_,fb_,io_,kJ,enV,oD,mg,dI,rnB,srB,tbB,dkL,List.cons_append,List.nil_append,List.append_assoc,dJ,aB,dM,lsV,ptV,p0,aW,dkC,aJ,bG,cmV,dA,bQ,aN,dH,dB,dU,dE,dG,dF,cZ,dC,dw,dS,dn,ay,aC,aF,Enc.all_ren,aA,bC,aV,a_,aO,ah,aP,bu,Int.toNat_natCast,aQ,aG,bz,bK,b_,bJ,bP,dm,Bool.and_self,aK,aH,ax]
 rfl
theorem Pe{c:List UInt8}{l:List OpM}(hl:l.length<=1024)(hok:l.all okO=true)(hc:c.length<=100):∀ (k i:Nat),i+k=l.length->
  LRX P 166 2 Ben Den.head (enV (c++opsL (l.take i)) l (ag l.length) i) [] .normal (enV (c++opsL l) l (ag l.length) l.length) []
 |0,i,h=>by
  obtain rfl:i=l.length:=by omega
  rw[List.take_length];exact LRX.stop (n:=50) (bf _) az (aj (pol:=au) bn (jw (r:= .leaf (.tuple ⟨[oD [], .int .i64 0]⟩,[])))) OL (e:= .exit 2) (abY (C:=fun _ _=>false) (x:=[])) (by intro h; cases h)
 |k+1,i,h=>by
  have hi:i<l.length:=by omega
  have hd:=Jy (all_take hok i);rw[List.length_take]at hd;have q:=YS (b:=c++opsL (l.take i)) (bb:=0) (List.all_eq_true.1 hok _ (List.getElem_mem hi)) (by rw[List.length_append]; omega);have q2:=XN (c:=c++opsL (l.take i)) hi hl;have e:c++opsL (l.take i)++opL l[i]=c++opsL (l.take (i+1)):=by rw[RZ hi,List.append_assoc]
  rw[e]at q q2;exact LRX.again (n:=50) (bf _) az (aj (pol:=au) bn (bF q)) OL q2 (Pe hl hok hc k (i+1) (by omega))
theorem Zp{a b:Int}{l:List OpM}(h1:1<=a)(h2:a<=b)(h3:b<=1048576)(hl:l.length<=1024)(hok:l.all okO=true)(hr:ris l):CRX P 0 166 [.agg ⟨[.int .i64 a, .int .i64 b,aJ l]⟩] [] (.tuple ⟨[oD (encR a b l), .int .i64 0]⟩) []:=by
 have q1:=Zd h1 h2 h3 hl hok hr;have d1:=eH (n:=a.toNat);have d2:=eH (n:=b.toNat);have d3:=eH (n:=l.length);have q2:=Pe (c:=dP a.toNat++dP b.toNat++dP l.length) hl hok (by rw[List.length_append,List.length_append]; omega) l.length 0 (by omega);have e0:dP a.toNat++dP b.toNat++dP l.length++opsL (l.take 0)=dP a.toNat++dP b.toNat++dP l.length:=by simp[opsL]
 rw[e0]at q2;refine CRX.of (pol:=au) (fl:=[.val, .val]) (ts:=[57,0]) (n:=50) (bf _) az (aj (pol:=au) (dV Pq (fG (dL Uy) q2)) (bF q1)) ((V3 dP jK (bM [.agg ⟨[.int .i64 a, .int .i64 b,aJ l]⟩] []) (bM (enV (dP a.toNat++dP b.toNat++dP l.length) l (ag l.length) (0:Nat)) []) (encR a b l) a b l (ag l.length) (l.length:Int)).trans ?_);clear q1 q2;have c1:cvI .u64 a=(a.toNat:Int):=by rw[<-Int.toNat_of_nonneg (by omega:0<=a)]; exact gY (by omega)
 have c2:cvI .u64 b=(b.toNat:Int):=by rw[<-Int.toNat_of_nonneg (by omega:0<=b)]; exact gY (by omega)
 have c3:cvI .u64 (ag l.length)=(l.length:Int):=gY (by omega);have u1:jK (a.toNat:Int)=true:=jk (by omega) (by omega);have u2:jK (b.toNat:Int)=true:=jk (by omega) (by omega);have u3:jK (l.length:Int)=true:=jk (by omega) (by omega);have z:fzB 18446744073709551617 0 []=true:=by rw[<-fz1]; exact wZ (l:=[]) rfl (by simp)
 have z0:((0:Nat):Int)=0:=rfl;simp (disch:=first | omega | (simp only[List.length_append,List.length_drop,List.length_take,List.length_singleton,Nat.add_eq,bg]<;>omega) | fail) only[fa_,fb_,fq_,fw_,io_,c1,c2,c3,u1,u2,u3,z,z0,enV,oD,List.nil_append,dI,rnB,srB,tbB,dkL,List.cons_append,List.nil_append,List.append_assoc,dJ,aB,dM,lsV,ptV,p0,aW,dkC,aJ,bG,cmV,dA,bQ,aN,dH,dB,dU,dE,dG,dF,cZ,dC,dw,dS,dn,ay,aC,aF,Enc.all_ren,aA,bC,aV,a_,aO,ah,aP,bu,Int.toNat_natCast,aQ,aG,bz,bK,b_,bJ,bP,dm,Bool.and_self,aK,aH,ax]
theorem aa4(C:List Value->List Blk->Bool)(r:RunM):dD P E (aT P fQ 0 120 (cu C (.leaf (aJ r.ops,[]))) ctF) 50 fQ [.val] [0] 0 167 [qm r] [] =
 (let z:=fa_ r.ops.length 0 (Enc.all EOp r.ops);
 (ae (C [z] []) (some (.agg ⟨[io_ r.a,io_ r.b,z]⟩,af [])))):=by kernel_rfl
def aet(C1 C2 C3 C4 C5 C6:List Value->List Blk->Bool)(x f:List UInt8)(ru:Int)(rn:RnM)(d1 d2:DkM)(q:RunM):Ct:=
 aT P au 0 166 (cu C1 (.leaf (.tuple ⟨[oD x, .int .i64 0]⟩,[]))) (aT P au 2 77 (cu C2 (.leaf (.int .i64 ru,rnB rn))) (aT P au 0 88 (cu C3 (.leaf (.tuple ⟨[oD f, .int .i64 0]⟩,[])))
 (aT P au 1 89 (cu C4 (.leaf (.int .i64 0,aW d1))) (aT P au 1 90 (cu C5 (.leaf (.int .i64 0,aW d2))) (aT P au 0 167 (cu C6 (.leaf (qm q,[]))) ctF)))))
theorem adt(C1 C2 C3 C4 C5 C6:List Value->List Blk->Bool)(x f:List UInt8)(ru:Int)(dk d1 d2:DkM)(rs:List RunM)(q:RunM):dD P E (aet C1 C2 C3 C4 C5 C6 x f ru ⟨okD dk,false,rs⟩ d1 d2 q) 50 au [] [] 2 139 [p0,qm q] (rnB ⟨okD dk,false,rs⟩) =
 (let z:=io_ q.a;let y:=[z,io_ q.b,fa_ q.ops.length 0 (Enc.all EOp q.ops)];let w:=RnM.mk (okD dk) false rs;let v:=w.rs.length;let u:=Enc.all eF w.rs;let t:=w.dk;let s:=Value.bool w.br;let r:=Blk.cells [pt_ 1,s,sl_ 7 v] 168 true;let p:=dk_ t 2 3 4 5 6;let o:=ro_ [0,2,16,5,15,1];let n:=bH [0,1] 21;
 let m:=aZ true n u;let l:=bk_ n w0_;let k:=ro_ [0,2,28,5,27,1];let j:=bk_ (bH [1] 32) w0_;let i:=Nat.add v 1;let h:=List.append (jR 0 m) y;let g:=bk_ (bH [1] 42) w0_;let e:=ro_ [0,2,61,5,60,1];
 (ae (C1 [.agg ⟨y⟩] []) (nb_ v 3 u (dn_ w0_ t (ae (C2 [pt_ 0] (r::p::dl_ (cz_ o w0_) t [lb_ o v 3 u 161])) (ae (bU z z) (ak (neI q.a (dO .i64 ru 1)) (nb_ v 3 m (dn_ l t (some (io_ 15,af (r::p::dl_ (cz_ k l) t [lb_ k v 3 m 161]))))) (ae (C3 [fb_ 0 0 [],fb_ x.length 0 (bc x)] []) (dn_ l t (ae (C4 [pt_ 0,io_ 2,fb_ f.length 0 (bc f)] (dk_ t 1 2 3 4 5::dl_ (cz_ (ro_ [1,1,27,5]) l) t [])) (dn_ j d1 (ae (C5 [pt_ 0] (dk_ d1 1 2 3 4 5::dl_ (cz_ (ro_ [1,1,37,5]) j) d1 [])) (ae (C6 [.agg ⟨y⟩] []) (ae (Nat.ble i 4194304) (ae (Nat.beq (Nat.add 0 (Nat.mul v 3)) m.length) (ae (bU (sl_ 26 v) (sl_ 26 v)) (nb_ i 3 h (dn_ g d2 (some (io_ 0,af (.cells [pt_ 1,s,sl_ 7 i] 168 true::dk_ d2 2 3 4 5 6::dl_ (cz_ e g) d2 [lb_ e i 3 h 161]))))))))))))))))))))):=by kernel_rfl
theorem Oh{r:RunM}(h1:1<=r.ops.length)(h2:r.ops.length<=4194304):CRX P 0 167 [qm r] [] (qm r) []:=by
 refine CRX.of (pol:=fQ) (fl:=[.val]) (ts:=[0]) (n:=50) (bf _) az (aj (pol:=fQ) bn (bF (NG h1 h2 0))) ((aa4 (bM _ _) r).trans ?_);simp (disch:=first | omega | (simp only[List.length_append,List.length_drop,List.length_take,List.length_singleton,Nat.add_eq,bg]<;>omega) | fail) only[fa_,io_,qm,dI,rnB,srB,tbB,dkL,List.cons_append,List.nil_append,List.append_assoc,dJ,aB,dM,lsV,ptV,p0,aW,dkC,aJ,bG,cmV,dA,bQ,aN,dH,dB,dU,dE,dG,dF,cZ,dC,dw,dS,dn,ay,aC,aF,Enc.all_ren,aA,bC,aV,a_,aO,ah,aP,bu,Int.toNat_natCast,aQ,aG,bz,bK,b_,bJ,bP,dm,Bool.and_self,aK,aH,ax]
/-- May a run be? -/
structure RunOk(q:RunM):Prop where
 a:1<=q.a/\q.a<=q.b/\q.b<=1048576
 n:1<=q.ops.length/\q.ops.length<=1024
 ok:q.ops.all okO=true
 ris:ris q.ops
theorem Ym(l:List RunM)(c:RunM):List.append (eF.all l) [.int .i64 c.a, .int .i64 c.b, .iface 18446744073709551619 (.agg ⟨.slice none c.ops.length 0::EOp.all c.ops⟩)]=eF.all (l++[c]):=by
 rw[eF.all_append,eF.all_one];show _=eF.all l++[.int .i64 c.a, .int .i64 c.b,aX 3 c.ops.length 0 (EOp.all c.ops)]
 rw[bQ]; rfl
theorem Vy{q:RunM}(h:RunOk q):(encR q.a q.b q.ops).length<=82000:=by
 have d1:=eH (n:=q.a.toNat);have d2:=eH (n:=q.b.toNat);have d3:=eH (n:=q.ops.length);have d4:=Jy h.ok;have:=h.n;unfold encR;rw[List.length_append,List.length_append,List.length_append];omega
theorem adg{dk:DkM}{rs:List RunM}{q:RunM}(hd:DkC dk 100000)(hp:dk.pend=[])(hr:rs.length<4000000)(hl:dk.d2.length<=3000000)(hq:RunOk q)(ha:q.a=bI rs+1)(h0:0<=bI rs) :
  ∃ (k:Nat) (x:List UInt8),k<=1300/\x.length<=82011/\CRX P 2 139 [p0,qm q] (rnB ⟨dk,false,rs⟩) (.int .i64 0) (rnB ⟨{ dk with d2:=dk.d2++x,steps:=dk.steps+(k:Int)+1,pend:=[] },false,rs++[q]⟩):=by
 have hel:=Vy hq;obtain⟨ha1,ha2,ha3⟩:=hq.a;have hfl:(frM (encR q.a q.b q.ops)).length<=82011:=by
  unfold frM;rw[List.length_append];have:=eH (n:=(encR q.a q.b q.ops).length);omega
 obtain⟨k,k2,q5,q6⟩:=KC (d:=dk) (f:=2) (frM (encR q.a q.b q.ops)) hd hp (by omega) (by omega) hl;refine⟨k,frM (encR q.a q.b q.ops),by unfold nD at k2; omega,hfl,?_⟩;have q1:=Zp ha1 ha2 ha3 hq.n.2 hq.ok hq.ris;have hr2:rs.length<4194304:=by omega
 have q2:=qG (r:=⟨dk,false,rs⟩) hr2;have q4:=GV (r:=encR q.a q.b q.ops) (by omega);have q7:=Oh (r:=q) hq.n.1 (by have:=hq.n.2; omega);generalize hw:(writeM ⟨dk,2,frM (encR q.a q.b q.ops)⟩).2.pend=W at q5 q6;clear hw;have qd:=adt (bM [.agg ⟨[.int .i64 q.a, .int .i64 q.b,aJ q.ops]⟩] []) (bM [p0] (rnB ⟨dk,false,rs⟩)) (bM [aX 1 0 0 [],aX 1 (encR q.a q.b q.ops).length 0 (bc (encR q.a q.b q.ops))] [])
  (bM [p0, .int .i64 2,aX 1 (frM (encR q.a q.b q.ops)).length 0 (bc (frM (encR q.a q.b q.ops)))] (aW dk)) (bM [p0] (aW { dk with steps:=dk.steps+(k:Int),pend:=W })) (bM [qm q] []) (encR q.a q.b q.ops) (frM (encR q.a q.b q.ops)) (bI rs) dk { dk with steps:=dk.steps+(k:Int),pend:=W } { setF dk 2 (iK dk 2++frM (encR q.a q.b q.ops))with steps:=dk.steps+(k:Int)+1,pend:=[] } rs q
 rw[FC hd.off]at qd;refine CRX.of (pol:=au) (fl:=[]) (ts:=[]) (n:=50) (bf _) az (aj (pol:=au) (aj (pol:=au) (aj (pol:=au) (aj (pol:=au) (aj (pol:=au) (aj (pol:=au) bn (bF q7)) (bF q6)) (bF q5)) (bF q4)) (bF q2)) (bF q1)) (qd.trans ?_);clear qd q1 q2 q4 q5 q6 q7;have g1:dO .i64 (bI rs) 1=q.a:=by unfold dO; rw[ha]; exact wrap64 (by omega) (by omega)
 have g2:neI q.a q.a=false:=by unfold neI; simp
 have f1:∀ d:List UInt8,setF dk 2 d={ dk with d2:=d }:=fun _=>rfl;have f2:iK dk 2=dk.d2:=rfl;have h1:(rs++[q]).length=Nat.add rs.length 1:=by simp
 simp (disch:=first | omega | (simp only[List.length_append,List.length_drop,List.length_take,List.length_singleton,Nat.add_eq,bg]<;>omega) | fail) only[bk_,cz_,dk_,dl_,dn_,fa_,fb_,io_,lb_,nb_,pt_,sl_,w0_,g1,g2,f1,f2,h1,Ym,qm,oD,dI,rnB,srB,tbB,dkL,List.cons_append,List.nil_append,List.append_assoc,dJ,aB,dM,lsV,ptV,p0,aW,dkC,aJ,bG,cmV,dA,bQ,aN,dH,dB,dU,dE,dG,dF,cZ,dC,dw,dS,dn,ay,aC,aF,Enc.all_ren,ay rfl,aC rfl,aF rfl,aB rfl,aB h1.symm,aA,bC,aV,a_,aO,ah,aP,bu,Int.toNat_natCast,aQ,aG,bz,bK,b_,bJ,bP,dm,Bool.and_self,aK,aH,ax]
end Go.VS.Tryz
end

noncomputable section
namespace Go.VS

section
variable{P:Program}{ct:Ct}
def yC{α:Type}(P:Program)(D:HeadX)(s:Trie Value)(st:St)(k:List Nat->List Nat->St->List Value->List Blk->DT α):DT α:=
 kX P 60 D.fl D.ts (D.L.map (lM s)) st fun vs1 ps st1=>qf P D.pol 200 ps [] st1 fun st2=>
  lK (jB st2) 1000 vs1 [] [] fun X L=>match Nat.ble D.N X.length,iI 0 (X.append L) (fun i=>dZ (path i) st2.heap) (X.append L)with
  |true,some ms=>k (X.take D.N) (List.append (X.drop D.N) L) st2 (vs1.map (eP true (bY 0 (X.append L)))) ms
  |_,_=> .fail
theorem yP{α:Type}{r:α}{D:HeadX}{s:Trie Value}{st:St}{k:List Nat->List Nat->St->List Value->List Blk->DT α}(h:(yC P D s st k).eval=some r) :
  ∃ X L st2 vs1 ms,(k X L st2 (vs1.map (eP true (bY 0 (X++L)))) ms).eval=some r/\X.length=D.N/\iI 0 (X++L) (fun i=>st2.heap.get i) (X++L)=some ms/\
   ∀ (K:Prot) (β:Env) (w:World) (n:Nat) (tmps:Array Value),Rel P K β st w->h_ β s n tmps->∃ β1,β.le β1/\Rel P K β1 st2 w/\VRL β1 vs1 (D.L.map fun t=>tmps.getD t undef):=by
 unfold yC at h;obtain⟨vs1,ps,st1,h1,h3,h4⟩:=iQ _ _ _ _ _ _ h;obtain⟨st2,k1,k2⟩:=jq _ _ _ _ _ h1;obtain⟨X,L,hX⟩:=jE (jB st2) 1000 vs1 [] [] fun X L=>match Nat.ble D.N X.length,iI 0 (X.append L) (fun i=>dZ (path i) st2.heap) (X.append L)with
  |true,some ms=>k (X.take D.N) (List.append (X.drop D.N) L) st2 (vs1.map (eP true (bY 0 (X.append L)))) ms
  |_,_=> .fail
 rw[hX]at k1;split at k1
 ·rename_i ms hn hm;have e:X.take D.N++(X.drop D.N++L)=X++L:=by rw[<-List.append_assoc,List.take_append_drop]
  refine⟨X.take D.N,X.drop D.N++L,st2,vs1,ms,by rw[e]; exact k1,by rw[List.length_take]; have:=Nat.le_of_ble_eq_true hn; omega,by rw[e]; simp only[dQ]at hm; exact hm,fun K β w n tmps hr hs=>?_⟩;obtain⟨β1,a1,a2,a3⟩:=h4 K β w _ hr (uj hs D.L);obtain⟨β2,b1,b2⟩:=k2 K β1 w a2;exact⟨β2,a1.trans b1,b2,a3.mono b1⟩
 ·cases k1
def SH(P:Program)(D:HeadX):Ex->Trie Value->List Deferred->St->Res:=fun e s d st=>match d with
 |[]=>DT.run (yC P D s st fun X _ _ vs ms=>match upTo D.N X 0 with
  |true=> .leaf (vs,ms)
  |false=> .fail) fun r=>some (.tuple ⟨exV e::r.1⟩,af r.2)
 |_=>none
def oh(P:Program)(E:Eng)(ct:Ct)(n:Nat)(fid:Nat)(B:Code)(D:HeadX)(vs:List Value)(bs:List Blk):Res:=
 pF P E ct n (o9 P E ct n n) fid D.nt none B (mkS D.nt D.L vs) [] (af bs) (SH P D)
theorem zZ{E:Eng}(hE:EngOk P ct E)(hN:noNum P=true)(hct:CtOk P ct){n fid id:Nat}{B:Code}{D:HeadX}(hocc:Occ P fid (.block id (.loop B))){vs vs1:List Value}{bs bs1:List Blk}{e:Ex}
  (h:oh P E ct n fid B D vs bs=some (.tuple ⟨exV e::vs1⟩,af bs1)) (K:Prot) (β:Env) (w:World) (fr:Frame) (cs:List Frame) (k:List Item) (hid:∀ i,¬K.id i) (ht:fr.todo = .code B::k) (hfid:fr.fn=fid) (hf:FrR β (D.head.fr vs) fr) (hr:Rel P K β (af bs) w) :
  xq D.head.N P K β fr cs w e k (D.head.fr vs1) (af bs1)/\D.head.N<=bs1.length:=by
 unfold oh at h;obtain⟨m,e1,s1,d1,st1,h1,h2⟩:=jQ hE (jP hE n n) n fid D.nt none B _ _ _ _ _ h;unfold SH at h2;split at h2
 ·obtain⟨r,hc,h2⟩:=DT.run_spec h2;obtain⟨X,L,st2,vs2,ms,hc1,hlen,hm,hc2⟩:=yP hc;split at hc1
  ·rename_i hup;simp only[DT.eval,Option.some.injEq]at hc1;subst hc1;simp only[Option.some.injEq,Prod.mk.injEq,Value.tuple.injEq,Array.mk.injEq,List.cons.injEq]at h2;obtain⟨⟨he,rfl⟩,hst⟩:=h2;obtain rfl:=Bl he;obtain⟨β1,fr1,w1,a1,a2,a3,a4,a5,a6,a7,a8,a9⟩:=(gU hN hct m K).code fid B _ _ _ _ _ h1 (hocc.sub (.block (.loop (.refl _)))) β w fr cs k ht hfid hf hr;obtain⟨β2,b1,b2,b3⟩:=hc2 K β1 w1 _ _ a3 a5.slots;obtain⟨m1,m2,m3⟩:=ig hm;have hmid:=iZ (N:=0) (src:=X++L) b2 (fun i hi=>(hid i hi).elim) (Nat.zero_le _) m1 m2;have hren:=m_ (X++L) β2;have hms:(af ms).next=bs1.length:=by rw[hst]; rfl
   have hmsl:ms.length=bs1.length:=hms;refine⟨⟨gu 0 (X++L) β2,fr1,w1,a1,(a2.trans b1 |>.leN _).trans (qB hup),?_,a4,⟨sD a5.slots.1 ?_,by have:=a5.defers; unfold l9 at this; rw[this]; rfl,by have:=a5.round; exact this,a5.mode⟩,a6,a7,a8,a9⟩,?_⟩
   ·rw[<-hst,m3]; exact hmid
   ·exact b3.mapr fun v _ x hx=>fO hren v x hx
   ·rw[<-hmsl,m3,List.length_map,List.length_append];show D.N<=_;omega
  ·cases hc1
 ·cases h2
theorem LRX.againN{E:Eng}(hE:EngOk P ct E)(hN:noNum P=true)(hct:CtOk P ct){n fid id:Nat}{B:Code}{D:HeadX}(hocc:Occ P fid (.block id (.loop B))){vs vs1 vs':List Value}{bs bs1 bs':List Blk}{e:Ex}
  (h:oh P E ct n fid B D vs bs=some (.tuple ⟨exV .normal::vs1⟩,af bs1)) (hl:LRX P fid id B D.head vs1 bs1 e vs' bs'):LRX P fid id B D.head vs bs e vs' bs':=by
 intro K β w fr cs k hid ht hfid hf hr;obtain⟨⟨β1,fr1,w1,a1,a2,a3,a4,a5,a6,a7,a8,a9⟩,_⟩:=zZ hE hN hct hocc h K β w fr cs _ hid ht hfid hf hr;have a9:fr1.todo = .inLoop B:: .inBlock id::k:=a9;have hs:=uX (P:=P) (cs:=cs) (w:=w1) a5.mode a9;obtain⟨⟨β2,fr2,w2,b1,b2,b3,b4,b5,b6,b7,b8,b9⟩,hb⟩:=hl K β1 w1 { fr1 with todo:= .code B:: .inLoop B:: .inBlock id::k } cs k hid rfl (a7.trans hfid) ⟨a5.slots,a5.defers,a5.round,a5.mode⟩ a3;exact⟨⟨β2,fr2,w2,a1.trans (.head hs b1),a2.trans b2,b3,a4.trans b4,b5,b6.trans a6,b7.trans a7,b8.trans a8,b9⟩,hb⟩
theorem LRX.stopN{E:Eng}(hE:EngOk P ct E)(hN:noNum P=true)(hct:CtOk P ct){n fid id:Nat}{B:Code}{D:HeadX}(hocc:Occ P fid (.block id (.loop B))){vs vs1:List Value}{bs bs1:List Blk}{e:Ex}
  (h:oh P E ct n fid B D vs bs=some (.tuple ⟨exV e::vs1⟩,af bs1)) (he:e≠ .normal):LRX P fid id B D.head vs bs (jM id e) vs1 bs1:=by
 intro K β w fr cs k hid ht hfid hf hr;obtain⟨⟨β1,fr1,w1,a1,a2,a3,a4,a5,a6,a7,a8,a9⟩,hb⟩:=zZ hE hN hct hocc h K β w fr cs _ hid ht hfid hf hr;refine⟨?_,hb⟩;have a9:=a9.under he (fun i e=>by cases e);cases e with
 |normal=>exact absurd rfl he
 |ret=>exact⟨β1,fr1,w1,a1,a2,a3,a4,a5,a6,a7,a8,a9⟩
 |exit i=>
  obtain⟨k2,h1,h2⟩:=a9;cases hb:Nat.beq i id with
  |true=>
   have hx2:jM id (.exit i) = .normal:=by simp only[jM,hb]
   rw[hx2];have:=Nat.eq_of_beq_eq_true hb;subst this;have hx:exitTo i k2=some k:=by rw[h2]; simp[exitTo]
   exact⟨β1,{ fr1 with todo:=k },w1,a1.trans (.one (s_exit a5.mode h1 hx)),a2,a3,a4,a5.todo k,a6,a7,a8,rfl⟩
  |false=>
   have hx2:jM id (.exit i) = .exit i:=by simp only[jM,hb]
   rw[hx2];have:=Nat.ne_of_beq_eq_false hb;refine⟨β1,fr1,w1,a1,a2,a3,a4,a5,a6,a7,a8,k2,h1,?_⟩;rw[h2];have:(id == i)=false:=by simp; exact fun ee=>this ee.symm
   simp[exitTo,this]
def PE(P:Program)(D:HeadX)(R:jO)(f:Fr)(st:St):Option (DT (Ex×Trie Value×St)):=
 match f.defers,f.roundOf,Nat.beq f.ntmps D.nt with
 |[],none,true=>some (yC P D f.slots st fun X L st2 vs ms=>match R vs ms with
  |some t=>t.map fun x=>(x.1,mkS D.nt D.L (x.2.1.map (eP true (bH X st2.next))),oV X L st2 x.2.2)
  |none=> .fail)
 |_,_,_=>none
def Dq(P:Program)(fid id:Nat)(D:HeadX)(R:jO)(ct:Ct):Ct where
 call:=ct.call
 loop:=fun fid' id' f st=>match and (Nat.beq fid' fid) (Nat.beq id' id)with
  |true=>PE P D R f st
  |false=>ct.loop fid' id' f st
 op:=ct.op
theorem MI{fid id:Nat}{B:Code}{D:HeadX}{R:jO}(hct:CtOk P ct)(h:LoopOkX P fid id B D.head R):CtOk P (Dq P fid id D R ct) where
 opc:=hct.opc
 op:=hct.op
 call:=hct.call
 loop:=by
  intro K fid' id' c f st e s' st' hl hocc β w fr cs k ht hfid hf hr;simp only[Dq]at hl;split at hl
  ·rename_i hb;simp only[Bool.and_eq_true]at hb;obtain rfl:=Nat.eq_of_beq_eq_true hb.1;obtain rfl:=Nat.eq_of_beq_eq_true hb.2;obtain rfl:=h.occ c hocc;unfold PE at hl;split at hl
   ·rename_i hd hro hnt;have hnt:=Nat.eq_of_beq_eq_true hnt;simp only[Option.bind_some]at hl;obtain⟨X,L,st2,vs1,ms,hk,hXN,hm,hrel⟩:=yP hl;split at hk
    ·rename_i t hR;obtain⟨⟨e1,vs2,bs2⟩,hev,heq⟩:=DT.map_eval hk;simp only[Prod.mk.injEq]at heq;obtain⟨rfl,rfl,rfl⟩:=heq;obtain⟨β0,b1,b2,b3⟩:=hrel K β w _ _ hr hf.slots;obtain⟨m1,m2,m3⟩:=ig hm;obtain⟨K',k1,k2,k3,k4⟩:=sW b2 m1 m2;have hslots:h_ (gu 0 (X++L) β0) (mkS D.nt D.L (vs1.map (eP true (bY 0 (X++L))))) D.nt fr.tmps:=
      sD (by rw[hf.slots.1]; exact hnt) (b3.mapr fun v _ x hx=>fO (m_ (X++L) β0) v x hx)
     have s1:=wQ (P:=P) (cs:=cs) (w:=w) hf.mode ht;have s2:=zA (P:=P) (fr:={ fr with todo:= .code (.loop B):: .inBlock id'::k }) (cs:=cs) (w:=w) hf.mode rfl;have hdf:fr.defers=[]:=by have:=hf.defers; rw[hd]at this; exact this
     have hrf:fr.roundOf=none:=by have:=hf.round; rw[hro]at this; exact this
     obtain⟨⟨β1,fr1,w1,a1,a2,a3,a4,a5,a6,a7,a8,a9⟩,a10⟩:=h.run _ _ t hR _ _ _ hev K' (gu 0 (X++L) β0) w { fr with todo:= .code B:: .inLoop B:: .inBlock id'::k } cs k k2 rfl hfid ⟨hslots,hdf,hrf,hf.mode⟩ (by rw[m3]; exact k3);have a2:leN X.length (gu 0 (X++L) β0) β1:=by rw[hXN]; exact a2
     have a10:X.length<=bs2.length:=by rw[hXN]; exact a10
     obtain⟨c1,c2,c3⟩:=k4 β1 bs2 w1 a2 a10 a3 a4;refine⟨_,fr1,w1, .head s1 (.head s2 a1),b1.trans c1,c2,a4.mono k1,⟨⟨by rw[a5.slots.1]; exact hnt.symm,fun i=>?_⟩,?_,?_,a5.mode⟩,a6,a7,a8,a9⟩
     ·show VR _ (((mkS D.nt D.L (vs2.map (eP true (bH X st2.next)))).get i).getD undef) _;rw[BO rfl sS];exact fO c3 _ _ (a5.slots.2 i)
     ·show l9 _ f.defers _;rw[hd]; exact a5.defers
     ·show nG _ f.roundOf _;rw[hro]; exact a5.round
    ·cases hk
   ·cases hl
  ·exact hct.loop K fid' id' c f st e s' st' hl hocc β w fr cs k ht hfid hf hr
def NU(P:Program)(pol:Pol)(N:Nat)(g:FuncId)(R:iW)(args:List Value)(st:St):DT (Value×St):=
 qf P pol 200 (xJ args) [] st fun st1=>rE P 100 (QR P g) args st1 fun args1 st2=>
  lK (jB st2) 1000 args1 [] [] fun X L=>match Nat.ble N X.length,iI 0 (X.append L) (fun i=>dZ (path i) st2.heap) (X.append L)with
  |true,some ms=>match R (args1.map (eP true (bY 0 (X.append L)))) ms with
   |some t=>t.map fun x=>(eP true (bH (X.take N) st2.next) x.1,oV (X.take N) (List.append (X.drop N) L) st2 x.2)
   |none=> .fail
  |_,_=> .fail
def yg(P:Program)(pol:Pol)(N:Nat)(g:FuncId)(R:iW)(ct:Ct):Ct where
 call:=fun g' args st=>match Nat.beq g' g with
  |true=>some (NU P pol N g R args st)
  |false=>ct.call g' args st
 loop:=ct.loop
 op:=ct.op
theorem wz{pol:Pol}{N:Nat}{g:FuncId}{R:iW}(hct:CtOk P ct)(h:CallOkX P N g R):CtOk P (yg P pol N g R ct) where
 opc:=hct.opc
 op:=hct.op
 loop:=hct.loop
 call:=by
  intro K g' args st v st' hl β w args' cs ha hr;simp only[yg]at hl;split at hl
  ·rename_i hb;obtain rfl:=Nat.eq_of_beq_eq_true hb;simp only[NU,Option.bind_some]at hl;obtain⟨st1,h1,h2⟩:=jq _ _ _ _ _ hl;obtain⟨args1,st2,k1,k2,k3,k4⟩:=kT _ _ _ _ _ h1;obtain⟨X,L,hX⟩:=jE (jB st2) 1000 args1 [] [] fun X L=>match Nat.ble N X.length,iI 0 (X.append L) (fun i=>dZ (path i) st2.heap) (X.append L)with
    |true,some ms=>match R (args1.map (eP true (bY 0 (X.append L)))) ms with
     |some t=>t.map fun(x:Value×List Blk)=>(eP true (bH (X.take N) st2.next) x.1,oV (X.take N) (List.append (X.drop N) L) st2 x.2)
     |none=> .fail
    |_,_=> .fail
   rw[hX]at k1;split at k1
   ·rename_i ms hn hm;have hm:iI 0 (X++L) (fun i=>dZ (path i) st2.heap) (X++L)=some ms:=hm;have hXN:(X.take N).length=N:=by rw[List.length_take]; have:=Nat.le_of_ble_eq_true hn; omega
    have he:X.take N++(X.drop N++L)=X++L:=by rw[<-List.append_assoc,List.take_append_drop]
    rw[<-he]at hm;split at k1
    ·rename_i t hR;obtain⟨⟨v1,bs1⟩,hev,heq⟩:=DT.map_eval k1;simp only[Prod.mk.injEq]at heq;obtain⟨rfl,rfl⟩:=heq;obtain⟨β1,a1,a2⟩:=h2 K β w hr;obtain⟨β2,b1,b2,b3⟩:=k4 K β1 w args'.toList a2 (ha.mono a1);obtain⟨m1,m2,m3⟩:=ig hm;simp only[dQ]at m2 m3;obtain⟨K',q1,q2,q3,q4⟩:=sW b2 m1 m2;rw[he]at m3 q3 q4;have ha':VRL (gu 0 (X++L) β2) (args1.map (eP true (bY 0 (X++L)))) args'.toList:=b3.mapr fun v _ x hx=>fO (m_ _ _) v x hx;obtain⟨⟨β3,fr,w1,v',d1,d2,d3,d4,d5,d6⟩,d7⟩:=h.run _ _ t hR v1 bs1 hev K' _ w args' cs q2 ha' (by rw[m3]; exact q3);obtain⟨c1,c2,c3⟩:=q4 β3 bs1 w1 (by rw[hXN]; exact d2) (by rw[hXN]; exact d7) d3 d4;exact⟨_,fr,w1,v',d1,(a1.trans b1).trans c1,c2,d4.mono q1,fO c3 _ _ d5,d6⟩
    ·cases k1
   ·cases k1
  ·exact hct.call K g' args st v st' hl β w args' cs ha hr
end
end Go.VS
end

noncomputable section
namespace Go.VS.Tryz
open Go.VS
set_option maxRecDepth 1000000
def aeE:Pol:=fun t=>match Nat.beq t 174 with
 |true=>some [.val, .val, .keep]
 |false=>au t
def Df1:HeadX:=⟨7,96,[0,1,5,6,42,43,44],[.val, .val, .val, .val, .keep, .val, .val],[],aeE⟩
def Bf1:Code:=(dR P 104 1).getD .skip
theorem IY:dR P 104 1=some Bf1:=by kernel_rfl
theorem OW:Occ P 104 (.block 1 (.loop Bf1)):=fA IY
def srF(s:SrM)(t:TbM):List Blk:=[.cells [ptV 1,ptV 3,lsV 13 s.rest.length] 174 true, .cells [.map (some 2)] 98 true, .map s.tb.es s.tb.ck, .cells [ptV 4, .bool s.rn.br,lsV 12 s.rn.rs.length] 168 true, .cells (dM 7 8 9 10 11 s.rn.dk) 86 true,
 .cells [.map (some 6)] 98 true, .map t.es t.ck]++dkL s.rn.dk++[.cells (eF.all s.rn.rs) 161 false, .cells (ECm.all s.rest) 47 false]
def f1V(up ru:Int)(n:Nat)(z i:Int):List Value:=[p0, .int .i64 up, .int .i64 ru,ptV 5,lsV 13 n, .int .i64 z, .int .i64 i]
def Xi(C:List Value->List Blk->Bool)(t2:TbM):Ct:=aT P au 2 20 (cu C (.leaf (.int .i64 0,tbB t2))) ctF
theorem UX(C:List Value->List Blk->Bool)(t2:TbM)(s:SrM)(t:TbM)(up ru:Int)(n:Nat)(z i:Int):bV P E (Xi C t2) 50 104 Bf1 Df1 (f1V up ru n z i) (srF s t) =
 (let y:=Nat.add 0 (atN i 3);let x:=Enc.all ECm s.rest;let w:=Eta.int .i64;let v:=pt_ 0;let u:=aU x (Nat.add (Nat.add y 1) 1);let r:=s.rn.rs.length;let q:=Enc.all eF s.rn.rs;let p:=s.rn.dk;let o:=so_ 1 3 13 s.rest.length;let m:=ro_ [0,7,16,5,15,1,13,1];let l:=Blk.cells [pt_ 4, .bool s.rn.br,sl_ 12 r] 168 true;
 let k:=dk_ p 7 8 9 10 11;let j:=ro_ [0,7,15,5,14,1,13,1];
 (ak (ltI i z) (ae (inI i n) (ae (Bool.and (Nat.ble (Nat.add y 3) x.length) (iq [w,w, .slice 3] x y)) (ae (C [v,fa_ (zN u) (zB u) (zC u)] [tb_ 1, .map (bD true (bY 0 [5,6]) t.es) t.ck]) (nb_ r 3 q (dn_ w0_ p (some (.tuple ⟨[io_ 0,v,io_ up,io_ ru,pt_ 5,sl_ 13 n,io_ z,io_ (dO .i64 i 1)]⟩,af (o::tb_ 2:: .map (bD true m s.tb.es) s.tb.ck::l::k::tb_ 6:: .map (bD true m (bD true (bH [5,6] 15) t2.es)) t2.ck::dl_ (cz_ m w0_) p [lb_ m r 3 q 161, .cells (aZ true m x) 47 false])))))))) (nb_ r 3 q (dn_ w0_ p (some (.tuple ⟨[io_ 2,v,io_ up,io_ ru,pt_ 5,sl_ 13 n,io_ z,io_ i]⟩,af (o::tb_ 2:: .map (bD true j s.tb.es) s.tb.ck::l::k::tb_ 6:: .map (bD true j t.es) t.ck::dl_ (cz_ j w0_) p [lb_ j r 3 q 161, .cells (aZ true j x) 47 false]))))))):=by kernel_rfl
def Df2:HeadX:=⟨5,96,[0,86,87,88],[.val, .val, .val, .val],[0,35,0,0],au⟩
def Bf2:Code:=(dR P 104 3).getD .skip
theorem Je:dR P 104 3=some Bf2:=by kernel_rfl
theorem Oe:Occ P 104 (.block 3 (.loop Bf2)):=fA Je
def f2V(l:List CmM)(z i:Int):List Value:=[p0,bG l, .int .i64 z, .int .i64 i]
def Xh(C1 C2:List Value->List Blk->Bool)(t2:TbM)(c:CmM):Ct:=aT P au 0 81 (cu C1 (.leaf (cmV c,[]))) (aT P au 2 20 (cu C2 (.leaf (.int .i64 0,tbB t2))) ctF)
theorem UM(C1 C2:List Value->List Blk->Bool)(t2:TbM)(c:CmM)(s:SrM)(l:List CmM)(z i:Int):bV P E (Xh C1 C2 t2 c) 50 104 Bf2 Df2 (f2V l z i) (srB s) =
 (let y:=atN i 3;let x:=Enc.all ECm l;let w:=Eta.int .i64;let v:=Nat.add y 1;let u:=aU x (Nat.add v 1);let t:=fa_ (zN u) (zB u) (zC u);let r:=s.rest.length;let q:=Nat.add r 1;let p:=Enc.all ECm s.rest;let o:=pt_ 0;let n:=List.append (jR 0 p) [io_ c.e,io_ c.n,fa_ c.ops.length 0 (Enc.all EOp c.ops)];
 let m:=s.rn.rs.length;let k:=Enc.all eF s.rn.rs;let j:=s.rn.dk;let h:=fa_ l.length 0 x;let g:=ro_ [0,5,36,5,35,1,34,1];let f:=Blk.cells [pt_ 4, .bool s.rn.br,sl_ 10 m] 168 true;let e:=dk_ j 5 6 7 8 9;let d:=ro_ [0,5,14,5,13,1,12,1];
 (ak (ltI i z) (ae (Bool.and (Nat.beq 3 3) (inI i l.length)) (ae (Bool.and (Nat.ble (Nat.add y 3) x.length) (iq [w,w, .slice 3] x y)) (ae (C1 [.agg ⟨[io_ (asI (aU x y)),io_ (asI (aU x v)),t]⟩] []) (ae (Nat.ble q 4194304) (ae (Nat.beq (Nat.add 0 (Nat.mul r 3)) p.length) (ae (bU (sl_ 11 r) (sl_ 11 r)) (ae (C2 [o,t] [tb_ 1, .map (bD true (bY 0 [1,2]) s.tb.es) s.tb.ck]) (nb_ q 3 n (nb_ m 3 k (dn_ w0_ j (some (.tuple ⟨[io_ 0,o,h,io_ z,io_ (dO .i64 i 1)]⟩,af (so_ 1 3 11 q::tb_ 2:: .map (bD true g (bD true (bH [1,2] 34) t2.es)) t2.ck::f::e::dl_ (cz_ g w0_) j [lb_ g m 3 k 161,lb_ g q 3 n 47]))))))))))))) (nb_ r 3 p (nb_ m 3 k (dn_ w0_ j (some (.tuple ⟨[io_ 4,o,h,io_ z,io_ i]⟩,af (so_ 1 3 11 r::tb_ 2:: .map (bD true d s.tb.es) s.tb.ck::f::e::dl_ (cz_ d w0_) j [lb_ d m 3 k 161,lb_ d r 3 p 47])))))))):=by kernel_rfl
def aeC(C0 C1 C2 C3 C4 C5:List Value->List Blk->Bool)(ru up:Int)(s:SrM)(t1:TbM)(n:Nat)(lm:List OpM)(rn2:RnM)(l:List CmM)(s3:SrM):Ct:=
 aT P au 2 77 (cu C0 (.leaf (.int .i64 ru,rnB s.rn))) (eY P 104 1 Df1 (gX C1 (.leaf (.normal,f1V up ru n (ag n) (ag n),srF s t1)))
 (aT P au 2 170 (cu C2 (.leaf (aJ lm,tbB t1))) (aT P au 1 140 (cu C3 (.leaf (aJ lm,[.cells [aJ lm] 33 true])))
 (aT P au 2 139 (cu C4 (.leaf (.int .i64 0,rnB rn2))) (eY P 104 3 Df2 (gX C5 (.leaf (.normal,f2V l (ag l.length) (ag l.length),srB s3))) ctF)))))
theorem Vb(C0 C1 C2 C3 C4 C5:List Value->List Blk->Bool)(ru up:Int)(s:SrM)(t1:TbM)(n:Nat)(lm:List OpM)(rn2:RnM)(l:List CmM)(s3:SrM):JY P E (aeC C0 C1 C2 C3 C4 C5 ru up s t1 n lm rn2 l s3) 50 au [] [] 5 104 [p0, .int .i64 up] (srB s) =
 (let z:=s.rn.rs.length;let y:=Enc.all eF s.rn.rs;let x:=s.rn.dk;let w:=pt_ 0;let v:=Value.bool s.rn.br;let u:=Blk.cells [pt_ 1,v,sl_ 7 z] 168 true;let t:=dk_ x 2 3 4 5 6;let r:=ro_ [3,2,13,5,12,1];let q:=s.rest.length;let p:=Enc.all ECm s.rest;let o:=bH [3,4] 18;let m:=aZ true o y;
 let k:=bk_ o w0_;let j:=so_ 1 3 11 q;let i:=tb_ 2;let h:=ro_ [0,5,26,5,25,1,24,1];let g:=s.tb.es;let f:=s.tb.ck;let e:=pt_ 4;let d:=Blk.cells [e,v,sl_ 10 z] 168 true;let c:=dk_ x 5 6 7 8 9;let b:=ro_ [3,2,37,5,36,1];let a:=ag q;let Z:=bH [3,4] 42;let Y:=aZ true Z y;
 let X:=bk_ Z w0_;let W:=ro_ [0,5,50,5,49,1,48,1];let V:=af (j::i:: .map (bD true W g) f::d::c::dl_ (cz_ W X) x [lb_ W z 3 Y 161,lb_ W q 3 p 47]);let U:=io_ 0;let T:=fH .i64 up ru;let S:=Nat.div (Nat.sub p.length 0) 3;let R:=io_ up;let Q:=ro_ [0,5,49,1,48,1,51,5,50,1,11,1];
 let O:=Blk.map [] 0;let N:=so_ 1 3 13 q::i::Blk.map (bD true Q g) f::Blk.cells [e,v,sl_ 12 z] 168 true::dk_ x 7 8 9 10 11::tb_ 6::O::dl_ (cz_ Q X) x [lb_ Q z 3 Y 161, .cells (aZ true Q p) 47 false];let M:=bH (rg_ [0,5,49,1,48,1]) 56;let L:=bD true M t1.es;let K:=aZ true M p;
 let J:=aZ true M y;let I:=bk_ M w0_;let H:=ro_ [0,5,65,5,64,1,63,1];let G:=bD true M g;let F:=fa_ lm.length 0 (Enc.all EOp lm);let D:=ro_ [3,2,78,5,77,1];let C:=Nat.div (Nat.sub K.length 0) 3;let B:=Int.toNat T;let A:=Go.Addr.off (yH ⟨62,0,Addr.spot ⟨13,0,none⟩⟩ (atN T 3));
 let z0:=iV T a;let y0:=rn2.rs.length;let x0:=bH [3,4] 83;let w0:=aZ true x0 (Enc.all eF rn2.rs);let v0:=bk_ x0 w0_;let u0:=rn2.dk;let t0:=bY 0 [0,90,89,3,4,93,94,95,96,97,92,91];let s0:=so_ 1 3 11 0::i::O::Blk.cells [e, .bool rn2.br,sl_ 10 y0] 168 true::dk_ u0 5 6 7 8 9::dl_ (cz_ t0 v0) u0 [lb_ t0 y0 3 w0 161, .cells [] 47 false];
 let r0:=s3.rest.length;let q0:=bH [0,90,89,3,4] 98;let o0:=aZ true q0 (Enc.all ECm s3.rest);let n0:=s3.rn.rs.length;let m0:=aZ true q0 (Enc.all eF s3.rn.rs);let l0:=bk_ q0 w0_;let k0:=s3.rn.dk;let j0:=ro_ [0,5,90,1,89,1,107,5,106,1,105,1];let i0:=nb_ r0 3 o0 (nb_ n0 3 m0 (dn_ l0 k0 (some (U,af (so_ 5 3 13 r0::i:: .map (bD true j0 G) f:: .cells [e, .bool s3.rn.br,sl_ 12 n0] 168 true::dk_ k0 7 8 9 10 11::tb_ 6:: .map (bD true j0 (bD true q0 s3.tb.es)) s3.tb.ck::dl_ (cz_ j0 l0) k0 [lb_ j0 n0 3 m0 161,lb_ j0 r0 3 o0 47])))));
 let h0:=nb_ y0 3 w0 (dn_ v0 u0 (ae (C5 [w,fa_ 0 0 [],U,U] s0) i0));let g0:=ak (gtI (Nat.cast L.length) 1024) (nb_ q 3 K (nb_ z 3 J (dn_ I x (some (io_ 3,af (j::i:: .map (bD true H G) f::d::c::dl_ (cz_ H I) x [lb_ H z 3 J 161,lb_ H q 3 K 47])))))) (ae (C2 [w] [tb_ 1, .map (bD true (bY 0 [49,48]) L) t1.ck]) (ae (C3 [.func (Go.Fn.func 194) ⟨[]⟩ ⟨[w]⟩] [.cells [F] 33 true]) (nb_ z 3 J (dn_ I x (ae (C4 [w, .agg ⟨[io_ (dO .i64 ru 1),R,F]⟩] (u::t::dl_ (cz_ D I) x [lb_ D z 3 J 161])) (ae (gq T a C) (ak (Nat.ble (Nat.add B 1) C) (ae (j_ P A z0 18446744073709551616 K 47) (nb_ y0 3 w0 (dn_ v0 u0 (ae (C5 [w,fa_ z0 0 (takeC (Nat.mul z0 3) (bT A K)),io_ (ag z0),U] s0) i0)))) (ak (Nat.beq B 0) (ae (fq_ 0 K 47) h0) (ae (j_ P 0 0 (Nat.add 18446744073709551616 B) K 47) h0)))))))));
 (nb_ z 3 y (dn_ w0_ x (ae (C0 [w] (u::t::dl_ (cz_ r w0_) x [lb_ r z 3 y 161])) (ak (ltI up ru) (nb_ q 3 p (nb_ z 3 m (dn_ k x (some (io_ 2,af (j::i:: .map (bD true h g) f::d::c::dl_ (cz_ h k) x [lb_ h z 3 m 161,lb_ h q 3 p 47])))))) (nb_ z 3 m (dn_ k x (ae (C0 [w] (u::t::dl_ (cz_ b k) x [lb_ b z 3 m 161])) (ae (bU (sl_ 11 q) (sl_ 11 q)) (ae (bU (io_ a) (io_ a)) (ak (gtI up (dO .i64 ru a)) (nb_ q 3 p (nb_ z 3 Y (dn_ X x (some (io_ 2,V))))) (ak (eqI up ru) (nb_ q 3 p (nb_ z 3 Y (dn_ X x (some (U,V))))) (ae (gq 0 T S) (ak (Nat.ble 1 S) (nb_ z 3 Y (dn_ X x (ae (C1 [w,R,io_ ru,pt_ 5,sl_ 13 (iV 0 T),io_ (ag (iV 0 T)),U] N) g0))) (nb_ z 3 Y (dn_ X x (ae (C1 [w,R,io_ ru,pt_ 5,sl_ 13 0,U,U] N) g0))))))))))))))))):=by kernel_rfl
end Go.VS.Tryz
end

noncomputable section
namespace Go.VS.Tryz
open Go.VS Go.Proofs
theorem TU{a b:ByteArray}(h:kB a=kB b):a=b:=by
 obtain⟨⟨a⟩⟩:=a;obtain⟨⟨b⟩⟩:=b;have h:a=b:=h;rw[h]
theorem ad5(k:ByteArray):kS (kB k)=k:=rfl
theorem adE{l:List OpM}(h:ndK l):(l.map fun o=>kB o.k).Nodup:=by
 unfold ndK List.Nodup at h;unfold List.Nodup;rw[List.pairwise_map]at h ⊢;exact h.imp fun hab he=>hab (TU he)
theorem yz(l:List OpM):(lh l).Perm (l.map fun o=>kB o.k):=List.mergeSort_perm ..
theorem Xt{l:List OpM}(h:ndK l):(lh l).Pairwise (·<·):=by
 have tr:∀ a b c:List UInt8,leB a b=true->leB b c=true->leB a c=true:=fun a b c h1 h2=>by simp only[leB,decide_eq_true_eq]at *; exact List.le_trans h1 h2
 have to:∀ a b:List UInt8,(leB a b || leB b a)=true:=fun a b=>by simp only[leB,Bool.or_eq_true,decide_eq_true_eq]; exact List.le_total a b
 have h1:(lh l).Pairwise fun a b=>leB a b=true:=List.pairwise_mergeSort tr to _;have h2:(lh l).Nodup:=(yz l).nodup_iff.2 (adE h);refine(h1.and h2).imp fun {a b} hab=>?_;obtain⟨h3,h4⟩:=hab;simp only[leB,decide_eq_true_eq]at h3;rcases List.le_iff_lt_or_eq.1 h3 with h5 | h5
 ·exact h5
 ·exact absurd h5 h4
theorem Qv(l:List OpM):(kZ l).map (fun o=>kB o.k)=lh l:=by
 unfold kZ;rw[List.map_map];exact List.map_id'' (fun b=>rfl) _
theorem Ib{l:List OpM}(h:ndK l):ris (kZ l):=by unfold ris; rw[Qv]; exact Xt h
theorem H7(l:List OpM):(kZ l).length=l.length:=by unfold kZ; rw[List.length_map,Ht]
theorem SB{l:List OpM}(h:ris l):ndK l:=by
 unfold ris at h;unfold ndK List.Nodup;rw[List.pairwise_map]at h ⊢;exact h.imp fun hab he=>absurd hab (by rw[he]; exact List.lt_irrefl _)
theorem vV{l:List OpM}(h:ndK l){o:OpM}(ho:o∈l):(l.find? fun x=>x.k=o.k)=some o:=by
 induction l with
 |nil=>cases ho
 |cons x l ih=>
  unfold ndK at h;rw[List.map_cons,List.nodup_cons]at h;rw[List.find?_cons];rcases List.mem_cons.1 ho with rfl | ho
  ·simp
  ·have hne:¬x.k=o.k:=fun he=>h.1 (List.mem_map.2 ⟨o,ho,he.symm⟩);simp only[hne,decide_false];exact ih h.2 ho
theorem Ak{l:List OpM}{k:ByteArray}(h:∀ o∈l,o.k≠k):(l.find? fun x=>x.k=k)=none:=List.find?_eq_none.2 fun o ho=>by simpa using h o ho
theorem XA{l:List OpM}(h:ndK l){o:OpM}(ho:o∈l):kF l o.k=o:=by unfold kF; rw[vV h ho]; rfl
theorem Lr{l:List OpM}(h:ndK l){o:OpM}(ho:o∈l):oC l (kB o.k)=o:=by
 unfold oC;rw[ad5,XA h ho]
theorem zu{l:List OpM}(h:ndK l)(o:OpM):o∈kZ l↔o∈l:=by
 unfold kZ;rw[List.mem_map];constructor
 ·rintro ⟨b,hb,rfl⟩;obtain⟨x,hx,rfl⟩:=List.mem_map.1 ((yz l).mem_iff.1 hb);rw[Lr h hx]; exact hx
 ·intro ho;exact⟨kB o.k,(yz l).mem_iff.2 (List.mem_map.2 ⟨o,ho,rfl⟩),Lr h ho⟩
theorem Qx{l:List OpM}(h:ndK l)(k:ByteArray):((kZ l).find? fun x=>x.k=k)=l.find? fun x=>x.k=k:=by
 by_cases hk:∃ o∈l,o.k=k
 ·obtain⟨o,ho,rfl⟩:=hk;rw[vV h ho,vV (SB (Ib h)) ((zu h o).2 ho)]
 ·rw[Ak fun o ho he=>hk ⟨o,ho,he⟩,Ak fun o ho he=>hk ⟨o,(zu h o).1 ho,he⟩]
def lq(ops:List OpM)(k:ByteArray):Option OpM:=ops.reverse.find? fun x=>x.k=k
theorem z_(a b:List OpM)(k:ByteArray):lq (a++b) k=(lq b k).or (lq a k):=by
 unfold lq;rw[List.reverse_append,List.find?_append]
theorem Vj(o:OpM)(k:ByteArray):lq [o] k=if o.k=k then some o else none:=by
 unfold lq;rw[List.reverse_singleton,List.find?_singleton];by_cases h:o.k=k<;>simp[h]
theorem Su(l:List OpM)(o:OpM)(k:ByteArray):((lS l o).find? fun x=>x.k=k)=if o.k=k then some o else l.find? fun x=>x.k=k:=by
 induction l with
 |nil=>unfold lS; by_cases h:o.k=k<;>simp[h]
 |cons x l ih=>
  unfold lS;by_cases hx:x.k=o.k
  ·rw[if_pos hx,List.find?_cons,List.find?_cons,hx];by_cases h:o.k=k<;>simp[h]
  ·rw[if_neg hx,List.find?_cons,List.find?_cons,ih];by_cases h:x.k=k
   ·have:¬o.k=k:=fun e=>hx (h.trans e.symm);simp[h,this]
   ·simp[h]
theorem TN(ops:List OpM)(k:ByteArray):∀ l:List OpM,((kP l ops).find? fun x=>x.k=k)=(lq ops k).or (l.find? fun x=>x.k=k):=by
 induction ops with
 |nil=>intro l; rfl
 |cons o ops ih=>
  intro l;show((kP (lS l o) ops).find? _)=_;rw[ih,Su,show o::ops=[o]++ops from rfl,z_,Vj];by_cases h:o.k=k<;>cases lq ops k<;>simp[h]
theorem vY(ops:List OpM)(k:ByteArray):((kP [] ops).find? fun x=>x.k=k)=lq ops k:=by rw[TN]; simp
theorem Jt(l a b:List OpM):kP l (a++b)=kP (kP l a) b:=by unfold kP; rw[List.foldl_append]
def qc(rs:List RunM)(k:ByteArray):Option OpM:=rs.reverse.findSome? fun r=>r.ops.find? fun x=>x.k=k
theorem Jr(rs:List RunM)(q:RunM)(k:ByteArray):qc (rs++[q]) k=(q.ops.find? fun x=>x.k=k).or (qc rs k):=by
 unfold qc;rw[List.reverse_append,List.findSome?_append];simp
def lbM(l:List OpM)(k:ByteArray):Nat:=l.findIdx fun o=>decide (kB k<=kB o.k)
theorem acr(l:List OpM)(k:ByteArray):lbM l k<=l.length:=List.findIdx_le_length
theorem Fp{l:List OpM}(h:ris l){k:ByteArray}{m:Nat}(hm:m<l.length):m<lbM l k↔¬kB k<=kB l[m].k:=by
 constructor
 ·intro hlt;have:=List.not_of_lt_findIdx hlt;simpa using this
 ·intro hn;by_cases hlt:m<lbM l k
  ·exact hlt
  ·exfalso;have hl:lbM l k<l.length:=by omega
   have hg:kB k<=kB (l[lbM l k]'hl).k:=by
    have:=List.findIdx_getElem (w:=hl);simpa [lbM]using this
   rcases Nat.lt_or_ge (lbM l k) m with h1 | h1
   ·exact hn (List.le_trans hg (List.le_of_lt (JX h h1 hm)))
   ·have:lbM l k=m:=by omega
    exact hn (by simpa only[this]using hg)
theorem Zb{l:List OpM}(h:ris l)(k:ByteArray):(l.find? fun x=>x.k=k)=if hl:lbM l k<l.length then(if(l[lbM l k]'hl).k=k then some (l[lbM l k]'hl)else none)else none:=by
 by_cases hk:∃ o∈l,o.k=k
 ·obtain⟨o,ho,rfl⟩:=hk;rw[vV (SB h) ho];obtain⟨m,hm,rfl⟩:=List.mem_iff_getElem.1 ho;have h1:¬m<lbM l l[m].k:=fun hlt=>(Fp h hm).1 hlt (List.le_refl _);have h2:¬lbM l l[m].k<m:=fun hlt=>by
   have hl:lbM l l[m].k<l.length:=by omega
   by_cases hc:kB l[m].k<=kB (l[lbM l l[m].k]'hl).k
   ·exact absurd (JX h hlt hm) (List.not_lt.2 hc)
   ·exact absurd ((Fp h hl).2 hc) (Nat.lt_irrefl _)
  have h3:lbM l l[m].k=m:=by omega
  simp[h3,hm]
 ·rw[Ak fun o ho he=>hk ⟨o,ho,he⟩];split
  ·rename_i hl;rw[if_neg fun he=>hk ⟨_,List.getElem_mem hl,he⟩]
  ·rfl
end Go.VS.Tryz
end

noncomputable section
namespace Go.VS.Tryz
open Go.VS
set_option maxRecDepth 1000000
def opsOf(l:List CmM):List OpM:=l.flatMap CmM.ops
theorem J4(cs:List CmM):∀ l:List OpM,tbL (eX l) cs=eX (kP l (opsOf cs)):=by
 induction cs with
 |nil=>intro l; rfl
 |cons c cs ih=>
  intro l;show tbL (tbM (eX l) c.ops) cs=_;rw[SY,ih];unfold opsOf;rw[List.flatMap_cons,Jt]
theorem Sm:tb0=eX []:=rfl
theorem W9{s:SrM}(hs:fJ s.tb){t:TbM}(ht:fJ t){up ru:Int}{n i:Nat}(hi:i<n)(hn:n<=s.rest.length)(hl:s.rest.length<4194304){c:CmM}(hc:c=s.rest[i]) :
  bV P E (Xi (bM [p0,aJ c.ops] (tbB t)) (tbM t c.ops)) 50 104 Bf1 Df1 (f1V up ru n (ag n) i) (srF s t)=some (.tuple ⟨exV .normal::f1V up ru n (ag n) ((i+1:Nat):Int)⟩,af (srF s (tbM t c.ops))):=by
 subst hc;have hi':i<s.rest.length:=by omega
 obtain⟨g1,g2,a1⟩:=iM hi (by omega);have g4:=rJ hi';have ht2:=(ht.all s.rest[i].ops).ren;rw[UX];simp (disch:=first | omega | (simp only[List.length_append,List.length_drop,List.length_take,List.length_singleton,Nat.add_eq,bg]<;>omega) | fail) only[cz_,dk_,dl_,dn_,fa_,io_,lb_,nb_,pt_,sl_,so_,tb_,w0_,hs.ren,ht.ren,ht2,g1,g2,a1,g4,iG hi' (Nat.le_refl 3),pI hi',Az hi',xP hi',jI,(zF _ _ _).1,(zF _ _ _).2.1,(zF _ _ _).2.2,f1V,srF,dI,rnB,srB,tbB,dkL,List.cons_append,List.nil_append,List.append_assoc,dJ,aB,dM,lsV,ptV,p0,aW,dkC,aJ,bG,cmV,dA,bQ,aN,dH,dB,dU,dE,dG,dF,cZ,dC,dw,dS,dn,ay,aC,aF,Enc.all_ren,ay rfl,aC rfl,aF rfl,aB rfl,aA,bC,aV,a_,aO,ah,aP,bu,Int.toNat_natCast,aQ,aG,bz,bK,b_,bJ,bP,dm,Bool.and_self,aK,aH,ax]
 rfl
theorem abt{s:SrM}{C:List Value->List Blk->Bool}{t2:TbM}(hs:fJ s.tb){t:TbM}(ht:fJ t){up ru:Int}{n:Nat} :
  bV P E (Xi C t2) 50 104 Bf1 Df1 (f1V up ru n (ag n) n) (srF s t)=some (.tuple ⟨exV (.exit 1)::f1V up ru n (ag n) n⟩,af (srF s t)):=by
 rw[UX];simp only[cz_,dk_,dl_,dn_,fa_,io_,lb_,nb_,pt_,sl_,so_,tb_,w0_,kJ,hs.ren,ht.ren,f1V,srF,dI,rnB,srB,tbB,dkL,List.cons_append,List.nil_append,List.append_assoc,dJ,aB,dM,lsV,ptV,p0,aW,dkC,aJ,bG,cmV,dA,bQ,aN,dH,dB,dU,dE,dG,dF,cZ,dC,dw,dS,dn,ay,aC,aF,Enc.all_ren,ay rfl,aC rfl,aF rfl,aB rfl,aA,bC,aV,a_,aO,ah,aP,bu,Int.toNat_natCast,aQ,aG,bz,bK,b_,bJ,bP,dm,Bool.and_self,aK,aH,ax]
 rfl
theorem Ox{s:SrM}(hs:fJ s.tb){up ru:Int}{n:Nat}(hn:n<=s.rest.length)(hl:s.rest.length<4194304)(hc:∀ c∈s.rest,cmE c=0):∀ (k i:Nat) (t:TbM),fJ t->i+k=n->
  LRX P 104 1 Bf1 Df1.head (f1V up ru n (ag n) i) (srF s t) .normal (f1V up ru n (ag n) n) (srF s (tbL t ((s.rest.take n).drop i)))
 |0,i,t,ht,h=>by
  obtain rfl:i=n:=by omega
  rw[List.drop_of_length_le (by rw[List.length_take]; omega)];exact LRX.stop (n:=50) (bf _) az (aj (pol:=au) bn (jw (r:= .leaf (.int .i64 0,tbB t)))) OW (e:= .exit 1) (abt (C:=fun _ _=>false) (t2:=t) hs ht) (by intro h; cases h)
 |k+1,i,t,ht,h=>by
  have hi:i<n:=by omega
  have hi':i<s.rest.length:=by omega
  obtain⟨_,_,hb⟩:=lZ.1 (hc _ (List.getElem_mem hi'));have q:=E_ ht hb;have e:(s.rest.take n).drop i=s.rest[i]::(s.rest.take n).drop (i+1):=by
   rw[List.drop_eq_getElem_cons (by rw[List.length_take]; omega),List.getElem_take]
  have ih:=Ox hs hn hl hc k (i+1) (tbM t s.rest[i].ops) (ht.all _) (by omega) (up:=up) (ru:=ru);rw[e];exact LRX.again (n:=50) (bf _) az (aj (pol:=au) bn (bF q)) OW (W9 hs ht hi hn hl rfl) ih
theorem VH{s:SrM}(ht:fJ s.tb){l:List CmM}{i:Nat}(hi:i<l.length)(hl:l.length<4194304)(hg:s.rest.length<4194300) :
  bV P E (Xh (bM [cmV l[i]] []) (bM [p0,aJ l[i].ops] (tbB s.tb)) (tbM s.tb l[i].ops) l[i]) 50 104 Bf2 Df2 (f2V l (ag l.length) i) (srB s)=some (.tuple ⟨exV .normal::f2V l (ag l.length) ((i+1:Nat):Int)⟩,af (srB ⟨tbM s.tb l[i].ops,s.rn,s.rest++[l[i]]⟩)):=by
 obtain⟨g1,g2,a1⟩:=iM hi hl;have g4:=rJ hi;have h1:(s.rest++[l[i]]).length=Nat.add s.rest.length 1:=by simp
 have ht2:=(ht.all l[i].ops).ren;rw[UM];simp (disch:=first | omega | (simp only[List.length_append,List.length_drop,List.length_take,List.length_singleton,Nat.add_eq,bg]<;>omega) | fail) only[cz_,dk_,dl_,dn_,fa_,io_,lb_,nb_,pt_,sl_,so_,tb_,w0_,ht.ren,ht2,g1,g2,a1,g4,iG hi (Nat.le_refl 3),pI hi,Az hi,xP hi,jI,(zF _ _ _).1,(zF _ _ _).2.1,(zF _ _ _).2.2,h1,Bg,f2V,dI,rnB,srB,tbB,dkL,List.cons_append,List.nil_append,List.append_assoc,dJ,aB,dM,lsV,ptV,p0,aW,dkC,aJ,bG,cmV,dA,bQ,aN,dH,dB,dU,dE,dG,dF,cZ,dC,dw,dS,dn,ay,aC,aF,Enc.all_ren,ay rfl,ay h1.symm,aC rfl,aF rfl,aB rfl,aA,bC,aV,a_,aO,ah,aP,bu,Int.toNat_natCast,aQ,aG,bz,bK,b_,bJ,bP,dm,Bool.and_self,aK,aH,ax]
 rfl
theorem acs{C1 C2:List Value->List Blk->Bool}{tb:TbM}{c:CmM}{s:SrM}(ht:fJ s.tb){l:List CmM}:bV P E (Xh C1 C2 tb c) 50 104 Bf2 Df2 (f2V l (ag l.length) l.length) (srB s)=some (.tuple ⟨exV (.exit 3)::f2V l (ag l.length) l.length⟩,af (srB s)):=by
 rw[UM];simp only[cz_,dk_,dl_,dn_,fa_,io_,lb_,nb_,pt_,sl_,so_,tb_,w0_,kJ,ht.ren,f2V,dI,rnB,srB,tbB,dkL,List.cons_append,List.nil_append,List.append_assoc,dJ,aB,dM,lsV,ptV,p0,aW,dkC,aJ,bG,cmV,dA,bQ,aN,dH,dB,dU,dE,dG,dF,cZ,dC,dw,dS,dn,ay,aC,aF,Enc.all_ren,ay rfl,aC rfl,aF rfl,aB rfl,aA,bC,aV,a_,aO,ah,aP,bu,Int.toNat_natCast,aQ,aG,bz,bK,b_,bJ,bP,dm,Bool.and_self,aK,aH,ax]
 rfl
theorem O8{l:List CmM}(hl:l.length<=1000)(hc:∀ c∈l,cmE c=0):∀ (k i:Nat) (s:SrM),fJ s.tb->s.rest.length+k<4194300->i+k=l.length->
  LRX P 104 3 Bf2 Df2.head (f2V l (ag l.length) i) (srB s) .normal (f2V l (ag l.length) l.length) (srB ⟨tbL s.tb (l.drop i),s.rn,s.rest++l.drop i⟩)
 |0,i,s,ht,h3,h=>by
  obtain rfl:i=l.length:=by omega
  rw[List.drop_length,List.append_nil];exact LRX.stop (n:=50) (bf _) az (aj (pol:=au) (aj (pol:=au) bn (jw (r:= .leaf (.int .i64 0,tbB s.tb)))) (jw (r:= .leaf (cmV ⟨0,0,[]⟩,[])))) Oe (e:= .exit 3) (acs (C1:=fun _ _=>false) (C2:=fun _ _=>false) (tb:=s.tb) (c:=⟨0,0,[]⟩) ht) (by intro h; cases h)
 |k+1,i,s,ht,h3,h=>by
  have hi:i<l.length:=by omega
  obtain⟨_,_,hb⟩:=lZ.1 (hc _ (List.getElem_mem hi));obtain⟨b1,b2,b3⟩:=jc.1 hb;have ih:=O8 hl hc k (i+1) ⟨tbM s.tb l[i].ops,s.rn,s.rest++[l[i]]⟩ (ht.all _) (by show(s.rest++[l[i]]).length+k<_; simp; omega) (by omega);have q:=VH (s:=s) ht hi (by omega) (by omega);rw[List.drop_eq_getElem_cons hi];have e:(⟨tbL s.tb (l[i]::l.drop (i+1)),s.rn,s.rest++l[i]::l.drop (i+1)⟩:SrM)=⟨tbL (tbM s.tb l[i].ops) (l.drop (i+1)),s.rn,(s.rest++[l[i]])++l.drop (i+1)⟩:=by
   rw[List.append_assoc]; rfl
  rw[e];exact LRX.again (n:=50) (bf _) az (aj (pol:=au) (aj (pol:=au) bn (bF (E_ ht hb))) (bF (xn b1 (by omega)))) Oe q ih
def srG(s:SrM)(o:TbM):List Blk:=[.cells [ptV 5,ptV 3,lsV 13 s.rest.length] 174 true, .cells [.map (some 2)] 98 true, .map o.es o.ck, .cells [ptV 4, .bool s.rn.br,lsV 12 s.rn.rs.length] 168 true, .cells (dM 7 8 9 10 11 s.rn.dk) 86 true,
 .cells [.map (some 6)] 98 true, .map s.tb.es s.tb.ck]++dkL s.rn.dk++[.cells (eF.all s.rn.rs) 161 false, .cells (ECm.all s.rest) 47 false]
def gB(l:List CmM):List OpM:=kP [] (opsOf l)
def kC(rs:List RunM)(l:List CmM):RunM:=⟨bI rs+1,bI rs+l.length,kZ (gB l)⟩
theorem SS{l:List CmM}(hc:∀ c∈l,cmE c=0):(opsOf l).length<=8*l.length:=by
 unfold opsOf
 induction l with
 |nil=>simp
 |cons c l ih=>
  obtain⟨_,_,hb⟩:=lZ.1 (hc c (List.mem_cons_self ..));obtain⟨b1,b2,b3⟩:=jc.1 hb;have:=ih fun c h=>hc c (List.mem_cons_of_mem _ h);rw[List.flatMap_cons,List.length_append,List.length_cons];omega
theorem Wp{l:List CmM}(hc:∀ c∈l,cmE c=0):∀ o∈opsOf l,okO o=true:=fun o ho=>by
 unfold opsOf at ho;obtain⟨c,h1,h2⟩:=List.mem_flatMap.1 ho;obtain⟨_,_,hb⟩:=lZ.1 (hc c h1);obtain⟨b1,b2,b3⟩:=jc.1 hb;exact List.all_eq_true.1 b3 o h2
theorem zO(a b:List CmM):opsOf (a++b)=opsOf a++opsOf b:=by unfold opsOf; rw[List.flatMap_append]
theorem x8(l:List CmM):ndK (gB l):=Xo _ (by unfold ndK; exact List.nodup_nil)
theorem Lt{l:List CmM}(hc:∀ c∈l,cmE c=0):∀ o∈gB l,okO o=true:=V8 (opsOf l) (p:=fun o=>okO o=true) (fun o h=>by cases h) (Wp hc)
theorem Ii{l:List CmM}(hc:∀ c∈l,cmE c=0):(gB l).length<=8*l.length:=by
 have h1:=WT (opsOf l) [];have h2:=SS hc;unfold gB;rw[List.length_nil]at h1;omega
theorem Sl{l:List CmM}(hc:∀ c∈l,cmE c=0)(h:l≠[]):1<=(gB l).length:=by
 cases l with
 |nil=>exact absurd rfl h
 |cons c l=>
  obtain⟨_,_,hb⟩:=lZ.1 (hc c (List.mem_cons_self ..));obtain⟨b1,b2,b3⟩:=jc.1 hb;obtain⟨o,ho⟩:∃ o,o∈opsOf (c::l):=by
   cases hq:c.ops with
   |nil=>rw[hq]at b1; simp at b1
   |cons o t=>exact⟨o,List.mem_flatMap.2 ⟨c,List.mem_cons_self ..,by rw[hq]; exact List.mem_cons_self ..⟩⟩
  have hf:=vY (opsOf (c::l)) o.k;have hl:lq (opsOf (c::l)) o.k≠none:=fun hn=>by
   unfold lq at hn;have:=List.find?_eq_none.1 hn o (List.mem_reverse.2 ho);simp at this
  cases hq:gB (c::l)with
  |nil=>
   unfold gB at hq;rw[hq]at hf;exact absurd hf.symm hl
  |cons x t=>simp
theorem LZ{rs:List RunM}{l:List CmM}(hc:∀ c∈l,cmE c=0)(h:l≠[])(hl:l.length<=100)(h0:0<=bI rs)(hm:bI rs+l.length<=1048576):RunOk (kC rs l) where
 a:=by
  have:=List.length_pos_iff.2 h;show 1<=bI rs+1/\bI rs+1<=bI rs+(l.length:Int)/\bI rs+(l.length:Int)<=1048576;omega
 n:=by
  have h1:=Sl hc h;have h2:=Ii hc;show 1<=(kZ (gB l)).length/\(kZ (gB l)).length<=1024;rw[H7]; omega
 ok:=List.all_eq_true.2 fun o ho=>Lt hc o ((zu (x8 l) o).1 ho)
 ris:=Ib (x8 l)
theorem KL(a n:Nat):Addr.off (yH (Addr.mk a 0 none) n)=n:=Nat.zero_add n
theorem abo{s:SrM}{n:Nat}{up:Int}(ht:fJ s.tb)(hbr:s.rn.br=false)(hd:DkC s.rn.dk 100000)(hp:s.rn.dk.pend=[])(hr:s.rn.rs.length<4000000)(hl:s.rn.dk.d2.length<=3000000)(h0:0<=bI s.rn.rs)
  (hn:1<=n/\n<=s.rest.length) (hup:up=bI s.rn.rs+(n:Int)) (hm:up<=1048576) (hrl:s.rest.length<=100) (hc:∀ c∈s.rest,cmE c=0) :
  ∃ (k:Nat) (x:List UInt8),k<=1300/\x.length<=82011/\CRX P 5 104 [p0, .int .i64 up] (srB s) (.int .i64 0)
   (srG ⟨eX (gB (s.rest.drop n)),⟨{ s.rn.dk with d2:=s.rn.dk.d2++x,steps:=s.rn.dk.steps+(k:Int)+1,pend:=[] },false,s.rn.rs++[kC s.rn.rs (s.rest.take n)]⟩,s.rest.drop n⟩ s.tb):=by
 obtain⟨tb,⟨dk,br,rs⟩,rest⟩:=s;simp only at ht hbr hd hp hr hl h0 hn hup hm hrl hc ⊢;subst hbr;have hct:∀ c∈rest.take n,cmE c=0:=fun c h=>hc c (List.mem_of_mem_take h);have hcd:∀ c∈rest.drop n,cmE c=0:=fun c h=>hc c (List.mem_of_mem_drop h);have htl:(rest.take n).length=n:=by rw[List.length_take]; omega
 have hdl:(rest.drop n).length=rest.length-n:=List.length_drop;have hne:rest.take n≠[]:=by intro h; rw[h]at htl; simp at htl; omega
 have hq:=LZ (rs:=rs) hct hne (by omega) h0 (by rw[htl]; omega);obtain⟨k,x,k1,k2,q4⟩:=adg (q:=kC rs (rest.take n)) hd hp hr hl hq rfl h0;refine⟨k,x,k1,k2,?_⟩;have q0:=qG (r:=⟨dk,false,rs⟩) (by show rs.length<_; omega);have q1:=Ox (s:=⟨tb,⟨dk,false,rs⟩,rest⟩) ht (up:=up) (ru:=bI rs) hn.2 (by show rest.length<_; omega) hc n 0 tb0 EE (by omega);rw[List.drop_zero,Sm,J4]at q1;have hll:=Ii hct;have q2:=aaR (x8 (rest.take n)) (by omega) (fun o ho=>(xh (Lt hct o ho)).2.1);have q3:=Zq (l:=kZ (gB (rest.take n))) (by rw[H7]; omega);have hb2:(kC rs (rest.take n)).b=up:=by show bI rs+((rest.take n).length:Int)=up; rw[htl,hup]
 have e4:qm (kC rs (rest.take n)) = .agg ⟨[.int .i64 (bI rs+1), .int .i64 up,aJ (kZ (gB (rest.take n)))]⟩:=by unfold qm; rw[hb2]; rfl
 rw[e4]at q4;generalize hR:(⟨{ dk with d2:=dk.d2++x,steps:=dk.steps+(k:Int)+1,pend:=[] },false,rs++[kC rs (rest.take n)]⟩:RnM)=R at q4 ⊢;have q5:=O8 (l:=rest.drop n) (by omega) hcd (rest.drop n).length 0 ⟨tb0,R,[]⟩ EE (by show 0+_<_; omega) (by omega);rw[List.drop_zero,List.nil_append,Sm,J4]at q5;have hro:=jv (gB (rest.drop n));have hro2:=jv (gB (rest.take n));refine CRX.ofG (pol:=au) (fl:=[]) (ts:=[]) (n:=50) (bf _) az (aj (pol:=au) (dV (aj (pol:=au) (aj (pol:=au) (aj (pol:=au) (dV bn (fG (dL Je) q5)) (bF q4)) (bF q3)) (bF q2)) (fG (dL IY) q1)) (bF q0))
  ((Vb (bM [p0] (rnB ⟨dk,false,rs⟩)) (bM (f1V up (bI rs) n (ag n) (0:Nat)) (srF ⟨tb,⟨dk,false,rs⟩,rest⟩ (eX []))) (bM [p0] (tbB (eX (gB (rest.take n))))) (bM [.func (.func 194) #[] #[ptV 0]] [.cells [aJ (kZ (gB (rest.take n)))] 33 true])
   (bM [p0, .agg ⟨[.int .i64 (bI rs+1), .int .i64 up,aJ (kZ (gB (rest.take n)))]⟩] (rnB ⟨dk,false,rs⟩)) (bM (f2V (rest.drop n) (ag (rest.drop n).length) (0:Nat)) (srB ⟨eX [],R,[]⟩)) (bI rs) up ⟨tb,⟨dk,false,rs⟩,rest⟩ (eX (gB (rest.take n))) n (kZ (gB (rest.take n))) R (rest.drop n) ⟨eX (gB (rest.drop n)),R,rest.drop n⟩).trans ?_)
 clear q0 q1 q2 q3 q4 q5;have g1:ltI up (bI rs)=false:=by unfold ltI; exact decide_eq_false (by omega)
 have g2:dO .i64 (bI rs) (ag rest.length)=bI rs+(rest.length:Int):=by unfold dO ag; exact wrap64 (by omega) (by omega)
 have g3:gtI up (bI rs+(rest.length:Int))=false:=by unfold gtI; exact decide_eq_false (by omega)
 have g4:eqI up (bI rs)=false:=by unfold eqI; exact decide_eq_false (by omega)
 have g5:fH .i64 up (bI rs)=(n:Int):=by unfold fH; rw[wrap64 (by omega) (by omega)]; omega
 have g6:Nat.div (Nat.sub (Nat.mul rest.length 3) 0) 3=rest.length:=by show(rest.length*3-0) / 3=_; omega
 have g7:gq 0 (n:Int) rest.length=true:=by unfold gq; exact decide_eq_true (by omega)
 have g8:Nat.ble 1 rest.length=true:=Nat.ble_eq_true_of_le (by omega);have g9:iV 0 (n:Int)=n:=by unfold iV; omega
 have h1:gtI (Nat.cast (eX (gB (rest.take n))).es.length) 1024=false:=by
  show gtI (Nat.cast (je (gB (rest.take n)) 0).length) 1024=false;rw[wB]; unfold gtI; exact decide_eq_false (by omega)
 have h2:dO .i64 (bI rs) 1=bI rs+1:=by unfold dO; exact wrap64 (by omega) (by omega)
 have h3:gq (n:Int) (ag rest.length) rest.length=true:=by unfold gq ag; exact decide_eq_true (by omega)
 have z0:((0:Nat):Int)=0:=rfl;have z1:(eX []).es=[]:=rfl;have z2:(eX []).ck=0:=rfl;have z3:([]:List CmM).length=0:=rfl;have z4:ECm.all ([]:List CmM)=[]:=rfl;have z5:ag 0=0:=rfl;have e3:esz P 47=3:=by kernel_rfl
 by_cases hlast:n=rest.length
 ·have j1:Nat.ble (Nat.add n 1) rest.length=false:=by rw[Bool.eq_false_iff]; intro h; have:=Nat.le_of_ble_eq_true h; have:n+1<=rest.length:=this; omega
  have j2:Nat.beq n 0=false:=by rw[Bool.eq_false_iff]; intro h; have:=Nat.eq_of_beq_eq_true h; omega
  have j3:rest.drop n=[]:=List.drop_of_length_le (by omega);have j4:j_ P 0 0 (Nat.add 18446744073709551616 n) (ECm.all rest) 47=true:=by
   unfold j_;rw[ECm.all_nr,e3,Nat.ble_eq_true_of_le (show Nat.add 0 (Nat.mul 0 3)<=(ECm.all rest).length from Nat.zero_le _)];have:Rx 0 (Nat.add 18446744073709551616 n)=true:=by
    unfold Rx;split
    ·rfl
    ·rfl
   rw[this]; rfl
  rw[j3]at hro ⊢;simp (disch:=first | omega | (simp only[List.length_append,List.length_drop,List.length_take,List.length_singleton,Nat.add_eq,bg]<;>omega) | fail) only[bk_,cz_,dk_,dl_,dn_,fa_,fq_,io_,lb_,nb_,pt_,sl_,so_,tb_,w0_,ht.ren,hro.ren,hro2.ren,g1,g2,g3,g4,g5,g6,g7,g8,g9,h1,h2,h3,z0,z1,z2,z3,z4,z5,j1,j2,j4,KL,mpB,f1V,f2V,srF,srG,dI,rnB,srB,tbB,dkL,List.cons_append,List.nil_append,List.append_assoc,dJ,aB,dM,lsV,ptV,p0,aW,dkC,aJ,bG,cmV,dA,bQ,aN,dH,dB,dU,dE,dG,dF,cZ,dC,dw,dS,dn,ay,aC,aF,Enc.all_ren,ay rfl,aC rfl,aF rfl,aB rfl,aA,bC,aV,a_,aO,ah,aP,bu,Int.toNat_natCast,aQ,aG,bz,bK,b_,bJ,bP,dm,Bool.and_self,aK,aH,ax]
  rfl
 ·have j1:Nat.ble (Nat.add n 1) rest.length=true:=Nat.ble_eq_true_of_le (by show n+1<=_; omega);have j2:iV (n:Int) (ag rest.length)=(rest.drop n).length:=by unfold iV ag; rw[hdl]; omega
  have j3:atN (n:Int) 3=n*ECm.sz:=by show(n:Int).toNat*3=n*3; omega
  have j5:takeC (Nat.mul (rest.drop n).length 3) (bT (n*ECm.sz) (ECm.all rest))=ECm.all (rest.drop n):=by
   unfold takeC bT;rw[ECm.all_drop];exact ECm.all_self _
  have j4:j_ P (n*ECm.sz) (rest.drop n).length 18446744073709551616 (ECm.all rest) 47=true:=by
   unfold j_;rw[ECm.all_nr,e3,cZ,hdl,Nat.ble_eq_true_of_le (show Nat.add (n*ECm.sz) (Nat.mul (rest.length-n) 3)<=Nat.mul rest.length 3 by show n*3+(rest.length-n)*3<=rest.length*3; omega)]
   rfl
  simp (disch:=first | omega | (simp only[List.length_append,List.length_drop,List.length_take,List.length_singleton,Nat.add_eq,bg]<;>omega) | fail) only[bk_,cz_,dk_,dl_,dn_,fa_,fq_,io_,lb_,nb_,pt_,sl_,so_,tb_,w0_,ht.ren,hro.ren,hro2.ren,g1,g2,g3,g4,g5,g6,g7,g8,g9,h1,h2,h3,z0,z1,z2,z3,z4,z5,j1,j2,j3,j4,j5,KL,mpB,f1V,f2V,srF,srG,dI,rnB,srB,tbB,dkL,List.cons_append,List.nil_append,List.append_assoc,dJ,aB,dM,lsV,ptV,p0,aW,dkC,aJ,bG,cmV,dA,bQ,aN,dH,dB,dU,dE,dG,dF,cZ,dC,dw,dS,dn,ay,aC,aF,Enc.all_ren,ay rfl,aC rfl,aF rfl,aB rfl,aA,bC,aV,a_,aO,ah,aP,bu,Int.toNat_natCast,aQ,aG,bz,bK,b_,bJ,bP,dm,Bool.and_self,aK,aH,ax]
def ad_:Pol:=fun t=>match Nat.beq t 168 with
 |true=>some [.val, .val, .keep]
 |false=>au t
def Drl:HeadX:=⟨2,24,[0,3,11,12,13],[.val, .own, .keep, .val, .val],[0,158,0,0,0],ad_⟩
def Brl:Code:=(dR P 142 0).getD .skip
theorem TJ:dR P 142 0=some Brl:=by kernel_rfl
theorem OG:Occ P 142 (.block 0 (.loop Brl)):=fA TJ
def rlV(o:List RunM)(n:Nat)(i:Int):List Value:=[p0,lsV 8 o.length,lsV 7 n, .int .i64 (ag n), .int .i64 i]
def rlB(r:RnM)(o:List RunM):List Blk:=rnB r++[.cells (eF.all o) 161 false]
def WN(C1:List Value->List Blk->Bool)(c:RunM):Ct:=aT P au 0 167 (cu C1 (.leaf (qm c,[]))) ctF
theorem Td(C1:List Value->List Blk->Bool)(c:RunM)(r:RnM)(o:List RunM)(n:Nat)(i:Int):bV P E (WN C1 c) 50 142 Brl Drl (rlV o n i) (rlB r o) =
 (let z:=Nat.add 0 (atN i 3);let y:=Enc.all eF r.rs;let x:=Eta.int .i64;let w:=Nat.add z 1;let v:=aU y (Nat.add w 1);let u:=o.length;let t:=Nat.add u 1;let s:=Enc.all eF o;let q:=List.append (jR 0 s) [io_ c.a,io_ c.b,fa_ c.ops.length 0 (Enc.all EOp c.ops)];let p:=io_ (ag n);let m:=Blk.cells [pt_ 1, .bool r.br,sl_ 7 r.rs.length] 168 true;
 let l:=dk_ r.dk 2 3 4 5 6;let k:=ro_ [0,2,13,5,7,1,12,1];let j:=ro_ [0,2,10,5,7,1,9,1];
 (ak (ltI i (ag n)) (ae (inI i n) (ae (Bool.and (Nat.ble (Nat.add z 3) y.length) (iq [x,x, .slice 3] y z)) (ae (C1 [.agg ⟨[io_ (asI (aU y z)),io_ (asI (aU y w)),fa_ (zN v) (zB v) (zC v)]⟩] []) (ae (Nat.ble t 4194304) (ae (Nat.beq (Nat.add 0 (Nat.mul u 3)) s.length) (nb_ t 3 q (dn_ w0_ r.dk (some (.tuple ⟨[io_ 0,pt_ 0,sl_ 8 t,sl_ 7 n,p,io_ (dO .i64 i 1)]⟩,af (m::l::dl_ (cz_ k w0_) r.dk [.cells (aZ true k y) 161 false,lb_ k t 3 q 161])))))))))) (nb_ u 3 s (dn_ w0_ r.dk (some (.tuple ⟨[io_ 1,pt_ 0,sl_ 8 u,sl_ 7 n,p,io_ i]⟩,af (m::l::dl_ (cz_ j w0_) r.dk [.cells (aZ true j y) 161 false,lb_ j u 3 s 161]))))))):=by kernel_rfl
def Fg(l:List RunM):Value:=aX 3 l.length 0 (eF.all l)
theorem YA(C:List Value->List Blk->Bool)(r:RnM):dD P E (eY P 142 0 Drl (gX C (.leaf (.normal,rlV r.rs r.rs.length (ag r.rs.length),rlB r r.rs))) ctF) 50 au [.val] [158] 2 142 [p0] (rnB r) =
 (let z:=r.rs.length;let y:=Blk.cells [pt_ 1, .bool r.br,sl_ 7 z] 168 true;let x:=dk_ r.dk 2 3 4 5 6;let w:=ro_ [0,2,9,5,7,2];let v:=Enc.all eF r.rs;let u:=bH [0,1] 14;let t:=aZ true u v;let s:=bk_ u w0_;let q:=ro_ [0,2,22,5,21,1];
 (dn_ w0_ r.dk (ae (C [pt_ 0,sl_ 8 0,sl_ 7 z,io_ (ag z),io_ 0] (y::x::dl_ (cz_ w w0_) r.dk [.cells (aZ true w v) 161 false, .cells [] 161 false])) (ae (fq_ z t 161) (nb_ z 3 t (dn_ s r.dk (some (fa_ z 0 (takeC (Nat.mul z 3) (bT 0 t)),af (y::x::dl_ (cz_ q s) r.dk [lb_ q z 3 t 161]))))))))):=by kernel_rfl
theorem aan(C:List Value->List Blk->Bool)(s:StaM):dD P E (aT P au 2 142 (cu C (.leaf (Fg s.rs,rnB s.rn))) ctF) 50 au [] [] 7 58 [p0] (stB s) =
 (let z:=s.rs.length;let y:=Enc.all eF s.rs;let x:=bY 0 [3,1,18,19,20,21,22,17];let w:=s.log.length;let v:=Enc.all ECm s.log;let u:=bH [3,1] 23;let t:=bk_ u w0_;let r:=s.rn.dk;let q:=s.wcs.length;let p:=Enc.all ECm s.wcs;let o:=s.wes.length;let n:=Enc.all EIn s.wes;let m:=s.rn.rs.length;
 let l:=aZ true u (Enc.all eF s.rn.rs);let k:=s.rest.length;let j:=Enc.all ECm s.rest;let i:=ro_ [0,7,30,5,29,1,35,4];let h:=af (sb_ s s.pg 1 12 2 3 4::dk_ r 7 8 9 10 11::wb_ s 1 13 14:: .cells [pt_ 1, .bool s.rn.br,sl_ 15 m] 168 true::so_ 5 3 16 k::tb_ 6:: .map (bD true i s.tb.es) s.tb.ck::dl_ (cz_ i t) r [lb_ i w 3 v 47,lb_ i q 3 p 47,lb_ i o 1 n 3,lb_ i m 3 l 161,lb_ i k 3 j 47]);
 let g:=fH .i64 (ag z) 1;let f:=Nat.add (atN g 3) 1;
 (nb_ z 3 y (dn_ w0_ s.dk (ae (C [pt_ 0] (rb_ s 1 7::dk_ s.dk 2 3 4 5 6::dl_ (cz_ x w0_) s.dk [lb_ x z 3 y 161])) (ak (eqI (ag z) 0) (nb_ w 3 v (dn_ t r (nb_ q 3 p (nb_ o 1 n (nb_ m 3 l (nb_ k 3 j (some (io_ 0,h)))))))) (ae (Bool.and (Nat.beq 3 3) (inI g z)) (ae (Bool.and (Nat.ble (Nat.add f 1) y.length) (eu (.int .i64) (aU y f))) (nb_ w 3 v (dn_ t r (nb_ q 3 p (nb_ o 1 n (nb_ m 3 l (nb_ k 3 j (some (io_ (asI (aU y f)),h))))))))))))))):=by kernel_rfl
theorem Zv(C:List Value->List Blk->Bool)(p:PgM)(n:Int):dD P E (aT P au 0 71 (cu C (.leaf (.int .i64 0,[]))) ctF) 50 au [] [] 0 59 [pgV p, .int .i64 n] [] =
 (let z:=io_ 0;let y:=Value.int .u8 0;let x:=Value.agg ⟨[z,y,z,y,z,z]⟩;let w:=Value.bool false;let v:=af [];let u:=some (Value.tuple ⟨[x,w,io_ 2]⟩,v);
 (ae (C [pg_ p] []) (ak (geI n 0) (ak (fM (leI n 1048576)) u (ak (neI p.ro 1) (some (.tuple ⟨[x,w,io_ 15]⟩,v)) (ak (gtI n p.ac) (some (.tuple ⟨[.agg ⟨[io_ p.ep, .int .u8 p.ro,io_ n, .int .u8 p.ph,io_ p.fo,io_ p.ba]⟩, .bool true,z]⟩,v)) (some (.tuple ⟨[pg_ p,w,z]⟩,v))))) u))):=by kernel_rfl
theorem KN{l:List RunM}{i:Nat}(h:i<l.length):aU (eF.all l) (atN (i:Int) 3) = .int .i64 l[i].a:=by
 have e:atN (i:Int) 3=i*eF.sz+0:=by simp[atN]; rfl
 rw[e,eF.nth h (by decide)]; rfl
theorem KH{l:List RunM}{i:Nat}(h:i<l.length):aU (eF.all l) (Nat.add (Nat.add (atN (i:Int) 3) 1) 1)=aX 3 l[i].ops.length 0 (EOp.all l[i].ops):=by
 have e:Nat.add (Nat.add (atN (i:Int) 3) 1) 1=i*eF.sz+2:=by simp[atN]; rfl
 rw[e,eF.nth h (by decide)]; rfl
theorem GZ{l:List RunM}{i:Nat}(h:i<l.length):iq [.int .i64, .int .i64, .slice 3] (eF.all l) (atN (i:Int) 3)=true:=by
 show and (eu (.int .i64) (aU (eF.all l) (atN (i:Int) 3))) (and (eu (.int .i64) (aU (eF.all l) (Nat.add (atN (i:Int) 3) 1))) (and (eu (.slice 3) (aU (eF.all l) (Nat.add (Nat.add (atN (i:Int) 3) 1) 1))) true))=true;rw[KN h,DR h,KH h];simp only[eu,En (s:=3) (by decide)]
 rfl
theorem acG{l:List RunM}{n:Nat}(h:n=l.length):j_ P 0 n 18446744073709551616 (eF.all l) 161=true:=by
 subst h;have he:esz P 161=3:=by kernel_rfl
 unfold j_;rw[he,eF.all_nr,eF.all_length];have h2:Nat.ble (Nat.add 0 (Nat.mul l.length 3)) (l.length*eF.sz)=true:=Nat.ble_eq_true_of_le (by show 0+l.length*3<=l.length*3; omega);rw[h2]; rfl
theorem WL{r:RnM}{o:List RunM}{i:Nat}(hi:i<r.rs.length)(hl:r.rs.length<4194304)(ho:o.length<4194300) :
  bV P E (WN (bM [qm r.rs[i]] []) r.rs[i]) 50 142 Brl Drl (rlV o r.rs.length i) (rlB r o)=some (.tuple ⟨exV .normal::rlV (o++[r.rs[i]]) r.rs.length ((i+1:Nat):Int)⟩,af (rlB r (o++[r.rs[i]]))):=by
 obtain⟨g1,g2,a1⟩:=iM hi hl;have g4:=GZ hi;have h1:(o++[r.rs[i]]).length=Nat.add o.length 1:=by simp
 rw[Td];simp (disch:=first | omega | (simp only[List.length_append,List.length_drop,List.length_take,List.length_singleton,Nat.add_eq,bg]<;>omega) | fail) only[cz_,dk_,dl_,dn_,fa_,io_,lb_,nb_,pt_,sl_,w0_,g1,g2,a1,g4,iG hi (Nat.le_refl 3),KN hi,DR hi,KH hi,jI,(zF _ _ _).1,(zF _ _ _).2.1,(zF _ _ _).2.2,rlV,rlB,qm,h1,Ym,dI,rnB,srB,tbB,dkL,List.cons_append,List.nil_append,List.append_assoc,dJ,aB,dM,lsV,ptV,p0,aW,dkC,aJ,bG,cmV,dA,bQ,aN,dH,dB,dU,dE,dG,dF,cZ,dC,dw,dS,dn,ay,aC,aF,Enc.all_ren,ay rfl,aC rfl,aF rfl,aB rfl,aB h1.symm,aA,bC,aV,a_,aO,ah,aP,bu,Int.toNat_natCast,aQ,aG,bz,bK,b_,bJ,bP,dm,Bool.and_self,aK,aH,ax]
 rfl
theorem ac9{r:RnM}{C:List Value->List Blk->Bool}{c:RunM}{o:List RunM} :
  bV P E (WN C c) 50 142 Brl Drl (rlV o r.rs.length r.rs.length) (rlB r o)=some (.tuple ⟨exV (.exit 0)::rlV o r.rs.length r.rs.length⟩,af (rlB r o)):=by
 rw[Td];simp only[cz_,dk_,dl_,dn_,fa_,io_,lb_,nb_,pt_,sl_,w0_,kJ,rlV,rlB,dI,rnB,srB,tbB,dkL,List.cons_append,List.nil_append,List.append_assoc,dJ,aB,dM,lsV,ptV,p0,aW,dkC,aJ,bG,cmV,dA,bQ,aN,dH,dB,dU,dE,dG,dF,cZ,dC,dw,dS,dn,ay,aC,aF,Enc.all_ren,ay rfl,aC rfl,aF rfl,aB rfl,aA,bC,aV,a_,aO,ah,aP,bu,Int.toNat_natCast,aQ,aG,bz,bK,b_,bJ,bP,dm,Bool.and_self,aK,aH,ax]
 rfl
theorem Pi{r:RnM}(hl:r.rs.length<4194300)(hc:∀ c∈r.rs,1<=c.ops.length/\c.ops.length<=4194304):∀ (k i:Nat),i+k=r.rs.length->
  LRX P 142 0 Brl Drl.head (rlV (r.rs.take i) r.rs.length i) (rlB r (r.rs.take i)) .normal (rlV r.rs r.rs.length r.rs.length) (rlB r r.rs)
 |0,i,h=>by
  obtain rfl:i=r.rs.length:=by omega
  rw[List.take_length];exact LRX.stop (n:=50) (bf _) az (aj (pol:=au) bn (jw (r:= .leaf (qm ⟨0,0,[]⟩,[])))) OG (e:= .exit 0) (ac9 (C:=fun _ _=>false) (c:=⟨0,0,[]⟩)) (by intro h; cases h)
 |k+1,i,h=>by
  have hi:i<r.rs.length:=by omega
  obtain⟨b1,b2⟩:=hc _ (List.getElem_mem hi);have q:=WL (o:=r.rs.take i) hi (by omega) (by rw[List.length_take]; omega);have e:r.rs.take i++[r.rs[i]]=r.rs.take (i+1):=by rw[List.take_succ_eq_append_getElem hi]
  rw[e]at q;exact LRX.again (n:=50) (bf _) az (aj (pol:=au) bn (bF (Oh b1 b2))) OG q (Pi hl hc k (i+1) (by omega))
theorem Y5{r:RnM}(hl:r.rs.length<4194300)(hc:∀ c∈r.rs,1<=c.ops.length/\c.ops.length<=4194304):CRX P 2 142 [p0] (rnB r) (Fg r.rs) (rnB r):=by
 have q1:=Pi hl hc r.rs.length 0 (by omega);refine CRX.of (pol:=au) (fl:=[.val]) (ts:=[158]) (n:=50) (bf _) az (dV bn (fG (dL TJ) q1)) ((YA (bM (rlV (r.rs.take 0) r.rs.length (0:Nat)) (rlB r (r.rs.take 0))) r).trans ?_);clear q1;have z0:((0:Nat):Int)=0:=rfl;have e0:(eF.all ([]:List RunM))=[]:=rfl;have e1:([]:List RunM).length=0:=rfl;simp (disch:=first | omega | (simp only[List.length_append,List.length_drop,List.length_take,List.length_singleton,Nat.add_eq,bg]<;>omega) | fail) only[bk_,cz_,dk_,dl_,dn_,fa_,fq_,io_,lb_,nb_,pt_,sl_,w0_,z0,e0,e1,List.take_zero,acG rfl,Fg,rlV,rlB,dI,rnB,srB,tbB,dkL,List.cons_append,List.nil_append,List.append_assoc,dJ,aB,dM,lsV,ptV,p0,aW,dkC,aJ,bG,cmV,dA,bQ,aN,dH,dB,dU,dE,dG,dF,cZ,dC,dw,dS,dn,ay,aC,aF,Enc.all_ren,ay rfl,aC rfl,aF rfl,aB rfl,aA,bC,aV,a_,aO,ah,aP,bu,Int.toNat_natCast,aQ,aG,bz,bK,b_,bJ,bP,dm,Bool.and_self,aK,aH,ax]
theorem aaK{s:StaM}(ht:fJ s.tb)(hl:s.rs.length<4194300)(hc:∀ c∈s.rs,1<=c.ops.length/\c.ops.length<=4194304):CRX P 7 58 [p0] (stB s) (.int .i64 (bI s.rs)) (stB s):=by
 have q1:=Y5 (r:=s.rn) hl hc;refine CRX.of (pol:=au) (fl:=[]) (ts:=[]) (n:=50) (bf _) az (aj (pol:=au) bn (bF q1)) ((aan (bM [p0] (rnB s.rn)) s).trans ?_);clear q1;by_cases h0:s.rs=[]
 ·have g0:eqI (ag s.rs.length) 0=true:=by rw[h0]; rfl
  have g6:bI s.rs=0:=by rw[h0]; rfl
  simp (disch:=first | omega | (simp only[List.length_append,List.length_drop,List.length_take,List.length_singleton,Nat.add_eq,bg]<;>omega) | fail) only[bk_,cz_,dk_,dl_,dn_,io_,lb_,nb_,pt_,rb_,sb_,sc_,sl_,so_,tb_,w0_,wb_,ht.ren,g0,g6,Fg,StaM.rn,stB,pgC,dI,rnB,srB,tbB,dkL,List.cons_append,List.nil_append,List.append_assoc,dJ,aB,dM,lsV,ptV,p0,aW,dkC,aJ,bG,cmV,dA,bQ,aN,dH,dB,dU,dE,dG,dF,cZ,dC,dw,dS,dn,ay,aC,aF,Enc.all_ren,ay rfl,aC rfl,aF rfl,aB rfl,aA,bC,aV,a_,aO,ah,aP,bu,Int.toNat_natCast,aQ,aG,bz,bK,b_,bJ,bP,dm,Bool.and_self,aK,aH,ax]
 ·obtain⟨g0,_,g1,g2⟩:=nR h0 (by omega);have hp:=List.length_pos_iff.2 h0;have g4:=DR (l:=s.rs) (i:=s.rs.length-1) (by omega);have g5:Nat.ble (Nat.add (Nat.add (atN ((s.rs.length-1:Nat):Int) 3) 1) 1) (Nat.mul s.rs.length 3)=true:=oW (k:=2) hp (by decide);have g6:bI s.rs=(s.rs[s.rs.length-1]'(by omega)).b:=by unfold bI; rw[last_at s.rs h0]; rfl
  simp (disch:=first | omega | (simp only[List.length_append,List.length_drop,List.length_take,List.length_singleton,Nat.add_eq,bg]<;>omega) | fail) only[bk_,cz_,dk_,dl_,dn_,io_,lb_,nb_,pt_,rb_,sb_,sc_,sl_,so_,tb_,w0_,wb_,ht.ren,g0,g1,g2,g4,g5,sG,jI,g6,Fg,StaM.rn,stB,pgC,dI,rnB,srB,tbB,dkL,List.cons_append,List.nil_append,List.append_assoc,dJ,aB,dM,lsV,ptV,p0,aW,dkC,aJ,bG,cmV,dA,bQ,aN,dH,dB,dU,dE,dG,dF,cZ,dC,dw,dS,dn,ay,aC,aF,Enc.all_ren,ay rfl,aC rfl,aF rfl,aB rfl,aA,bC,aV,a_,aO,ah,aP,bu,Int.toNat_natCast,aQ,aG,bz,bK,b_,bJ,bP,dm,Bool.and_self,aK,aH,ax]
def PgM.acked(p:PgM)(n:Int):PgM:=bif gtI n p.ac then { p with ac:=n }else p
theorem aaU{p:PgM}{n:Int}(hp:pgE p=0)(hro:p.ro=1)(hn:0<=n/\n<=1048576):CRX P 0 59 [pgV p, .int .i64 n] [] (.tuple ⟨[pgV (p.acked n), .bool (gtI n p.ac), .int .i64 0]⟩) []:=by
 have q:=uq p;rw[hp]at q;refine CRX.of (pol:=au) (fl:=[]) (ts:=[]) (n:=50) (bf _) az (aj (pol:=au) bn (bF q)) ((Zv (bM [pgV p] []) p n).trans ?_);clear q;have g1:geI n 0=true:=by unfold geI; exact decide_eq_true hn.1
 have g2:leI n 1048576=true:=by unfold leI; exact decide_eq_true hn.2
 have g3:neI p.ro 1=false:=by rw[hro]; rfl
 unfold PgM.acked;cases h:gtI n p.ac with
 |true=>simp only[io_,pg_,g1,g2,g3,h,cond_true,pgV,pgC,aN,ax,aK,aH,show fM true=false from rfl,show fM false=true from rfl]
 |false=>simp only[io_,pg_,g1,g2,g3,h,cond_false,pgV,pgC,aN,ax,aK,aH,show fM true=false from rfl,show fM false=true from rfl]


def ESa:Enc (Int×Int) where
 sz:=2
 f n:=[.int .i64 n.1, .int .i64 n.2]
 len _:=rfl
 pos:=by decide
 inj a b h:=by
  obtain⟨a1,a2⟩:=a;obtain⟨b1,b2⟩:=b;simpa using h
 nr _:=rfl


structure MsgM where
 k:Int
 e:Int
 ro:Int
 en:Int
 st:List (Int×Int)
 fr:Int
 pv:Int
 cs:List CmM
def lD(l:List (Int×Int)):Value:=aX 2 l.length 0 (ESa.all l)
def mV(m:MsgM):Value:= .agg ⟨[.int .i64 m.k, .int .i64 m.e, .int .u8 m.ro, .int .i64 m.en,lD m.st, .int .i64 m.fr, .int .i64 m.pv,bG m.cs]⟩
def me_(m:MsgM):Value:=(Value.agg (Array.mk [(Value.int IntKind.i64 (MsgM.k m)),(Value.int IntKind.i64 (MsgM.e m)),(Value.int IntKind.u8 (MsgM.ro m)),(Value.int IntKind.i64 (MsgM.en m)),(Value.iface 18446744073709551618 (Value.agg (Array.mk ((Value.slice none (List.length (MsgM.st m)) 0)::(Enc.all ESa (MsgM.st m)))))),(Value.int IntKind.i64 (MsgM.fr m)),(Value.int IntKind.i64 (MsgM.pv m)),(Value.iface 18446744073709551619 (Value.agg (Array.mk ((Value.slice none (List.length (MsgM.cs m)) 0)::(Enc.all ECm (MsgM.cs m))))))]))
def adX(C1 C2:List Value->List Blk->Bool)(b1 b2:Bool):Ct:=aT P au 0 92 (cu C1 (.leaf (.bool b1,[]))) (aT P au 0 93 (cu C2 (.leaf (.bool b2,[]))) ctF)
theorem ac6(C1 C2:List Value->List Blk->Bool)(b1 b2:Bool)(m:MsgM):dD P E (adX C1 C2 b1 b2) 50 au [] [] 0 48 [mV m] [] =
 (let z:=eqI m.k 1;let y:=leI m.e 1048576;let x:=some (io_ 2,af []);let w:=some (io_ 0,af []);let v:=eqI m.k 2;let u:=eqI m.k 3;
 (ak (geI m.e 1) (ak z (ak y (ae (C1 [me_ m] []) (ak (fM b1) x w)) x) (ak v (ak y (ae (C2 [me_ m] []) (ak (fM b2) x w)) x) (ak u (ak y (ak (geI m.en 0) (ak (leI m.en 1048576) (ak (eqI m.ro 0) (ak (eqI (ag m.st.length) 0) (ak (eqI m.fr 0) (ak (eqI m.pv 0) (ak (fM (eqI (ag m.cs.length) 0)) x w) x) x) x) x) x) x) x) x))) (ak z x (ak v x (ak u x x))))):=by kernel_rfl




theorem kN(n b:Nat)(c:List Value):aX 2 n b c = .iface 18446744073709551618 (.agg ⟨.slice none n b::c⟩):=by unfold aX; rw[show FZ+2=18446744073709551618 from by unfold FZ; rfl]
def aec(en:Int)(x:Int×Int)(i:Nat)(s:Int×Int):Bool:=leI s.1 x.1 || (gtI s.1 1048576 || (leI s.2 x.2 || (gtI s.2 en || (eqI (i:Int) 0&&neI s.2 1))))
def scM(en:Int):Int×Int->Nat->List (Int×Int)->Bool
 |_,_,[]=>true
 |x,i,s::r=>match aec en x i s with
  |true=>false
  |false=>scM en s (i+1) r
def scE(l:List (Int×Int))(en:Int):Int:=match ltI en 0,gtI en 1048576,fM (eqB (eqI (ag l.length) 0) (eqI en 0)),scM en (0,0) 0 l with
 |false,false,false,true=>0
 |_,_,_,_=>5



def WZ(K:Int->Int->Nat->Nat->Nat->List Value->Bool)(X:Int->Int->List Value->List UInt8):iW:=fun args bs=>match args,bs with
 |[.agg ⟨[.int .i64 e, .int .i64 n, .iface t (.agg ⟨.slice none k b::c⟩)]⟩],[]=>some (.ite (K e n t k b c) (.leaf (.tuple ⟨[aX 1 (X e n c).length 0 (bc (X e n c)), .int .i64 0]⟩,[])) .fail)
 |_,_=>none
def lg_(V:Nat->List UInt8)(C:Int->Bool)(W:Nat)(u:List Value)(s:Int)(n:Nat)(x:List UInt8->Res):Res:=ae (fq_ W u 5) (ae (Bool.and (fw_ W (takeC (Nat.mul W 1) (bT 0 u))) (C s)) (x ((takeC (Nat.mul W 1) (bT 0 u)).map byteOf++V n)))
def le_(V:Nat->List UInt8)(C:Int->Bool)(k:Nat)(w:List UInt8)(s:Int)(n:Nat)(x:List UInt8->Res):Res:=lg_ V C w.length (aZ false (fF k) (bc w)) s n x
def acO(V:Nat->List UInt8)(C:Int->Bool)(C1:List Value->List Blk->Bool)(K:Int->Int->Nat->Nat->Nat->List Value->Bool)(X:Int->Int->List Value->List UInt8):Ct:=
 aT P au 0 48 (cu C1 (.leaf (.int .i64 0,[]))) (aT P au 0 51 (WZ K X) (nO P 50 (kG P 50 (sK V C) ctF)))
def aek(k e ro en:Int)(ns:Nat)(st:List Value)(fr pv:Int)(nc:Nat)(cs:List Value):Value:= .agg ⟨[.int .i64 k, .int .i64 e, .int .u8 ro, .int .i64 en,aX 2 ns 0 st, .int .i64 fr, .int .i64 pv,aX 3 nc 0 cs]⟩
theorem aam(V:Nat->List UInt8)(C:Int->Bool)(C1:List Value->List Blk->Bool)(K:Int->Int->Nat->Nat->Nat->List Value->Bool)(X:Int->Int->List Value->List UInt8)(e en:Int):dD P E (acO V C C1 K X) 50 au [.val, .val] [57,0] 0 21 [aek 3 e 0 en 0 [] 0 0 0 []] [] =
 (let z:=io_ 0;let y:=cvI .u64 e;let x:=cvI .u64 en;
 (ae (C1 [.agg ⟨[io_ 3,io_ e, .int .u8 0,io_ en,fc_ 0 0 [],z,z,fa_ 0 0 []]⟩] []) (ae (Bool.and (fw_ 0 []) (C 3)) (le_ V C 3 (HAppend.hAppend [] (V 3)) y (Int.toNat y) (fun b2_=>le_ V C 4 b2_ x (Int.toNat x) (fun b1_=>ae (fq_ (List.length b1_) (aZ false (fF 6) (bc b1_)) 5) (some (.tuple ⟨[fb_ (List.length b1_) 0 (takeC (Nat.mul (List.length b1_) 1) (bT 0 (aZ false (fF 6) (bc b1_)))),z]⟩,af [])))))))):=by kernel_rfl
def lrB(l:List UInt8)(b:Nat)(bad:Bool):List Blk:=[.cells [aX 1 l.length b (bc l), .bool bad] 148 true]
theorem aaW(C:List UInt8->Int->Bool)(X N:List UInt8->Int)(l:List UInt8)(b:Nat)(m:Int):dD P E (Xv C X N) 50 au [] [] 1 97 [p0, .int .i64 m] (lrB l b false) =
 (let z:=l.length;let y:=List.map byteOf (bc l);let x:=N y;let w:=iV x (ag z);
 (ae (Bool.and (fw_ z (bc l)) (C y m)) (ae (Bool.and (Nat.beq 1 1) (gq x (ag z) z)) (some (io_ (X y),af [.cells [fb_ w (zT b (Int.toNat x)) (takeC (Nat.mul w 1) (bT (atN x 1) (bc l))), .bool false] 148 true]))))):=by kernel_rfl
def Wl(C:List UInt8->Int->Bool)(X:List UInt8->Int)(R:List UInt8->List UInt8):iW:=fun args bs=>match args,bs with
 |[.pointer (some ⟨0,0,none⟩), .int .i64 m],[.cells [.iface t (.agg ⟨.slice none n b::c⟩), .bool bd] ty true]=>some (.ite (fzB t n c&&Nat.beq b 0&&Nat.beq ty 148&&!bd&&C (c.map byteOf) m) (.leaf (.int .i64 (X (c.map byteOf)),[.cells [aX 1 (R (c.map byteOf)).length 0 (bc (R (c.map byteOf))), .bool false] ty true])) .fail)
 |_,_=>none
def abC:Pol:=fun t=>match Nat.beq t 56 with
 |true=>some [.val, .val, .val, .val, .own, .val, .val, .own]
 |false=>au t
def VN:MsgM:=⟨0,0,0,0,[],0,0,[]⟩
def deV(n:Int):List Value:=[ptV 0,ptV 1,ptV 2, .int .i64 n]
def Dd1:HeadX:=⟨3,102,[2,4,5,6],[.val, .val, .val, .val],[0,0,0,0],abC⟩
def Bd1:Code:=(dR P 53 1).getD .skip
theorem ady:dR P 53 1=some Bd1:=by kernel_rfl
def Dd3:HeadX:=⟨3,102,[2,4,5,7],[.val, .val, .val, .val],[0,0,0,0],abC⟩
def Bd3:Code:=(dR P 53 3).getD .skip
theorem ac8:dR P 53 3=some Bd3:=by kernel_rfl
def yD:Pol:=fun t=>match Nat.beq t 56 with
 |true=>some [.val, .val, .val, .val, .val, .val, .val, .val]
 |false=>au t
def mgV(m:MsgM):List Value:=[.int .i64 m.k, .int .i64 m.e, .int .u8 m.ro, .int .i64 m.en,lD m.st, .int .i64 m.fr, .int .i64 m.pv,bG m.cs]
def deX(l:List UInt8)(m:MsgM):List Blk:=[.cells (mgV VN) 56 true]++lrB l 0 false++[.cells (mgV m) 56 true]
def abK(C:List UInt8->Int->Bool)(X:List UInt8->Int)(R:List UInt8->List UInt8)(C1 C3 C4:List Value->List Blk->Bool)(m1 m3:MsgM):Ct:=aT P au 1 97 (Wl C X R) (eY P 53 1 Dd1 (gX C1 (.leaf (.normal,deV 0,deX [] m1))) (eY P 53 3 Dd3 (gX C3 (.leaf (.normal,deV 0,deX [] m3))) (aT P yD 0 48 (cu C4 (.leaf (.int .i64 0,[]))) ctF)))
theorem aaE(C1:List Value->List Blk->Bool)(e kn:Int)(m:MsgM):dD P E (aT P au 0 48 (cu C1 (.leaf (.int .i64 0,[]))) ctF) 50 au [] [] 0 99 [.int .i64 e, .int .i64 kn,mV m] [] =
 (let z:=io_ 0;let y:=Value.bool false;let x:=af [];let w:=eqI m.k 3;let v:=Value.bool true;let u:=some (Value.tuple ⟨[io_ m.en,v,z]⟩,x);let t:=ak (gtI m.en 0) u (some (.tuple ⟨[z,v,z]⟩,x));let s:=eqI m.k 1;let r:=eqI m.ro 2;let q:=some (Value.tuple ⟨[z,y,z]⟩,x);let p:=ak (gtI m.en kn) u (some (.tuple ⟨[io_ kn,v,z]⟩,x));
 let o:=some (Value.tuple ⟨[io_ kn,y,z]⟩,x);
 (ae (C1 [me_ m] []) (ak (ltI m.e e) (some (.tuple ⟨[z,y,io_ 12]⟩,x)) (ak (gtI m.e e) (some (.tuple ⟨[z,y,io_ 2]⟩,x)) (ak (gtI 0 kn) (ak w t (ak s (ak r t q) q)) (ak w p (ak s (ak r p o) o))))))):=by kernel_rfl
theorem Zo(en ac mo:Int):dD P E ctF 50 au [] [] 0 36 [.int .i64 en, .int .i64 ac, .int .i64 mo] [] =
 (let z:=af [];let y:=some (io_ 2,z);
 (ak (ltI mo 1) y (ak (gtI mo 16) y (ak (ltI en 0) y (ak (gtI en 1048576) y (ak (ltI ac 0) y (ak (gtI ac en) y (ak (geI (fH .i64 en ac) mo) (some (io_ 8,z)) (ak (eqI en 1048576) y (some (io_ 0,z))))))))))):=by kernel_rfl
theorem Z4(en ac to:Int):dD P E ctF 50 au [] [] 0 100 [.int .i64 en, .int .i64 ac, .int .i64 to] [] =
 (let z:=io_ 0;let y:=af [];let x:=some (Value.tuple ⟨[z,io_ 2]⟩,y);let w:=some (Value.tuple ⟨[io_ ac,z]⟩,y);
 (ak (ltI en 0) x (ak (gtI en 1048576) x (ak (ltI ac 0) x (ak (gtI ac en) x (ak (ltI en to) (ak (gtI en ac) (some (.tuple ⟨[io_ en,z]⟩,y)) w) (ak (gtI to ac) (some (.tuple ⟨[io_ to,z]⟩,y)) w))))))):=by kernel_rfl
def ofS(o:List (Int×Int))(c:CmM):List (Int×Int):=match o.getLast? with
 |none=>o++[(c.e,c.n)]
 |some s=>match eqI s.1 c.e with
  |true=>o
  |false=>o++[(c.e,c.n)]
def ofG(o:List (Int×Int))(l:List CmM):List (Int×Int):=l.foldl ofS o
theorem ZE{l:List CmM}{e n:Int}{i:Nat}(hf:jJ e n i l=(0,0)):∀ c∈l,1<=c.ops.length/\c.ops.length<=8:=fun c hc=>by
 obtain⟨_,_,hb⟩:=lZ.1 (BL hf c hc);obtain⟨b1,b2,b3⟩:=jc.1 hb;exact⟨b1,b2⟩
theorem Pg{en ac mo:Int}(hm:1<=mo/\mo<=16)(hn:0<=ac/\ac<=en/\en<1048576):CRX P 0 36 [.int .i64 en, .int .i64 ac, .int .i64 mo] [] (.int .i64 (bif decide (mo<=en-ac)then 8 else 0)) []:=by
 refine CRX.of (pol:=au) (fl:=[]) (ts:=[]) (n:=50) (bf _) az bn ((Zo en ac mo).trans ?_);have g1:ltI mo 1=false:=by unfold ltI; exact decide_eq_false (by omega)
 have g2:gtI mo 16=false:=by unfold gtI; exact decide_eq_false (by omega)
 have g3:ltI en 0=false:=by unfold ltI; exact decide_eq_false (by omega)
 have g4:gtI en 1048576=false:=by unfold gtI; exact decide_eq_false (by omega)
 have g5:ltI ac 0=false:=by unfold ltI; exact decide_eq_false (by omega)
 have g6:gtI ac en=false:=by unfold gtI; exact decide_eq_false (by omega)
 have g7:eqI en 1048576=false:=by unfold eqI; exact decide_eq_false (by omega)
 have g8:geI (fH .i64 en ac) mo=decide (mo<=en-ac):=by unfold geI fH; rw[wrap64 (by omega) (by omega)]
 simp only[io_,g1,g2,g3,g4,g5,g6,g7,g8,aH];cases decide (mo<=en-ac)<;>rfl
theorem YJ{en ac to:Int}(hn:0<=ac/\ac<=en/\en<=1048576):CRX P 0 100 [.int .i64 en, .int .i64 ac, .int .i64 to] [] (.tuple ⟨[.int .i64 (max ac (min to en)), .int .i64 0]⟩) []:=by
 refine CRX.of (pol:=au) (fl:=[]) (ts:=[]) (n:=50) (bf _) az bn ((Z4 en ac to).trans ?_);have g3:ltI en 0=false:=by unfold ltI; exact decide_eq_false (by omega)
 have g4:gtI en 1048576=false:=by unfold gtI; exact decide_eq_false (by omega)
 have g5:ltI ac 0=false:=by unfold ltI; exact decide_eq_false (by omega)
 have g6:gtI ac en=false:=by unfold gtI; exact decide_eq_false (by omega)
 simp only[io_,g3,g4,g5,g6,aH];by_cases h:en<to
 ·have h1:ltI en to=true:=by unfold ltI; exact decide_eq_true h
  by_cases h2:ac<en
  ·have h3:gtI en ac=true:=by unfold gtI; exact decide_eq_true h2
   simp only[io_,h1,h3,aK];rw[show max ac (min to en)=en by omega]
  ·have h3:gtI en ac=false:=by unfold gtI; exact decide_eq_false (by omega)
   simp only[io_,h1,h3,aK,aH];rw[show max ac (min to en)=ac by omega]
 ·have h1:ltI en to=false:=by unfold ltI; exact decide_eq_false h
  by_cases h2:ac<to
  ·have h3:gtI to ac=true:=by unfold gtI; exact decide_eq_true h2
   simp only[io_,h1,h3,aK,aH];rw[show max ac (min to en)=to by omega]
  ·have h3:gtI to ac=false:=by unfold gtI; exact decide_eq_false (by omega)
   simp only[io_,h1,h3,aH];rw[show max ac (min to en)=ac by omega]
def tells(m:MsgM):Bool:=eqI m.k 3 || (eqI m.k 1&&eqI m.ro 2)
theorem aax{e kn:Int}{m:MsgM}(hm:m.e=e)(q:CRX P 0 48 [mV m] [] (.int .i64 0) []) :
  CRX P 0 99 [.int .i64 e, .int .i64 kn,mV m] [] (.tuple ⟨[.int .i64 (bif tells m then max (max kn 0) m.en else max kn 0), .bool (tells m), .int .i64 0]⟩) []:=by
 refine CRX.of (pol:=au) (fl:=[]) (ts:=[]) (n:=50) (bf _) az (aj (pol:=au) bn (bF q)) ((aaE (bM [mV m] []) e kn m).trans ?_);have g1:ltI m.e e=false:=by unfold ltI; exact decide_eq_false (by omega)
 have g2:gtI m.e e=false:=by unfold gtI; exact decide_eq_false (by omega)
 simp only[io_,me_,g1,g2,mV,lD,kN,bG,bQ,aN,ax,aH];clear q;have k1:(gtI 0 kn=true/\max kn 0=0)\/(gtI 0 kn=false/\max kn 0=kn):=by
  by_cases h:kn<0
  ·exact Or.inl ⟨by unfold gtI; exact decide_eq_true h,by omega⟩
  ·exact Or.inr ⟨by unfold gtI; exact decide_eq_false h,by omega⟩
 have k2:∀ x:Int,(gtI m.en x=true/\max x m.en=m.en)\/(gtI m.en x=false/\max x m.en=x):=fun x=>by
  by_cases h:x<m.en
  ·exact Or.inl ⟨by unfold gtI; exact decide_eq_true h,by omega⟩
  ·exact Or.inr ⟨by unfold gtI; exact decide_eq_false h,by omega⟩
 unfold tells;rcases k1 with⟨a1,a2⟩ | ⟨a1,a2⟩
 ·rw[a2];rcases k2 0 with⟨b1,b2⟩ | ⟨b1,b2⟩<;>rw[b2]<;>cases eqI m.k 3<;>cases eqI m.k 1<;>cases eqI m.ro 2<;>simp only[io_,me_,a1,b1,aK,aH,Bool.or_true,Bool.true_or,Bool.or_false,Bool.false_or,Bool.and_true,Bool.true_and,Bool.and_false,Bool.false_and,cond_true,cond_false]
 ·rw[a2];rcases k2 kn with⟨b1,b2⟩ | ⟨b1,b2⟩<;>rw[b2]<;>cases eqI m.k 3<;>cases eqI m.k 1<;>cases eqI m.ro 2<;>simp only[io_,me_,a1,b1,aK,aH,Bool.or_true,Bool.true_or,Bool.or_false,Bool.false_or,Bool.and_true,Bool.true_and,Bool.and_false,Bool.false_and,cond_true,cond_false]
theorem FY{e en:Int}(he:1<=e/\e<=1048576)(hn:0<=en/\en<=1048576):CRX P 0 48 [mV ⟨3,e,0,en,[],0,0,[]⟩] [] (.int .i64 0) []:=by
 refine CRX.of (pol:=au) (fl:=[]) (ts:=[]) (n:=50) (bf _) az (aj (pol:=au) (aj (pol:=au) bn (jw (r:= .leaf (.bool false,[])))) (jw (r:= .leaf (.bool false,[])))) ((ac6 (fun _ _=>false) (fun _ _=>false) false false ⟨3,e,0,en,[],0,0,[]⟩).trans ?_);have g1:geI e 1=true:=by unfold geI; exact decide_eq_true (by omega)
 have g2:leI e 1048576=true:=by unfold leI; exact decide_eq_true (by omega)
 have g3:geI en 0=true:=by unfold geI; exact decide_eq_true (by omega)
 have g4:leI en 1048576=true:=by unfold leI; exact decide_eq_true (by omega)
 simp only[io_,me_,g1,g2,g3,g4,aK]
 rfl
/-- May a hello be? -/
structure HelOk(e ro en:Int)(st:List (Int×Int)):Prop where
 he:1<=e/\e<=1048576
 hr:1<=ro/\ro<=3
 hs:scE st en=0
 hn:st.length<4194304
 hl:st≠[]->((st[st.length-1]?).getD (0,0)).1<=e
/-- May a ship be? -/
structure ShpOk(e fr pv:Int)(cs:List CmM):Prop where
 he:1<=e/\e<=1048576
 hf:1<=fr/\fr<=1048576
 hp:0<=pv/\pv<=e
 fp:pv=0↔fr=1
 hn:cs.length<=4
 fol:jJ pv (fr-1) 0 cs=(0,0)
 hl:∀ c∈cs,c.e<=e
def enK(e n:Int)(t k b:Nat)(c:List Value):Bool:=cmK t k b c&&eqI (cmR e n c) 0
def enX(e n:Int)(c:List Value):List UInt8:=jd ⟨e,n,EOp.dec c⟩
theorem ab4:CallOkX P 0 51 (WZ enK enX):=⟨fun args bs t hR v bs' hev=>by
 unfold WZ at hR;split at hR
 ·rename_i e n t0 k b c;obtain rfl:=Option.some.inj hR;cases hc:enK e n t0 k b c with
  |false=>rw[hc]at hev; cases hev
  |true=>
   rw[hc]at hev;unfold enK cmK at hc;simp only[Bool.and_eq_true,Gv]at hc;obtain⟨⟨hc,rfl⟩,h0⟩:=hc;obtain⟨l,h1,rfl,rfl,h2,h3⟩:=EOp.fz_of hc;have h1:t0=FZ+3:=h1;subst h1;have h4:cmE ⟨e,n,l⟩=0:=by
    unfold cmR eqI at h0;rw[h3]at h0;exact of_decide_eq_true h0
   simp only[DT.eval,Option.some.injEq,Prod.mk.injEq,enX,h3]at hev;obtain⟨rfl,rfl⟩:=hev;exact O5 (c:=⟨e,n,l⟩) h4
 ·cases hR⟩
theorem YR{m:MsgM}(q:CRX P 0 48 [mV m] [] (.int .i64 0) []):CtOk P (acO dP jK (bM [mV m] []) enK enX):=aj (pol:=au) (aj (pol:=au) (mF (g:=50) (ji bn tC)) ab4) (bF q)
theorem aeF:fzB 18446744073709551617 0 []=true:=by rw[<-fz1]; exact wZ (l:=[]) rfl (by simp)
theorem Xw(n:Nat)(h:n<=1073741824):jK (n:Int)=true:=jk (by omega) (by omega)
def nB(x:Int):List UInt8:=dP x.toNat
def yA(e en:Int):List UInt8:=dP 3++(nB e++nB en)
theorem Yy{e en:Int}(he:1<=e/\e<=1048576)(hn:0<=en/\en<=1048576):CRX P 0 21 [mV ⟨3,e,0,en,[],0,0,[]⟩] [] (.tuple ⟨[aX 1 (yA e en).length 0 (bc (yA e en)), .int .i64 0]⟩) []:=by
 refine CRX.of (pol:=au) (fl:=[.val, .val]) (ts:=[57,0]) (n:=50) (bf _) az (YR (FY he hn)) ((show dD P E _ 50 au _ _ 0 21 [mV ⟨3,e,0,en,[],0,0,[]⟩] []=_ from aam dP jK (bM [mV ⟨3,e,0,en,[],0,0,[]⟩] []) enK enX e en).trans ?_);have d0:=eH (n:=3);have d1:=eH (n:=e.toNat);have d2:=eH (n:=en.toNat);have u1:=Xw e.toNat (by omega);have u2:=Xw en.toNat (by omega);have u3:jK 3=true:=Xw 3 (by omega);have n3:([]:List CmM).length=0:=rfl;have n4:ECm.all ([]:List CmM)=[]:=rfl;have n5:([]:List (Int×Int)).length=0:=rfl;have n6:ESa.all ([]:List (Int×Int))=[]:=rfl;simp (disch:=first | omega | (simp only[List.length_append,List.length_drop,List.length_take,List.length_singleton,Nat.add_eq,bg]<;>omega) | fail) only[fa_,fb_,fc_,fq_,fw_,io_,le_,lg_,cvN (x:=e) ⟨by omega,by omega⟩,cvN (x:=en) ⟨by omega,by omega⟩,u1,u2,u3,aeF,n3,n4,n5,n6,List.nil_append,mV,lD,bG,kN,bQ,aN,dA,aA,bC,aV,a_,aO,ah,aP,bu,Int.toNat_natCast,aQ,aG,bz,bK,b_,bJ,bP,dm,Bool.and_self,aK,aH,ax];simp only[fa_,fb_,fc_,fq_,fw_,io_,le_,lg_,yA,nB,List.append_assoc]
theorem acR(C:List UInt8->Int->Bool)(X:List UInt8->Int)(R:List UInt8->List UInt8)(C1 C3 C4:List Value->List Blk->Bool)(m1 m3:MsgM)(l:List UInt8):IX P E (abK C X R C1 C3 C4 m1 m3) 80 yD [.val, .val, .val, .val, .val, .val, .val, .val, .val] [0,0,0,0,54,0,0,35,0] 0 [] 53 [aX 1 l.length 0 (bc l)] [] =
 (let z:=Nat.beq 0 0;let y:=Nat.beq 148 148;let x:=Bool.not false;let w:=List.map byteOf (bc l);let v:=List.map byteOf (bc (R w));let u:=X w;let t:=List.length (R v);let s:=Bool.and (Bool.and (Bool.and (fw_ t (bc (R v))) z) y) x;let r:=List.map byteOf (bc (R v));let q:=List.length (R r);let p:=List.map byteOf (bc (R r));
 let o:=Bool.and (Bool.and (Bool.and (Bool.and (fw_ q (bc (R r))) z) y) x) (C p 1048576);let n:=Bool.and (Bool.and (Bool.and (fw_ (List.length (R p)) (bc (R p))) z) y) x;let m:=List.map byteOf (bc (R p));let k:=[pt_ 0,pt_ 1,pt_ 2,io_ (X m)];let j:=io_ 0;let i:=Value.int .u8 0;let h:=Blk.cells [j,j,i,j,sl_ 3 0,j,j,sl_ 4 0] 56 true;
 let g:=Blk.cells [fb_ (List.length (R m)) 0 (bc (R m)), .bool false] 148 true;let f:=io_ u;let e:=io_ (X v);let d:=io_ (X p);let c:=Blk.cells [] 109 false;let b:=Blk.cells [] 47 false;let a:=af [];let Z:=Bool.and s (C r 1048576);let Y:=io_ (X r);let W:=fc_ 0 0 [];let V:=fa_ 0 0 [];let U:=some (Value.tuple ⟨[.agg ⟨[j,j,i,j,W,j,j,V]⟩,io_ 5]⟩,a);
 let T:=Value.agg ⟨[f,e,i,Y,W,j,j,V]⟩;let S:=Value.agg ⟨[f,e,i,j,W,j,j,V]⟩;
 (ae (Bool.and (Bool.and (Bool.and (Bool.and (fw_ l.length (bc l)) z) y) x) (C w 3)) (ae (Bool.and (Bool.and (Bool.and (Bool.and (fw_ (List.length (R w)) (bc (R w))) z) y) x) (C v 1048576)) (ak (eqI u 1) (ae (Bool.and s (C r 3)) (ae o (ae (Bool.and n (C m 1048576)) (ae (C1 k [h,g, .cells [f,e, .int .u8 (cvI .u8 (X r)),d,sl_ 5 0,j,j,sl_ 6 0] 56 true,c,b,c,b]) (ae (C4 [me_ m1] []) (some (.tuple ⟨[me_ m1,j]⟩,a))))))) (ak (eqI u 2) (ae Z (ae o (ae (Bool.and n (C m 4)) (ae (C3 k [h,g, .cells [f,e,i,j,sl_ 5 0,Y,d,sl_ 6 0] 56 true,c,b,c,b]) (ae (C4 [me_ m3] []) (some (.tuple ⟨[me_ m3,j]⟩,a))))))) (ak (eqI u 3) (ae Z (ak (gtI (ag q) 0) U (ae (C4 [T] []) (some (.tuple ⟨[T,j]⟩,a))))) (ak (gtI (ag t) 0) U (ae (C4 [S] []) (some (.tuple ⟨[S,j]⟩,a)))))))))):=by kernel_rfl
def lrR(l:List UInt8):List UInt8:=l.drop (gZ l).2.1
theorem ZU{l:List UInt8}{m:Int}(hc:smC l m=true)(hl:l.length+64<=4194304):CRX P 1 97 [p0, .int .i64 m] (lrB l 0 false) (.int .i64 (smX l)) (lrB (lrR l) 0 false):=by
 refine CRX.of (pol:=au) (fl:=[]) (ts:=[]) (n:=50) (bf _) az Og ((aaW smC smX smN l 0 m).trans ?_);have hN:smN l=(((gZ l).2.1:Nat):Int):=rfl;have hs:=Es l;have c0:∀ n,zT 0 n=0:=fun n=>if_pos rfl;simp (disch:=first | omega | (simp only[List.length_append,List.length_drop,List.length_take,List.length_singleton,Nat.add_eq,bg]<;>omega) | fail) only[fb_,fw_,io_,hc,hN,c0,adh,adv,ace hs,PT,lrB,lrR,dI,rnB,srB,tbB,dkL,List.cons_append,List.nil_append,List.append_assoc,dJ,aB,dM,lsV,ptV,p0,aW,dkC,aJ,bG,cmV,dA,bQ,aN,dH,dB,dU,dE,dG,dF,cZ,dC,dw,dS,dn,ay,aC,aF,Enc.all_ren,aA,bC,aV,a_,aO,ah,aP,bu,Int.toNat_natCast,aQ,aG,bz,bK,b_,bJ,bP,dm,Bool.and_self,aK,aH,ax]
theorem XE{n:Nat}{m:Int}(r:List UInt8)(h:(n:Int)<=m)(hm:m<4611686018427387904):smC (dP n++r) m=true/\smX (dP n++r)=(n:Int)/\lrR (dP n++r)=r:=by
 have e:=aa5 (n:=n) (by omega) r;refine⟨?_,?_,?_⟩
 ·unfold smC pK DV;rw[e,jk (by omega) (by omega)];simp only[BEq.rfl,Bool.true_and];exact decide_eq_true h
 ·unfold smX; rw[e]
 ·unfold lrR; rw[e]; exact List.drop_left
theorem adr:CallOkX P 1 97 (Wl smC smX lrR):=⟨fun args bs t hR v bs' hev=>by
 unfold Wl at hR;split at hR
 ·rename_i m t0 n b c bd ty;obtain rfl:=Option.some.inj hR;cases hc:(fzB t0 n c&&Nat.beq b 0&&Nat.beq ty 148&&!bd&&smC (c.map byteOf) m)with
  |false=>rw[hc]at hev; cases hev
  |true=>
   rw[hc]at hev;simp only[Bool.and_eq_true]at hc;obtain⟨⟨⟨⟨hf,hb⟩,hty⟩,hbd⟩,hn⟩:=hc;obtain rfl:=Nat.eq_of_beq_eq_true hty;obtain rfl:=Nat.eq_of_beq_eq_true hb;obtain rfl:bd=false:=by cases bd with | false=>rfl | true=>cases hbd
   obtain⟨rfl,rfl,⟨l,rfl,hl⟩,h4⟩:=uZ hf;rw[<-hl]at hev hn;rw[ah]at h4 ⊢;simp only[DT.eval,Option.some.injEq,Prod.mk.injEq]at hev;obtain⟨rfl,rfl⟩:=hev;exact ZU hn h4
 ·cases hR⟩
theorem aah{C1 C3 C4:List Value->List Blk->Bool}{m1 m3:MsgM}(h1:LoopOkX P 53 1 Bd1 Dd1.head (gX C1 (.leaf (.normal,deV 0,deX [] m1))))(h3:LoopOkX P 53 3 Bd3 Dd3.head (gX C3 (.leaf (.normal,deV 0,deX [] m3))))(h4:CallOkX P 0 48 (cu C4 (.leaf (.int .i64 0,[])))) :
  CtOk P (abK smC smX lrR C1 C3 C4 m1 m3):=aj (pol:=au) (dV (dV (aj (pol:=yD) bn h4) h3) h1) adr
theorem Zr{e en:Int}(he:1<=e/\e<=1048576)(hn:0<=en/\en<=1048576):CRX P 0 53 [aX 1 (yA e en).length 0 (bc (yA e en))] [] (.tuple ⟨[mV ⟨3,e,0,en,[],0,0,[]⟩, .int .i64 0]⟩) []:=by
 have q4:=FY he hn;refine CRX.ofF (pol:=yD) (fl:=[.val, .val, .val, .val, .val, .val, .val, .val, .val]) (ts:=[0,0,0,0,54,0,0,35,0]) (n:=80) (kb:=[]) (bf _) az (aah (nz (dL ady)) (nz (dL ac8)) (bF q4)) ((acR smC smX lrR (fun _ _=>false) (fun _ _=>false) (bM [mV ⟨3,e,0,en,[],0,0,[]⟩] []) VN VN (yA e en)).trans ?_);clear q4;have d0:=eH (n:=3);have d1:=eH (n:=e.toNat);have d2:=eH (n:=en.toNat);obtain⟨a1,a2,a3⟩:=XE (n:=3) (m:=3) (dP e.toNat++dP en.toNat) (by omega) (by omega);obtain⟨b1,b2,b3⟩:=XE (n:=e.toNat) (m:=1048576) (dP en.toNat) (by omega) (by omega);obtain⟨c1,c2,c3⟩:=XE (n:=en.toNat) (m:=1048576) [] (by omega) (by omega);rw[List.append_nil]at c1 c2 c3;rw[Int.toNat_of_nonneg (by omega)]at b2 c2;have z1:fzB 18446744073709551617 (dP 3++(dP e.toNat++dP en.toNat)).length (bc (dP 3++(dP e.toNat++dP en.toNat)))=true:=b_ rfl (by rw[List.length_append,List.length_append]; omega);have z2:fzB 18446744073709551617 (dP e.toNat++dP en.toNat).length (bc (dP e.toNat++dP en.toNat))=true:=b_ rfl (by rw[List.length_append]; omega);have z3:fzB 18446744073709551617 (dP en.toNat).length (bc (dP en.toNat))=true:=b_ rfl (by omega);unfold yA nB;generalize dP 3++(dP e.toNat++dP en.toNat)=L0 at *;generalize dP e.toNat++dP en.toNat=L1 at *;generalize dP en.toNat=L2 at *;have n3:([]:List CmM).length=0:=rfl;have n4:ECm.all ([]:List CmM)=[]:=rfl;have n5:([]:List (Int×Int)).length=0:=rfl;have n6:ESa.all ([]:List (Int×Int))=[]:=rfl;have n7:([]:List UInt8).length=0:=rfl;have n8:gtI (ag 0) 0=false:=rfl;have k1:eqI 3 1=false:=rfl;have k2:eqI 3 2=false:=rfl;have k3:eqI 3 3=true:=rfl;have k4:((3:Nat):Int)=3:=rfl;rw[k4]at a2;simp only[fa_,fb_,fc_,fw_,io_,me_,pt_,sl_,aO,a1,a2,a3,b1,b2,b3,c1,c2,c3,z1,z2,z3,Nat.beq_refl,Bool.not_false,Bool.and_self,ax,aK,aH,k1,k2,k3,k4,n3,n4,n5,n6,n7,n8,mV,lD,kN,bG,bQ,aN]
/-- A node that is up. -/
structure NdM where
 nu:Int
 mo:Int
 s:StaM
 ac:Int
 kn:Int
 he:MsgM
def iT:Pol:=fun t=>match Nat.beq t 82 with
 |true=>some [.val, .val, .val, .val, .val, .val, .val, .val, .val, .val, .val, .val, .val, .val]
 |false=>yD t
def stN(k:Nat)(s:StaM):List Blk:=[.cells (dM 8 9 10 11 12 s.dk) 86 true, .cells ([ptV 1, .bool s.off]++pgC s.pg++[lsV 13 s.log.length,ptV 3,ptV 4,ptV 5, .int .i64 s.held]) 128 true,
 .cells [ptV 1, .bool s.wbr,lsV 14 s.wcs.length,lsV 15 s.wes.length] 170 true, .cells [ptV 1, .bool s.rbr,lsV 16 s.rs.length] 168 true, .cells [ptV 6,ptV 4,lsV 17 s.rest.length] 174 true, .cells [.map (some 7)] 98 true, .map s.tb.es s.tb.ck]++dkL s.dk++
 [.cells (ECm.all s.log) 47 false, .cells (ECm.all s.wcs) 47 false, .cells (EIn.all s.wes) 3 false, .cells (eF.all s.rs) 161 false, .cells (ECm.all s.rest) 47 false]
def ndB(n:NdM):List Blk:=[.cells ([.int .i64 n.nu, .int .i64 n.mo,ptV 1,ptV 2, .int .i64 n.ac, .int .i64 n.kn]++mgV n.he) 82 true]++stN 0 n.s
def nh_(u o a k:Int)(d t:Nat)(m:MsgM):Blk:=(.cells [io_ u,io_ o,pt_ d,pt_ t,io_ a,io_ k,io_ m.k,io_ m.e, .int .u8 m.ro,io_ m.en,fc_ m.st.length 0 (Enc.all ESa m.st),io_ m.fr,io_ m.pv,fa_ m.cs.length 0 (Enc.all ECm m.cs)] 82 true)
def abU(C1 C3 C5 C6:List Value->List Blk->Bool)(r a:Int)(s2:StaM):Ct:=aT P au 0 33 (cu C1 (.leaf (.int .i64 r,[]))) (aT P au 0 71 (cu C3 (.leaf (.int .i64 0,[])))
 (aT P au 0 36 (cu C5 (.leaf (.int .i64 a,[]))) (aT P au 7 38 (cu C6 (.leaf (.int .i64 0,stB s2))) ctF)))
theorem Uh(C1 C3 C5 C6:List Value->List Blk->Bool)(r a:Int)(n:NdM)(s2:StaM)(l:List OpM):dD P E (abU C1 C3 C5 C6 r a s2) 50 iT [] [] 8 9 [p0,aJ l] (ndB n) =
 (let z:=n.s;let y:=dn_ w0_ z.dk none;let x:=fa_ l.length 0 (Enc.all EOp l);let w:=io_ 0;let v:=nh_ n.nu n.mo n.ac n.kn 1 2 n.he;let u:=dk_ z.dk 8 9 10 11 12;let t:=sb_ z z.pg 1 13 3 4 5;let s:=wb_ z 1 14 15;let q:=rb_ z 1 16;let p:=so_ 6 4 17 z.rest.length;let o:=tb_ 7;let m:=ro_ [0,8,23,10];
 let k:=z.tb.es;let j:=z.tb.ck;let i:=ro_ [0,8,26,10];let h:=af (v::u::t::s::q::p::o:: .map (bD true i k) j::nl_ (cz_ i w0_) z []);let g:=ag z.log.length;let f:=io_ n.ac;let e:=io_ n.mo;let d:=ro_ [0,8,38,10];let c:=io_ z.pg.ep;let b:=io_ (dO .i64 g 1);let Z:=bH (rg_ [2,1,1,1,3,5]) 58;
 let Y:=bk_ Z w0_;let X:=ro_ [0,8,68,10];
 (ak (fM (fM z.dk.off)) y (ae (C1 [x] []) (ak (neI r 0) (ak (eqI r 6) y (nn_ w0_ z (some (.tuple ⟨[w,io_ r]⟩,af (v::u::t::s::q::p::o:: .map (bD true m k) j::nl_ (cz_ m w0_) z []))))) (ae (C3 [pg_ z.pg] []) (ak (eqI z.pg.ro 2) (nn_ w0_ z (some (.tuple ⟨[w,io_ 11]⟩,h))) (ak (eqI z.pg.ro 3) (nn_ w0_ z (some (.tuple ⟨[w,io_ 9]⟩,h))) (ae (C5 [io_ g,f,e] []) (ae (bU f f) (ae (bU e e) (ak (neI a 0) (ak (eqI a 6) y (nn_ w0_ z (some (.tuple ⟨[w,io_ a]⟩,af (v::u::t::s::q::p::o:: .map (bD true d k) j::nl_ (cz_ d w0_) z []))))) (ae (bU c c) (ae (bU x x) (ns_ z (ae (C6 [pt_ 0, .iface 18446744073709551619 (.agg ⟨[.slice none 1 0,c,b,x]⟩)] (sm_ z (ro_ [2,1,1,1,3,5,49,5,48,1,54,4]))) (nn_ Y s2 (some (.tuple ⟨[b,w]⟩,af (v::dk_ s2.dk 8 9 10 11 12::sb_ s2 s2.pg 1 13 3 4 5::wb_ s2 1 14 15::rb_ s2 1 16::so_ 6 4 17 s2.rest.length::o:: .map (bD true X (bD true Z s2.tb.es)) s2.tb.ck::nl_ (cz_ X Y) s2 []))))))))))))))))))):=by kernel_rfl
/-- A node on a quiet state whose log is one,behind no runs. -/
structure NdQ(n:NdM)(k:Nat):Prop where
 q:StQ n.s k
 mo:1<=n.mo/\n.mo<=16
 rs:n.s.rs=[]
 fol:jJ 0 0 0 n.s.log=(0,0)
 len:n.s.log.length<=60
 d1:n.s.dk.d1.length<=3000000
 pg:pgE n.s.pg=0
theorem NdQ.mono{n:NdM}{k K:Nat}(h:NdQ n K)(hk:k<=K):NdQ n k:=⟨h.q.mono hk,h.mo,h.rs,h.fol,h.len,h.d1,h.pg⟩
theorem Zx(l:List OpM):jb l=0\/(neI (jb l) 0=true/\eqI (jb l) 6=false):=by
 unfold jb;cases l with
 |nil=>right; exact⟨rfl,rfl⟩
 |cons o l=>
  cases decide (8<(o::l).length)<;>cases (o::l).all okO<;>first | exact Or.inl rfl | exact Or.inr ⟨rfl,rfl⟩
theorem KP{l:List OpM}:CRX P 0 33 [aJ l] [] (.int .i64 (jb l)) []:=by
 by_cases h:l.length<4194304
 ·have q:=NF h;rwa [Ae]at q
 ·have e1:eqI (ag l.length) 0=false:=by unfold eqI ag; exact decide_eq_false (by omega)
  have e2:gtI (ag l.length) 8=true:=by unfold gtI ag; exact decide_eq_true (by omega)
  have e3:jb l=3:=by
   cases l with
   |nil=>exact absurd (by decide) h
   |cons o l=>unfold jb; rw[decide_eq_true (show 8<(o::l).length by omega)]
  rw[e3];refine CRX.of (pol:=fQ) (fl:=[]) (ts:=[]) (n:=50) (bf _) az (dV bn (nz (dL Js))) ((Oo (fun _ _=>false) true 0 (.bool true) 0 0 0 l.length 0 (EOp.all l)).trans ?_);simp only[e1,e2,aK,aH]
def NdM.com(n:NdM)(l:List OpM):CmM:=⟨n.s.pg.ep,(n.s.log.length:Int)+1,l⟩
def NdM.room(n:NdM)(l:List OpM):Bool:=eqI (jb l) 0&&!decide (n.mo<=(n.s.log.length:Int)-n.ac)
theorem OY{n:NdM}{l:List OpM}(hb:jb l=0)(hp:1<=n.s.pg.ep/\n.s.pg.ep<=1048576)(he:eG n.s.log<=n.s.pg.ep)(hl:n.s.log.length<=1000):Fol n.s.log [n.com l]:=by
 refine⟨FN ⟨?_,?_,?_,rfl⟩⟩
 ·exact lZ.2 ⟨hp,by show 1<=(n.s.log.length:Int)+1/\(n.s.log.length:Int)+1<=1048576; omega,hb⟩
 ·show(n.s.log.length:Int)+1-1=n.s.log.length; omega
 ·exact he
def aex(C:List Value->List Blk->Bool)(s:StaM):Ct:=aT P au 7 41 (cu C (.leaf (bG s.log,stB s))) ctF
theorem abg(C:List Value->List Blk->Bool)(n:NdM):dD P E (aex C n.s) 50 iT [.val] [35] 8 11 [p0] (ndB n) =
 (let z:=n.s;let y:=bH (rg_ [2,1,1,1,3,5]) 28;let x:=bk_ y w0_;let w:=ro_ [0,8,38,10];
 (ns_ z (ae (C [pt_ 0] (sm_ z (ro_ [2,1,1,1,3,5,19,5,18,1,24,4]))) (nn_ x z (some (fa_ z.log.length 0 (Enc.all ECm z.log),af (nh_ n.nu n.mo n.ac n.kn 1 2 n.he::dk_ z.dk 8 9 10 11 12::sb_ z z.pg 1 13 3 4 5::wb_ z 1 14 15::rb_ z 1 16::so_ 6 4 17 z.rest.length::tb_ 7:: .map (bD true w (bD true y z.tb.es)) z.tb.ck::nl_ (cz_ w x) z []))))))):=by kernel_rfl
theorem YL(n:NdM):dD P E ctF 50 iT [] [] 8 14 [p0] (ndB n) =
 (let z:=n.s;let y:=nh_ n.nu n.mo n.ac n.kn 1 2 n.he;let x:=dk_ z.dk 8 9 10 11 12;let w:=sb_ z z.pg 1 13 3 4 5;let v:=wb_ z 1 14 15;let u:=rb_ z 1 16;let t:=so_ 6 4 17 z.rest.length;let s:=ro_ [0,8,19,10];let r:=ro_ [0,8,30,10];
 (ak (neI z.pg.ro 1) (nn_ w0_ z (some (io_ 0,af (y::x::w::v::u::t::tb_ 7:: .map (bD true s z.tb.es) z.tb.ck::nl_ (cz_ s w0_) z [])))) (ae (bU (io_ n.ac) (io_ n.ac)) (nn_ w0_ z (some (io_ (fH .i64 (ag z.log.length) n.ac),af (y::x::w::v::u::t::tb_ 7:: .map (bD true r z.tb.es) z.tb.ck::nl_ (cz_ r w0_) z []))))))):=by kernel_rfl
theorem aaH(C:List Value->List Blk->Bool)(p:PgM)(e:Int):dD P E (aT P au 0 71 (cu C (.leaf (.int .i64 0,[]))) ctF) 50 au [] [] 0 54 [pgV p, .int .i64 e] [] =
 (let z:=io_ 0;let y:=Value.int .u8 0;let x:=Value.bool false;let w:=af [];let v:=some (Value.tuple ⟨[.agg ⟨[z,y,z,y,z,z]⟩,x,io_ 2]⟩,w);
 (ae (C [pg_ p] []) (ak (geI e 1) (ak (fM (leI e 1048576)) v (ak (gtI e p.ep) (some (.tuple ⟨[.agg ⟨[io_ e, .int .u8 3,z, .int .u8 1,z,z]⟩, .bool true,z]⟩,w)) (some (.tuple ⟨[pg_ p,x,z]⟩,w)))) v))):=by kernel_rfl
def NdM.at1(n:NdM)(e ac kn:Int):NdM:={ n with s:={ n.s with pg:=⟨e,1,ac,0,0,0⟩ },kn:=kn }

theorem Fol.mk1{L l:List CmM}{c:CmM}(h1:cmE c=0)(h2:c.n-1=(L.length:Int))(h3:eG L<=c.e)(h4:Fol (L++[c]) l):Fol L (c::l):=by
 have h5:=h4.f;have e:((L++[c]).length:Int)=c.n:=by simp; omega
 rw[o5,e]at h5;exact⟨FN ⟨h1,h2,h3,LU 1 h5⟩⟩
theorem Fol.app:∀ {l1 l2 L:List CmM},Fol L l1->Fol (L++l1) l2->Fol L (l1++l2)
 |[],l2,L,h1,h2=>by rw[List.append_nil]at h2; exact h2
 |c::l1,l2,L,h1,h2=>by
  obtain⟨a1,a2,a3,a4⟩:=h1.cons;refine Fol.mk1 a1 a2 a3 (Fol.app a4 ?_);rw[List.append_assoc];exact h2
theorem Fol.left:∀ {l1 l2 L:List CmM},Fol L (l1++l2)->Fol L l1
 |[],l2,L,h=>⟨rfl⟩
 |c::l1,l2,L,h=>by
  obtain⟨a1,a2,a3,a4⟩:=Fol.cons (l:=l1++l2) h;exact Fol.mk1 a1 a2 a3 a4.left
theorem Fol.right:∀ {l1 l2 L:List CmM},Fol L (l1++l2)->Fol (L++l1) l2
 |[],l2,L,h=>by rw[List.append_nil]; exact h
 |c::l1,l2,L,h=>by
  obtain⟨a1,a2,a3,a4⟩:=Fol.cons (l:=l1++l2) h;have:=a4.right;rw[List.append_assoc]at this;exact this
theorem Fol.nil{l:List CmM}:Fol [] l↔jJ 0 0 0 l=(0,0):=⟨fun h=>h.f,fun h=>⟨h⟩⟩
/-- So many commits of the first epoch,so many of the second one. -/
structure Lg(l:List CmM)(a b:Nat):Prop where
 f:Fol [] l
 n:l.length=a+b
 e1:∀ c∈l.take a,c.e=1
 e2:∀ c∈l.drop a,c.e=2
def ofK(a b:Nat):List (Int×Int):=match a,b with
 |0,0=>[]
 |_+1,0=>[(1,1)]
 |0,_+1=>[(2,1)]
 |a+1,_+1=>[(1,1),(2,(a:Int)+2)]
theorem KE:∀ (l:List CmM) (o:List (Int×Int)) (x y:Int),o.getLast? = some (x,y)->(∀ c∈l,c.e=x)->ofG o l=o
 |[],o,x,y,h1,h2=>rfl
 |c::l,o,x,y,h1,h2=>by
  have e:ofS o c=o:=by
   have h3:eqI x c.e=true:=by unfold eqI; exact decide_eq_true (h2 c (List.mem_cons_self ..)).symm
   unfold ofS;simp only[h1,h3]
  show ofG (ofS o c) l=o;rw[e];exact KE l o x y h1 fun d hd=>h2 d (List.mem_cons_of_mem _ hd)
theorem Z7(o:List (Int×Int))(l1 l2:List CmM):ofG o (l1++l2)=ofG (ofG o l1) l2:=List.foldl_append
theorem zV{l:List CmM}{x:Int}{L:List CmM}(hf:Fol L l)(h:∀ c∈l,c.e=x)(hl:l≠[])(o:List (Int×Int))(ho:o=[]\/∃ y z,o.getLast? = some (y,z)/\y≠x):ofG o l=o++[(x,(L.length:Int)+1)]:=by
 cases l with
 |nil=>exact absurd rfl hl
 |cons c l=>
  obtain⟨_,a2,_,_⟩:=hf.cons;have e1:=h c (List.mem_cons_self ..);have e2:c.n=(L.length:Int)+1:=by omega
  have e:ofS o c=o++[(x,(L.length:Int)+1)]:=by
   rcases ho with rfl | ⟨y,z,h1,h2⟩
   ·unfold ofS; simp only[List.getLast?_nil,e1,e2]
   ·have h3:eqI y c.e=false:=by unfold eqI; exact decide_eq_false (by rw[e1]; exact h2)
    unfold ofS; simp only[h1,h3]; rw[e1,e2]
  show ofG (ofS o c) l=_;rw[e];exact KE l _ x _ List.getLast?_concat fun d hd=>h d (List.mem_cons_of_mem _ hd)
theorem Lg.of{l:List CmM}{a b:Nat}(h:Lg l a b):ofG [] l=ofK a b:=by
 obtain⟨hf,hn,h1,h2⟩:=h;have e:l.take a++l.drop a=l:=List.take_append_drop a l;have l1:(l.take a).length=a:=by rw[List.length_take]; omega
 have l2:(l.drop a).length=b:=by rw[List.length_drop]; omega
 rw[<-e]at hf ⊢;rw[Z7];have f1:=hf.left;have f2:=hf.right;rw[List.nil_append]at f2;generalize l.take a=x at *;generalize l.drop a=y at *;clear e hn;cases a with
 |zero=>
  obtain rfl:=List.length_eq_zero_iff.1 l1;cases b with
  |zero=>obtain rfl:=List.length_eq_zero_iff.1 l2; rfl
  |succ b=>
   have:=zV (x:=2) f2 h2 (by intro h; rw[h]at l2; cases l2) (ofG [] []) (Or.inl rfl);rw[this]; rfl
 |succ a=>
  have q1:=zV (x:=1) f1 h1 (by intro h; rw[h]at l1; cases l1) [] (Or.inl rfl);rw[q1];cases b with
  |zero=>obtain rfl:=List.length_eq_zero_iff.1 l2; rfl
  |succ b=>
   have:=zV (x:=2) f2 h2 (by intro h; rw[h]at l2; cases l2) ([]++[(1,(([]:List CmM).length:Int)+1)]) (Or.inr ⟨1,_,rfl,by decide⟩);rw[this,l1];show [(1,1),((2:Int),((a+1:Nat):Int)+1)]=[(1,1),(2,(a:Int)+2)]
   congr 3
/-- A letter and its bytes. -/
structure LtM(m:MsgM)(b:List UInt8):Prop where
 chk:CRX P 0 48 [mV m] [] (.int .i64 0) []
 enc:CRX P 0 21 [mV m] [] (.tuple ⟨[aX 1 b.length 0 (bc b), .int .i64 0]⟩) []
 dec:CRX P 0 53 [aX 1 b.length 0 (bc b)] [] (.tuple ⟨[mV m, .int .i64 0]⟩) []
theorem LtM.of{m:MsgM}{x y:List UInt8}(e:x=y)(h1:CRX P 0 48 [mV m] [] (.int .i64 0) [])(h2:CRX P 0 21 [mV m] [] (.tuple ⟨[aX 1 x.length 0 (bc x), .int .i64 0]⟩) [])(h3:CRX P 0 53 [aX 1 x.length 0 (bc x)] [] (.tuple ⟨[mV m, .int .i64 0]⟩) []):LtM m y:=by
 subst e;exact⟨h1,h2,h3⟩
theorem vm3:dP 3=[3]:=by unfold dP; rfl
theorem ac5{e en:Int}(he:1<=e/\e<=1048576)(hn:0<=en/\en<=1048576):∃ x,LtM ⟨3,e,0,en,[],0,0,[]⟩ (3::x):=
 ⟨_,LtM.of (x:=yA e en) (by unfold yA; rw[vm3]; rfl) (FY he hn) (Yy he hn) (Zr he hn)⟩
theorem Lg.le{l:List CmM}{a b:Nat}(h:Lg l a b):eG l<=2/\(b=0->eG l<=1):=by
 obtain⟨hf,hn,h1,h2⟩:=h;have hm:∀ c∈l,c.e<=2/\(b=0->c.e<=1):=fun c hc=>by
  rw[<-List.take_append_drop a l,List.mem_append]at hc;rcases hc with hc | hc
  ·have:=h1 c hc; exact⟨by omega,fun _=>by omega⟩
  ·have:=h2 c hc;refine⟨by omega,fun hb=>?_⟩;have:(l.drop a).length=0:=by rw[List.length_drop]; omega
   rw[List.length_eq_zero_iff.1 this]at hc;cases hc
 by_cases h0:l=[]
 ·subst h0; exact⟨by decide,fun _=>by decide⟩
 ·rw[su h0];exact hm _ (List.getElem_mem _)
theorem ad1{s:StaM}{k:Nat}(hq:StQ s k)(hf:jJ 0 0 0 s.log=(0,0))(hl:s.log.length<=1000):CRX P 7 41 [p0] (stB s) (bG s.log) (stB s):=ade hq.sr.tb (by omega) (fun c hc=>by have:=ZE hf c hc; omega)
theorem WW{p:PgM}(hp:pgE p=0)(he:1<=p.ep/\p.ep<=1048576):CRX P 0 54 [pgV p, .int .i64 p.ep] [] (.tuple ⟨[pgV p, .bool false, .int .i64 0]⟩) []:=by
 have q:=uq p;rw[hp]at q;refine CRX.of (pol:=au) (fl:=[]) (ts:=[]) (n:=50) (bf _) az (aj (pol:=au) bn (bF q)) ((aaH (bM [pgV p] []) p p.ep).trans ?_);clear q;have g1:geI p.ep 1=true:=by unfold geI; exact decide_eq_true (by omega)
 have g2:leI p.ep 1048576=true:=by unfold leI; exact decide_eq_true (by omega)
 have g3:gtI p.ep p.ep=false:=by unfold gtI; exact decide_eq_false (by omega)
 simp only[io_,pg_,g1,g2,g3,pgV,pgC,aN,ax,aK,aH,show fM true=false from rfl]
theorem Ec{n:NdM}{e ac:Int}(h:n.s.pg=⟨e,1,ac,0,0,0⟩):n.at1 e ac n.kn=n:=by
 obtain⟨nu,mo,⟨o,pg,log,held,dk,w1,w2,w3,r1,r2,tb,rest⟩,ac,kn,hel⟩:=n;simp only at h;subst h
 rfl
def aez(C1 C2 C3 C4:List Value->List Blk->Bool)(m:MsgM)(p:PgM)(kn2 ac2:Int)(ok:Bool):Ct:=aT P au 0 53 (cu C1 (.leaf (.tuple ⟨[mV m, .int .i64 0]⟩,[]))) (aT P au 0 54 (cu C2 (.leaf (.tuple ⟨[pgV p, .bool false, .int .i64 0]⟩,[]))) (aT P yD 0 99 (cu C3 (.leaf (.tuple ⟨[.int .i64 kn2, .bool ok, .int .i64 0]⟩,[]))) (aT P au 0 100 (cu C4 (.leaf (.tuple ⟨[.int .i64 ac2, .int .i64 0]⟩,[]))) ctF)))
theorem acg(C1 C2 C3 C4:List Value->List Blk->Bool)(n:NdM)(e ac kn:Int)(m:MsgM)(kn2 ac2:Int)(ok:Bool)(b:List UInt8):dD P E (aez C1 C2 C3 C4 m (n.at1 e ac kn).s.pg kn2 ac2 ok) 50 iT [.val, .val] [64,0] 8 22 [p0,aX 1 b.length 0 (bc b)] (ndB (n.at1 e ac kn)) =
 (let z:=NdM.at1 n e ac kn;let y:=z.s;let x:=io_ m.e;let w:=Value.tuple ⟨[fb_ 0 0 [],io_ 0]⟩;let v:=nh_ z.nu z.mo z.ac z.kn 1 2 z.he;let u:=dk_ y.dk 8 9 10 11 12;let t:=sb_ y y.pg 1 13 3 4 5;let r:=wb_ y 1 14 15;let q:=rb_ y 1 16;let p:=so_ 6 4 17 y.rest.length;let o:=tb_ 7;let l:=ro_ [0,8,32,10];
 let k:=y.tb.es;let j:=y.tb.ck;let i:=io_ z.ac;let h:=ro_ [0,8,79,10];let g:=ro_ [0,8,64,10];
 (ak (fM (fM y.dk.off)) (dn_ w0_ y.dk none) (ae (C1 [fb_ b.length 0 (bc b)] []) (ae (bU x x) (ak (ltI m.e y.pg.ep) (nn_ w0_ y (some (w,af (v::u::t::r::q::p::o:: .map (bD true l k) j::nl_ (cz_ l w0_) y [])))) (ae (C2 [pg_ y.pg,x] []) (ae (bU x x) (ae (C3 [io_ y.pg.ep,io_ z.kn,me_ m] []) (ak ok (ae (C4 [io_ (ag y.log.length),i,io_ kn2] []) (ae (bU i i) (nn_ w0_ y (some (w,af (nh_ z.nu z.mo ac2 kn2 1 2 z.he::u::t::r::q::p::o:: .map (bD true h k) j::nl_ (cz_ h w0_) y [])))))) (nn_ w0_ y (some (w,af (v::u::t::r::q::p::o:: .map (bD true g k) j::nl_ (cz_ g w0_) y []))))))))))))):=by kernel_rfl

def noL:Value:=aX 1 0 0 []
/-- A node on a quiet state whose log is one. -/
structure NeQ(n:NdM)(k:Nat):Prop where
 q:StQ n.s k
 mo:1<=n.mo/\n.mo<=16
 fol:jJ 0 0 0 n.s.log=(0,0)
 len:n.s.log.length<=60
 d1:n.s.dk.d1.length<=3000000
 pg:pgE n.s.pg=0
theorem NeQ.run{n:NdM}{k:Nat}(h:NeQ n k):0<=bI n.s.rs/\bI n.s.rs<=n.s.log.length:=by
 have h1:=h.q.sr.n;have h2:=h.q.sr.r0;omega
theorem NeQ.mono{n:NdM}{k K:Nat}(h:NeQ n K)(hk:k<=K):NeQ n k:=⟨h.q.mono hk,h.mo,h.fol,h.len,h.d1,h.pg⟩
theorem adu{n:NdM}{l:List OpM}(hn:NeQ n 100000)(hro:n.s.pg.ro=1)(hac:0<=n.ac/\n.ac<=n.s.log.length)(hr:n.room l=false) :
  ∃ e,neI e 0=true/\CRX P 8 9 [p0,aJ l] (ndB n) (.tuple ⟨[.int .i64 0, .int .i64 e]⟩) (ndB n):=by
 have q1:=KP (l:=l);have q3:=uq n.s.pg;rw[hn.pg]at q3;have q5:=Pg (en:=(n.s.log.length:Int)) (ac:=n.ac) (mo:=n.mo) hn.mo ⟨hac.1,hac.2,by have:=hn.len; omega⟩;have q:∃ e,neI e 0=true/\dD P E (abU (bM [aJ l] []) (bM [pgV n.s.pg] []) (bM [.int .i64 (n.s.log.length:Int), .int .i64 n.ac, .int .i64 n.mo] []) (fun _ _=>false) (jb l) (bif decide (n.mo<=(n.s.log.length:Int)-n.ac)then 8 else 0) n.s) 50 iT [] [] 8 9 [p0,aJ l] (ndB n)=some (.tuple ⟨[.int .i64 0, .int .i64 e]⟩,af (ndB n)):=by
  rw[Uh];have hdo:=hn.q.dk.off;have ht:=hn.q.sr.tb.ren;have e0:ag n.s.log.length=(n.s.log.length:Int):=rfl;have z1:neI 8 0=true:=rfl;have z2:eqI 8 6=false:=rfl;have r1:eqI n.s.pg.ro 2=false:=by rw[hro]; rfl
  have r2:eqI n.s.pg.ro 3=false:=by rw[hro]; rfl
  unfold NdM.room at hr;rcases Zx l with hb | ⟨hb,hb2⟩
  ·rw[hb]at hr ⊢;have hd:decide (n.mo<=(n.s.log.length:Int)-n.ac)=true:=by
    cases h:decide (n.mo<=(n.s.log.length:Int)-n.ac)with
    |true=>rfl
    |false=>rw[h]at hr; cases hr
   have z0:neI 0 0=false:=rfl;rw[hd];refine⟨8,rfl,?_⟩;simp (disch:=first | omega | (simp only[List.length_append,List.length_drop,List.length_take,List.length_singleton,Nat.add_eq,bg]<;>omega) | fail) only[bk_,cz_,dk_,dl_,dn_,fa_,fc_,io_,nb_,nh_,nl_,nn_,ns_,pg_,pt_,rb_,sb_,sc_,sl_,sm_,so_,tb_,w0_,wb_,hdo,ht,e0,z0,z1,z2,r1,r2,cond_true,show fM (fM false)=false from rfl,pgV,pgC,ndB,stN,mgV,lD,kN,dI,rnB,srB,tbB,dkL,List.cons_append,List.nil_append,List.append_assoc,dJ,aB,dM,lsV,ptV,p0,aW,dkC,aJ,bG,cmV,dA,bQ,aN,dH,dB,dU,dE,dG,dF,cZ,dC,dw,dS,dn,ay,aC,aF,Enc.all_ren,aB rfl,aA,bC,aV,a_,aO,ah,aP,bu,Int.toNat_natCast,aQ,aG,bz,bK,b_,bJ,bP,dm,Bool.and_self,aK,aH,ax];all_goals rfl
  ·refine⟨jb l,hb,?_⟩;simp (disch:=first | omega | (simp only[List.length_append,List.length_drop,List.length_take,List.length_singleton,Nat.add_eq,bg]<;>omega) | fail) only[bk_,cz_,dk_,dl_,dn_,fa_,fc_,io_,nb_,nh_,nl_,nn_,ns_,pg_,pt_,rb_,sb_,sc_,sl_,sm_,so_,tb_,w0_,wb_,hdo,ht,hb,hb2,show fM (fM false)=false from rfl,pgV,pgC,ndB,stN,mgV,lD,kN,dI,rnB,srB,tbB,dkL,List.cons_append,List.nil_append,List.append_assoc,dJ,aB,dM,lsV,ptV,p0,aW,dkC,aJ,bG,cmV,dA,bQ,aN,dH,dB,dU,dE,dG,dF,cZ,dC,dw,dS,dn,ay,aC,aF,Enc.all_ren,aB rfl,aA,bC,aV,a_,aO,ah,aP,bu,Int.toNat_natCast,aQ,aG,bz,bK,b_,bJ,bP,dm,Bool.and_self,aK,aH,ax];all_goals rfl
 obtain⟨e,he,q⟩:=q;exact⟨e,he,CRX.of (pol:=iT) (fl:=[]) (ts:=[]) (n:=50) (bf _) az (aj (pol:=au) (aj (pol:=au) (aj (pol:=au) (aj (pol:=au) bn jw) (bF q5)) (bF q3)) (bF q1)) q⟩
theorem Yw{n:NdM}{l:List OpM}(hn:NeQ n 200000)(hro:n.s.pg.ro=1)(hph:n.s.pg.ph=0)(hpa:n.s.pg.ac<=n.s.log.length)(hep:1<=n.s.pg.ep/\n.s.pg.ep<=1048576)(hle:eG n.s.log<=n.s.pg.ep)(hac:0<=n.ac/\n.ac<=n.s.log.length)(hr:n.room l=true) :
  ∃ k,k<=17/\CRX P 8 9 [p0,aJ l] (ndB n) (.tuple ⟨[.int .i64 ((n.s.log.length:Int)+1), .int .i64 0]⟩) (ndB { n with s:=n.s.added k [n.com l] }):=by
 have q1:=KP (l:=l);have q3:=uq n.s.pg;rw[hn.pg]at q3;have q5:=Pg (en:=(n.s.log.length:Int)) (ac:=n.ac) (mo:=n.mo) hn.mo ⟨hac.1,hac.2,by have:=hn.len; omega⟩;unfold NdM.room at hr;rw[Bool.and_eq_true]at hr;have hb:jb l=0:=by have:=hr.1; unfold eqI at this; exact of_decide_eq_true this
 have hd:decide (n.mo<=(n.s.log.length:Int)-n.ac)=false:=by have:=hr.2; cases h:decide (n.mo<=(n.s.log.length:Int)-n.ac)with
  |false=>rfl
  |true=>rw[h]at this; cases this
 rw[hb]at q1;rw[hd]at q5;have hf:=OY (n:=n) (l:=l) hb hep hle (by have:=hn.len; omega);have hso:nV n.s.held n.s.pg ((n.s.log.length:Int)+([n.com l].length:Int)) (eG [n.com l]) (bI n.s.rs)=true:=by
  have hr0:=hn.run;have e1:eG [n.com l]=n.s.pg.ep:=rfl;have e2:(([n.com l].length:Nat):Int)=1:=rfl;rw[e1,e2];unfold nV;have f1:leI (bI n.s.rs) ((n.s.log.length:Int)+1)=true:=by unfold leI; exact decide_eq_true (by omega)
  have f2:leI n.s.pg.ep n.s.pg.ep=true:=by unfold leI; exact decide_eq_true (by omega)
  have f3:leI n.s.pg.ac ((n.s.log.length:Int)+1)=true:=by unfold leI; exact decide_eq_true (by omega)
  rw[f1,f2,f3,hro,hph]
  rfl
 obtain⟨k,k1,q6⟩:=ado (s:=n.s) (l:=[n.com l]) (hn.q.mono (by omega)) hf (by simp) (by show 1<=1000; decide) (by have:=hn.len; omega) (by have h1:=DL n.s.log (BL hn.fol); have:=hn.len; omega) hso;have hlen:=hn.len;refine⟨k,by simpa using k1,?_⟩;refine CRX.of (pol:=iT) (fl:=[]) (ts:=[]) (n:=50) (bf _) az (aj (pol:=au) (aj (pol:=au) (aj (pol:=au) (aj (pol:=au) bn (bF q6)) (bF q5)) (bF q3)) (bF q1)) ((Uh (bM [aJ l] []) (bM [pgV n.s.pg] []) (bM [.int .i64 (n.s.log.length:Int), .int .i64 n.ac, .int .i64 n.mo] []) (bM [p0,bG [n.com l]] (stB n.s)) 0 (bif false then 8 else 0) n (n.s.added k [n.com l]) l).trans ?_);clear q1 q3 q5 q6;have hdo:=hn.q.dk.off;have ht:=hn.q.sr.tb.ren;have ht2:∀ ρ,bD true ρ (n.s.added k [n.com l]).tb.es=(n.s.added k [n.com l]).tb.es:=(hn.q.sr.tb.log [n.com l]).ren;have e0:ag n.s.log.length=(n.s.log.length:Int):=rfl;have z0:neI 0 0=false:=rfl;have r1:eqI n.s.pg.ro 2=false:=by rw[hro]; rfl
 have r2:eqI n.s.pg.ro 3=false:=by rw[hro]; rfl
 have a1:dO .i64 (n.s.log.length:Int) 1=(n.s.log.length:Int)+1:=by unfold dO; exact wrap64 (by omega) (by omega)
 have c1:[n.com l].length=1:=rfl;have c2:ECm.all [n.com l]=[.int .i64 n.s.pg.ep, .int .i64 ((n.s.log.length:Int)+1),aJ l]:=rfl;generalize n.s.added k [n.com l]=s2 at ht2;simp (disch:=first | omega | (simp only[List.length_append,List.length_drop,List.length_take,List.length_singleton,Nat.add_eq,bg]<;>omega) | fail) only[bk_,cz_,dk_,dl_,dn_,fa_,fc_,io_,nb_,nh_,nl_,nn_,ns_,pg_,pt_,rb_,sb_,sc_,sl_,sm_,so_,tb_,w0_,wb_,hdo,ht,ht2,e0,z0,r1,r2,a1,c1,c2,cond_false,show fM (fM false)=false from rfl,pgV,pgC,ndB,stN,stB,mgV,lD,kN,dI,rnB,srB,tbB,dkL,List.cons_append,List.nil_append,List.append_assoc,dJ,aB,dM,lsV,ptV,p0,aW,dkC,aJ,bG,cmV,dA,bQ,aN,dH,dB,dU,dE,dG,dF,cZ,dC,dw,dS,dn,ay,aC,aF,Enc.all_ren,aB rfl,aA,bC,aV,a_,aO,ah,aP,bu,Int.toNat_natCast,aQ,aG,bz,bK,b_,bJ,bP,dm,Bool.and_self,aK,aH,ax]
theorem KX{n:NdM}{k:Nat}(hn:NeQ n k):CRX P 8 11 [p0] (ndB n) (bG n.s.log) (ndB n):=by
 have q1:=ad1 hn.q hn.fol (by have:=hn.len; omega);refine CRX.of (pol:=iT) (fl:=[.val]) (ts:=[35]) (n:=50) (bf _) az (aj (pol:=au) bn (bF q1)) ((abg (bM [p0] (stB n.s)) n).trans ?_);clear q1;have ht:=hn.q.sr.tb.ren;simp (disch:=first | omega | (simp only[List.length_append,List.length_drop,List.length_take,List.length_singleton,Nat.add_eq,bg]<;>omega) | fail) only[bk_,cz_,dk_,dl_,dn_,fa_,fc_,io_,nb_,nh_,nl_,nn_,ns_,pt_,rb_,sb_,sc_,sl_,sm_,so_,tb_,w0_,wb_,ht,pgV,pgC,ndB,stN,stB,mgV,lD,kN,dI,rnB,srB,tbB,dkL,List.cons_append,List.nil_append,List.append_assoc,dJ,aB,dM,lsV,ptV,p0,aW,dkC,aJ,bG,cmV,dA,bQ,aN,dH,dB,dU,dE,dG,dF,cZ,dC,dw,dS,dn,ay,aC,aF,Enc.all_ren,aB rfl,aA,bC,aV,a_,aO,ah,aP,bu,Int.toNat_natCast,aQ,aG,bz,bK,b_,bJ,bP,dm,Bool.and_self,aK,aH,ax]
theorem Xj{n:NdM}{k:Nat}(hn:NeQ n k)(hr:n.s.pg.ro=1)(hac:0<=n.ac/\n.ac<=n.s.log.length):CRX P 8 14 [p0] (ndB n) (.int .i64 ((n.s.log.length:Int)-n.ac)) (ndB n):=by
 refine CRX.of (pol:=iT) (fl:=[]) (ts:=[]) (n:=50) (bf _) az bn ((YL n).trans ?_);have ht:=hn.q.sr.tb.ren;have hl:=hn.len;have e1:neI n.s.pg.ro 1=false:=by rw[hr]; rfl
 have e2:fH .i64 (ag n.s.log.length) n.ac=(n.s.log.length:Int)-n.ac:=by unfold fH ag; exact wrap64 (by omega) (by omega)
 simp (disch:=first | omega | (simp only[List.length_append,List.length_drop,List.length_take,List.length_singleton,Nat.add_eq,bg]<;>omega) | fail) only[cz_,dk_,dl_,dn_,fa_,fc_,io_,nh_,nl_,nn_,pt_,rb_,sb_,sc_,sl_,so_,tb_,w0_,wb_,ht,e1,e2,pgV,pgC,ndB,stN,stB,mgV,lD,kN,dI,rnB,srB,tbB,dkL,List.cons_append,List.nil_append,List.append_assoc,dJ,aB,dM,lsV,ptV,p0,aW,dkC,aJ,bG,cmV,dA,bQ,aN,dH,dB,dU,dE,dG,dF,cZ,dC,dw,dS,dn,ay,aC,aF,Enc.all_ren,aB rfl,aA,bC,aV,a_,aO,ah,aP,bu,Int.toNat_natCast,aQ,aG,bz,bK,b_,bJ,bP,dm,Bool.and_self,aK,aH,ax]
theorem Pj{n:NdM}{e ac:Int}{m:MsgM}{b:List UInt8}(hn:NeQ n 100000)(hpg:n.s.pg=⟨e,1,ac,0,0,0⟩)(he:1<=e/\e<=1048576)(hm:m.e=e)(hx:LtM m b)(hac:0<=n.ac/\n.ac<=n.s.log.length)(ht:tells m=true) :
  CRX P 8 22 [p0,aX 1 b.length 0 (bc b)] (ndB n) (.tuple ⟨[noL, .int .i64 0]⟩) (ndB { n with ac:=max n.ac (min (max (max n.kn 0) m.en) n.s.log.length),kn:=max (max n.kn 0) m.en }):=by
 have hl:=hn.len;have hpe:=hn.pg;rw[hpg]at hpe;have q1:=hx.dec;have q2:=WW hpe he;have q3:=aax (kn:=n.kn) hm hx.chk;rw[ht]at q3;have q4:=YJ (en:=(n.s.log.length:Int)) (ac:=n.ac) (to:=max (max n.kn 0) m.en) ⟨hac.1,hac.2,by omega⟩;have hat:=Ec hpg;rw[cond_true]at q3;generalize hk2:max (max n.kn 0) m.en=k2 at *;generalize ha2:max n.ac (min k2 (n.s.log.length:Int))=a2 at *;have q:=acg (bM [aX 1 b.length 0 (bc b)] []) (bM [pgV ⟨e,1,ac,0,0,0⟩, .int .i64 e] []) (bM [.int .i64 e, .int .i64 n.kn,mV m] []) (bM [.int .i64 (n.s.log.length:Int), .int .i64 n.ac, .int .i64 k2] []) n e ac n.kn m k2 a2 true b;rw[hat]at q;rw[hpg]at q;refine CRX.of (pol:=iT) (fl:=[.val, .val]) (ts:=[64,0]) (n:=50) (bf _) az (aj (pol:=au) (aj (pol:=au) (aj (pol:=yD) (aj (pol:=au) bn (bF q4)) (bF q3)) (bF q2)) (bF q1)) (q.trans ?_);clear q q1 q2 q3 q4;have hdo:=hn.q.dk.off;have htb:=hn.q.sr.tb.ren;have e0:ag n.s.log.length=(n.s.log.length:Int):=rfl;have g1:ltI e e=false:=by unfold ltI; exact decide_eq_false (by omega)
 have z0:neI 0 0=false:=rfl;simp (disch:=first | omega | (simp only[List.length_append,List.length_drop,List.length_take,List.length_singleton,Nat.add_eq,bg]<;>omega) | fail) only[cz_,dk_,dl_,dn_,fa_,fb_,fc_,io_,me_,nh_,nl_,nn_,pg_,pt_,rb_,sb_,sc_,sl_,so_,tb_,w0_,wb_,hdo,htb,hpg,hm,e0,g1,z0,show fM (fM false)=false from rfl,noL,mV,pgV,pgC,ndB,stN,stB,mgV,lD,dA,kN,dI,rnB,srB,tbB,dkL,List.cons_append,List.nil_append,List.append_assoc,dJ,aB,dM,lsV,ptV,p0,aW,dkC,aJ,bG,cmV,dA,bQ,aN,dH,dB,dU,dE,dG,dF,cZ,dC,dw,dS,dn,ay,aC,aF,Enc.all_ren,aB rfl,aA,bC,aV,a_,aO,ah,aP,bu,Int.toNat_natCast,aQ,aG,bz,bK,b_,bJ,bP,dm,Bool.and_self,aK,aH,ax]
def aee(C1 C2 C3 C4:List Value->List Blk->Bool)(ru:Int)(s s2 s3:StaM)(p:PgM)(more:Bool):Ct:=aT P au 7 58 (cu C1 (.leaf (.int .i64 ru,stB s))) (yg P au 5 57 (cu C2 (.leaf (.int .i64 0,stB s2))) (aT P au 0 59 (cu C3 (.leaf (.tuple ⟨[pgV p, .bool more, .int .i64 0]⟩,[]))) (aT P au 7 44 (cu C4 (.leaf (.int .i64 0,stB s3))) ctF)))
theorem Oj(C1 C2 C3 C4:List Value->List Blk->Bool)(ru:Int)(n:NdM)(e ac kn:Int)(s2 s3:StaM)(p:PgM)(more:Bool):dD P E (aee C1 C2 C3 C4 ru (n.at1 e ac kn).s s2 s3 p more) 50 iT [] [] 6 23 [p0] (ndB (n.at1 e ac kn)) =
 (let z:=NdM.at1 n e ac kn;let y:=pt_ 0;let x:=bH (rg_ [2,1,1,1,3,5]) 33;let w:=sw_ z.s (ro_ [2,1,1,1,3,5,44,5,43,1,49,4]) x;let v:=bH [2,1,3,4,5] 53;let u:=bH [2,1,3,4,5,53,54] 88;let t:=bk_ u w0_;let r:=nh_ z.nu z.mo z.ac z.kn 1 2 z.he;let q:=ro_ [0,6,53,2,98,10];
 let o:=bk_ v w0_;let m:=ro_ [0,6,53,2,78,10];let l:=ae (C3 [pg_ z.s.pg,io_ z.ac] []) (ak more (nw_ s2 v (ae (C4 [y,pg_ p] (sw_ s2 (ro_ [2,1,1,1,3,3,53,2,79,5,78,1,84,4]) v)) (nn_ t s3 (some (io_ 0,af (r::dk_ s3.dk 8 9 10 11 12::sb_ s3 s3.pg 1 13 3 4 5::wb_ s3 1 14 15::rb_ s3 1 16::so_ 6 4 17 s3.rest.length::tb_ 7:: .map (bD true q (bD true u s3.tb.es)) s3.tb.ck::nl_ (cz_ q t) s3 [])))))) (nn_ o s2 (some (io_ 0,af (r::dk_ s2.dk 8 9 10 11 12::sb_ s2 s2.pg 1 13 3 4 5::wb_ s2 1 14 15::rb_ s2 1 16::so_ 6 4 17 s2.rest.length::tb_ 7:: .map (bD true m (bD true v s2.tb.es)) s2.tb.ck::nl_ (cz_ m o) s2 [])))));
 (ak (fM (fM z.s.dk.off)) (dn_ w0_ z.s.dk none) (ns_ z.s (ae (C1 [y] (sm_ z.s (ro_ [2,1,1,1,3,5,24,5,23,1,29,4]))) (ak (gtI ru z.ac) (nw_ z.s x (ae (C2 [y,io_ ru] w) l)) (nw_ z.s x (ae (C2 [y,io_ z.ac] w) l))))))):=by kernel_rfl
def abZ(C1 C2 C3:List Value->List Blk->Bool)(ru:Int)(s:StaM)(F:List Blk):Ct:=aT P au 2 77 (cu C1 (.leaf (.int .i64 ru,rnB s.rn))) (aT P au 7 76 (cu C2 (.leaf (.bool true,stB s))) (aT P au 5 104 (cu C3 (.leaf (.int .i64 0,F))) ctF))
theorem ZZ(C1 C2 C3:List Value->List Blk->Bool)(ru up:Int)(s:StaM)(sr:SrM):dD P E (abZ C1 C2 C3 ru (okS s) (srG sr s.tb)) 50 au [] [] 5 57 [p0, .int .i64 up] (stB (okS s)) =
 (let z:=okS s;let y:=z.rs.length;let x:=Enc.all eF z.rs;let w:=z.dk;let v:=pt_ 0;let u:=bY 0 [3,1,18,19,20,21,22,17];let t:=z.log.length;let r:=Enc.all ECm z.log;let q:=bH [3,1] 23;let p:=bk_ q w0_;let o:=z.rn.dk;let n:=z.wcs.length;let m:=Enc.all ECm z.wcs;let l:=z.wes.length;
 let k:=Enc.all EIn z.wes;let j:=z.rn.rs.length;let i:=aZ true q (Enc.all eF z.rn.rs);let h:=z.rest.length;let g:=Enc.all ECm z.rest;let f:=z.pg;let e:=sb_ z f 1 12 2 3 4;let d:=dk_ o 7 8 9 10 11;let c:=wb_ z 1 13 14;let b:=pt_ 1;let a:=Blk.cells [b, .bool z.rn.br,sl_ 15 j] 168 true;let Z:=so_ 5 3 16 h;
 let Y:=tb_ 6;let X:=ro_ [0,7,30,5,29,1,35,4];let W:=z.tb.es;let V:=z.tb.ck;let U:=nb_ t 3 r (dn_ p o (nb_ n 3 m (nb_ l 1 k (nb_ j 3 i (nb_ h 3 g (some (io_ 2,af (e::d::c::a::Z::Y:: .map (bD true X W) V::dl_ (cz_ X p) o [lb_ X t 3 r 47,lb_ X n 3 m 47,lb_ X l 1 k 3,lb_ X j 3 i 161,lb_ X h 3 g 47]))))))));
 let T:=ag t;let S:=pg_ f;let R:=io_ T;let Q:=io_ 0;let O:=io_ up;let N:=ro_ [0,7,45,5,44,1,50,4];let M:=sl_ 12 t;let L:=rg_ [0,7];let K:=bH L 54;let J:=aZ true K g;let I:=aZ true K x;let H:=bk_ K w0_;let G:=so_ 1 3 11 h;let F:=bY 0 [4,5,6,3,1,66,67,68,69,70,65,64];
 let D:=rb_ z 4 10;let C:=dk_ w 5 6 7 8 9;let B:=aZ true K r;let A:=[4,5,6,3,1];let z0:=bH A 71;let y0:=bk_ z0 w0_;let x0:=sr.rn.dk;let w0:=aZ true K m;let v0:=aZ true K k;let u0:=sr.rn.rs.length;let t0:=Enc.all eF sr.rn.rs;let s0:=aZ true z0 t0;let r0:=sr.rest.length;let q0:=Enc.all ECm sr.rest;
 let o0:=aZ true z0 q0;let n0:=Blk.cells [b, .bool (eqI 0 6),io_ f.ep, .int .u8 f.ro,io_ f.ac, .int .u8 f.ph,io_ f.fo,io_ f.ba,M,pt_ 2,pt_ 3,pt_ 4,io_ z.held] 128 true;let m0:=dk_ x0 7 8 9 10 11;let l0:=Blk.cells [b, .bool sr.rn.br,sl_ 15 u0] 168 true;let k0:=so_ 5 3 16 r0;let j0:=ro_ [0,5,71,2,81,5,80,1,86,4];
 let i0:=fH .i64 T 1;let h0:=Nat.add 0 (atN i0 3);let g0:=aU r h0;let f0:=ro_ [0,7,59,5,58,1,64,4];let e0:=bH L 68;let d0:=aZ true e0 g;let c0:=aZ true e0 x;let b0:=bk_ e0 w0_;let a0:=bY 0 [4,5,6,3,1,80,81,82,83,84,79,78];let Z0:=aZ true e0 r;let Y0:=bH A 85;
 let X0:=bk_ Y0 w0_;let W0:=aZ true e0 m;let V0:=aZ true e0 k;let U0:=aZ true Y0 t0;let T0:=aZ true Y0 q0;let S0:=ro_ [0,5,85,2,95,5,94,1,100,4];
 (nb_ y 3 x (dn_ w0_ w (ae (C1 [v] (rb_ z 1 7::dk_ w 2 3 4 5 6::dl_ (cz_ u w0_) w [lb_ u y 3 x 161])) (ak (ltI up ru) U (ak (gtI up T) U (ak (eqI T 0) (nb_ t 3 r (dn_ p o (nb_ n 3 m (nb_ l 1 k (nb_ j 3 i (nb_ h 3 g (ae (C2 [v,S,R,Q,O] (e::d::c::a::Z::Y:: .map (bD true N W) V::dl_ (cz_ N p) o [lb_ N t 3 r 47,lb_ N n 3 m 47,lb_ N l 1 k 3,lb_ N j 3 i 161,lb_ N h 3 g 47])) (ae (bU S S) (ae (bU M M) (ae (bU R R) (nb_ h 3 J (nb_ y 3 I (dn_ H w (ae (C3 [v,O] (G::tb_ 2:: .map (bD true F (bD true K W)) V::D::C::dl_ (cz_ F H) w [lb_ F y 3 I 161,lb_ F h 3 J 47])) (nb_ t 3 B (dn_ y0 x0 (nb_ n 3 w0 (nb_ l 1 v0 (nb_ u0 3 s0 (nb_ r0 3 o0 (some (Q,af (n0::m0::c::l0::k0::Y:: .map (bD true j0 (bD true z0 sr.tb.es)) sr.tb.ck::dl_ (cz_ j0 y0) x0 [lb_ j0 t 3 B 47,lb_ j0 n 3 w0 47,lb_ j0 l 1 v0 3,lb_ j0 u0 3 s0 161,lb_ j0 r0 3 o0 47]))))))))))))))))))))))) (ae (inI i0 t) (ae (Bool.and (Nat.ble (Nat.add h0 1) r.length) (eu (.int .i64) g0)) (nb_ t 3 r (dn_ p o (nb_ n 3 m (nb_ l 1 k (nb_ j 3 i (nb_ h 3 g (ae (C2 [v,S,R,io_ (asI g0),O] (e::d::c::a::Z::Y:: .map (bD true f0 W) V::dl_ (cz_ f0 p) o [lb_ f0 t 3 r 47,lb_ f0 n 3 m 47,lb_ f0 l 1 k 3,lb_ f0 j 3 i 161,lb_ f0 h 3 g 47])) (ae (bU S S) (ae (bU M M) (ae (bU R R) (nb_ h 3 d0 (nb_ y 3 c0 (dn_ b0 w (ae (C3 [v,O] (G::tb_ 2:: .map (bD true a0 (bD true e0 W)) V::D::C::dl_ (cz_ a0 b0) w [lb_ a0 y 3 c0 161,lb_ a0 h 3 d0 47])) (nb_ t 3 Z0 (dn_ X0 x0 (nb_ n 3 W0 (nb_ l 1 V0 (nb_ u0 3 U0 (nb_ r0 3 T0 (some (Q,af (n0::m0::c::l0::k0::Y:: .map (bD true S0 (bD true Y0 sr.tb.es)) sr.tb.ck::dl_ (cz_ S0 X0) x0 [lb_ S0 t 3 Z0 47,lb_ S0 n 3 W0 47,lb_ S0 l 1 V0 3,lb_ S0 u0 3 U0 161,lb_ S0 r0 3 T0 47])))))))))))))))))))))))))))))))):=by kernel_rfl
theorem ZN(C1 C2 C3:List Value->List Blk->Bool)(ru up:Int)(s:StaM):dD P E (abZ C1 C2 C3 ru (okS s) (srB s.sr)) 50 au [] [] 7 57 [p0, .int .i64 up] (stB (okS s)) =
 (let z:=okS s;let y:=z.rs.length;let x:=Enc.all eF z.rs;let w:=z.dk;let v:=pt_ 0;let u:=bY 0 [3,1,18,19,20,21,22,17];let t:=z.log.length;let r:=Enc.all ECm z.log;let q:=bH [3,1] 23;let p:=bk_ q w0_;let o:=z.rn.dk;let n:=z.wcs.length;let m:=Enc.all ECm z.wcs;let l:=z.wes.length;
 let k:=Enc.all EIn z.wes;let j:=z.rn.rs.length;let i:=aZ true q (Enc.all eF z.rn.rs);let h:=z.rest.length;let g:=Enc.all ECm z.rest;let f:=z.pg;let e:=sb_ z f 1 12 2 3 4;let d:=dk_ o 7 8 9 10 11;let c:=wb_ z 1 13 14;let b:=pt_ 1;let a:=Blk.cells [b, .bool z.rn.br,sl_ 15 j] 168 true;let Z:=so_ 5 3 16 h;
 let Y:=tb_ 6;let X:=ro_ [0,7,30,5,29,1,35,4];let W:=z.tb.es;let V:=z.tb.ck;let U:=nb_ t 3 r (dn_ p o (nb_ n 3 m (nb_ l 1 k (nb_ j 3 i (nb_ h 3 g (some (io_ 2,af (e::d::c::a::Z::Y:: .map (bD true X W) V::dl_ (cz_ X p) o [lb_ X t 3 r 47,lb_ X n 3 m 47,lb_ X l 1 k 3,lb_ X j 3 i 161,lb_ X h 3 g 47]))))))));
 let T:=ag t;let S:=pg_ f;let R:=io_ T;let Q:=io_ 0;let O:=io_ up;let N:=ro_ [0,7,45,5,44,1,50,4];let M:=sl_ 12 t;let L:=rg_ [0,7];let K:=bH L 54;let J:=aZ true K g;let I:=aZ true K x;let H:=bk_ K w0_;let G:=so_ 1 3 11 h;let F:=bY 0 [4,5,6,3,1,66,67,68,69,70,65,64];
 let D:=rb_ z 4 10;let C:=dk_ w 5 6 7 8 9;let B:=aZ true K r;let A:=[4,5,6,3,1];let z0:=bH A 71;let y0:=bk_ z0 w0_;let x0:=s.sr.rn;let w0:=x0.dk;let v0:=aZ true K m;let u0:=aZ true K k;let t0:=x0.rs.length;let s0:=Enc.all eF x0.rs;let r0:=aZ true z0 s0;let q0:=s.sr.rest.length;
 let o0:=Enc.all ECm s.sr.rest;let n0:=aZ true z0 o0;let m0:=Blk.cells [b, .bool (eqI 0 6),io_ f.ep, .int .u8 f.ro,io_ f.ac, .int .u8 f.ph,io_ f.fo,io_ f.ba,M,pt_ 2,pt_ 3,pt_ 4,io_ z.held] 128 true;let l0:=dk_ w0 7 8 9 10 11;let k0:=Blk.cells [b, .bool x0.br,sl_ 15 t0] 168 true;let j0:=so_ 5 3 16 q0;
 let i0:=ro_ [0,7,79,5,78,1,84,4];let h0:=fH .i64 T 1;let g0:=Nat.add 0 (atN h0 3);let f0:=aU r g0;let e0:=ro_ [0,7,59,5,58,1,64,4];let d0:=bH L 68;let c0:=aZ true d0 g;let b0:=aZ true d0 x;let a0:=bk_ d0 w0_;let Z0:=bY 0 [4,5,6,3,1,80,81,82,83,84,79,78];
 let Y0:=aZ true d0 r;let X0:=bH A 85;let W0:=bk_ X0 w0_;let V0:=aZ true d0 m;let U0:=aZ true d0 k;let T0:=aZ true X0 s0;let S0:=aZ true X0 o0;let R0:=ro_ [0,7,93,5,92,1,98,4];
 (nb_ y 3 x (dn_ w0_ w (ae (C1 [v] (rb_ z 1 7::dk_ w 2 3 4 5 6::dl_ (cz_ u w0_) w [lb_ u y 3 x 161])) (ak (ltI up ru) U (ak (gtI up T) U (ak (eqI T 0) (nb_ t 3 r (dn_ p o (nb_ n 3 m (nb_ l 1 k (nb_ j 3 i (nb_ h 3 g (ae (C2 [v,S,R,Q,O] (e::d::c::a::Z::Y:: .map (bD true N W) V::dl_ (cz_ N p) o [lb_ N t 3 r 47,lb_ N n 3 m 47,lb_ N l 1 k 3,lb_ N j 3 i 161,lb_ N h 3 g 47])) (ae (bU S S) (ae (bU M M) (ae (bU R R) (nb_ h 3 J (nb_ y 3 I (dn_ H w (ae (C3 [v,O] (G::tb_ 2:: .map (bD true F (bD true K W)) V::D::C::dl_ (cz_ F H) w [lb_ F y 3 I 161,lb_ F h 3 J 47])) (nb_ t 3 B (dn_ y0 w0 (nb_ n 3 v0 (nb_ l 1 u0 (nb_ t0 3 r0 (nb_ q0 3 n0 (some (Q,af (m0::l0::c::k0::j0::Y:: .map (bD true i0 (bD true z0 s.sr.tb.es)) s.sr.tb.ck::dl_ (cz_ i0 y0) w0 [lb_ i0 t 3 B 47,lb_ i0 n 3 v0 47,lb_ i0 l 1 u0 3,lb_ i0 t0 3 r0 161,lb_ i0 q0 3 n0 47]))))))))))))))))))))))) (ae (inI h0 t) (ae (Bool.and (Nat.ble (Nat.add g0 1) r.length) (eu (.int .i64) f0)) (nb_ t 3 r (dn_ p o (nb_ n 3 m (nb_ l 1 k (nb_ j 3 i (nb_ h 3 g (ae (C2 [v,S,R,io_ (asI f0),O] (e::d::c::a::Z::Y:: .map (bD true e0 W) V::dl_ (cz_ e0 p) o [lb_ e0 t 3 r 47,lb_ e0 n 3 m 47,lb_ e0 l 1 k 3,lb_ e0 j 3 i 161,lb_ e0 h 3 g 47])) (ae (bU S S) (ae (bU M M) (ae (bU R R) (nb_ h 3 c0 (nb_ y 3 b0 (dn_ a0 w (ae (C3 [v,O] (G::tb_ 2:: .map (bD true Z0 (bD true d0 W)) V::D::C::dl_ (cz_ Z0 a0) w [lb_ Z0 y 3 b0 161,lb_ Z0 h 3 c0 47])) (nb_ t 3 Y0 (dn_ W0 w0 (nb_ n 3 V0 (nb_ l 1 U0 (nb_ t0 3 T0 (nb_ q0 3 S0 (some (Q,af (m0::l0::c::k0::j0::Y:: .map (bD true R0 (bD true X0 s.sr.tb.es)) s.sr.tb.ck::dl_ (cz_ R0 W0) w0 [lb_ R0 t 3 Y0 47,lb_ R0 n 3 V0 47,lb_ R0 l 1 U0 3,lb_ R0 t0 3 T0 161,lb_ R0 q0 3 S0 47])))))))))))))))))))))))))))))))):=by kernel_rfl
theorem YO{s:SrM}(ht:fJ s.tb)(hr:s.rn.rs.length<4194304)(h0:0<=bI s.rn.rs/\bI s.rn.rs<=1048576)(hrl:s.rest.length<4194304) :
  CRX P 5 104 [p0, .int .i64 (bI s.rn.rs)] (srB s) (.int .i64 0) (srB s):=by
 have q0:=qG (r:=s.rn) hr;refine CRX.ofG (pol:=au) (fl:=[]) (ts:=[]) (n:=50) (bf _) az (aj (pol:=au) (dV (aj (pol:=au) (aj (pol:=au) (aj (pol:=au) (dV bn (nz (dL Je))) jw) jw) jw) (nz (dL IY))) (bF q0))
  ((Vb (bM [p0] (rnB s.rn)) (fun _ _=>false) (fun _ _=>false) (fun _ _=>false) (fun _ _=>false) (fun _ _=>false) (bI s.rn.rs) (bI s.rn.rs) s s.tb 0 [] s.rn [] s).trans ?_)
 clear q0;generalize bI s.rn.rs=ru at h0 ⊢;have g1:ltI ru ru=false:=by unfold ltI; exact decide_eq_false (by omega)
 have g2:dO .i64 ru (ag s.rest.length)=ru+(s.rest.length:Int):=by unfold dO ag; exact wrap64 (by omega) (by omega)
 have g3:gtI ru (ru+(s.rest.length:Int))=false:=by unfold gtI; exact decide_eq_false (by omega)
 have g4:eqI ru ru=true:=by unfold eqI; exact decide_eq_true rfl
 simp (disch:=first | omega | (simp only[List.length_append,List.length_drop,List.length_take,List.length_singleton,Nat.add_eq,bg]<;>omega) | fail) only[bk_,cz_,dk_,dl_,dn_,fa_,fq_,io_,lb_,nb_,pt_,sl_,so_,tb_,w0_,ht.ren,g1,g2,g3,g4,dI,rnB,srB,tbB,dkL,List.cons_append,List.nil_append,List.append_assoc,dJ,aB,dM,lsV,ptV,p0,aW,dkC,aJ,bG,cmV,dA,bQ,aN,dH,dB,dU,dE,dG,dF,cZ,dC,dw,dS,dn,ay,aC,aF,Enc.all_ren,ay rfl,aC rfl,aF rfl,aB rfl,aA,bC,aV,a_,aO,ah,aP,bu,Int.toNat_natCast,aQ,aG,bz,bK,b_,bJ,bP,dm,Bool.and_self,aK,aH,ax]
def StaM.flushed(s:StaM)(k:Nat)(x:List UInt8)(n:Nat):StaM:={ s with dk:={ s.dk with d2:=s.dk.d2++x,steps:=s.dk.steps+(k:Int)+1,pend:=[] },rbr:=false,rs:=s.rs++[kC s.rs (s.rest.take n)],tb:=eX (gB (s.rest.drop n)),rest:=s.rest.drop n }
theorem aaC{s:StaM}{n:Nat}{up:Int}(hs:StQ s 100000)(hbr:s.rbr=false)(hrs:s.rs.length<4000000)(hl:s.dk.d2.length<=3000000)(hn:1<=n/\n<=s.rest.length)(hup:up=bI s.rs+(n:Int))(hg:s.log.length<=100)(hc:∀ c∈s.rest,cmE c=0)
  (hso:nV s.held s.pg (s.log.length:Int) (eG s.log) up=true) :
  ∃ (k:Nat) (x:List UInt8),k<=1300/\x.length<=82011/\CRX P 5 57 [p0, .int .i64 up] (stB s) (.int .i64 0) (stB (s.flushed k x n)):=by
 have hsn:=hs.sr.n;have hr0:=hs.sr.r0;obtain⟨k,x,k1,k2,q3⟩:=abo (s:=s.sr) (n:=n) (up:=up) hs.sr.tb hbr hs.dk hs.pend hrs hl hr0 hn hup (by omega) (by show s.rest.length<=100; omega) hc;refine⟨k,x,k1,k2,?_⟩;have q1:=qG (r:=s.rn) hs.sr.r;have q2:=AY (s:=s) hs.sr.tb (p:=s.pg) (en:=(s.log.length:Int)) (ep:=eG s.log) (ru:=up);rw[hso]at q2;have q:=ZZ (bM [p0] (rnB s.rn)) (bM [p0,pgV s.pg, .int .i64 (s.log.length:Int), .int .i64 (eG s.log), .int .i64 up] (stB s)) (bM [p0, .int .i64 up] (srB s.sr)) (bI s.rs) up s ⟨eX (gB (s.rest.drop n)),⟨{ s.dk with d2:=s.dk.d2++x,steps:=s.dk.steps+(k:Int)+1,pend:=[] },false,s.rs++[kC s.rs (s.rest.take n)]⟩,s.rest.drop n⟩;rw[Ew hs.off hs.dk.off]at q;refine CRX.of (pol:=au) (fl:=[]) (ts:=[]) (n:=50) (bf _) az (aj (pol:=au) (aj (pol:=au) (aj (pol:=au) bn (bF q3)) (bF q2)) (bF q1)) (q.trans ?_);clear q q1 q2 q3;have hoff:=hs.off;have hdo:=hs.dk.off;have ht:=hs.sr.tb.ren;have ht2:=(jv (gB (s.rest.drop n))).ren;have e0:ag s.log.length=(s.log.length:Int):=rfl;have g1:ltI up (bI s.rs)=false:=by unfold ltI; exact decide_eq_false (by omega)
 have g2:gtI up (s.log.length:Int)=false:=by unfold gtI; exact decide_eq_false (by omega)
 have h0:s.log≠[]:=by intro h; rw[h]at hsn; simp at hsn; omega
 obtain⟨m0,_,m1,m2⟩:=nR h0 (by omega);have mp:=List.length_pos_iff.2 h0;have m4:=pI (l:=s.log) (i:=s.log.length-1) (by omega);have m4':aU (ECm.all s.log) (Nat.add (atN ((s.log.length-1:Nat):Int) 3) 0) = .int .i64 (s.log[s.log.length-1]'(by omega)).e:=m4;have m5:=oW (n:=s.log.length) (k:=1) mp (by decide);have m6:=su h0;rw[e0]at m0 m1;simp (disch:=first | omega | (simp only[List.length_append,List.length_drop,List.length_take,List.length_singleton,Nat.add_eq,bg]<;>omega) | fail) only[bk_,cz_,dk_,dl_,dn_,io_,lb_,nb_,pg_,pt_,rb_,sb_,sc_,sl_,so_,tb_,w0_,wb_,hoff,hdo,ht,ht2,g1,g2,e0,m0,m1,m2,m4,m4',m5,m6,show fM true=false from rfl,show eqI 0 6=false from rfl,um,pgV,jI,sG,StaM.flushed,StaM.sr,StaM.rn,srG,stB,pgC,dI,rnB,srB,tbB,dkL,List.cons_append,List.nil_append,List.append_assoc,dJ,aB,dM,lsV,ptV,p0,aW,dkC,aJ,bG,cmV,dA,bQ,aN,dH,dB,dU,dE,dG,dF,cZ,dC,dw,dS,dn,ay,aC,aF,Enc.all_ren,ay rfl,aC rfl,aF rfl,aB rfl,aA,bC,aV,a_,aO,ah,aP,bu,Int.toNat_natCast,aQ,aG,bz,bK,b_,bJ,bP,dm,Bool.and_self,aK,aH,ax]
theorem abb{s:StaM}(hs:StQ s 100000)(hg:s.log.length<=100)
  (hso:nV s.held s.pg (s.log.length:Int) (eG s.log) (bI s.rs)=true) :
  CRX P 7 57 [p0, .int .i64 (bI s.rs)] (stB s) (.int .i64 0) (stB s):=by
 have hsn:=hs.sr.n;have hr0:=hs.sr.r0;have q3:=YO (s:=s.sr) hs.sr.tb hs.sr.r (by show 0<=bI s.rs/\bI s.rs<=_; omega) (by show s.rest.length<_; omega);have q1:=qG (r:=s.rn) hs.sr.r;have q2:=AY (s:=s) hs.sr.tb (p:=s.pg) (en:=(s.log.length:Int)) (ep:=eG s.log) (ru:=bI s.rs);rw[hso]at q2;have q:=ZN (bM [p0] (rnB s.rn)) (bM [p0,pgV s.pg, .int .i64 (s.log.length:Int), .int .i64 (eG s.log), .int .i64 (bI s.rs)] (stB s)) (bM [p0, .int .i64 (bI s.rs)] (srB s.sr)) (bI s.rs) (bI s.rs) s;rw[Ew hs.off hs.dk.off]at q;refine CRX.of (pol:=au) (fl:=[]) (ts:=[]) (n:=50) (bf _) az (aj (pol:=au) (aj (pol:=au) (aj (pol:=au) bn (bF q3)) (bF q2)) (bF q1)) (q.trans ?_);clear q q1 q2 q3;have hoff:=hs.off;have hdo:=hs.dk.off;have ht:=hs.sr.tb.ren;have e0:ag s.log.length=(s.log.length:Int):=rfl;have g1:ltI (bI s.rs) (bI s.rs)=false:=by unfold ltI; exact decide_eq_false (by omega)
 have g2:gtI (bI s.rs) (s.log.length:Int)=false:=by unfold gtI; exact decide_eq_false (by omega)
 by_cases h0:s.log=[]
 ·have e1:eG s.log=0:=by rw[h0]; rfl
  have e2:(s.log.length:Int)=0:=by rw[h0]; rfl
  have e3:eqI (s.log.length:Int) 0=true:=by rw[e2]; rfl
  simp (disch:=first | omega | (simp only[List.length_append,List.length_drop,List.length_take,List.length_singleton,Nat.add_eq,bg]<;>omega) | fail) only[bk_,cz_,dk_,dl_,dn_,io_,lb_,nb_,pg_,pt_,rb_,sb_,sc_,sl_,so_,tb_,w0_,wb_,hoff,hdo,ht,g1,g2,e0,e1,e3,show fM true=false from rfl,show eqI 0 6=false from rfl,um,pgV,jI,sG,StaM.sr,StaM.rn,stB,pgC,dI,rnB,srB,tbB,dkL,List.cons_append,List.nil_append,List.append_assoc,dJ,aB,dM,lsV,ptV,p0,aW,dkC,aJ,bG,cmV,dA,bQ,aN,dH,dB,dU,dE,dG,dF,cZ,dC,dw,dS,dn,ay,aC,aF,Enc.all_ren,ay rfl,aC rfl,aF rfl,aB rfl,aA,bC,aV,a_,aO,ah,aP,bu,Int.toNat_natCast,aQ,aG,bz,bK,b_,bJ,bP,dm,Bool.and_self,aK,aH,ax]
 ·obtain⟨m0,_,m1,m2⟩:=nR h0 (by omega);have mp:=List.length_pos_iff.2 h0;have m4:=pI (l:=s.log) (i:=s.log.length-1) (by omega);have m4':aU (ECm.all s.log) (Nat.add (atN ((s.log.length-1:Nat):Int) 3) 0) = .int .i64 (s.log[s.log.length-1]'(by omega)).e:=m4;have m5:=oW (n:=s.log.length) (k:=1) mp (by decide);have m6:=su h0;rw[e0]at m0 m1;simp (disch:=first | omega | (simp only[List.length_append,List.length_drop,List.length_take,List.length_singleton,Nat.add_eq,bg]<;>omega) | fail) only[bk_,cz_,dk_,dl_,dn_,io_,lb_,nb_,pg_,pt_,rb_,sb_,sc_,sl_,so_,tb_,w0_,wb_,hoff,hdo,ht,g1,g2,e0,m0,m1,m2,m4,m4',m5,m6,show fM true=false from rfl,show eqI 0 6=false from rfl,um,pgV,jI,sG,StaM.sr,StaM.rn,stB,pgC,dI,rnB,srB,tbB,dkL,List.cons_append,List.nil_append,List.append_assoc,dJ,aB,dM,lsV,ptV,p0,aW,dkC,aJ,bG,cmV,dA,bQ,aN,dH,dB,dU,dE,dG,dF,cZ,dC,dw,dS,dn,ay,aC,aF,Enc.all_ren,ay rfl,aC rfl,aF rfl,aB rfl,aA,bC,aV,a_,aO,ah,aP,bu,Int.toNat_natCast,aQ,aG,bz,bK,b_,bJ,bP,dm,Bool.and_self,aK,aH,ax]
def Dse:HeadX:=⟨2,26,[1,5,6],[.val, .val, .val],[],au⟩
def Bse:Code:=(dR P 172 0).getD .skip
theorem UL:dR P 172 0=some Bse:=by kernel_rfl
theorem AX:Occ P 172 (.block 0 (.loop Bse)):=fA UL
def seB(a b:Int)(l:List OpM)(k:ByteArray):List Blk:=[.cells [.int .i64 a, .int .i64 b,aJ l] 161 true, .cells [.string k] 9 true]
def seF:Value:= .func (.func 173) #[] #[ptV 0,ptV 1]
def seV(i j:Int):List Value:=[seF, .int .i64 i, .int .i64 j]
theorem Ko(a b:Int)(l:List OpM)(k:ByteArray)(i j:Int):bV P E ctF 50 172 Bse Dse (seV i j) (seB a b l k) =
 (let z:=cvI .i64 (GL .u64 (cvI .u64 (dO .i64 i j)) 1);let y:=Nat.add (atN z 3) 1;let x:=Enc.all EOp l;let w:=Value.func (Go.Fn.func 173) ⟨[]⟩ ⟨[pt_ 0,pt_ 1]⟩;let v:=af [.cells [io_ a,io_ b,fa_ l.length 0 x] 161 true, .cells [.string k] 9 true];
 (ak (ltI i j) (ae (Bool.and (Nat.beq 3 3) (inI z l.length)) (ae (Bool.and (Nat.ble (Nat.add y 1) x.length) (eu .string (aU x y))) (ak (fM (geS (asS (aU x y)) k)) (some (.tuple ⟨[io_ 0,w,io_ (dO .i64 z 1),io_ j]⟩,v)) (some (.tuple ⟨[io_ 0,w,io_ i,io_ z]⟩,v))))) (some (.tuple ⟨[io_ 1,w,io_ i,io_ j]⟩,v)))):=by kernel_rfl
theorem abd(C:List Value->List Blk->Bool)(a b:Int)(l:List OpM)(k:ByteArray)(n r:Int):dD P E (eY P 172 0 Dse (gX C (.leaf (.normal,seV r r,seB a b l k))) ctF) 50 au [] [] 2 172 [.int .i64 n,seF] (seB a b l k) =
 (let z:=[Blk.cells [io_ a,io_ b,fa_ l.length 0 (Enc.all EOp l)] 161 true,Blk.cells [.string k] 9 true];
 (ae (C [.func (Go.Fn.func 173) ⟨[]⟩ ⟨[pt_ 0,pt_ 1]⟩,io_ 0,io_ n] z) (some (io_ r,af z)))):=by kernel_rfl
def aeH:Pol:=fun t=>match Nat.beq t 158,Nat.beq t 168 with
 |true,_=>some [.keep]
 |false,true=>some [.val, .val, .keep]
 |false,false=>au t
def Ah:ALoop:=O_ P 143 0 51
def xx:List Tmp:=[0,3,4,5,6]
def Dbk:HeadY:=⟨9,19,[0,1,3],[.val, .val, .val],[],aeH,xx,[.val, .val, .val, .val, .val],[]⟩
def Bbk:Code:=(dR P 197 0).getD .skip
theorem Jw:dR P 197 0=some Bbk:=by kernel_rfl
theorem uy:Occ P 197 (.block 0 (.loop Bbk)):=fA Jw
def gtB(r:RnM)(k v:ByteArray)(m t:Bool)(s:LoopState)(p:Option Code):List Blk:=[lpB Ah xx [ptV 1,ptV 3,ptV 5,ptV 4,ptV 6] 7 s p, .cells [ptV 2, .bool r.br,lsV 14 r.rs.length] 168 true, .cells (dM 9 10 11 12 13 r.dk) 86 true,
 .cells [.string k] 9 true, .cells [.bool m] 4 true, .cells [.string v] 9 true, .cells [.bool t] 4 true, .deferred, .cells [lsV 14 r.rs.length] 158 true]++dkL r.dk++[.cells (eF.all r.rs) 161 false]
def yl0:Value:= .func (.yield 0) #[] #[]
def bkV(i:Int):List Value:=[yl0,ptV 8, .int .i64 i]
def Rf(C:List Value->List Blk->Bool)(a b x:Int)(l:List OpM)(k:ByteArray):Ct:=aT P au 2 172 (cu C (.leaf (.int .i64 x,seB a b l k))) ctF
theorem FM(C:List Value->List Blk->Bool)(r:RnM)(k:ByteArray)(i a b x:Int)(l:List OpM):lW P E (Rf C a b x l k) 50 197 Bbk Dbk (bkV i) (gtB r k ⟨#[]⟩ false false .ready none) =
 (let z:=r.rs.length;let y:=Nat.add 0 (atN i 3);let w:=Enc.all eF r.rs;let v:=Eta.int .i64;let u:=Nat.add y 1;let t:=aU w (Nat.add u 1);let s:=Blk.cells [.string k] 9 true;let q:=l.length;let p:=Bool.and (Nat.beq 3 3) (inI x q);let o:=atN x 3;let n:=Nat.add o 1;let m:=Enc.all EOp l;let j:=m.length;
 let h:=Nat.add o 2;let g:=Nat.add o 0;let f:=Bool.and (Nat.ble (Nat.add g 1) j) (eu .bool (aU m g));let e:=fa_ q 0 m;let d:=Value.bool (asB (aU m g));let c:=r.dk;let Z:=Value.func (Go.Fn.yield 0) ⟨[]⟩ ⟨[]⟩;let Y:=pt_ 8;let X:=[pt_ 1,pt_ 3,pt_ 5,pt_ 4,pt_ 6];let W:=Blk.cells [pt_ 2, .bool r.br,sl_ 14 z] 168 true;
 let V:=dk_ c 9 10 11 12 13;let U:=Blk.cells [sl_ 14 z] 158 true;let T:=ro_ [0,9,46,5,14,1];let S:=lpB Ah xx X 7 Go.LoopState.ready none;let R:=Blk.cells [.bool false] 4 true;let Q:=Blk.cells [.string (ByteArray.mk #[])] 9 true;let O:=ro_ [0,9,31,5,14,1];let N:=dn_ w0_ c (some (.tuple ⟨[io_ 0,Z,Y,io_ (fH .i64 i 1)]⟩,af (S::W::V::s::R::Q::R:: .deferred::U::dl_ (cz_ O w0_) c [.cells (aZ true O w) 161 false])));
 let M:=ro_ [0,9,15,5,14,1];
 (ak (geI i 0) (ae (inI i z) (ae (Bool.and (Nat.ble (Nat.add y 3) w.length) (iq [v,v, .slice 3] w y)) (ae (C [io_ (ag (zN t)), .func (Go.Fn.func 173) ⟨[]⟩ ⟨[pt_ 0,pt_ 1]⟩] [.cells [io_ (asI (aU w y)),io_ (asI (aU w u)),fa_ (zN t) (zB t) (zC t)] 161 true,s]) (ak (ltI x (ag q)) (ae p (ae (Bool.and (Nat.ble (Nat.add n 1) j) (eu .string (aU m n))) (ak (eqS (asS (aU m n)) k) (ae p (ae (Bool.and (Nat.ble (Nat.add h 1) j) (eu .string (aU m h))) (ae p (ae f (ae (bU e e) (ae (bU e e) (ae f (ae (bU d d) (ae f (ae (bU d d) (dn_ w0_ c (some (.tuple ⟨[io_ (-1),Z,Y,io_ i]⟩,af (lpB Ah xx X 7 Go.LoopState.done (some Go.Code.ret)::W::V::s:: .cells [.bool true] 4 true:: .cells [.string (asS (aU m h))] 9 true:: .cells [d] 4 true:: .deferred::U::dl_ (cz_ T w0_) c [.cells (aZ true T w) 161 false])))))))))))))) N))) N)))) (dn_ w0_ c (some (.tuple ⟨[io_ 1,Z,Y,io_ i]⟩,af (S::W::V::s::R::Q::R:: .deferred::U::dl_ (cz_ M w0_) c [.cells (aZ true M w) 161 false])))))):=by kernel_rfl
theorem aaT(C:List Value->List Blk->Bool)(r:RnM)(k:ByteArray):dD P E (uY P 197 0 Dbk (gX C (.leaf (.normal,bkV (-1),gtB r k ⟨#[]⟩ false false .ready none))) ctF) 50 au [] [] 2 143 [p0, .string k] (rnB r) =
 (let z:=r.dk;let y:=r.rs.length;let x:=Value.bool r.br;let w:=Value.bool false;let v:=Blk.cells [w] 4 true;let u:=Value.string (ByteArray.mk #[]);let t:=bY 0 [14,0,1,8,10,9,11,13,12,15,16,17,18,19,7];let s:=Enc.all eF r.rs;let q:=bH [14,0,1,8,10,9,11,13,12] 20;let p:=aZ true q s;
 let o:=bk_ q w0_;let n:=ro_ [0,2,27,5,26,1];
 (dn_ w0_ z (ae (C [.func (Go.Fn.yield 0) ⟨[]⟩ ⟨[]⟩,pt_ 8,io_ (fH .i64 (ag y) 1)] (lpB Ah xx [pt_ 1,pt_ 3,pt_ 5,pt_ 4,pt_ 6] 7 Go.LoopState.ready none:: .cells [pt_ 2,x,sl_ 14 y] 168 true::dk_ z 9 10 11 12 13:: .cells [.string k] 9 true::v:: .cells [u] 9 true::v:: .deferred:: .cells [sl_ 14 y] 158 true::dl_ (cz_ t w0_) z [.cells (aZ true t s) 161 false])) (nb_ y 3 p (dn_ o z (some (.tuple ⟨[u,w,w]⟩,af (.cells [pt_ 1,x,sl_ 7 y] 168 true::dk_ z 2 3 4 5 6::dl_ (cz_ n o) z [lb_ n y 3 p 161])))))))):=by kernel_rfl
theorem ZQ(C:List Value->List Blk->Bool)(r:RnM)(k v:ByteArray)(t:Bool)(i:Int):dD P E (uY P 197 0 Dbk (gX C (.leaf (.ret,bkV i,gtB r k v true t .done (some .ret)))) ctF) 50 au [] [] 2 143 [p0, .string k] (rnB r) =
 (let z:=r.dk;let y:=r.rs.length;let x:=Value.bool r.br;let w:=Blk.cells [.bool false] 4 true;let u:=bY 0 [14,0,1,8,10,9,11,13,12,15,16,17,18,19,7];let s:=Enc.all eF r.rs;let q:=bH [14,0,1,8,10,9,11,13,12] 20;let p:=aZ true q s;let o:=bk_ q w0_;let n:=ro_ [0,2,27,5,26,1];
 (dn_ w0_ z (ae (C [.func (Go.Fn.yield 0) ⟨[]⟩ ⟨[]⟩,pt_ 8,io_ (fH .i64 (ag y) 1)] (lpB Ah xx [pt_ 1,pt_ 3,pt_ 5,pt_ 4,pt_ 6] 7 Go.LoopState.ready none:: .cells [pt_ 2,x,sl_ 14 y] 168 true::dk_ z 9 10 11 12 13:: .cells [.string k] 9 true::w:: .cells [.string (ByteArray.mk #[])] 9 true::w:: .deferred:: .cells [sl_ 14 y] 158 true::dl_ (cz_ u w0_) z [.cells (aZ true u s) 161 false])) (nb_ y 3 p (dn_ o z (some (.tuple ⟨[.string v, .bool true, .bool t]⟩,af (.cells [pt_ 1,x,sl_ 7 y] 168 true::dk_ z 2 3 4 5 6::dl_ (cz_ n o) z [lb_ n y 3 p 161])))))))):=by kernel_rfl
theorem Us{i j:Nat}(hi:i<=j)(hj:j<=4194304):cvI .i64 (GL .u64 (cvI .u64 (dO .i64 (i:Int) (j:Int))) 1)=(((i+j) / 2:Nat):Int):=by
 have e1:dO .i64 (i:Int) (j:Int)=((i+j:Nat):Int):=by unfold dO; rw[wrap64 (by omega) (by omega)]; omega
 have e2:cvI .u64 ((i+j:Nat):Int)=((i+j:Nat):Int):=gY (by omega);have e3:GL .u64 ((i+j:Nat):Int) 1=((i+j:Nat):Int) / 2:=by
  show((i+j:Nat):Int).fdiv 2=_;exact Int.fdiv_eq_ediv_of_nonneg _ (by decide)
 rw[e1,e2,e3];unfold cvI;rw[wrap64 (by omega) (by omega)];omega
theorem SX(a b:ByteArray):geS a b=decide (kB b<=kB a):=by
 unfold geS;rw[toList_data,toList_data,Go.Proofs.bytesLess_eq];by_cases h:kB b<=kB a
 ·have h1:¬a.data.toList<b.data.toList:=List.not_lt.2 h;rw[decide_eq_true h,decide_eq_false h1]; rfl
 ·have h1:a.data.toList<b.data.toList:=List.not_le.1 h;rw[decide_eq_false h,decide_eq_true h1]; rfl
theorem ad4{a b:Int}{l:List OpM}{k:ByteArray}{i j:Nat}(hij:i<j)(hj:j<=l.length)(hl:l.length<4194304)(hk:geS (l[(i+j) / 2]'(by omega)).k k=false) :
  bV P E ctF 50 172 Bse Dse (seV i j) (seB a b l k)=some (.tuple ⟨exV .normal::seV (((i+j) / 2+1:Nat):Int) j⟩,af (seB a b l k)):=by
 have hm:(i+j) / 2<l.length:=by omega
 have g0:ltI (i:Int) (j:Int)=true:=by unfold ltI; exact decide_eq_true (by omega)
 have gm:=Us (i:=i) (j:=j) (by omega) (by omega);obtain⟨_,g2,a1⟩:=iM hm (by omega);have g3:Nat.ble (Nat.add (Nat.add (atN (((i+j) / 2:Nat):Int) 3) 1) 1) (Nat.mul l.length 3)=true:=iG (k:=2) hm (by decide);have b4:∀ s,eu .string (.string s)=true:=fun _=>rfl;rw[Ko];simp (disch:=first | omega | (simp only[List.length_append,List.length_drop,List.length_take,List.length_singleton,Nat.add_eq,bg]<;>omega) | fail) only[fa_,io_,pt_,gm,g0,g2,a1,g3,b4,qh hm,qW,hk,show fM false=true from rfl,show Nat.beq 3 3=true from rfl,seV,seF,seB,ptV,mg,aJ,bQ,dI,rnB,srB,tbB,dkL,List.cons_append,List.nil_append,List.append_assoc,dJ,aB,dM,lsV,ptV,p0,aW,dkC,aJ,bG,cmV,dA,bQ,aN,dH,dB,dU,dE,dG,dF,cZ,dC,dw,dS,dn,ay,aC,aF,Enc.all_ren,aA,bC,aV,a_,aO,ah,aP,bu,Int.toNat_natCast,aQ,aG,bz,bK,b_,bJ,bP,dm,Bool.and_self,aK,aH,ax]
 rfl
theorem adU{a b:Int}{l:List OpM}{k:ByteArray}{i j:Nat}(hij:i<j)(hj:j<=l.length)(hl:l.length<4194304)(hk:geS (l[(i+j) / 2]'(by omega)).k k=true) :
  bV P E ctF 50 172 Bse Dse (seV i j) (seB a b l k)=some (.tuple ⟨exV .normal::seV i (((i+j) / 2:Nat):Int)⟩,af (seB a b l k)):=by
 have hm:(i+j) / 2<l.length:=by omega
 have g0:ltI (i:Int) (j:Int)=true:=by unfold ltI; exact decide_eq_true (by omega)
 have gm:=Us (i:=i) (j:=j) (by omega) (by omega);obtain⟨_,g2,a1⟩:=iM hm (by omega);have g3:Nat.ble (Nat.add (Nat.add (atN (((i+j) / 2:Nat):Int) 3) 1) 1) (Nat.mul l.length 3)=true:=iG (k:=2) hm (by decide);have b4:∀ s,eu .string (.string s)=true:=fun _=>rfl;rw[Ko];simp (disch:=first | omega | (simp only[List.length_append,List.length_drop,List.length_take,List.length_singleton,Nat.add_eq,bg]<;>omega) | fail) only[fa_,io_,pt_,gm,g0,g2,a1,g3,b4,qh hm,qW,hk,show fM true=false from rfl,show Nat.beq 3 3=true from rfl,seV,seF,seB,ptV,mg,aJ,bQ,dI,rnB,srB,tbB,dkL,List.cons_append,List.nil_append,List.append_assoc,dJ,aB,dM,lsV,ptV,p0,aW,dkC,aJ,bG,cmV,dA,bQ,aN,dH,dB,dU,dE,dG,dF,cZ,dC,dw,dS,dn,ay,aC,aF,Enc.all_ren,aA,bC,aV,a_,aO,ah,aP,bu,Int.toNat_natCast,aQ,aG,bz,bK,b_,bJ,bP,dm,Bool.and_self,aK,aH,ax]
 rfl
theorem RS{a b:Int}{l:List OpM}{k:ByteArray}{i:Nat} :
  bV P E ctF 50 172 Bse Dse (seV i i) (seB a b l k)=some (.tuple ⟨exV (.exit 0)::seV i i⟩,af (seB a b l k)):=by
 have g0:ltI (i:Int) (i:Int)=false:=by unfold ltI; exact decide_eq_false (by omega)
 rw[Ko];simp (disch:=first | omega | (simp only[List.length_append,List.length_drop,List.length_take,List.length_singleton,Nat.add_eq,bg]<;>omega) | fail) only[fa_,io_,pt_,g0,seV,seF,seB,ptV,mg,aJ,bQ,dI,rnB,srB,tbB,dkL,List.cons_append,List.nil_append,List.append_assoc,dJ,aB,dM,lsV,ptV,p0,aW,dkC,aJ,bG,cmV,dA,bQ,aN,dH,dB,dU,dE,dG,dF,cZ,dC,dw,dS,dn,ay,aC,aF,Enc.all_ren,aA,bC,aV,a_,aO,ah,aP,bu,Int.toNat_natCast,aQ,aG,bz,bK,b_,bJ,bP,dm,Bool.and_self,aK,aH,ax]
 rfl
theorem aav{a b:Int}{l:List OpM}{k:ByteArray}(hl:l.length<4194304)(hr:ris l):∀ (m i j:Nat),j-i<=m->i<=lbM l k->lbM l k<=j->j<=l.length->
  LRX P 172 0 Bse Dse.head (seV i j) (seB a b l k) .normal (seV (lbM l k) (lbM l k)) (seB a b l k):=by
 intro m
 induction m with
 |zero=>
  intro i j h1 h2 h3 h4;obtain rfl:i=lbM l k:=by omega
  obtain rfl:j=lbM l k:=by omega
  exact LRX.stop (n:=50) (bf _) az bn AX RS (by intro h; cases h)
 |succ m ih=>
  intro i j h1 h2 h3 h4;by_cases hij:i<j
  ·have hm:(i+j) / 2<l.length:=by omega
   by_cases hlt:(i+j) / 2<lbM l k
   ·have hk:geS (l[(i+j) / 2]'hm).k k=false:=by rw[SX]; exact decide_eq_false ((Fp hr hm).1 hlt)
    exact LRX.again (n:=50) (bf _) az bn AX (ad4 hij h4 hl hk) (ih ((i+j) / 2+1) j (by omega) (by omega) h3 h4)
   ·have hk:geS (l[(i+j) / 2]'hm).k k=true:=by
     rw[SX];refine decide_eq_true ?_;by_cases hc:kB k<=kB (l[(i+j) / 2]'hm).k
     ·exact hc
     ·exact absurd ((Fp hr hm).2 hc) hlt
    exact LRX.again (n:=50) (bf _) az bn AX (adU hij h4 hl hk) (ih i ((i+j) / 2) (by omega) h2 (by omega) (by omega))
  ·obtain rfl:i=lbM l k:=by omega
   obtain rfl:j=lbM l k:=by omega
   exact LRX.stop (n:=50) (bf _) az bn AX RS (by intro h; cases h)
theorem abO{a b:Int}{l:List OpM}{k:ByteArray}(hl:l.length<4194304)(hr:ris l):CRX P 2 172 [.int .i64 (ag l.length),seF] (seB a b l k) (.int .i64 (lbM l k:Int)) (seB a b l k):=by
 have q:=aav (a:=a) (b:=b) (k:=k) hl hr l.length 0 l.length (by omega) (Nat.zero_le _) (acr l k) (Nat.le_refl _);refine CRX.of (pol:=au) (fl:=[]) (ts:=[]) (n:=50) (bf _) az (dV bn (fG (dL UL) q)) ((abd (bM (seV (0:Nat) l.length) (seB a b l k)) a b l k (ag l.length) (lbM l k:Int)).trans ?_);clear q;have z0:((0:Nat):Int)=0:=rfl;have z1:ag l.length=(l.length:Int):=rfl;simp (disch:=first | omega | (simp only[List.length_append,List.length_drop,List.length_take,List.length_singleton,Nat.add_eq,bg]<;>omega) | fail) only[fa_,io_,pt_,z0,z1,seV,seF,seB,ptV,aJ,bQ,dI,rnB,srB,tbB,dkL,List.cons_append,List.nil_append,List.append_assoc,dJ,aB,dM,lsV,ptV,p0,aW,dkC,aJ,bG,cmV,dA,bQ,aN,dH,dB,dU,dE,dG,dF,cZ,dC,dw,dS,dn,ay,aC,aF,Enc.all_ren,aA,bC,aV,a_,aO,ah,aP,bu,Int.toNat_natCast,aQ,aG,bz,bK,b_,bJ,bP,dm,Bool.and_self,aK,aH,ax]
theorem RF(t n b:Nat)(l:List OpM):bU (.iface t (.agg ⟨.slice none n b::EOp.all l⟩)) (.iface t (.agg ⟨.slice none n b::EOp.all l⟩))=true:=by simp[bU,wo,jg,Ba]
theorem LP(a b:ByteArray):eqS a b=decide (a=b):=by
 unfold eqS;rw[toList_data,toList_data];by_cases h:a=b
 ·subst h; simp
 ·rw[decide_eq_false h];have:a.data.toList≠b.data.toList:=fun e=>h (TU e);simpa using this
theorem Bo(b:Bool):bU (.bool b) (.bool b)=true:=by cases b<;>rfl
theorem adR{l:List OpM}{i:Nat}(h:i<l.length):aU (EOp.all l) (Nat.add (atN (i:Int) 3) 2) = .string l[i].v:=vk h
theorem adQ{l:List OpM}{i:Nat}(h:i<l.length):aU (EOp.all l) (Nat.add (atN (i:Int) 3) 0) = .bool l[i].p:=ve h
theorem ab6{r:RnM}{k:ByteArray}{i:Nat}(hi:i<r.rs.length)(hl:r.rs.length<4194304)(hn:r.rs[i].ops.length<4194304){m:Nat}(hm:m<r.rs[i].ops.length)(hk:r.rs[i].ops[m].k=k) :
  lW P E (Rf (bM [.int .i64 (ag r.rs[i].ops.length),seF] (seB r.rs[i].a r.rs[i].b r.rs[i].ops k)) r.rs[i].a r.rs[i].b m r.rs[i].ops k) 50 197 Bbk Dbk (bkV i) (gtB r k ⟨#[]⟩ false false .ready none) =
   some (.tuple ⟨exV .ret::bkV i⟩,af (gtB r k r.rs[i].ops[m].v true r.rs[i].ops[m].p .done (some .ret))):=by
 obtain⟨g1,g2,a1⟩:=iM hi hl;obtain⟨k1,k2,_⟩:=iM hm hn;have g0:geI (i:Int) 0=true:=by unfold geI; exact decide_eq_true (by omega)
 have g4:=GZ hi;have k0:ltI (m:Int) (ag r.rs[i].ops.length)=true:=k1;have k3:Nat.ble (Nat.add (Nat.add (atN (m:Int) 3) 1) 1) (Nat.mul r.rs[i].ops.length 3)=true:=iG (k:=2) hm (by decide);have k4:Nat.ble (Nat.add (Nat.add (atN (m:Int) 3) 2) 1) (Nat.mul r.rs[i].ops.length 3)=true:=iG (k:=3) hm (by decide);have k5:Nat.ble (Nat.add (Nat.add (atN (m:Int) 3) 0) 1) (Nat.mul r.rs[i].ops.length 3)=true:=iG (k:=1) hm (by decide);have k6:eqS r.rs[i].ops[m].k k=true:=by rw[LP]; exact decide_eq_true hk
 have b4:∀ s,eu .string (.string s)=true:=fun _=>rfl;have b5:∀ s,eu .bool (.bool s)=true:=fun _=>rfl;rw[FM];simp (disch:=first | omega | (simp only[List.length_append,List.length_drop,List.length_take,List.length_singleton,Nat.add_eq,bg]<;>omega) | fail) only[cz_,dk_,dl_,dn_,fa_,io_,pt_,sl_,w0_,g0,g1,g2,g4,k0,k2,k3,k4,k5,k6,b4,b5,iG hi (Nat.le_refl 3),KN hi,DR hi,KH hi,qh hm,adR hm,adQ hm,jI,qW,vU,RF,Bo,(zF _ _ _).1,(zF _ _ _).2.1,(zF _ _ _).2.2,show Nat.beq 3 3=true from rfl,bkV,yl0,gtB,seF,seB,mg,dI,rnB,srB,tbB,dkL,List.cons_append,List.nil_append,List.append_assoc,dJ,aB,dM,lsV,ptV,p0,aW,dkC,aJ,bG,cmV,dA,bQ,aN,dH,dB,dU,dE,dG,dF,cZ,dC,dw,dS,dn,ay,aC,aF,Enc.all_ren,ay rfl,aC rfl,aF rfl,aB rfl,aA,bC,aV,a_,aO,ah,aP,bu,Int.toNat_natCast,aQ,aG,bz,bK,b_,bJ,bP,dm,Bool.and_self,aK,aH,ax]
 rfl
theorem O9{r:RnM}{k:ByteArray}{i:Nat}(hi:i<r.rs.length)(hl:r.rs.length<4194304)(hn:r.rs[i].ops.length<4194304){m:Nat}(hm:∀ h:m<r.rs[i].ops.length,r.rs[i].ops[m].k≠k) :
  lW P E (Rf (bM [.int .i64 (ag r.rs[i].ops.length),seF] (seB r.rs[i].a r.rs[i].b r.rs[i].ops k)) r.rs[i].a r.rs[i].b m r.rs[i].ops k) 50 197 Bbk Dbk (bkV i) (gtB r k ⟨#[]⟩ false false .ready none) =
   some (.tuple ⟨exV .normal::bkV ((i:Int)-1)⟩,af (gtB r k ⟨#[]⟩ false false .ready none)):=by
 obtain⟨g1,g2,a1⟩:=iM hi hl;have g0:geI (i:Int) 0=true:=by unfold geI; exact decide_eq_true (by omega)
 have s1:fH .i64 (i:Int) 1=(i:Int)-1:=by unfold fH; exact wrap64 (by omega) (by omega)
 have g4:=GZ hi;have b4:∀ s,eu .string (.string s)=true:=fun _=>rfl;by_cases hm2:m<r.rs[i].ops.length
 ·obtain⟨k1,k2,_⟩:=iM hm2 hn;have k0:ltI (m:Int) (ag r.rs[i].ops.length)=true:=k1;have k3:Nat.ble (Nat.add (Nat.add (atN (m:Int) 3) 1) 1) (Nat.mul r.rs[i].ops.length 3)=true:=iG (k:=2) hm2 (by decide);have k6:eqS r.rs[i].ops[m].k k=false:=by rw[LP]; exact decide_eq_false (hm hm2)
  rw[FM];simp (disch:=first | omega | (simp only[List.length_append,List.length_drop,List.length_take,List.length_singleton,Nat.add_eq,bg]<;>omega) | fail) only[cz_,dk_,dl_,dn_,fa_,io_,pt_,sl_,w0_,g0,g1,g2,g4,s1,k0,k2,k3,k6,b4,iG hi (Nat.le_refl 3),KN hi,DR hi,KH hi,qh hm2,jI,qW,vU,RF,Bo,(zF _ _ _).1,(zF _ _ _).2.1,(zF _ _ _).2.2,show Nat.beq 3 3=true from rfl,bkV,yl0,gtB,seF,seB,mg,dI,rnB,srB,tbB,dkL,List.cons_append,List.nil_append,List.append_assoc,dJ,aB,dM,lsV,ptV,p0,aW,dkC,aJ,bG,cmV,dA,bQ,aN,dH,dB,dU,dE,dG,dF,cZ,dC,dw,dS,dn,ay,aC,aF,Enc.all_ren,ay rfl,aC rfl,aF rfl,aB rfl,aA,bC,aV,a_,aO,ah,aP,bu,Int.toNat_natCast,aQ,aG,bz,bK,b_,bJ,bP,dm,Bool.and_self,aK,aH,ax]
  rfl
 ·have k0:ltI (m:Int) (ag r.rs[i].ops.length)=false:=by unfold ltI ag; exact decide_eq_false (by omega)
  rw[FM];simp (disch:=first | omega | (simp only[List.length_append,List.length_drop,List.length_take,List.length_singleton,Nat.add_eq,bg]<;>omega) | fail) only[cz_,dk_,dl_,dn_,fa_,io_,pt_,sl_,w0_,g0,g1,g2,g4,s1,k0,b4,iG hi (Nat.le_refl 3),KN hi,DR hi,KH hi,jI,qW,vU,RF,Bo,(zF _ _ _).1,(zF _ _ _).2.1,(zF _ _ _).2.2,show Nat.beq 3 3=true from rfl,bkV,yl0,gtB,seF,seB,mg,dI,rnB,srB,tbB,dkL,List.cons_append,List.nil_append,List.append_assoc,dJ,aB,dM,lsV,ptV,p0,aW,dkC,aJ,bG,cmV,dA,bQ,aN,dH,dB,dU,dE,dG,dF,cZ,dC,dw,dS,dn,ay,aC,aF,Enc.all_ren,ay rfl,aC rfl,aF rfl,aB rfl,aA,bC,aV,a_,aO,ah,aP,bu,Int.toNat_natCast,aQ,aG,bz,bK,b_,bJ,bP,dm,Bool.and_self,aK,aH,ax]
  rfl
theorem acK{r:RnM}{k:ByteArray}:lW P E (Rf (fun _ _=>false) 0 0 0 [] k) 50 197 Bbk Dbk (bkV (-1)) (gtB r k ⟨#[]⟩ false false .ready none) =
   some (.tuple ⟨exV (.exit 0)::bkV (-1)⟩,af (gtB r k ⟨#[]⟩ false false .ready none)):=by
 have g0:geI (-1) 0=false:=rfl;rw[FM];simp (disch:=first | omega | (simp only[List.length_append,List.length_drop,List.length_take,List.length_singleton,Nat.add_eq,bg]<;>omega) | fail) only[cz_,dk_,dl_,dn_,fa_,io_,pt_,sl_,w0_,g0,bkV,yl0,gtB,dI,rnB,srB,tbB,dkL,List.cons_append,List.nil_append,List.append_assoc,dJ,aB,dM,lsV,ptV,p0,aW,dkC,aJ,bG,cmV,dA,bQ,aN,dH,dB,dU,dE,dG,dF,cZ,dC,dw,dS,dn,ay,aC,aF,Enc.all_ren,ay rfl,aC rfl,aF rfl,aB rfl,aA,bC,aV,a_,aO,ah,aP,bu,Int.toNat_natCast,aQ,aG,bz,bK,b_,bJ,bP,dm,Bool.and_self,aK,aH,ax]
 rfl
def GI(rs:List RunM):Prop:=∀ q∈rs,ris q.ops/\q.ops.length<4194304
theorem Zg{r:RnM}{k:ByteArray}(hl:r.rs.length<4194304)(hr:GI r.rs):∀ m,m<=r.rs.length->match qc (r.rs.take m) k with
  |none=>LRX P 197 0 Bbk Dbk.head (bkV ((m:Int)-1)) (gtB r k ⟨#[]⟩ false false .ready none) .normal (bkV (-1)) (gtB r k ⟨#[]⟩ false false .ready none)
  |some o=>∃ j:Int,LRX P 197 0 Bbk Dbk.head (bkV ((m:Int)-1)) (gtB r k ⟨#[]⟩ false false .ready none) .ret (bkV j) (gtB r k o.v true o.p .done (some .ret)):=by
 intro m
 induction m with
 |zero=>
  intro _;show LRX P _ 0 Bbk Dbk.head (bkV (((0:Nat):Int)-1)) _ .normal _ _;exact LRX.stopY (n:=50) (bf _) az (aj (pol:=au) bn jw) uy acK (by intro h; cases h)
 |succ m ih=>
  intro h;have hm:m<r.rs.length:=by omega
  have ih:=ih (by omega);obtain⟨h1,h2⟩:=hr _ (List.getElem_mem hm);have q:=abO (a:=r.rs[m].a) (b:=r.rs[m].b) (k:=k) h2 h1;have hct:=aj (pol:=au) bn (bF q);have hlb:=Zb h1 k;have e1:(((m+1:Nat):Int)-1)=(m:Int):=by omega
  rw[List.take_succ_eq_append_getElem hm,Jr,e1];by_cases hx:lbM r.rs[m].ops k<r.rs[m].ops.length
  ·rw[dif_pos hx]at hlb;by_cases hk:(r.rs[m].ops[lbM r.rs[m].ops k]'hx).k=k
   ·rw[if_pos hk]at hlb;rw[hlb];show ∃ j:Int,_;exact⟨m,LRX.stopY (n:=50) (bf _) az hct uy (ab6 hm hl h2 hx hk) (by intro h; cases h)⟩
   ·rw[if_neg hk]at hlb;rw[hlb,Option.none_or];have q2:=O9 (r:=r) (k:=k) hm hl h2 (m:=lbM r.rs[m].ops k) (fun _=>hk);cases hg:qc (r.rs.take m) k with
    |none=>
     rw[hg]at ih;exact LRX.againY (n:=50) (bf _) az hct uy q2 ih
    |some o=>
     rw[hg]at ih;obtain⟨j,ih⟩:=ih;exact⟨j,LRX.againY (n:=50) (bf _) az hct uy q2 ih⟩
  ·rw[dif_neg hx]at hlb;rw[hlb,Option.none_or];have q2:=O9 (r:=r) (k:=k) hm hl h2 (m:=lbM r.rs[m].ops k) (fun h=>absurd h hx);cases hg:qc (r.rs.take m) k with
   |none=>
    rw[hg]at ih;exact LRX.againY (n:=50) (bf _) az hct uy q2 ih
   |some o=>
    rw[hg]at ih;obtain⟨j,ih⟩:=ih;exact⟨j,LRX.againY (n:=50) (bf _) az hct uy q2 ih⟩
def Qo:Option OpM->Value
 |some o=> .tuple ⟨[.string o.v, .bool true, .bool o.p]⟩
 |none=> .tuple ⟨[.string ⟨#[]⟩, .bool false, .bool false]⟩
theorem ab3{r:RnM}{k:ByteArray}(hl:r.rs.length<4194304)(hr:GI r.rs):CRX P 2 143 [p0, .string k] (rnB r) (Qo (qc r.rs k)) (rnB r):=by
 have q:=Zg (k:=k) hl hr r.rs.length (Nat.le_refl _);rw[List.take_length]at q;have s1:fH .i64 (ag r.rs.length) 1=(r.rs.length:Int)-1:=by unfold fH ag; exact wrap64 (by omega) (by omega)
 cases hg:qc r.rs k with
 |none=>
  rw[hg]at q;refine CRX.of (pol:=au) (fl:=[]) (ts:=[]) (n:=50) (bf _) az (wG bn (fG (dL Jw) q)) ((aaT (bM (bkV ((r.rs.length:Int)-1)) (gtB r k ⟨#[]⟩ false false .ready none)) r k).trans ?_);clear q;simp (disch:=first | omega | (simp only[List.length_append,List.length_drop,List.length_take,List.length_singleton,Nat.add_eq,bg]<;>omega) | fail) only[bk_,cz_,dk_,dl_,dn_,io_,lb_,nb_,pt_,sl_,w0_,s1,bkV,yl0,gtB,Qo,dI,rnB,srB,tbB,dkL,List.cons_append,List.nil_append,List.append_assoc,dJ,aB,dM,lsV,ptV,p0,aW,dkC,aJ,bG,cmV,dA,bQ,aN,dH,dB,dU,dE,dG,dF,cZ,dC,dw,dS,dn,ay,aC,aF,Enc.all_ren,ay rfl,aC rfl,aF rfl,aB rfl,aA,bC,aV,a_,aO,ah,aP,bu,Int.toNat_natCast,aQ,aG,bz,bK,b_,bJ,bP,dm,Bool.and_self,aK,aH,ax]
 |some o=>
  rw[hg]at q;obtain⟨j,q⟩:=q;refine CRX.of (pol:=au) (fl:=[]) (ts:=[]) (n:=50) (bf _) az (wG bn (fG (dL Jw) q)) ((ZQ (bM (bkV ((r.rs.length:Int)-1)) (gtB r k ⟨#[]⟩ false false .ready none)) r k o.v o.p j).trans ?_);clear q;simp (disch:=first | omega | (simp only[List.length_append,List.length_drop,List.length_take,List.length_singleton,Nat.add_eq,bg]<;>omega) | fail) only[bk_,cz_,dk_,dl_,dn_,io_,lb_,nb_,pt_,sl_,w0_,s1,bkV,yl0,gtB,Qo,dI,rnB,srB,tbB,dkL,List.cons_append,List.nil_append,List.append_assoc,dJ,aB,dM,lsV,ptV,p0,aW,dkC,aJ,bG,cmV,dA,bQ,aN,dH,dB,dU,dE,dG,dF,cZ,dC,dw,dS,dn,ay,aC,aF,Enc.all_ren,ay rfl,aC rfl,aF rfl,aB rfl,aA,bC,aV,a_,aO,ah,aP,bu,Int.toNat_natCast,aQ,aG,bz,bK,b_,bJ,bP,dm,Bool.and_self,aK,aH,ax]
def aeu(C1 C2:List Value->List Blk->Bool)(v w:ByteArray)(m t m2 t2:Bool)(s:SrM):Ct:=aT P au 2 25 (cu C1 (.leaf (.tuple ⟨[.string v, .bool m, .bool t]⟩,tbB s.tb))) (aT P au 2 143 (cu C2 (.leaf (.tuple ⟨[.string w, .bool m2, .bool t2]⟩,rnB s.rn))) ctF)
theorem ZG(C1 C2:List Value->List Blk->Bool)(v w:ByteArray)(m t m2 t2:Bool)(s:SrM)(k:ByteArray):dD P E (aeu C1 C2 v w m t m2 t2 s) 50 au [] [] 5 106 [p0, .string k] (srB s) =
 (let z:=[pt_ 0,Value.string k];let y:=s.tb.ck;let x:=s.rn.rs.length;let u:=Enc.all eF s.rn.rs;let r:=s.rn.dk;let q:=Value.bool s.rn.br;let p:=ro_ [3,2,13,5,12,1];let o:=s.rest.length;let n:=Enc.all ECm s.rest;let l:=bH [3,4] 18;let j:=aZ true l u;let i:=bk_ l w0_;let h:=so_ 1 3 11 o;
 let g:=ro_ [0,5,26,5,25,1,24,1];let f:=bD true (bH [1,2] 12) s.tb.es;let e:=Blk.cells [pt_ 4,q,sl_ 10 x] 168 true;let d:=dk_ r 5 6 7 8 9;let c:=ro_ [0,5,14,5,13,1,12,1];
 (ae (C1 z [tb_ 1, .map (bD true (bY 0 [1,2]) s.tb.es) y]) (ak (fM m) (nb_ x 3 u (dn_ w0_ r (ae (C2 z (.cells [pt_ 1,q,sl_ 7 x] 168 true::dk_ r 2 3 4 5 6::dl_ (cz_ p w0_) r [lb_ p x 3 u 161])) (nb_ o 3 n (nb_ x 3 j (dn_ i r (some (.tuple ⟨[.string w, .bool t2]⟩,af (h::tb_ 2:: .map (bD true g f) y::e::d::dl_ (cz_ g i) r [lb_ g x 3 j 161,lb_ g o 3 n 47]))))))))) (nb_ o 3 n (nb_ x 3 u (dn_ w0_ r (some (.tuple ⟨[.string v, .bool t]⟩,af (h::tb_ 2:: .map (bD true c f) y::e::d::dl_ (cz_ c w0_) r [lb_ c x 3 u 161,lb_ c o 3 n 47]))))))))):=by kernel_rfl
theorem aa1(C1:List Value->List Blk->Bool)(v:ByteArray)(t:Bool)(s:StaM)(k:ByteArray):dD P E (aT P au 5 106 (cu C1 (.leaf (.tuple ⟨[.string v, .bool t]⟩,srB s.sr))) ctF) 50 au [] [] 7 62 [p0, .string k] (stB s) =
 (let z:=s.rest.length;let y:=Enc.all ECm s.rest;let x:=s.rs.length;let w:=Enc.all eF s.rs;let u:=bY 0 [4,5,6,3,1,19,20,21,22,23,18,17];let r:=s.log.length;let q:=Enc.all ECm s.log;let p:=bH [4,5,6,3,1] 24;let o:=bk_ p w0_;let n:=s.sr.rn;let m:=s.wcs.length;let l:=Enc.all ECm s.wcs;
 let j:=s.wes.length;let i:=Enc.all EIn s.wes;let h:=n.rs.length;let g:=aZ true p (Enc.all eF n.rs);let f:=s.sr.rest.length;let e:=aZ true p (Enc.all ECm s.sr.rest);let d:=ro_ [0,7,32,5,31,1,37,4];
 (nb_ z 3 y (nb_ x 3 w (dn_ w0_ s.dk (ae (C1 [pt_ 0, .string k] (so_ 1 3 11 z::tb_ 2:: .map (bD true u s.tb.es) s.tb.ck::rb_ s 4 10::dk_ s.dk 5 6 7 8 9::dl_ (cz_ u w0_) s.dk [lb_ u x 3 w 161,lb_ u z 3 y 47])) (nb_ r 3 q (dn_ o n.dk (nb_ m 3 l (nb_ j 1 i (nb_ h 3 g (nb_ f 3 e (some (.tuple ⟨[.string v, .bool t]⟩,af (sb_ s s.pg 1 12 2 3 4::dk_ n.dk 7 8 9 10 11::wb_ s 1 13 14:: .cells [pt_ 1, .bool n.br,sl_ 15 h] 168 true::so_ 5 3 16 f::tb_ 6:: .map (bD true d (bD true p s.sr.tb.es)) s.sr.tb.ck::dl_ (cz_ d o) n.dk [lb_ d r 3 q 47,lb_ d m 3 l 47,lb_ d j 1 i 3,lb_ d h 3 g 161,lb_ d f 3 e 47])))))))))))))):=by kernel_rfl
def adT(C1 C2:List Value->List Blk->Bool)(v:ByteArray)(t:Bool)(s:StaM):Ct:=aT P au 0 71 (cu C1 (.leaf (.int .i64 0,[]))) (aT P au 7 62 (cu C2 (.leaf (.tuple ⟨[.string v, .bool t]⟩,stB s))) ctF)
theorem Zh(C1 C2:List Value->List Blk->Bool)(v:ByteArray)(t:Bool)(n:NdM)(e ac kn:Int)(k:ByteArray):dD P E (adT C1 C2 v t (n.at1 e ac kn).s) 50 iT [] [] 8 24 [p0, .string k] (ndB (n.at1 e ac kn)) =
 (let z:=NdM.at1 n e ac kn;let y:=z.s;let x:=Value.bool t;let w:=bH (rg_ [2,1,1,1,3,5]) 35;let u:=bk_ w w0_;let r:=ro_ [0,8,51,10];
 (ak (fM (fM y.dk.off)) (dn_ w0_ y.dk none) (ae (C1 [pg_ y.pg] []) (ns_ y (ae (C2 [pt_ 0, .string k] (sm_ y (ro_ [2,1,1,1,3,5,26,5,25,1,31,4]))) (ae (bU x x) (nn_ u y (some (.tuple ⟨[.string v,x,io_ 0]⟩,af (nh_ z.nu z.mo z.ac z.kn 1 2 z.he::dk_ y.dk 8 9 10 11 12::sb_ y y.pg 1 13 3 4 5::wb_ y 1 14 15::rb_ y 1 16::so_ 6 4 17 y.rest.length::tb_ 7:: .map (bD true r (bD true w y.tb.es)) y.tb.ck::nl_ (cz_ r u) y [])))))))))):=by kernel_rfl
def nU(l:List OpM)(rs:List RunM)(k:ByteArray):Option OpM:=(l.find? fun x=>x.k=k).or (qc rs k)
def xX:Option OpM->ByteArray
 |some o=>o.v
 |none=>⟨#[]⟩
def isO:Option OpM->Bool
 |some o=>o.p
 |none=>false
theorem aad(o:Option OpM):Qo o = .tuple ⟨[.string (xX o), .bool o.isSome, .bool (isO o)]⟩:=by cases o<;>rfl
theorem Yx{l:List OpM}{rn:RnM}{rest:List CmM}{k:ByteArray}(hl:rn.rs.length<4194304)(hr:GI rn.rs) :
  CRX P 5 106 [p0, .string k] (srB ⟨eX l,rn,rest⟩) (.tuple ⟨[.string (xX (nU l rn.rs k)), .bool (isO (nU l rn.rs k))]⟩) (srB ⟨eX l,rn,rest⟩):=by
 have q1:=I5 l k;have q2:=ab3 (r:=rn) (k:=k) hl hr;rw[aad]at q2;refine CRX.of (pol:=au) (fl:=[]) (ts:=[]) (n:=50) (bf _) az (aj (pol:=au) (aj (pol:=au) bn (bF q2)) (bF q1)) ((ZG (bM [p0, .string k] (tbB (eX l))) (bM [p0, .string k] (rnB rn)) (kF l k).v (xX (qc rn.rs k)) (Au l k) (kF l k).p (qc rn.rs k).isSome (isO (qc rn.rs k)) ⟨eX l,rn,rest⟩ k).trans ?_);clear q1 q2;have ht:=jv l;unfold nU;cases hf:l.find? fun x=>x.k=k with
 |none=>
  have e1:Au l k=false:=by unfold Au; rw[hf]; rfl
  rw[Option.none_or];simp (disch:=first | omega | (simp only[List.length_append,List.length_drop,List.length_take,List.length_singleton,Nat.add_eq,bg]<;>omega) | fail) only[bk_,cz_,dk_,dl_,dn_,lb_,nb_,pt_,sl_,so_,tb_,w0_,e1,show fM false=true from rfl,ht.ren,dI,rnB,srB,tbB,dkL,List.cons_append,List.nil_append,List.append_assoc,dJ,aB,dM,lsV,ptV,p0,aW,dkC,aJ,bG,cmV,dA,bQ,aN,dH,dB,dU,dE,dG,dF,cZ,dC,dw,dS,dn,ay,aC,aF,Enc.all_ren,ay rfl,aC rfl,aF rfl,aB rfl,aA,bC,aV,a_,aO,ah,aP,bu,Int.toNat_natCast,aQ,aG,bz,bK,b_,bJ,bP,dm,Bool.and_self,aK,aH,ax]
 |some o=>
  have e1:Au l k=true:=by unfold Au; rw[hf]; rfl
  have e2:kF l k=o:=by unfold kF; rw[hf]; rfl
  rw[Option.some_or];simp (disch:=first | omega | (simp only[List.length_append,List.length_drop,List.length_take,List.length_singleton,Nat.add_eq,bg]<;>omega) | fail) only[bk_,cz_,dk_,dl_,dn_,lb_,nb_,pt_,sl_,so_,tb_,w0_,e1,e2,xX,isO,show fM true=false from rfl,ht.ren,dI,rnB,srB,tbB,dkL,List.cons_append,List.nil_append,List.append_assoc,dJ,aB,dM,lsV,ptV,p0,aW,dkC,aJ,bG,cmV,dA,bQ,aN,dH,dB,dU,dE,dG,dF,cZ,dC,dw,dS,dn,ay,aC,aF,Enc.all_ren,ay rfl,aC rfl,aF rfl,aB rfl,aA,bC,aV,a_,aO,ah,aP,bu,Int.toNat_natCast,aQ,aG,bz,bK,b_,bJ,bP,dm,Bool.and_self,aK,aH,ax]
theorem abe{s:StaM}{l:List OpM}{k:ByteArray}(htb:s.tb=eX l)(hl:s.rs.length<4194304)(hr:GI s.rs) :
  CRX P 7 62 [p0, .string k] (stB s) (.tuple ⟨[.string (xX (nU l s.rs k)), .bool (isO (nU l s.rs k))]⟩) (stB s):=by
 have q1:=Yx (l:=l) (rn:=s.rn) (rest:=s.rest) (k:=k) hl hr;have e:(⟨eX l,s.rn,s.rest⟩:SrM)=s.sr:=by rw[<-htb]; rfl
 rw[e]at q1;refine CRX.of (pol:=au) (fl:=[]) (ts:=[]) (n:=50) (bf _) az (aj (pol:=au) bn (bF q1)) ((aa1 (bM [p0, .string k] (srB s.sr)) (xX (nU l s.rs k)) (isO (nU l s.rs k)) s k).trans ?_);clear q1;have ht:fJ s.tb:=by rw[htb]; exact jv l
 simp (disch:=first | omega | (simp only[List.length_append,List.length_drop,List.length_take,List.length_singleton,Nat.add_eq,bg]<;>omega) | fail) only[bk_,cz_,dk_,dl_,dn_,io_,lb_,nb_,pt_,rb_,sb_,sc_,sl_,so_,tb_,w0_,wb_,ht.ren,StaM.sr,StaM.rn,stB,pgC,dI,rnB,srB,tbB,dkL,List.cons_append,List.nil_append,List.append_assoc,dJ,aB,dM,lsV,ptV,p0,aW,dkC,aJ,bG,cmV,dA,bQ,aN,dH,dB,dU,dE,dG,dF,cZ,dC,dw,dS,dn,ay,aC,aF,Enc.all_ren,ay rfl,aC rfl,aF rfl,aB rfl,aA,bC,aV,a_,aO,ah,aP,bu,Int.toNat_natCast,aQ,aG,bz,bK,b_,bJ,bP,dm,Bool.and_self,aK,aH,ax]
theorem aaD{n:NdM}{e ac:Int}{l:List OpM}{k:ByteArray}{K:Nat}(hn:NeQ n K)(hpg:n.s.pg=⟨e,1,ac,0,0,0⟩)(htb:n.s.tb=eX l)(hr:GI n.s.rs) :
  CRX P 8 24 [p0, .string k] (ndB n) (.tuple ⟨[.string (xX (nU l n.s.rs k)), .bool (isO (nU l n.s.rs k)), .int .i64 0]⟩) (ndB n):=by
 have q1:=uq n.s.pg;rw[hn.pg]at q1;have q2:=abe (k:=k) htb hn.q.sr.r hr;have hat:=Ec hpg;have q:=Zh (bM [pgV n.s.pg] []) (bM [p0, .string k] (stB n.s)) (xX (nU l n.s.rs k)) (isO (nU l n.s.rs k)) n e ac n.kn k;rw[hat]at q;refine CRX.of (pol:=iT) (fl:=[]) (ts:=[]) (n:=50) (bf _) az (aj (pol:=au) (aj (pol:=au) bn (bF q2)) (bF q1)) (q.trans ?_);clear q q1 q2;have ht:=hn.q.sr.tb;have hdo:=hn.q.dk.off;simp (disch:=first | omega | (simp only[List.length_append,List.length_drop,List.length_take,List.length_singleton,Nat.add_eq,bg]<;>omega) | fail) only[bk_,cz_,dk_,dl_,dn_,fa_,fc_,io_,nb_,nh_,nl_,nn_,ns_,pg_,pt_,rb_,sb_,sc_,sl_,sm_,so_,tb_,w0_,wb_,hdo,hpg,ht.ren,Bo,show fM (fM false)=false from rfl,pgV,pgC,ndB,stN,stB,mgV,lD,kN,dI,rnB,srB,tbB,dkL,List.cons_append,List.nil_append,List.append_assoc,dJ,aB,dM,lsV,ptV,p0,aW,dkC,aJ,bG,cmV,dA,bQ,aN,dH,dB,dU,dE,dG,dF,cZ,dC,dw,dS,dn,ay,aC,aF,Enc.all_ren,aB rfl,aA,bC,aV,a_,aO,ah,aP,bu,Int.toNat_natCast,aQ,aG,bz,bK,b_,bJ,bP,dm,Bool.and_self,aK,aH,ax]
theorem CRX.less{N M:Nat}{g:FuncId}{args:List Value}{bs bs':List Blk}{v:Value}(h:CRX P N g args bs v bs')(hM:M<=N):CRX P M g args bs v bs':=by
 intro K β w args' cs hid ha hr;obtain⟨⟨β1,fr,w1,x,a1,a2,a3⟩,a4⟩:=h K β w args' cs hid ha hr;exact⟨⟨β1,fr,w1,x,a1,fun i l h1 h2=>a2 i l (by omega) h2,a3⟩,by omega⟩
theorem pgA{a:Int}(h:0<=a/\a<=1048576):pgE ⟨1,1,a,0,0,0⟩=0:=by
 have e1:geI a 0=true:=by unfold geI; exact decide_eq_true h.1
 have e2:leI a 1048576=true:=by unfold leI; exact decide_eq_true h.2
 unfold pgE Gs;simp only[e1,e2]
 rfl
theorem U7{n:NdM}{pa:Int}{s2:StaM}(hn:NeQ n 100000)(hpg:n.s.pg=⟨1,1,pa,0,0,0⟩)(hac:0<=n.ac/\n.ac<=n.s.log.length)(hru:bI n.s.rs<=n.ac)(hrl:n.s.rs.length<4194300)(hrc:∀ c∈n.s.rs,1<=c.ops.length/\c.ops.length<=4194304)
  (q2:CRX P 5 57 [p0, .int .i64 n.ac] (stB n.s) (.int .i64 0) (stB s2)) (h2:StQ s2 100000) (h2p:s2.pg=n.s.pg) (h2l:s2.log=n.s.log) (h2d:s2.dk.d1.length<=3000000) (h2r:bI s2.rs<=n.s.log.length) (hE:eG n.s.log<=1) :
  ∃ k s3,k<=2/\s3=(if pa<n.ac then s2.paged k ⟨1,1,n.ac,0,0,0⟩else s2)/\CRX P 6 23 [p0] (ndB n) (.int .i64 0) (ndB { n with s:=s3 }):=by
 have hl:=hn.len;have hpe:=hn.pg;have hdo:=hn.q.dk.off;have ht:=hn.q.sr.tb;have ht2:=h2.sr.tb;have hat:=Ec hpg;have q1:=aaK (s:=n.s) ht hrl hrc;have q3:=aaU (p:=n.s.pg) (n:=n.ac) hpe (by rw[hpg]) (by omega);have g1:gtI (bI n.s.rs) n.ac=false:=by unfold gtI; exact decide_eq_false (by omega)
 have z0:neI 0 0=false:=rfl;have h2p':=h2p.trans hpg;by_cases hm:pa<n.ac
 ·have gm:gtI n.ac n.s.pg.ac=true:=by rw[hpg]; unfold gtI; exact decide_eq_true (by show n.ac>pa; omega)
  have e1:n.s.pg.acked n.ac=⟨1,1,n.ac,0,0,0⟩:=by unfold PgM.acked; rw[gm,hpg]; rfl
  rw[e1,gm]at q3;have hso:nV s2.held ⟨1,1,n.ac,0,0,0⟩ (s2.log.length:Int) (eG s2.log) (bI s2.rs)=true:=by
   have f1:leI (bI s2.rs) (n.s.log.length:Int)=true:=by unfold leI; exact decide_eq_true h2r
   have f2:leI (eG n.s.log) 1=true:=by unfold leI; exact decide_eq_true hE
   have f3:leI n.ac (n.s.log.length:Int)=true:=by unfold leI; exact decide_eq_true hac.2
   rw[h2l];unfold nV;simp only[bk_,cz_,dk_,dl_,dn_,fa_,fc_,io_,nb_,nh_,nl_,nn_,ns_,nw_,pg_,pt_,rb_,sb_,sc_,sl_,sm_,so_,sw_,tb_,w0_,wb_,f1,f2,f3]
   rfl
  obtain⟨k,k1,q4⟩:=aa_ (s:=s2) (p:=⟨1,1,n.ac,0,0,0⟩) h2 (pgA ⟨hac.1,by omega⟩) (by rw[h2l]; omega) h2d hso;refine⟨k,_,k1,rfl,?_⟩;rw[if_pos hm];have q:=Oj (bM [p0] (stB n.s)) (bM [p0, .int .i64 n.ac] (stB n.s)) (bM [pgV n.s.pg, .int .i64 n.ac] []) (bM [p0,pgV ⟨1,1,n.ac,0,0,0⟩] (stB s2)) (bI n.s.rs) n 1 pa n.kn s2 (s2.paged k ⟨1,1,n.ac,0,0,0⟩) ⟨1,1,n.ac,0,0,0⟩ true;rw[hat]at q;refine CRX.of (pol:=iT) (fl:=[]) (ts:=[]) (n:=50) (bf _) az (aj (pol:=au) (wz (pol:=au) (aj (pol:=au) (aj (pol:=au) bn (bF q4)) (bF q3)) (bF q2)) (bF q1)) (q.trans ?_);clear q q1 q2 q3 q4;have ht3:fJ (s2.paged k ⟨1,1,n.ac,0,0,0⟩).tb:=ht2;have hp3:(s2.paged k ⟨1,1,n.ac,0,0,0⟩).pg=⟨1,1,n.ac,0,0,0⟩:=rfl;generalize s2.paged k ⟨1,1,n.ac,0,0,0⟩=s3 at ht3 hp3;simp (disch:=first | omega | (simp only[List.length_append,List.length_drop,List.length_take,List.length_singleton,Nat.add_eq,bg]<;>omega) | fail) only[bk_,cz_,dk_,dl_,dn_,fa_,fc_,io_,nb_,nh_,nl_,nn_,ns_,nw_,pg_,pt_,rb_,sb_,sc_,sl_,sm_,so_,sw_,tb_,w0_,wb_,hdo,ht.ren,ht2.ren,ht3.ren,hpg,h2p',hp3,g1,z0,show fM (fM false)=false from rfl,um,Bo,pgV,pgC,ndB,stN,stB,mgV,lD,kN,dI,rnB,srB,tbB,dkL,List.cons_append,List.nil_append,List.append_assoc,dJ,aB,dM,lsV,ptV,p0,aW,dkC,aJ,bG,cmV,dA,bQ,aN,dH,dB,dU,dE,dG,dF,cZ,dC,dw,dS,dn,ay,aC,aF,Enc.all_ren,ay rfl,aC rfl,aF rfl,aB rfl,aA,bC,aV,a_,aO,ah,aP,bu,Int.toNat_natCast,aQ,aG,bz,bK,b_,bJ,bP,dm,Bool.and_self,aK,aH,ax]
 ·have gm:gtI n.ac n.s.pg.ac=false:=by rw[hpg]; unfold gtI; exact decide_eq_false (by show ¬n.ac>pa; omega)
  have e1:n.s.pg.acked n.ac=n.s.pg:=by unfold PgM.acked; rw[gm]; rfl
  rw[e1,gm]at q3;refine⟨0,_,by decide,rfl,?_⟩;rw[if_neg hm];have q:=Oj (bM [p0] (stB n.s)) (bM [p0, .int .i64 n.ac] (stB n.s)) (bM [pgV n.s.pg, .int .i64 n.ac] []) (fun _ _=>false) (bI n.s.rs) n 1 pa n.kn s2 s2 n.s.pg false;rw[hat]at q;refine CRX.of (pol:=iT) (fl:=[]) (ts:=[]) (n:=50) (bf _) az (aj (pol:=au) (wz (pol:=au) (aj (pol:=au) (aj (pol:=au) bn jw) (bF q3)) (bF q2)) (bF q1)) (q.trans ?_);clear q q1 q2 q3;simp (disch:=first | omega | (simp only[List.length_append,List.length_drop,List.length_take,List.length_singleton,Nat.add_eq,bg]<;>omega) | fail) only[bk_,cz_,dk_,dl_,dn_,fa_,fc_,io_,nb_,nh_,nl_,nn_,ns_,nw_,pg_,pt_,rb_,sb_,sc_,sl_,sm_,so_,sw_,tb_,w0_,wb_,hdo,ht.ren,ht2.ren,hpg,h2p',g1,z0,show fM (fM false)=false from rfl,um,Bo,pgV,pgC,ndB,stN,stB,mgV,lD,kN,dI,rnB,srB,tbB,dkL,List.cons_append,List.nil_append,List.append_assoc,dJ,aB,dM,lsV,ptV,p0,aW,dkC,aJ,bG,cmV,dA,bQ,aN,dH,dB,dU,dE,dG,dF,cZ,dC,dw,dS,dn,ay,aC,aF,Enc.all_ren,ay rfl,aC rfl,aF rfl,aB rfl,aA,bC,aV,a_,aO,ah,aP,bu,Int.toNat_natCast,aQ,aG,bz,bK,b_,bJ,bP,dm,Bool.and_self,aK,aH,ax]
structure ActM where
 kd:Int
 n:Int
 t:Int
 key:ByteArray
 ops:List OpM
 m:MsgM
 b:List UInt8
def fU:Enc ActM where
 sz:=14
 f a:=[.int .i64 a.kd, .int .i64 a.n, .int .i64 a.t, .string a.key,aX 3 a.ops.length 0 (EOp.all a.ops), .int .i64 a.m.k, .int .i64 a.m.e, .int .u8 a.m.ro, .int .i64 a.m.en,aX 2 a.m.st.length 0 (ESa.all a.m.st), .int .i64 a.m.fr, .int .i64 a.m.pv,aX 3 a.m.cs.length 0 (ECm.all a.m.cs),aX 1 a.b.length 0 (bc a.b)]
 len _:=rfl
 pos:=by decide
 inj a b h:=by
  obtain⟨kd,n,t,key,ops,⟨k,e,ro,en,st,fr,pv,cs⟩,x⟩:=a;obtain⟨kd',n',t',key',ops',⟨k',e',ro',en',st',fr',pv',cs'⟩,x'⟩:=b;simp only[List.cons.injEq,Value.int.injEq,Value.string.injEq,true_and,and_true]at h;obtain⟨rfl,rfl,rfl,rfl,h1,rfl,rfl,rfl,rfl,h2,rfl,rfl,h3,h4⟩:=h;obtain rfl:=EOp.all_inj _ _ (oO h1);obtain rfl:=ESa.all_inj _ _ (oO h2);obtain rfl:=ECm.all_inj _ _ (oO h3);obtain rfl:x=x':=by
   have h5:=congrArg (List.map byteOf) (oO h4);rw[aO,aO]at h5;exact h5
  rfl
 nr c:=by simp only[gJ,jD,yj,Bool.and_self]
def fzActs(l:List ActM):Value:=aX 14 l.length 0 (fU.all l)
def EKy:Enc ByteArray where
 sz:=1
 f s:=[.string s]
 len _:=rfl
 pos:=by decide
 inj a b h:=by
  simp only[List.cons.injEq,Value.string.injEq,and_true]at h;exact h
 nr _:=rfl
def fzKys(l:List ByteArray):Value:=aX 1 l.length 0 (EKy.all l)
def Drz:HeadX:=⟨0,73,[0,2,3],[.val, .val, .val],[49,0,0],au⟩
def Brz:Code:=(dR P 17 0).getD .skip
theorem I_:dR P 17 0=some Brz:=by kernel_rfl
theorem Bj:Occ P 17 (.block 0 (.loop Brz)):=fA I_
def rzV(l:List ActM)(r:Bool)(i:Int):List Value:=[fzActs l, .bool r, .int .i64 i]
def Dry:HeadX:=⟨0,73,[0,2,3,4],[.val, .val, .val, .val],[49,0,0,0],au⟩
def Bry:Code:=(dR P 17 2).getD .skip
theorem Aw:dR P 17 2=some Bry:=by kernel_rfl
theorem F8:Occ P 17 (.block 2 (.loop Bry)):=fA Aw
def ryV(l:List ActM)(r:Bool)(i j:Int):List Value:=[fzActs l, .bool r, .int .i64 i, .int .i64 j]
theorem JP(l:List ActM)(i j:Int):bV P E ctF 50 17 Bry Dry (ryV l false i j) [] =
 (let z:=Bool.and (Nat.beq 14 14) (inI i l.length);let y:=Nat.add (Nat.add (atN i 14) 5) 7;let x:=Enc.all fU l;let w:=aU x y;let v:=Bool.and (Nat.ble (Nat.add y 1) x.length) (eu (.slice 3) w);let u:=Nat.add (atN j 3) 2;let t:=aU (zC w) u;let s:=Value.iface 18446744073709551630 (.agg ⟨.slice none l.length 0::x⟩);
 let r:=Value.bool false;let q:=io_ i;let p:=af [];
 (ae z (ae v (ak (ltI j (ag (zN w))) (ae z (ae v (ae (Bool.and (Nat.beq 3 3) (inI j (zN w))) (ae (Bool.and (Nat.ble (Nat.add u 1) (List.length (zC w))) (eu (.slice 3) t)) (ak (gtI (ag (zN t)) 40) (some (.tuple ⟨[io_ (-1),s,r,q,io_ j]⟩,p)) (some (.tuple ⟨[io_ 0,s,r,q,io_ (dO .i64 j 1)]⟩,p))))))) (some (.tuple ⟨[io_ 3,s,r,q,io_ j]⟩,p)))))):=by kernel_rfl
theorem uB(C:List Value->List Blk->Bool)(l:List ActM)(i j:Int):bV P E (eY P 17 2 Dry (gX C (.leaf (.normal,ryV l false i j,[]))) ctF) 50 17 Brz Drz (rzV l false i) [] =
 (let z:=l.length;let y:=Bool.and (Nat.beq 14 14) (inI i z);let x:=atN i 14;let w:=Nat.add x 4;let v:=Enc.all fU l;let u:=v.length;let t:=Value.iface 18446744073709551630 (.agg ⟨.slice none z 0::v⟩);let s:=Value.bool false;let r:=io_ i;let q:=af [];let p:=some (Value.tuple ⟨[io_ (-1),t,s,r]⟩,q);
 let o:=Nat.add x 13;let n:=Nat.add x 5;let m:=Nat.add n 4;let k:=Nat.add n 7;
 (ak (ltI i (ag z)) (ae y (ae (Bool.and (Nat.ble (Nat.add w 1) u) (eu (.slice 3) (aU v w))) (ak (gtI (ag (zN (aU v w))) 40) p (ae y (ae (Bool.and (Nat.ble (Nat.add o 1) u) (eu (.slice 1) (aU v o))) (ak (gtI (ag (zN (aU v o))) 1000) p (ae y (ae (Bool.and (Nat.ble (Nat.add m 1) u) (eu (.slice 2) (aU v m))) (ak (gtI (ag (zN (aU v m))) 40) p (ae y (ae (Bool.and (Nat.ble (Nat.add k 1) u) (eu (.slice 3) (aU v k))) (ak (gtI (ag (zN (aU v k))) 40) p (ae (C [t,s,r,io_ 0] []) (some (.tuple ⟨[io_ 0,t,s,io_ (dO .i64 i 1)]⟩,q))))))))))))))) (some (.tuple ⟨[io_ 1,t,s,r]⟩,q)))):=by kernel_rfl
theorem abh(C:List Value->List Blk->Bool)(l:List ActM)(i j:Int):bV P E (eY P 17 2 Dry (gX C (.leaf (.ret,ryV l false i j,[]))) ctF) 50 17 Brz Drz (rzV l false i) [] =
 (let z:=l.length;let y:=Bool.and (Nat.beq 14 14) (inI i z);let x:=atN i 14;let w:=Nat.add x 4;let v:=Enc.all fU l;let u:=v.length;let t:=Value.iface 18446744073709551630 (.agg ⟨.slice none z 0::v⟩);let s:=Value.bool false;let r:=io_ i;let q:=some (Value.tuple ⟨[io_ (-1),t,s,r]⟩,af []);
 let p:=Nat.add x 13;let o:=Nat.add x 5;let n:=Nat.add o 4;let m:=Nat.add o 7;
 (ak (ltI i (ag z)) (ae y (ae (Bool.and (Nat.ble (Nat.add w 1) u) (eu (.slice 3) (aU v w))) (ak (gtI (ag (zN (aU v w))) 40) q (ae y (ae (Bool.and (Nat.ble (Nat.add p 1) u) (eu (.slice 1) (aU v p))) (ak (gtI (ag (zN (aU v p))) 1000) q (ae y (ae (Bool.and (Nat.ble (Nat.add n 1) u) (eu (.slice 2) (aU v n))) (ak (gtI (ag (zN (aU v n))) 40) q (ae y (ae (Bool.and (Nat.ble (Nat.add m 1) u) (eu (.slice 3) (aU v m))) (ak (gtI (ag (zN (aU v m))) 40) q (ae (C [t,s,r,io_ 0] []) q))))))))))))) (some (.tuple ⟨[io_ 1,t,s,r]⟩,af [])))):=by kernel_rfl
theorem aaP(C:List Value->List Blk->Bool)(l:List ActM)(i:Int):dD P E (eY P 17 0 Drz (gX C (.leaf (.normal,rzV l false i,[]))) ctF) 50 au [] [] 0 17 [fzActs l] [] =
 (ae (C [.iface 18446744073709551630 (.agg ⟨.slice none l.length 0::Enc.all fU l⟩), .bool false,io_ 0] []) (some (.bool (leI (ag l.length) 40),af []))):=by kernel_rfl
theorem VX(C:List Value->List Blk->Bool)(l:List ActM)(i:Int):dD P E (eY P 17 0 Drz (gX C (.leaf (.ret,rzV l false i,[]))) ctF) 50 au [] [] 0 17 [fzActs l] [] =
 (let z:=Value.bool false;
 (ae (C [.iface 18446744073709551630 (.agg ⟨.slice none l.length 0::Enc.all fU l⟩),z,io_ 0] []) (some (z,af [])))):=by kernel_rfl
theorem PO{n i:Nat}(h:i<n)(hn:n<=9223372036854775807):ltI (i:Int) (ag n)=true/\inI (i:Int) n=true/\dO .i64 (i:Int) 1=((i+1:Nat):Int):=
 ⟨by unfold ltI ag; exact decide_eq_true (by omega),by unfold inI; exact decide_eq_true (by omega),by unfold dO; rw[wrap64 (by omega) (by omega)]; omega⟩
theorem jF{l:List ActM}{i j:Nat}(h:i<l.length)(hj:j<14):aU (fU.all l) (i*14+j)=(fU.f l[i]).getD j undef:=fU.nth h (by exact hj)
theorem atA(i:Nat):atN (i:Int) 14=i*14:=by unfold atN; rw[Int.toNat_natCast]
theorem adS{l:List ActM}{i:Nat}(h:i<l.length):aU (fU.all l) (Nat.add (atN (i:Int) 14) 0) = .int .i64 l[i].kd:=by rw[atA]; exact jF h (j:=0) (by decide)
theorem adO{l:List ActM}{i:Nat}(h:i<l.length):aU (fU.all l) (Nat.add (atN (i:Int) 14) 1) = .int .i64 l[i].n:=by rw[atA]; exact jF h (j:=1) (by decide)
theorem Yi{l:List ActM}{i:Nat}(h:i<l.length):aU (fU.all l) (Nat.add (atN (i:Int) 14) 4)=aX 3 l[i].ops.length 0 (EOp.all l[i].ops):=by rw[atA]; exact jF h (j:=4) (by decide)
theorem adZ{l:List ActM}{i:Nat}(h:i<l.length):aU (fU.all l) (Nat.add (Nat.add (atN (i:Int) 14) 5) 4)=aX 2 l[i].m.st.length 0 (ESa.all l[i].m.st):=by rw[atA]; exact jF h (j:=9) (by decide)
theorem TM{l:List ActM}{i:Nat}(h:i<l.length):aU (fU.all l) (Nat.add (Nat.add (atN (i:Int) 14) 5) 7)=aX 3 l[i].m.cs.length 0 (ECm.all l[i].m.cs):=by rw[atA]; exact jF h (j:=12) (by decide)
theorem abI{l:List ActM}{i:Nat}(h:i<l.length):aU (fU.all l) (Nat.add (atN (i:Int) 14) 13)=aX 1 l[i].b.length 0 (bc l[i].b):=by rw[atA]; exact jF h (j:=13) (by decide)
theorem ny(l:List ActM):(fU.all l).length=Nat.mul l.length 14:=fU.all_length l
theorem wP{n i j:Nat}(h:i<n)(hj:j<=14):Nat.ble (i*14+j) (Nat.mul n 14)=true:=Nat.ble_eq_true_of_le (by show i*14+j<=n*14; omega)
theorem XW{n i:Nat}(h:i<n):Nat.ble (Nat.add (Nat.add (atN (i:Int) 14) 4) 1) (Nat.mul n 14)=true/\Nat.ble (Nat.add (Nat.add (atN (i:Int) 14) 13) 1) (Nat.mul n 14)=true/\Nat.ble (Nat.add (Nat.add (Nat.add (atN (i:Int) 14) 5) 4) 1) (Nat.mul n 14)=true/\Nat.ble (Nat.add (Nat.add (Nat.add (atN (i:Int) 14) 5) 7) 1) (Nat.mul n 14)=true:=by
 rw[atA];exact⟨wP h (j:=5) (by decide),wP h (j:=14) (by decide),wP h (j:=10) (by decide),wP h (j:=13) (by decide)⟩
theorem yZ{s n:Nat}{c:List Value}(hs:s≠0):eu (.slice s) (aX s n 0 c)=true:=by simp only[eu,En hs]
theorem adN{l:List CmM}{i:Nat}(h:i<l.length):aU (ECm.all l) (Nat.add (atN (i:Int) 3) 2)=aX 3 l[i].ops.length 0 (EOp.all l[i].ops):=xP h
theorem adJ:FZ+14=18446744073709551630:=by unfold FZ; rfl
theorem mkA(n:Nat)(c:List Value):aX 14 n 0 c = .iface 18446744073709551630 (.agg ⟨.slice none n 0::c⟩):=by unfold aX; rw[adJ]
theorem zN3(n:Nat)(c:List Value):zN (aX 3 n 0 c)=n:=Be (by decide)
theorem zC3(n:Nat)(c:List Value):zC (aX 3 n 0 c)=c:=IQ (by decide)
def PY(e:Ex):Prop:=e = .normal\/e = .ret
theorem aba{l:List ActM}{i:Nat}(hi:i<l.length)(hl:l.length<=9223372036854775807)(hc:l[i].m.cs.length<=40):∀ (k j:Nat),j+k=l[i].m.cs.length->
  ∃ e,∃ j':Int,PY e/\LRX P 17 2 Bry Dry.head (ryV l false i j) [] e (ryV l false i j') []:=by
 obtain⟨_,g2,_⟩:=PO hi hl;obtain⟨_,_,_,b4⟩:=XW hi;have t12:=TM hi;have e3:=fun n c=>yZ (s:=3) (n:=n) (c:=c) (by decide);intro k
 induction k with
 |zero=>
  intro j hj;obtain rfl:j=l[i].m.cs.length:=by omega
  refine⟨.normal,(l[i].m.cs.length:Int),Or.inl rfl,LRX.stop (n:=50) (bf _) az bn F8 (e:= .exit 2) ?_ (by intro h; cases h)⟩;rw[JP];simp (disch:=first | omega | (simp only[List.length_append,List.length_drop,List.length_take,List.length_singleton,Nat.add_eq,bg]<;>omega) | fail) only[io_,g2,b4,t12,e3,zN3,zC3,kJ,ny,show Nat.beq 14 14=true from rfl,ryV,fzActs,mkA,aA,bC,aV,a_,aO,ah,aP,bu,Int.toNat_natCast,aQ,aG,bz,bK,b_,bJ,bP,dm,Bool.and_self,aK,aH,ax]
  rfl
 |succ k ih=>
  intro j hj;have hj':j<l[i].m.cs.length:=by omega
  obtain⟨k1,k2,k3⟩:=iM hj' (by omega);have c2:=adN hj';have b5:Nat.ble (Nat.add (Nat.add (atN (j:Int) 3) 2) 1) (Nat.mul l[i].m.cs.length 3)=true:=iG (k:=3) hj' (by decide);cases hg:gtI (ag l[i].m.cs[j].ops.length) 40 with
  |true=>
   refine⟨.ret,(j:Int),Or.inr rfl,LRX.stop (n:=50) (bf _) az bn F8 (e:= .ret) ?_ (by intro h; cases h)⟩;rw[JP];simp (disch:=first | omega | (simp only[List.length_append,List.length_drop,List.length_take,List.length_singleton,Nat.add_eq,bg]<;>omega) | fail) only[io_,g2,b4,b5,t12,c2,e3,k1,k2,hg,zN3,zC3,ny,cZ,show Nat.beq 14 14=true from rfl,show Nat.beq 3 3=true from rfl,ryV,fzActs,mkA,aA,bC,aV,a_,aO,ah,aP,bu,Int.toNat_natCast,aQ,aG,bz,bK,b_,bJ,bP,dm,Bool.and_self,aK,aH,ax]
   rfl
  |false=>
   obtain⟨e,j',h1,h2⟩:=ih (j+1) (by omega);refine⟨e,j',h1,LRX.again (n:=50) (bf _) az bn F8 ?_ h2⟩;rw[JP];simp (disch:=first | omega | (simp only[List.length_append,List.length_drop,List.length_take,List.length_singleton,Nat.add_eq,bg]<;>omega) | fail) only[io_,g2,b4,b5,t12,c2,e3,k1,k2,k3,hg,zN3,zC3,ny,cZ,show Nat.beq 14 14=true from rfl,show Nat.beq 3 3=true from rfl,ryV,fzActs,mkA,aA,bC,aV,a_,aO,ah,aP,bu,Int.toNat_natCast,aQ,aG,bz,bK,b_,bJ,bP,dm,Bool.and_self,aK,aH,ax]
   rfl
theorem aaq{l:List ActM}(hl:l.length<=9223372036854775807):∀ (k i:Nat),i+k=l.length->
  ∃ e,∃ i':Int,PY e/\LRX P 17 0 Brz Drz.head (rzV l false i) [] e (rzV l false i') []:=by
 intro k
 induction k with
 |zero=>
  intro i hi;obtain rfl:i=l.length:=by omega
  refine⟨.normal,(l.length:Int),Or.inl rfl,LRX.stop (n:=50) (bf _) az (dV bn (nz (dL Aw))) Bj (e:= .exit 0) ((uB (fun _ _=>false) l l.length 0).trans ?_) (by intro h; cases h)⟩;simp (disch:=first | omega | (simp only[List.length_append,List.length_drop,List.length_take,List.length_singleton,Nat.add_eq,bg]<;>omega) | fail) only[io_,kJ,rzV,fzActs,mkA,aA,bC,aV,a_,aO,ah,aP,bu,Int.toNat_natCast,aQ,aG,bz,bK,b_,bJ,bP,dm,Bool.and_self,aK,aH,ax]
  rfl
 |succ k ih=>
  intro i hi;have hi':i<l.length:=by omega
  obtain⟨g1,g2,g3⟩:=PO hi' hl;obtain⟨b1,b2,b3,b4⟩:=XW hi';have t4:=Yi hi';have t9:=adZ hi';have t12:=TM hi';have t13:=abI hi';have e1:=fun n c=>yZ (s:=1) (n:=n) (c:=c) (by decide);have e2:=fun n c=>yZ (s:=2) (n:=n) (c:=c) (by decide);have e3:=fun n c=>yZ (s:=3) (n:=n) (c:=c) (by decide);have z1:∀ n c,zN (aX 1 n 0 c)=n:=fun _ _=>Be (by decide);have z2:∀ n c,zN (aX 2 n 0 c)=n:=fun _ _=>Be (by decide);have no:CtOk P (eY P 17 2 Dry (gX (fun _ _=>false) (.leaf (.normal,ryV l false i 0,[]))) ctF):=dV bn (nz (dL Aw));have out:∀ (h:bV P E (eY P 17 2 Dry (gX (fun _ _=>false) (.leaf (.normal,ryV l false i 0,[]))) ctF) 50 17 Brz Drz (rzV l false i) []=some (.tuple ⟨exV .ret::rzV l false i⟩,af [])),
    ∃ e,∃ i':Int,PY e/\LRX P 17 0 Brz Drz.head (rzV l false i) [] e (rzV l false i') []:=fun h=>⟨.ret,i,Or.inr rfl,LRX.stop (n:=50) (bf _) az no Bj (e:= .ret) h (by intro h; cases h)⟩
  cases h1:gtI (ag l[i].ops.length) 40 with
  |true=>
   refine out ((uB (fun _ _=>false) l i 0).trans ?_);simp (disch:=first | omega | (simp only[List.length_append,List.length_drop,List.length_take,List.length_singleton,Nat.add_eq,bg]<;>omega) | fail) only[io_,g1,g2,b1,t4,e3,h1,zN3,ny,show Nat.beq 14 14=true from rfl,rzV,fzActs,mkA,aA,bC,aV,a_,aO,ah,aP,bu,Int.toNat_natCast,aQ,aG,bz,bK,b_,bJ,bP,dm,Bool.and_self,aK,aH,ax]
   rfl
  |false=>
   cases h2:gtI (ag l[i].b.length) 1000 with
   |true=>
    refine out ((uB (fun _ _=>false) l i 0).trans ?_);simp (disch:=first | omega | (simp only[List.length_append,List.length_drop,List.length_take,List.length_singleton,Nat.add_eq,bg]<;>omega) | fail) only[io_,g1,g2,b1,b2,t4,t13,e1,e3,z1,h1,h2,zN3,ny,show Nat.beq 14 14=true from rfl,rzV,fzActs,mkA,aA,bC,aV,a_,aO,ah,aP,bu,Int.toNat_natCast,aQ,aG,bz,bK,b_,bJ,bP,dm,Bool.and_self,aK,aH,ax]
    rfl
   |false=>
    cases h3:gtI (ag l[i].m.st.length) 40 with
    |true=>
     refine out ((uB (fun _ _=>false) l i 0).trans ?_);simp (disch:=first | omega | (simp only[List.length_append,List.length_drop,List.length_take,List.length_singleton,Nat.add_eq,bg]<;>omega) | fail) only[io_,g1,g2,b1,b2,b3,t4,t9,t13,e1,e2,e3,z1,z2,h1,h2,h3,zN3,ny,show Nat.beq 14 14=true from rfl,rzV,fzActs,mkA,aA,bC,aV,a_,aO,ah,aP,bu,Int.toNat_natCast,aQ,aG,bz,bK,b_,bJ,bP,dm,Bool.and_self,aK,aH,ax]
     rfl
    |false=>
     cases h4:gtI (ag l[i].m.cs.length) 40 with
     |true=>
      refine out ((uB (fun _ _=>false) l i 0).trans ?_);simp (disch:=first | omega | (simp only[List.length_append,List.length_drop,List.length_take,List.length_singleton,Nat.add_eq,bg]<;>omega) | fail) only[io_,g1,g2,b1,b2,b3,b4,t4,t9,t12,t13,e1,e2,e3,z1,z2,h1,h2,h3,h4,zN3,ny,show Nat.beq 14 14=true from rfl,rzV,fzActs,mkA,aA,bC,aV,a_,aO,ah,aP,bu,Int.toNat_natCast,aQ,aG,bz,bK,b_,bJ,bP,dm,Bool.and_self,aK,aH,ax]
      rfl
     |false=>
      have hc:l[i].m.cs.length<=40:=by
       unfold gtI ag at h4;have:=of_decide_eq_false h4;omega
      obtain⟨e,j',p1,p2⟩:=aba hi' hl hc l[i].m.cs.length 0 (by omega);have z0:((0:Nat):Int)=0:=rfl;rw[z0]at p2;rcases p1 with rfl | rfl
      ·obtain⟨e,i',q1,q2⟩:=ih (i+1) (by omega);refine⟨e,i',q1,LRX.again (n:=50) (bf _) az (dV bn (fG (dL Aw) p2)) Bj ((uB (bM (ryV l false i 0) []) l i j').trans ?_) q2⟩;simp (disch:=first | omega | (simp only[List.length_append,List.length_drop,List.length_take,List.length_singleton,Nat.add_eq,bg]<;>omega) | fail) only[io_,g1,g2,g3,b1,b2,b3,b4,t4,t9,t12,t13,e1,e2,e3,z1,z2,h1,h2,h3,h4,zN3,ny,show Nat.beq 14 14=true from rfl,aN,ryV,rzV,fzActs,mkA,aA,bC,aV,a_,aO,ah,aP,bu,Int.toNat_natCast,aQ,aG,bz,bK,b_,bJ,bP,dm,Bool.and_self,aK,aH,ax]
       rfl
      ·refine⟨.ret,i,Or.inr rfl,LRX.stop (n:=50) (bf _) az (dV bn (fG (dL Aw) p2)) Bj (e:= .ret) ((abh (bM (ryV l false i 0) []) l i j').trans ?_) (by intro h; cases h)⟩;simp (disch:=first | omega | (simp only[List.length_append,List.length_drop,List.length_take,List.length_singleton,Nat.add_eq,bg]<;>omega) | fail) only[io_,g1,g2,g3,b1,b2,b3,b4,t4,t9,t12,t13,e1,e2,e3,z1,z2,h1,h2,h3,h4,zN3,ny,show Nat.beq 14 14=true from rfl,aN,ryV,rzV,fzActs,mkA,aA,bC,aV,a_,aO,ah,aP,bu,Int.toNat_natCast,aQ,aG,bz,bK,b_,bJ,bP,dm,Bool.and_self,aK,aH,ax]
       rfl
theorem Ou{l:List ActM}(hl:l.length<=9223372036854775807):∃ b:Bool,(b=true->l.length<=40)/\CRX P 0 17 [fzActs l] [] (.bool b) []:=by
 obtain⟨e,i',h1,h2⟩:=aaq hl l.length 0 (by omega);have z0:((0:Nat):Int)=0:=rfl;rw[z0]at h2;rcases h1 with rfl | rfl
 ·refine⟨leI (ag l.length) 40,fun h=>by unfold leI ag at h; have:=of_decide_eq_true h; omega,CRX.of (pol:=au) (fl:=[]) (ts:=[]) (n:=50) (bf _) az (dV bn (fG (dL I_) h2)) ((aaP (bM (rzV l false 0) []) l i').trans ?_)⟩;simp (disch:=first | omega | (simp only[List.length_append,List.length_drop,List.length_take,List.length_singleton,Nat.add_eq,bg]<;>omega) | fail) only[io_,aN,rzV,fzActs,mkA,aA,bC,aV,a_,aO,ah,aP,bu,Int.toNat_natCast,aQ,aG,bz,bK,b_,bJ,bP,dm,Bool.and_self,aK,aH,ax]
 ·refine⟨false,(fun h=>by cases h),CRX.of (pol:=au) (fl:=[]) (ts:=[]) (n:=50) (bf _) az (dV bn (fG (dL I_) h2)) ((VX (bM (rzV l false 0) []) l i').trans ?_)⟩;simp (disch:=first | omega | (simp only[List.length_append,List.length_drop,List.length_take,List.length_singleton,Nat.add_eq,bg]<;>omega) | fail) only[io_,aN,rzV,fzActs,mkA,aA,bC,aV,a_,aO,ah,aP,bu,Int.toNat_natCast,aQ,aG,bz,bK,b_,bJ,bP,dm,Bool.and_self,aK,aH,ax]
def nrB(n:NdM)(t:TbM):List Blk:=[.cells ([.int .i64 n.nu, .int .i64 n.mo,ptV 1,ptV 2, .int .i64 n.ac, .int .i64 n.kn]++mgV n.he) 82 true, .cells (dM 10 11 12 13 14 n.s.dk) 86 true, .cells ([ptV 1, .bool n.s.off]++pgC n.s.pg++[lsV 15 n.s.log.length,ptV 3,ptV 4,ptV 5, .int .i64 n.s.held]) 128 true,
 .cells [ptV 1, .bool n.s.wbr,lsV 16 n.s.wcs.length,lsV 17 n.s.wes.length] 170 true, .cells [ptV 1, .bool n.s.rbr,lsV 18 n.s.rs.length] 168 true, .cells [ptV 6,ptV 4,lsV 19 n.s.rest.length] 174 true, .cells [.map (some 7)] 98 true, .map n.s.tb.es n.s.tb.ck,
 .cells [.map (some 9)] 98 true, .map t.es t.ck]++dkL n.s.dk++
 [.cells (ECm.all n.s.log) 47 false, .cells (ECm.all n.s.wcs) 47 false, .cells (EIn.all n.s.wes) 3 false, .cells (eF.all n.s.rs) 161 false, .cells (ECm.all n.s.rest) 47 false]
def Dr0:HeadX:=⟨6,202,[1,2,7,9,10,11],[.val, .val, .val, .val, .val, .val],[49,50,0,0,0,0],iT⟩
def Br0:Code:=(dR P 4 0).getD .skip
theorem LH:dR P 4 0=some Br0:=by kernel_rfl
theorem wR:Occ P 4 (.block 0 (.loop Br0)):=fA LH
def r0V(l:List ActM)(ks:List ByteArray)(an i:Int):List Value:=[fzActs l,fzKys ks,ptV 0,ptV 8, .int .i64 an, .int .i64 i]
def Rl(C:List Value->List Blk->Bool)(f:Int->Int->Int):iW:=fun args bs=>match args with
 |[.int _ x, .int _ n]=>some (.ite (C args bs) (.leaf (.int .i64 (f x n),[])) .fail)
 |_=>none
def Dj(C1 C2 C3 C4 C5 C6 C7 C8 C9:List Value->List Blk->Bool)(f:Int->Int->Int)(nr er:Int)(n1 n2 n3:NdM)(t1:TbM)(b:List UInt8)(o:Int):Ct:=
 aT P au 0 6 (Rl C1 f) (aT P iT 8 9 (cu C2 (.leaf (.tuple ⟨[.int .i64 nr, .int .i64 er]⟩,ndB n1))) (aT P iT 8 11 (cu C3 (.leaf (bG n1.s.log,ndB n1)))
 (aT P au 0 19 (cu C4 (.leaf (.bool true,[]))) (aT P au 2 20 (cu C5 (.leaf (.int .i64 0,tbB t1))) (aT P yD 0 21 (cu C6 (.leaf (.tuple ⟨[aX 1 b.length 0 (bc b), .int .i64 0]⟩,[])))
 (aT P iT 8 22 (cu C7 (.leaf (.tuple ⟨[noL, .int .i64 0]⟩,ndB n2))) (aT P iT 8 14 (cu C8 (.leaf (.int .i64 o,ndB n2))) (yg P iT 6 23 (cu C9 (.leaf (.int .i64 0,ndB n3))) ctF))))))))
theorem zi(C1 C2 C3 C4 C5 C6 C7 C8 C9:List Value->List Blk->Bool)(f:Int->Int->Int)(nr er:Int)(n n1 n2 n3:NdM)(t t1:TbM)(b:List UInt8)(o:Int)(l:List ActM)(ks:List ByteArray)(an i:Int):oh P E (Dj C1 C2 C3 C4 C5 C6 C7 C8 C9 f nr er n1 n2 n3 t1 b o) 50 4 Br0 Dr0 (r0V l ks an i) (nrB n t) =
 (let z:=l.length;let y:=atN i 14;let x:=Enc.all fU l;let w:=Eta.int .i64;let v:=Eta.slice 3;let u:=asI (aU x y);let s:=n.s;let r:=pt_ 0;let q:=Nat.add y 1;let p:=aU x (Nat.add (Nat.add (Nat.add q 1) 1) 1);let m:=fa_ (zN p) (zB p) (zC p);let k:=nh_ n.nu n.mo n.ac n.kn 1 2 n.he;let j:=s.rest.length;
 let h:=tb_ 7;let g:=ro_ [0,8,21,10];let e:=k::dk_ s.dk 8 9 10 11 12::sb_ s s.pg 1 13 3 4 5::wb_ s 1 14 15::rb_ s 1 16::so_ 6 4 17 j::h::Blk.map (bD true g s.tb.es) s.tb.ck::nl_ (cz_ g w0_) s [];let d:=rg_ [0,8];let c:=bH d 31;let a:=bk_ c w0_;let Z:=n1.s;let Y:=io_ 0;
 let X:=Value.iface 18446744073709551630 (.agg ⟨.slice none z 0::x⟩);let W:=fb_ ks.length 0 (Enc.all EKy ks);let V:=pt_ 8;let U:=io_ an;let T:=io_ (dO .i64 i 1);let S:=Value.tuple ⟨[Y,X,W,r,V,U,T]⟩;let R:=nh_ n1.nu n1.mo n1.ac n1.kn 1 2 n1.he;let Q:=dk_ Z.dk 10 11 12 13 14;let O:=sb_ Z Z.pg 1 15 3 4 5;
 let N:=wb_ Z 1 16 17;let M:=rb_ Z 1 18;let L:=Z.rest.length;let K:=so_ 6 4 19 L;let J:=ro_ [0,10,41,10];let I:=bD true c Z.tb.es;let H:=Z.tb.ck;let G:=tb_ 9;let F:=t.es;let D:=t.ck;let C:=ro_ [0,8,41,10];let B:=dO .i64 an 1;let A:=bH d 51;let z0:=bk_ A w0_;let y0:=io_ i;let x0:=ro_ [0,10,90,10];
 let w0:=Blk.map (bD true x0 (bD true A Z.tb.es)) H;let v0:=nl_ (cz_ x0 z0) Z [];let u0:=nn_ z0 Z (some (.tuple ⟨[io_ (-1),X,W,r,V,io_ B,y0]⟩,af (R::Q::O::N::M::K::h::w0::G:: .map (bD true x0 F) D::v0)));let t0:=Z.log.length;let s0:=fH .i64 nr 1;let r0:=atN s0 3;
 let q0:=Enc.all ECm Z.log;let p0:=Nat.add r0 1;let o0:=aU q0 (Nat.add p0 1);let n0:=io_ 1;let m0:=asI (aU x q);let l0:=[r,fb_ b.length 0 (bc b)];let k0:=n2.s;let j0:=nh_ n2.nu n2.mo n2.ac n2.kn 1 2 n2.he;let i0:=dk_ k0.dk 8 9 10 11 12;let h0:=sb_ k0 k0.pg 1 13 3 4 5;let g0:=wb_ k0 1 14 15;
 let f0:=rb_ k0 1 16;let e0:=k0.rest.length;let d0:=so_ 6 4 17 e0;let c0:=k0.tb.es;let b0:=k0.tb.ck;let a0:=ro_ [0,8,61,10];let Z0:=bH d 71;let Y0:=bk_ Z0 w0_;let X0:=ro_ [0,8,81,10];let W0:=bH d 91;let V0:=bk_ W0 w0_;let U0:=ro_ [0,10,101,10];let T0:=af (j0::dk_ k0.dk 10 11 12 13 14::sb_ k0 k0.pg 1 15 3 4 5::wb_ k0 1 16 17::rb_ k0 1 18::so_ 6 4 19 e0::h:: .map (bD true U0 (bD true W0 c0)) b0::G:: .map (bD true U0 F) D::nl_ (cz_ U0 V0) k0 []);
 let S0:=bH (rg_ [0,6]) 31;let R0:=bk_ S0 w0_;let Q0:=n3.s;let P0:=ro_ [0,6,31,2,8,2,43,10];let O0:=ro_ [0,10,20,10];
 (ak (ltI i (ag z)) (ae (Bool.and (Nat.beq 14 14) (inI i z)) (ae (Bool.and (Nat.ble (Nat.add y 14) x.length) (iq [w,w,w, .string,v,w,w, .int .u8,w, .slice 2,w,w,v, .slice 1] x y)) (ae (C1 [io_ u,io_ 3] []) (ak (eqI (f u 3) 0) (nn_ w0_ s (ae (C2 [r,m] e) (ak (neI er 0) (nn_ a Z (some (S,af (R::Q::O::N::M::K::h:: .map (bD true J I) H::G:: .map (bD true J F) D::nl_ (cz_ J a) Z [])))) (nn_ a Z (ae (C3 [r] (R::dk_ Z.dk 8 9 10 11 12::sb_ Z Z.pg 1 13 3 4 5::wb_ Z 1 14 15::rb_ Z 1 16::so_ 6 4 17 L::h:: .map (bD true C I) H::nl_ (cz_ C a) Z [])) (ak (neI nr B) u0 (ak (neI (ag t0) nr) u0 (ae (Bool.and (Nat.beq 3 3) (inI s0 t0)) (ae (Bool.and (Nat.ble (Nat.add r0 3) q0.length) (iq [w,w,v] q0 r0)) (ae (C4 [.agg ⟨[io_ (asI (aU q0 r0)),io_ (asI (aU q0 p0)),fa_ (zN o0) (zB o0) (zC o0)]⟩, .agg ⟨[n0,io_ nr,m]⟩] []) (ae (C5 [r,m] [tb_ 1, .map (bD true (bY 0 [8,9]) F) D]) (nn_ z0 Z (some (.tuple ⟨[Y,X,W,r,V,io_ B,T]⟩,af (R::Q::O::N::M::K::h::w0::G:: .map (bD true x0 (bD true (bH [8,9] 90) t1.es)) t1.ck::v0))))))))))))))) (ak (eqI (f u 3) 1) (ae (C1 [io_ m0,io_ 60] []) (ae (C6 [.agg ⟨[io_ 3,n0, .int .u8 0,io_ (f m0 60),fc_ 0 0 [],Y,Y,fa_ 0 0 []]⟩] []) (nn_ w0_ s (ae (C7 l0 e) (nn_ a k0 (ae (C8 [r] (j0::i0::h0::g0::f0::d0::h:: .map (bD true C (bD true c c0)) b0::nl_ (cz_ C a) k0 [])) (nn_ z0 k0 (ae (C7 l0 (j0::i0::h0::g0::f0::d0::h:: .map (bD true a0 (bD true A c0)) b0::nl_ (cz_ a0 z0) k0 [])) (nn_ Y0 k0 (ae (C8 [r] (j0::i0::h0::g0::f0::d0::h:: .map (bD true X0 (bD true Z0 c0)) b0::nl_ (cz_ X0 Y0) k0 [])) (ak (neI o o) (nn_ V0 k0 (some (.tuple ⟨[io_ (-1),X,W,r,V,U,y0]⟩,T0))) (nn_ V0 k0 (some (S,T0)))))))))))))) (nn_ w0_ s (ae (C9 [r] e) (nn_ R0 Q0 (some (S,af (nh_ n3.nu n3.mo n3.ac n3.kn 1 2 n3.he::dk_ Q0.dk 10 11 12 13 14::sb_ Q0 Q0.pg 1 15 3 4 5::wb_ Q0 1 16 17::rb_ Q0 1 18::so_ 6 4 19 Q0.rest.length::h:: .map (bD true P0 (bD true S0 Q0.tb.es)) Q0.tb.ck::G:: .map (bD true P0 F) D::nl_ (cz_ P0 R0) Q0 []))))))))))) (nn_ w0_ s (some (.tuple ⟨[n0,X,W,r,V,U,y0]⟩,af (k::dk_ s.dk 10 11 12 13 14::sb_ s s.pg 1 15 3 4 5::wb_ s 1 16 17::rb_ s 1 18::so_ 6 4 19 j::h:: .map (bD true O0 s.tb.es) s.tb.ck::G:: .map (bD true O0 F) D::nl_ (cz_ O0 w0_) s [])))))):=by kernel_rfl
def ndD(n:NdM):List Blk:=[.cells (dM 8 9 10 11 12 n.s.dk) 86 true,
 .cells ([.int .i64 n.nu, .int .i64 n.mo,ptV 0,ptV 2, .int .i64 n.ac, .int .i64 n.kn]++mgV n.he) 82 true,
 .cells ([ptV 0, .bool n.s.off]++pgC n.s.pg++[lsV 13 n.s.log.length,ptV 3,ptV 4,ptV 5, .int .i64 n.s.held]) 128 true,
 .cells [ptV 0, .bool n.s.wbr,lsV 14 n.s.wcs.length,lsV 15 n.s.wes.length] 170 true,
 .cells [ptV 0, .bool n.s.rbr,lsV 16 n.s.rs.length] 168 true,
 .cells [ptV 6,ptV 4,lsV 17 n.s.rest.length] 174 true,
 .cells [.map (some 7)] 98 true,
 .map n.s.tb.es n.s.tb.ck]++dkL n.s.dk++[.cells (ECm.all n.s.log) 47 false, .cells (ECm.all n.s.wcs) 47 false, .cells (EIn.all n.s.wes) 3 false, .cells (eF.all n.s.rs) 161 false, .cells (ECm.all n.s.rest) 47 false]
def aef:StaM:=⟨false,⟨1,2,0,0,0,0⟩,[],0,dkN,false,[],[],false,[],tb0,[]⟩
def aeh(C:List Value->List Blk->Bool)(s:StaM):Ct:=aT P (fun _=>none) 1 67 (cu C (.leaf (.tuple ⟨[ptV 1, .int .i64 0]⟩,stD s))) ctF
theorem aaS(C:List Value->List Blk->Bool)(mo:Int):dD P E (aeh C mD) 50 iT [] [] 1 7 [.int .i64 0, .int .i64 mo,p0] xI =
 (let z:=Value.bool true;let y:=Value.bool false;let x:=io_ 0;let w:=Blk.cells [] 5 false;let v:=Blk.cells [] 163 false;let u:=some (Value.tuple ⟨[.pointer none,io_ 2]⟩,af [.cells [z,y,y,x,x,sl_ 1 0,sl_ 2 0,sl_ 3 0,sl_ 4 0,sl_ 5 0] 86 true,w,w,w,w,v]);let t:=pt_ 0;let s:=Value.slice none 0 0;
 let r:=Value.int .u8 0;let q:=Blk.cells [] 47 false;
 (ak (ltI mo 1) u (ak (gtI mo 16) u (ae (C [t,x] [.cells [z,y,y,x,x,s,s,s,s,s] 86 true]) (some (.tuple ⟨[pt_ 1,x]⟩,af [.cells [z, .bool mD.dk.off, .bool mD.dk.fused,x,x,sl_ 8 0,sl_ 9 0,sl_ 10 0,sl_ 11 0,sl_ 12 0] 86 true, .cells [x,io_ mo,t,pt_ 2,x,io_ (-1),x,x,r,x,fc_ 0 0 [],x,x,fa_ 0 0 []] 82 true, .cells [t, .bool mD.off,io_ 1, .int .u8 1,x,r,x,x,sl_ 13 0,pt_ 3,pt_ 4,pt_ 5,x] 128 true, .cells [t, .bool mD.wbr,sl_ 14 0,sl_ 15 0] 170 true, .cells [t, .bool mD.rbr,sl_ 16 0] 168 true,so_ 6 4 17 0,tb_ 7, .map [] 0,w,w,w,w,v,q,q, .cells [] 3 false, .cells [] 161 false,q])))))):=by kernel_rfl
def nd0(k mo:Int)(s:StaM):NdM:=⟨k,mo,s,0,-1,⟨0,0,0,0,[],0,0,[]⟩⟩
theorem Y2{mo:Int}(hm:1<=mo/\mo<=16):CRX P 1 7 [.int .i64 0, .int .i64 mo,p0] xI (.tuple ⟨[ptV 1, .int .i64 0]⟩) (ndD (nd0 0 mo mD)):=by
 have g1:ltI mo 1=false:=by unfold ltI; exact decide_eq_false (by omega)
 have g2:gtI mo 16=false:=by unfold gtI; exact decide_eq_false (by omega)
 refine CRX.of (pol:=iT) (fl:=[]) (ts:=[]) (n:=50) (bf _) az (aj (pol:=fun _=>none) bn (bF YP)) ((aaS (bM [p0, .int .i64 0] xI) mo).trans ?_);simp only[fa_,fc_,io_,pt_,sl_,so_,tb_,g1,g2,aH];refine mZ rfl rfl ?_;have n1:([]:List UInt8).length=0:=rfl;have n2:([]:List CmM).length=0:=rfl;have n3:([]:List Int).length=0:=rfl;have n4:([]:List RunM).length=0:=rfl;have n5:([]:List StM).length=0:=rfl;have n6:([]:List (Int×Int)).length=0:=rfl;have f1:bc ([]:List UInt8)=[]:=rfl;have f2:ESt.all ([]:List StM)=[]:=rfl;have f3:ECm.all ([]:List CmM)=[]:=rfl;have f4:EIn.all ([]:List Int)=[]:=rfl;have f5:eF.all ([]:List RunM)=[]:=rfl;have f6:ESa.all ([]:List (Int×Int))=[]:=rfl;simp only[fa_,fc_,io_,pt_,sl_,so_,tb_,n1,n2,n3,n4,n5,n6,f1,f2,f3,f4,f5,f6,ndD,nd0,mD,dkN,tb0,mgV,lD,kN,pgC,dI,rnB,srB,tbB,dkL,List.cons_append,List.nil_append,List.append_assoc,dJ,aB,dM,lsV,ptV,p0,aW,dkC,aJ,bG,cmV,dA,bQ,aN,dH,dB,dU,dE,dG,dF,cZ,dC,dw,dS,dn,ay,aC,aF,Enc.all_ren,Bool.not_false]
theorem adM{mo:Int}(hm:1<=mo/\mo<=16){K:Nat}(hK:K<=1000000000):NdQ (nd0 0 mo mD) K/\NdQ (nd0 1 mo aef) K:=by
 have h0:DkC dkN K:=⟨rfl,rfl,by decide,by show 0<=(0:Int)/\(0:Int)+K<4611686018427387904; omega⟩
 exact⟨⟨⟨rfl,h0,rfl,rfl,rfl,rfl,⟨EE,rfl,Or.inl rfl,show([]:List RunM).length<4194304 by decide,show 0<=bI [] by decide⟩,rfl⟩,hm,rfl,rfl,show([]:List CmM).length<=60 by decide,show([]:List UInt8).length<=3000000 by decide,show pgE ⟨1,1,0,0,0,0⟩=0 by decide⟩,⟨⟨rfl,h0,rfl,rfl,rfl,rfl,⟨EE,rfl,Or.inl rfl,show([]:List RunM).length<4194304 by decide,show 0<=bI [] by decide⟩,rfl⟩,hm,rfl,rfl,show([]:List CmM).length<=60 by decide,show([]:List UInt8).length<=3000000 by decide,show pgE ⟨1,2,0,0,0,0⟩=0 by decide⟩⟩
def Dr3:HeadX:=⟨10,202,[2,7,9,10,23],[.val, .val, .val, .val, .val],[50,0,0,0,0],iT⟩
def Br3:Code:=(dR P 4 3).getD .skip
theorem JF:dR P 4 3=some Br3:=by kernel_rfl
theorem OJ:Occ P 4 (.block 3 (.loop Br3)):=fA JF
def r3V(ks:List ByteArray)(an i:Int):List Value:=[fzKys ks,ptV 0,ptV 8, .int .i64 an, .int .i64 i]
def V5(C1 C2:List Value->List Blk->Bool)(v:ByteArray)(p m:Bool)(n:NdM)(t:TbM):Ct:=aT P iT 8 24 (cu C1 (.leaf (.tuple ⟨[.string v, .bool p, .int .i64 0]⟩,ndB n))) (aT P au 2 25 (cu C2 (.leaf (.tuple ⟨[.string v, .bool m, .bool p]⟩,tbB t))) ctF)
theorem UV(C1 C2:List Value->List Blk->Bool)(v:ByteArray)(p m:Bool)(n:NdM)(t:TbM)(ks:List ByteArray)(an i:Int):bV P E (V5 C1 C2 v p m n t) 50 4 Br3 Dr3 (r3V ks an i) (nrB n t) =
 (let z:=ks.length;let y:=Bool.and (Nat.beq 1 1) (inI i z);let x:=Enc.all EKy ks;let w:=aU x (atN i 1);let u:=Bool.and (Nat.ble (Nat.add (atN i 1) 1) x.length) (eu .string w);let s:=n.s;let r:=pt_ 0;let q:=[r,Value.string (asS w)];let o:=nh_ n.nu n.mo n.ac n.kn 1 2 n.he;let l:=s.rest.length;
 let k:=tb_ 7;let j:=ro_ [0,8,20,10];let h:=s.tb.es;let g:=s.tb.ck;let f:=bH (rg_ [0,8]) 30;let e:=bk_ f w0_;let d:=fb_ z 0 x;let c:=pt_ 8;let b:=io_ an;let a:=dk_ s.dk 10 11 12 13 14;let Z:=sb_ s s.pg 1 15 3 4 5;let Y:=wb_ s 1 16 17;let X:=rb_ s 1 18;let W:=so_ 6 4 19 l;let V:=ro_ [0,10,40,10];
 let U:=af (o::a::Z::Y::X::W::k:: .map (bD true V (bD true f h)) g::tb_ 9:: .map (bD true V (bD true (bH [8,9] 40) t.es)) t.ck::nl_ (cz_ V e) s []);let T:=nn_ e s (some (.tuple ⟨[io_ (-1),d,r,c,b,io_ i]⟩,U));let S:=ro_ [0,10,20,10];
 (ak (ltI i (ag z)) (ae y (ae u (nn_ w0_ s (ae (C1 q (o::dk_ s.dk 8 9 10 11 12::sb_ s s.pg 1 13 3 4 5::wb_ s 1 14 15::rb_ s 1 16::so_ 6 4 17 l::k:: .map (bD true j h) g::nl_ (cz_ j w0_) s [])) (ae y (ae u (ae (C2 q [tb_ 1, .map (bD true (bY 0 [8,9]) t.es) t.ck]) (ak (neS v v) T (ak (fM (eqB p p)) T (nn_ e s (some (.tuple ⟨[io_ 0,d,r,c,b,io_ (dO .i64 i 1)]⟩,U)))))))))))) (nn_ w0_ s (some (.tuple ⟨[io_ 4,d,r,c,b,io_ i]⟩,af (o::a::Z::Y::X::W::k:: .map (bD true S h) g::tb_ 9:: .map (bD true S t.es) t.ck::nl_ (cz_ S w0_) s [])))))):=by kernel_rfl
def XF:kY
 |[]=>some (.leaf (.bool true,[]))
 |_=>none
def adn(C1 C2 C3 C4 L0 L3:List Value->List Blk->Bool)(sb:Bool)(f:Int->Int->Int)(l:List ActM)(ks:List ByteArray)(an:Int)(n0 n9:NdM)(t9:TbM):Ct:=
 kG P 5 XF (aT P au 0 17 (cu C1 (.leaf (.bool sb,[]))) (aT P au 0 6 (Rl C2 f) (aT P (fun _=>none) 1 7 (cu C3 (.leaf (.tuple ⟨[ptV 1, .int .i64 0]⟩,ndD n0)))
 (aT P iT 8 11 (cu C4 (.leaf (bG n9.s.log,ndB n9))) (Dq P 4 0 Dr0 (gX L0 (.leaf (.normal,r0V l ks an (ag l.length),nrB n9 t9))) (eY P 4 3 Dr3 (gX L3 (.leaf (.normal,r3V ks an (ag ks.length),nrB n9 t9))) ctF))))))
theorem UC(C1 C2 C3 C4 L0 L3:List Value->List Blk->Bool)(sb:Bool)(f:Int->Int->Int)(l:List ActM)(ks:List ByteArray)(an le:Int)(n0 n9:NdM)(t9:TbM):dD P E (adn C1 C2 C3 C4 L0 L3 sb f l ks an n0 n9 t9) 50 iT [] [] 0 4 [.int .i64 le,fzActs l,fzKys ks] [] =
 (let z:=Value.iface 18446744073709551630 (.agg ⟨.slice none l.length 0::Enc.all fU l⟩);let y:=Value.bool true;let x:=some (y,af []);let w:=io_ 0;let v:=pt_ 0;let u:=Value.bool false;let t:=Value.slice none 0 0;let s:=bH [0] 1;let r:=bk_ s w0_;let q:=n0.s;let p:=fb_ ks.length 0 (Enc.all EKy ks);
 let o:=tb_ 7;let n:=ro_ [1,1,0,1,2,6,19,1,18,1,20,10];let m:=bH [1,0,2,3,4,5] 30;let k:=bk_ m w0_;let j:=n9.s;let i:=nh_ n9.nu n9.mo n9.ac n9.kn 1 2 n9.he;let h:=j.rest.length;let g:=ro_ [1,1,0,1,2,4,30,4,44,10];let e:=bH (rg_ [1,1,0,1,2,4,30,4]) 54;let d:=bk_ e w0_;
 let c:=ro_ [1,1,0,1,2,4,30,2,64,10];
 (ae (C1 [z] []) (ak (fM sb) x (ak (gtI (ag ks.length) 40) x (ae (C2 [io_ le,io_ 16] []) (ae (C3 [w,io_ (dO .i64 1 (f le 16)),v] [.cells [y,u,u,w,w,t,t,t,t,t] 86 true]) (nn_ r q (ae (L0 [z,p,v,pt_ 8,w,w] (nh_ n0.nu n0.mo n0.ac n0.kn 1 2 n0.he::dk_ q.dk 10 11 12 13 14::sb_ q q.pg 1 15 3 4 5::wb_ q 1 16 17::rb_ q 1 18::so_ 6 4 19 q.rest.length::o:: .map (bD true n (bD true s q.tb.es)) q.tb.ck::tb_ 9:: .map [] 0::nl_ (cz_ n r) q [])) (nn_ k j (ae (L3 [p,v,pt_ 8,io_ an,w] (i::dk_ j.dk 10 11 12 13 14::sb_ j j.pg 1 15 3 4 5::wb_ j 1 16 17::rb_ j 1 18::so_ 6 4 19 h::o:: .map (bD true g (bD true m j.tb.es)) j.tb.ck::tb_ 9:: .map (bD true g (bD true m t9.es)) t9.ck::nl_ (cz_ g k) j [])) (nn_ d j (ae (C4 [v] (i::dk_ j.dk 8 9 10 11 12::sb_ j j.pg 1 13 3 4 5::wb_ j 1 14 15::rb_ j 1 16::so_ 6 4 17 h::o:: .map (bD true c (bD true e j.tb.es)) j.tb.ck::nl_ (cz_ c d) j [])) (some (.bool (eqI (ag j.log.length) an),af [])))))))))))))):=by kernel_rfl
/-- Behind so many acts. -/
structure NR(n:NdM)(T:List OpM)(i K D:Nat):Prop where
 le:i<=40
 q:StQ n.s K
 mo:1<=n.mo/\n.mo<=16
 fol:jJ 0 0 0 n.s.log=(0,0)
 ep:∀ c∈n.s.log,c.e=1
 len:n.s.log.length+n.s.rs.length<=i
 rl:(n.s.rs.length:Int)<=bI n.s.rs
 pg:∃ pa,n.s.pg=⟨1,1,pa,0,0,0⟩/\0<=pa/\pa<=n.ac
 ac:0<=n.ac/\n.ac<=n.s.log.length
 ru:bI n.s.rs<=n.ac
 rbr:n.s.rbr=false
 rok:∀ q∈n.s.rs,RunOk q
 tb:n.s.tb=eX (gB n.s.rest)
 rest:n.s.rest=n.s.log.drop (bI n.s.rs).toNat
 rd:∀ k,qc n.s.rs k=lq (opsOf (n.s.log.take (bI n.s.rs).toNat)) k
 T:T=gB n.s.log
 d1:n.s.dk.d1.length<=D
 d2:n.s.dk.d2.length<=82011*n.s.rs.length
theorem NR.ne{n:NdM}{T:List OpM}{i K D:Nat}(h:NR n T i K D)(hD:D<=3000000):NeQ n K:=
 ⟨h.q,h.mo,h.fol,by have:=h.len; have:=h.le; omega,by have:=h.d1; omega,by
  obtain⟨pa,e,h1,h2⟩:=h.pg;have:=h.ac;have:=h.len;have:=h.le;rw[e]
  exact pgA ⟨h1,by omega⟩⟩
theorem NR.mono{n:NdM}{T:List OpM}{i j K L D E:Nat}(h:NR n T i K D)(hj:i<=j)(h40:j<=40)(hK:L<=K)(hD:D<=E):NR n T j L E:=
 ⟨h40,h.q.mono hK,h.mo,h.fol,h.ep,by have:=h.len; omega,h.rl,h.pg,h.ac,h.ru,h.rbr,h.rok,h.tb,h.rest,h.rd,h.T,by have:=h.d1; omega,h.d2⟩
theorem yx:∀ {l:List CmM},(∀ c∈l,c.e=1)->eG l<=1:=fun {l} h=>by
 rcases List.eq_nil_or_concat l with rfl | ⟨t,c,rfl⟩
 ·show(0:Int)<=1; decide
 ·rw[List.concat_eq_append,o5,h c (by rw[List.concat_eq_append]; simp)]; decide
theorem Ip(a b:List CmM):gB (a++b)=kP (gB a) (opsOf b):=by unfold gB; rw[zO,Jt]
theorem Tm(c:CmM):opsOf [c]=c.ops:=by unfold opsOf; simp
theorem NR.rle{n:NdM}{T:List OpM}{i K D:Nat}(h:NR n T i K D):(bI n.s.rs).toNat<=n.s.log.length:=by
 have:=h.ru;have:=h.ac;omega
theorem NR.yes{n:NdM}{T:List OpM}{i K D:Nat}{l:List OpM}{k:Nat}(h:NR n T i (K+20000) D)(hi:i<40)(hb:jb l=0)(hk:k<=17):NR { n with s:=n.s.added k [n.com l] } (kP T l) (i+1) K D:=by
 obtain⟨pa,e,h1,h2⟩:=h.pg;have hle:=yx h.ep;have hln:=h.len;have hrle:=h.rle;have hf:=OY (n:=n) (l:=l) hb (by rw[e]; exact⟨by show(1:Int)<=1; decide,by show(1:Int)<=1048576; decide⟩) (by rw[e]; exact hle) (by omega);have hac:=h.ac;refine⟨by omega,Zw h.q (by simpa using hk) (by show 1<=1000; decide),h.mo,Fol.nil.1 (Fol.app (l1:=n.s.log) (L:=[]) (Fol.nil.2 h.fol) hf),?_,?_,h.rl,⟨pa,e,h1,h2⟩,⟨hac.1,?_⟩,h.ru,h.rbr,h.rok,?_,?_,?_,?_,h.d1,h.d2⟩
 ·intro c hc;have hc:c∈n.s.log++[n.com l]:=hc;rcases List.mem_append.1 hc with hc | hc
  ·exact h.ep c hc
  ·rw[List.mem_singleton.1 hc]; show n.s.pg.ep=1; rw[e]
 ·show(n.s.log++[n.com l]).length+n.s.rs.length<=i+1;rw[List.length_append,List.length_singleton]; omega
 ·show n.ac<=((n.s.log++[n.com l]).length:Int)
  rw[List.length_append]; omega
 ·show tbL n.s.tb [n.com l]=eX (gB (n.s.rest++[n.com l]));rw[h.tb,J4,Ip]
 ·show n.s.rest++[n.com l]=(n.s.log++[n.com l]).drop (bI n.s.rs).toNat;rw[List.drop_append_of_le_length hrle,h.rest]
 ·intro k;show qc n.s.rs k=lq (opsOf ((n.s.log++[n.com l]).take (bI n.s.rs).toNat)) k;rw[List.take_append_of_le_length hrle];exact h.rd k
 ·show kP T l=gB (n.s.log++[n.com l]);rw[Ip,Tm,<-h.T]; rfl
theorem NR.ack{n:NdM}{T:List OpM}{i K D:Nat}{ac kn:Int}(h:NR n T i K D)(h1:n.ac<=ac)(h2:ac<=n.s.log.length):NR { n with ac:=ac,kn:=kn } T i K D:=by
 obtain⟨pa,e,p1,p2⟩:=h.pg;have hac:=h.ac;have hru:=h.ru;exact⟨h.le,h.q,h.mo,h.fol,h.ep,h.len,h.rl,⟨pa,e,p1,by show pa<=ac; omega⟩,⟨by show 0<=ac; omega,h2⟩,by show bI n.s.rs<=ac; omega,h.rbr,h.rok,h.tb,h.rest,h.rd,h.T,h.d1,h.d2⟩
theorem NR.paged{n:NdM}{T:List OpM}{i K D k:Nat}(h:NR n T i (K+20000) D)(hk:k<=2):NR { n with s:=n.s.paged k ⟨1,1,n.ac,0,0,0⟩ } T i K (D+100):=by
 have hac:=h.ac;refine⟨h.le,aaQ h.q hk,h.mo,h.fol,h.ep,h.len,h.rl,⟨n.ac,rfl,hac.1,Int.le_refl _⟩,hac,h.ru,h.rbr,h.rok,h.tb,h.rest,h.rd,h.T,?_,h.d2⟩;show(n.s.dk.d1++frM (lN ⟨1,1,n.ac,0,0,0⟩)).length<=D+100;have:=K_ ⟨1,1,n.ac,0,0,0⟩;have:=h.d1;rw[List.length_append]; omega
theorem G6(l:List RunM)(q:RunM):bI (l++[q])=q.b:=by unfold bI; simp
theorem Ug{s:StaM}{x:List UInt8}{k m K:Nat}(hs:StQ s (K+20000))(hk:k<=1300)(hm:m<=s.rest.length)(hr:s.rs.length<4000000):StQ (s.flushed k x m) K:=by
 obtain⟨h1,h2,h3,h4,h5,h6,h7,h8⟩:=hs;have hst:=h2.steps;have hn:=h7.n;have hr0:=h7.r0;have htl:(s.rest.take m).length=m:=by rw[List.length_take]; omega
 have hb:bI (s.rs++[kC s.rs (s.rest.take m)])=bI s.rs+(m:Int):=by rw[G6]; show bI s.rs+((s.rest.take m).length:Int)=_; rw[htl]
 refine⟨h1,⟨h2.off,h2.fused,h2.fuse,?_,?_⟩,rfl,h4,h5,h6,⟨jv _,?_,?_,?_,?_⟩,h8⟩
 ·show 0<=s.dk.steps+(k:Int)+1; omega
 ·show s.dk.steps+(k:Int)+1+(K:Int)<_; omega
 ·show(s.log.length:Int)=bI (s.rs++[kC s.rs (s.rest.take m)])+((s.rest.drop m).length:Int);rw[hb,List.length_drop]; omega
 ·show s.rest.drop m=[]\/eG (s.rest.drop m)=eG s.log;by_cases hd:s.rest.drop m=[]
  ·exact Or.inl hd
  ·right;have e:eG s.rest=eG (s.rest.drop m):=by
    have:=uO (a:=s.rest.take m) hd;rw[List.take_append_drop]at this;exact this
   rcases h7.e with h | h
   ·exact absurd (by rw[h]; simp) hd
   ·rw[<-e,h]
 ·show(s.rs++[kC s.rs (s.rest.take m)]).length<4194304;rw[List.length_append,List.length_singleton]; omega
 ·show 0<=bI (s.rs++[kC s.rs (s.rest.take m)]);rw[hb]; omega
theorem NR.all{n:NdM}{T:List OpM}{i K D:Nat}(h:NR n T i K D):(∀ c∈n.s.log,cmE c=0)/\∀ c∈n.s.rest,cmE c=0:=by
 have h1:=BL h.fol;refine⟨h1,fun c hc=>h1 c ?_⟩;rw[h.rest]at hc;exact List.mem_of_mem_drop hc
theorem NR.flushed{n:NdM}{T:List OpM}{i K D k m:Nat}{x:List UInt8}(h:NR n T i (K+20000) D)(hi:i<40)(hk:k<=1300)(hx:x.length<=82011)(h1:1<=m)(hm:bI n.s.rs+(m:Int)=n.ac):NR { n with s:=n.s.flushed k x m } T (i+1) K D:=by
 have hac:=h.ac;have hln:=h.len;have hrl:=h.rl;have hr0:=h.q.sr.r0;have hsn:=h.q.sr.n;have hmr:m<=n.s.rest.length:=by omega
 have htl:(n.s.rest.take m).length=m:=by rw[List.length_take]; omega
 have hb:bI (n.s.rs++[kC n.s.rs (n.s.rest.take m)])=bI n.s.rs+(m:Int):=by rw[G6]; show bI n.s.rs+((n.s.rest.take m).length:Int)=_; rw[htl]
 have hto:(bI n.s.rs+(m:Int)).toNat=(bI n.s.rs).toNat+m:=by omega
 have hct:∀ c∈n.s.rest.take m,cmE c=0:=fun c hc=>h.all.2 c (List.mem_of_mem_take hc);have hne:n.s.rest.take m≠[]:=by intro e; rw[e]at htl; simp at htl; omega
 refine⟨by omega,Ug h.q hk hmr (by omega),h.mo,h.fol,h.ep,?_,?_,h.pg,hac,?_,rfl,?_,rfl,?_,?_,h.T,h.d1,?_⟩
 ·show n.s.log.length+(n.s.rs++[kC n.s.rs (n.s.rest.take m)]).length<=i+1;rw[List.length_append,List.length_singleton]; omega
 ·show((n.s.rs++[kC n.s.rs (n.s.rest.take m)]).length:Int)<=bI (n.s.rs++[kC n.s.rs (n.s.rest.take m)]);rw[hb,List.length_append,List.length_singleton]; omega
 ·show bI (n.s.rs++[kC n.s.rs (n.s.rest.take m)])<=n.ac;rw[hb]; omega
 ·intro q hq;have hq:q∈n.s.rs++[kC n.s.rs (n.s.rest.take m)]:=hq;rcases List.mem_append.1 hq with hq | hq
  ·exact h.rok q hq
  ·rw[List.mem_singleton.1 hq];exact LZ hct hne (by rw[htl]; omega) hr0 (by rw[htl]; omega)
 ·show n.s.rest.drop m=n.s.log.drop (bI (n.s.rs++[kC n.s.rs (n.s.rest.take m)])).toNat;rw[hb,hto,h.rest,List.drop_drop]
 ·intro k;show qc (n.s.rs++[kC n.s.rs (n.s.rest.take m)]) k=lq (opsOf (n.s.log.take (bI (n.s.rs++[kC n.s.rs (n.s.rest.take m)])).toNat)) k;rw[hb,hto,Jr,h.rd k,List.take_add,zO,z_,<-h.rest];congr 1;show((kZ (gB (n.s.rest.take m))).find? fun x=>x.k=k)=_;rw[Qx (x8 _)];exact vY _ k
 ·show(n.s.dk.d2++x).length<=82011*(n.s.rs++[kC n.s.rs (n.s.rest.take m)]).length;have:=h.d2;rw[List.length_append,List.length_append,List.length_singleton]; omega
theorem NR.read{n:NdM}{T:List OpM}{i K D:Nat}(h:NR n T i K D)(k:ByteArray):xX (nU (gB n.s.rest) n.s.rs k)=(kF T k).v/\isO (nU (gB n.s.rest) n.s.rs k)=(kF T k).p:=by
 have e1:nU (gB n.s.rest) n.s.rs k=lq (opsOf n.s.log) k:=by
  unfold nU;rw[h.rd k,show((gB n.s.rest).find? fun x=>x.k=k)=lq (opsOf n.s.rest) k from vY _ k,h.rest,<-z_,<-zO,List.take_append_drop]
 have e2:kF T k=(lq (opsOf n.s.log) k).getD ⟨false,k,⟨#[]⟩⟩:=by
  unfold kF;rw[h.T,show((gB n.s.log).find? fun x=>x.k=k)=lq (opsOf n.s.log) k from vY _ k]
 rw[e1,e2];cases lq (opsOf n.s.log) k<;>exact⟨rfl,rfl⟩
def LQ:HeadX:=⟨0,26,[0,1,4,5],[.val, .val, .val, .val],[33,33,0,0],au⟩
def F9:Code:=(dR P 45 0).getD .skip
theorem NW:dR P 45 0=some F9:=by kernel_rfl
theorem VT:Occ P 45 (.block 0 (.loop F9)):=fA NW
def k1V(l:List OpM)(i:Int):List Value:=[aJ l,aJ l, .bool false, .int .i64 i]
theorem Vh(l:List OpM)(i:Int):bV P E ctF 50 45 F9 LQ (k1V l i) [] =
 (let z:=l.length;let y:=Bool.and (Nat.beq 3 3) (inI i z);let x:=atN i 3;let w:=Enc.all EOp l;let v:=Bool.and (Nat.ble (Nat.add x 3) w.length) (iq [.bool, .string, .string] w x);let u:=asB (aU w x);let t:=Nat.add x 1;let s:=asS (aU w t);let r:=asS (aU w (Nat.add t 1));let q:=fa_ z 0 w;
 let p:=Value.bool false;let o:=af [];
 (ak (ltI i (ag z)) (ae y (ae v (ae y (ae v (ak (fM (Bool.and (eqB u u) (Bool.and (eqS s s) (Bool.and (eqS r r) true)))) (some (.tuple ⟨[io_ (-1),q,q,p,io_ i]⟩,o)) (some (.tuple ⟨[io_ 0,q,q,p,io_ (dO .i64 i 1)]⟩,o))))))) (some (.tuple ⟨[io_ 1,q,q,p,io_ i]⟩,o)))):=by kernel_rfl
theorem aak(C:List Value->List Blk->Bool)(l:List OpM):dD P E (eY P 45 0 LQ (gX C (.leaf (.normal,k1V l (ag l.length),[]))) ctF) 50 au [] [] 0 45 [aJ l,aJ l] [] =
 (let z:=ag l.length;let y:=Value.bool false;let x:=fa_ l.length 0 (Enc.all EOp l);
 (ak (neI z z) (some (y,af [])) (ae (C [x,x,y,io_ 0] []) (some (.bool true,af []))))):=by kernel_rfl
theorem acF(C:List Value->List Blk->Bool)(c:CmM):dD P E (aT P au 0 45 (cu C (.leaf (.bool true,[]))) ctF) 50 au [] [] 0 19 [cmV c,cmV c] [] =
 (let z:=fa_ c.ops.length 0 (Enc.all EOp c.ops);let y:=some (Value.bool false,af []);
 (ak (eqI c.e c.e) (ak (eqI c.n c.n) (ae (C [z,z] []) (some (.bool true,af []))) y) y)):=by kernel_rfl
theorem NY(x n:Int):dD P E ctF 50 au [] [] 0 6 [.int .i64 x, .int .i64 n] [] =
 (let z:=AC x n;
 (ae (Bool.and (Decidable.decide (Eq IntKind.i64 IntKind.i64)) (vH n)) (ak (ltI z 0) (some (io_ (dO .i64 z n),af [])) (some (io_ z,af []))))):=by kernel_rfl
end Go.VS.Tryz
end
