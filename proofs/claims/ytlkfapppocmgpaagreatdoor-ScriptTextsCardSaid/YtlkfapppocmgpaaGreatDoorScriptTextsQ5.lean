/- Texts of the proof, merged: Op9, Sb1, Sb2, Sb3, Sb4, Rf3, Rf1, Rf4, VsRec, Rf2, Rf5, Rf6, VsArgs, Rf7, Rf8, Rf9, Rf10, Rf11, Rf12, Sb5, Sb6, Rf13, Rf14, Rf15, Rf16, Sn1, Sn2, Sb7, Sb8, Rf17. No conditions. -/
import Derived.Test.YtlkfapppocmgpaaGreatDoorScriptTextsQ2
import Derived.Test.YtlkfapppocmgpaaGreatDoorScriptTextsQ4
import Derived.Lib.AtoiTie
import Derived.Lib.ItoaNum
import Derived.Lib.ItoaMem
import Derived.WalkKit
import Derived.ProofKit
import Derived.OpenShut
import Derived.Carry
set_option linter.unusedSimpArgs false
set_option linter.unusedVariables false
noncomputable section
namespace Go.VS.Tryz
open Go.VS
set_option maxRecDepth 1000000
theorem YJ:∀ n:Fin 256,iJ (n.val:Int)=true->hxU (lS (n.val:Int))=UInt8.ofNat n.val:=by decide +kernel
theorem ae0:∀ a b:Fin 16,kW .u8 (orI .u8 (FU .u8 (a.val:Int) 4) (b.val:Int)) 4=(a.val:Int):=by decide +kernel
theorem aer:∀ a b:Fin 16,kQ .u8 (orI .u8 (FU .u8 (a.val:Int) 4) (b.val:Int)) 15=(b.val:Int):=by decide +kernel
theorem Md:∀ n:Fin 256,iJ ((hxU (kW .u8 (n.val:Int) 4)).toNat:Int)=true/\iJ ((hxU (kQ .u8 (n.val:Int) 15)).toNat:Int)=true/\hv (hxU (kW .u8 (n.val:Int) 4)) (hxU (kQ .u8 (n.val:Int) 15))=(n.val:Int):=by decide +kernel
theorem Zu{h l:UInt8}(hg:pM h l=true):enc (jh h l)=[92,h,l]:=by
 simp only[pM,Bool.and_eq_true,Bool.not_eq_true']at hg;obtain⟨⟨h1,h2⟩,h3⟩:=hg;unfold enc;rw[E5,h3];simp only;have a:=G6 ⟨h.toNat,h.toNat_lt⟩ h1;have b:=G6 ⟨l.toNat,l.toNat_lt⟩ h2;have c:=YJ ⟨h.toNat,h.toNat_lt⟩ h1;have d:=YJ ⟨l.toNat,l.toNat_lt⟩ h2;simp only at a b c d;unfold hv;generalize lS (h.toNat:Int)=x at a c;generalize lS (l.toNat:Int)=y at b d;obtain⟨x,rfl⟩:=Int.eq_ofNat_of_zero_le a.1;obtain⟨y,rfl⟩:=Int.eq_ofNat_of_zero_le b.1;have e1:=ae0 ⟨x,by omega⟩ ⟨y,by omega⟩;have e2:=aer ⟨x,by omega⟩ ⟨y,by omega⟩;simp only at e1 e2;rw[e1,e2,c,d];simp
theorem ac7:gy ((92:UInt8).toNat:Int)=false:=by decide
theorem agb:eqI ((92:UInt8).toNat:Int) 92=true:=by decide
theorem ad2{x:UInt8}(h:eqI x.toNat 92=true):x=92:=by
 unfold eqI at h;have:(x.toNat:Int)=92:=by simpa using h
 have h2:x.toNat=(92:UInt8).toNat:=by
  have:x.toNat=92:=by omega
  rw[this]; rfl
 exact UInt8.toNat_inj.1 h2
theorem Yr{x:UInt8}(h:gy x.toNat=true):neI x.toNat 92=true:=by
 unfold gy at h;simp only[Bool.and_eq_true]at h;exact h.2
theorem adL{x:UInt8}(h:eqI x.toNat 92=true):neI x.toNat 92=false:=by
 unfold eqI at h;unfold neI;simp only[bne,h,Bool.not_true]
theorem ED:∀ (k:Nat) (w:List UInt8),w.length<=k->(eG w).2.1=false->fD (eG w).1=w/\(dH w).1=(eG w).1/\(dH w).2.1=false
 |_,[],_,_=>by
  have e1:eG []=([],false,0):=by rw[eG.eq_def]
  have e2:dH []=([],false,0):=by rw[dH.eq_def]
  rw[e1,e2]; exact⟨rfl,rfl,rfl⟩
 |0,x::r,hk,_=>by simp at hk
 |k+1,x::r,hk,h=>by
  have hk:r.length<=k:=by simpa using hk
  cases hp:gy x.toNat with
  |true=>
   rw[uF hp]at h ⊢;rw[yK (Yr hp)];obtain⟨h1,h2,h3⟩:=ED k r hk h;refine⟨?_,by simp only[h2],h3⟩;rw[mV,h1];unfold enc;rw[hp]; rfl
  |false=>
   by_cases ho:eqI x.toNat 92=false\/r.length<2
   ·rw[y7 hp ho]at h; cases h
   ·have he:eqI x.toNat 92=true:=by
     cases h:eqI x.toNat 92 with
     |true=>rfl
     |false=>exact absurd (Or.inl h) ho
    have h2:¬r.length<2:=fun h=>ho (Or.inr h);obtain⟨a,r,rfl⟩:∃ a r',r=a::r':=by cases r with
     |nil=>simp at h2
     |cons a r'=>exact⟨_,_,rfl⟩
    obtain⟨b,r,rfl⟩:∃ a r',r=a::r':=by cases r with
     |nil=>simp at h2
     |cons a r'=>exact⟨_,_,rfl⟩
    rw[wS hp he]at h ⊢;rw[AL (adL he)];cases hg:pM a b with
    |false=>rw[hg]at h; cases h
    |true=>
     rw[hg]at h;simp only at h ⊢;have hd:(iJ a.toNat&&iJ b.toNat)=true:=by
      simp only[pM,Bool.and_eq_true]at hg;simp only[hg.1,Bool.and_self]
     rw[hd];simp only;obtain⟨h1,h2,h3⟩:=ED k r (by simp at hk; omega) h;refine⟨?_,by rw[h2],h3⟩;rw[mV,h1,Zu hg,ad2 he]
     rfl
theorem Uh(b:UInt8):jh (hxU (kW .u8 b.toNat 4)) (hxU (kQ .u8 b.toNat 15))=b:=by
 have:=(Md ⟨b.toNat,b.toNat_lt⟩).2.2;simp only at this;unfold jh;rw[this];simp
theorem wR:∀ (l:List UInt8),eG (fD l)=(l,false,0)
 |[]=>by show eG []=_; rw[eG.eq_def]
 |b::l=>by
  rw[mV];unfold enc;cases hp:gy b.toNat with
  |true=>
   show eG (b::fD l)=_;rw[uF hp,wR l]
  |false=>
   show eG (92::hxU (kW .u8 b.toNat 4)::hxU (kQ .u8 b.toNat 15)::fD l)=_;rw[wS ac7 agb];have hg:pM (hxU (kW .u8 b.toNat 4)) (hxU (kQ .u8 b.toNat 15))=true:=by
    obtain⟨h1,h2,h3⟩:=Md ⟨b.toNat,b.toNat_lt⟩;simp only at h1 h2 h3;unfold pM;rw[h1,h2,h3,hp]; rfl
   rw[hg,wR l,Uh]
def Jo(w:List UInt8):List UInt8×Int:=match w == [34,34]with
 |true=>([],0)
 |false=>match(dH w).2.1,kR (dH w).1 == w with
  |true,_=>([],5)
  |false,false=>([],5)
  |false,true=>((dH w).1,0)
theorem Si(w:List UInt8):Jo w=kw w:=by
 unfold Jo kw;cases hw:w == [34,34]with
 |true=>rfl
 |false=>
  simp only;cases hb:(eG w).2.1 with
  |false=>
   obtain⟨h1,h2,h3⟩:=ED w.length w (Nat.le_refl _) hb;rw[h2,h3];cases ho:(eG w).1 with
   |nil=>
    rw[ho]at h1;have:w=[]:=h1.symm;subst this
    rfl
   |cons b l=>
    rw[ho]at h1;have:(kR (b::l) == w)=true:=by
     show(fD (b::l) == w)=true;rw[h1]; simp
    rw[this]
  |true=>
   cases hr:(dH w).2.1 with
   |true=>rfl
   |false=>
    cases hq:kR (dH w).1 == w with
    |false=>rfl
    |true=>
     exfalso;have hq:kR (dH w).1=w:=by simpa using hq
     cases ho:(dH w).1 with
     |nil=>
      rw[ho]at hq;rw[<-hq]at hw;cases hw
     |cons b l=>
      rw[ho]at hq;have hq:fD (b::l)=w:=hq;rw[<-hq,wR]at hb;cases hb
def bl(s:ByteArray):List UInt8:=s.data.toList
theorem lZ{a b:ByteArray}(h:bl a=bl b):a=b:=ByteArray.ext (Array.toList_inj.1 h)
theorem jf(a b:ByteArray):bl (aj a b)=bl a++bl b:=by
 have:=Jv (bl a) (bl b);have e:∀ s:ByteArray,(⟨⟨bl s⟩⟩:ByteArray)=s:=fun s=>rfl;rw[e,e]at this;rw[this]; rfl
def tailW(ws:List (List UInt8)):List UInt8:=ws.flatMap fun w=>32::w
theorem BN(a b:List (List UInt8)):tailW (a++b)=tailW a++tailW b:=List.flatMap_append
def AA(w:List UInt8):Prop:=w≠[]/\∀ x∈w,x≠32
theorem xh:∀ (w cur l:List UInt8),(∀ x∈w,x≠32)->Pl.wordsB cur (w++l)=Pl.wordsB (cur++w) l
 |[],cur,l,_=>by simp
 |b::w,cur,l,h=>by
  have hb:(b == 32)=false:=by simpa using h b (by simp)
  show(match b == 32 with | true=>_ | false=>_)=_;rw[hb];simp only;refine(xh w (cur++[b]) l (fun x hx=>h x (by simp[hx]))).trans ?_;simp
theorem DZ:∀ (ws:List (List UInt8)) (cur:List UInt8),cur≠[]->(∀ w∈ws,AA w)->Pl.wordsB cur (tailW ws)=cur::ws
 |[],cur,hc,_=>by
  cases cur with
  |nil=>exact absurd rfl hc
  |cons c t=>rfl
 |w::ws,cur,hc,h=>by
  have hw:=h w (by simp);have e:tailW (w::ws)=32::(w++tailW ws):=by unfold tailW; simp
  rw[e];cases cur with
  |nil=>exact absurd rfl hc
  |cons c t=>
   show(c::t)::Pl.wordsB [] (w++tailW ws)=_;rw[xh w [] _ hw.2,List.nil_append,DZ ws w hw.1 (fun x hx=>h x (by simp[hx]))]
theorem Bc:∀ {a b:List ByteArray},a.map bl=b.map bl->a=b
 |[],[],_=>rfl
 |[],_::_,h=>by cases h
 |_::_,[],h=>by cases h
 |x::a,y::b,h=>by
  simp only[List.map_cons,List.cons.injEq]at h;rw[lZ h.1,Bc h.2]
theorem ZE{s w0:ByteArray}{ws:List ByteArray}(h:bl s=bl w0++tailW (ws.map bl))(h0:AA (bl w0))(hw:∀ w∈ws,AA (bl w)):ed s=w0::ws:=by
 refine Bc ?_;show(ed s).map (fun w=>w.data.toList)=_;rw[o6];show Pl.wordsB [] (bl s)=_;rw[h,xh _ _ _ h0.2,List.nil_append,DZ _ _ h0.1 (fun w hw'=>by
  obtain⟨x,hx,rfl⟩:=List.mem_map.1 hw';exact hw x hx)]
 rfl
theorem Em:∀ (l:List UInt8) (acc:Nat) (b:UInt8),Lib.decFrom acc (l++[b])=(Lib.decFrom acc l).bind fun n=>(Lib.digitVal b).map fun d=>n*10+d
 |[],acc,b=>by
  show(match Lib.digitVal b with | some d=>Lib.decFrom (acc*10+d) [] | none=>none)=_;cases Lib.digitVal b<;>rfl
 |c::l,acc,b=>by
  show(match Lib.digitVal c with | some d=>Lib.decFrom (acc*10+d) (l++[b]) | none=>none)=(match Lib.digitVal c with | some d=>Lib.decFrom (acc*10+d) l | none=>none).bind _;cases Lib.digitVal c with
  |none=>rfl
  |some d=>exact Em l _ b
theorem Rj{d:Nat}(h:d<10):Lib.digitVal (UInt8.ofNat (48+d))=some d:=by
 have e:(UInt8.ofNat (48+d)).toNat=48+d:=by simp; omega
 unfold Lib.digitVal;rw[e,if_pos (by omega)];congr 1; omega
theorem vC(u:Nat):Lib.decDigits u≠[]:=by
 intro h;have h2:=Lib.decDigits_length u;rw[h]at h2;have:=Lib.nDigits_pos u;simp only[List.length_nil]at h2;omega
theorem MZ:∀ u:Nat,Lib.decFrom 0 (Lib.decDigits u)=some u:=by
 intro u
 induction u using Nat.strongRecOn with
 |ind u ih=>
  rw[Lib.decDigits];split
  ·rename_i h;show(match Lib.digitVal (UInt8.ofNat (48+u))with | some d=>Lib.decFrom (0*10+d) [] | none=>none)=_;rw[Rj h];show some (0*10+u)=_;simp
  ·rename_i h;rw[Em,ih (u / 10) (by omega),Rj (Nat.mod_lt _ (by decide))];show some (u / 10*10+u % 10)=_;congr 1; omega
theorem zU:∀ u:Nat,∀ x∈Lib.decDigits u,48<=x.toNat/\x.toNat<=57:=by
 intro u
 induction u using Nat.strongRecOn with
 |ind u ih=>
  have one:∀ d,d<10->48<=(UInt8.ofNat (48+d)).toNat/\(UInt8.ofNat (48+d)).toNat<=57:=fun d hd=>by
   have e:(UInt8.ofNat (48+d)).toNat=48+d:=by simp; omega
   omega
  rw[Lib.decDigits];split
  ·rename_i h;intro x hx;obtain rfl:=List.mem_singleton.1 hx;exact one u h
  ·rename_i h;intro x hx;rcases List.mem_append.1 hx with hx | hx
   ·exact ih (u / 10) (by omega) x hx
   ·obtain rfl:=List.mem_singleton.1 hx;exact one _ (Nat.mod_lt _ (by decide))
theorem F6:∀ (k u:Nat),u<10^(k+1)->Lib.nDigits u<=k+1
 |0,u,h=>by rw[Lib.nDigits_small (by simpa using h)]; omega
 |k+1,u,h=>by
  by_cases h1:u<10
  ·rw[Lib.nDigits_small h1]; omega
  ·rw[Lib.nDigits_big h1];have:=F6 k (u / 10) (by rw[Nat.pow_succ]at h; omega);omega
theorem rD(u:Nat):bl (bF (u:Int))=Lib.decDigits u:=by
 show Lib.itoa (u:Int)=_;exact Lib.itoa_nonneg u
theorem aeS{s:ByteArray}{u:Nat}(hl:s.size<=18)(h:bl s=Lib.decDigits u):Lib.atoiAll s.data.toList = .ok (u:Int):=by
 have hl':(bl s).length<=18:=by
  have:=nR s;show s.data.toList.length<=18;omega
 refine(Lib.atoiAll_short _ hl').trans ?_;rw[h];cases hd:Lib.decDigits u with
 |nil=>exact absurd hd (vC u)
 |cons c r=>
  have hc:=zU u c (by rw[hd]; simp);have e45:(c == 45)=false:=by
   refine beq_false_of_ne fun e=>?_;rw[e]at hc;exact absurd hc.1 (by decide)
  have e43:(c == 43)=false:=by
   refine beq_false_of_ne fun e=>?_;rw[e]at hc;exact absurd hc.1 (by decide)
  have hb:=MZ u;rw[hd]at hb;unfold Lib.atoi;simp only[e45,e43,Bool.false_eq_true,if_false];unfold Lib.decNat;simp only[List.isEmpty_cons,Bool.false_eq_true,if_false,hb]
  rfl
theorem CG{u:Nat}(h:u<=999999999):(bF (u:Int)).size<=9:=by
 have e:(bF (u:Int)).size=(bl (bF (u:Int))).length:=(nR _).symm;rw[e,rD,Lib.decDigits_length];exact F6 8 u (by omega)
theorem iZ{n m:Int}(h0:0<=n)(h1:n<=m)(hm:m<=999999999):bG (bF n) m=true/\dE (bF n)=n:=by
 obtain⟨u,rfl⟩:∃ u:Nat,n=(u:Int):=⟨n.toNat,by omega⟩
 have hs:=CG (u:=u) (by omega);have ha:=aeS (Nat.le_trans hs (by decide)) (rD u);have hv:dE (bF (u:Int))=u:=by unfold dE; rw[ha]
 refine⟨?_,hv⟩;unfold bG;rw[hv];have a1:Fb (bF (u:Int))=true:=by unfold Fb; rw[ha]
 have a2:gtI (af (bF (u:Int)).size) 9=false:=by unfold gtI af; exact decide_eq_false (by omega)
 have a3:ltI (u:Int) 0=false:=by unfold ltI; exact decide_eq_false (by omega)
 have a4:gtI (u:Int) m=false:=by unfold gtI; exact decide_eq_false (by omega)
 have a5:neS (bF (u:Int)) (bF (u:Int))=false:=by rw[nJ]; simp
 rw[a1,a2,a3,a4,a5]; rfl
theorem ad7{n:Int}(h0:0<=n):AA (bl (bF n))/\∀ x∈bl (bF n),x≠10:=by
 obtain⟨u,rfl⟩:∃ u:Nat,n=(u:Int):=⟨n.toNat,by omega⟩
 rw[rD];have hd:=zU u;refine⟨⟨vC u,fun x hx e=>?_⟩,fun x hx e=>?_⟩
 ·have:=hd x hx;rw[e]at this;exact absurd this.1 (by decide)
 ·have:=hd x hx;rw[e]at this;exact absurd this.1 (by decide)
theorem qg{s:ByteArray}{m:Int}(h:bG s m=true):0<=dE s/\dE s<=m/\bF (dE s)=s/\s.size<=9:=by
 unfold bG at h;simp only[Bool.and_eq_true,Bool.not_eq_true']at h;obtain⟨⟨⟨⟨h1,h2⟩,h3⟩,h4⟩,h5⟩:=h;unfold gtI af at h2;unfold ltI at h3;unfold gtI at h4;have h2:=of_decide_eq_false h2;have h3:=of_decide_eq_false h3;have h4:=of_decide_eq_false h4;refine⟨by omega,by omega,?_,by omega⟩;rw[nJ]at h5;simp only[Bool.not_eq_false',beq_iff_eq]at h5;exact lZ h5
theorem aav:∀ b:UInt8,∀ x∈enc b,x≠32/\x≠10:=by
 have:∀ n:Fin 256,∀ x∈enc (UInt8.ofNat n.val),x≠32/\x≠10:=by decide +kernel
 intro b;have:=this ⟨b.toNat,b.toNat_lt⟩;simpa using this
theorem YQ(s:ByteArray):AA (bl (wdS s))/\∀ x∈bl (wdS s),x≠10:=by
 show AA (kR s.data.toList)/\∀ x∈kR s.data.toList,x≠10;cases hs:s.data.toList with
 |nil=>exact⟨⟨by simp[kR],by decide⟩,by decide⟩
 |cons y l=>
  show AA (fD (y::l))/\∀ x∈fD (y::l),x≠10;have hm:∀ x∈fD (y::l),x≠32/\x≠10:=by
   intro x hx;unfold fD at hx;rw[List.mem_flatMap]at hx;obtain⟨b,_,hb⟩:=hx;exact aav b x hb
  refine⟨⟨?_,fun x hx=>(hm x hx).1⟩,fun x hx=>(hm x hx).2⟩;rw[mV];unfold enc;split<;>simp
theorem V9:∀ n:Fin 256,(enc (UInt8.ofNat n.val)).head?≠some 34:=by decide +kernel
theorem UL(l:List UInt8):kw (kR l)=(l,0):=by
 cases l with
 |nil=>rfl
 |cons x l=>
  show kw (fD (x::l))=_;have h1:(fD (x::l) == [34,34])=false:=by
   refine beq_false_of_ne fun e=>?_;have:=V9 ⟨x.toNat,x.toNat_lt⟩;rw[mV]at e;have hx:UInt8.ofNat x.toNat=x:=by simp
   rw[hx]at this;cases he:enc x with
   |nil=>
    unfold enc at he;split at he<;>cases he
   |cons a r=>
    rw[he]at this e;simp only[List.cons_append,List.cons.injEq]at e;exact this (by rw[e.1]; rfl)
  unfold kw;rw[h1,wR]
theorem rZ(s:ByteArray):byS (wdS s)=s/\byE (wdS s)=0:=by
 have h:=UL s.data.toList;refine⟨lZ ?_,?_⟩
 ·show(kw (kR s.data.toList)).1=_;rw[h]; rfl
 ·show(kw (kR s.data.toList)).2=_;rw[h]
/-- An act that may be. -/
inductive Wf:ActM->Prop
 |com {nd:Int} {ops:List OpM}:0<=nd->nd<=1->eqI (dO ops) 0=true->Wf ⟨1,nd,0,0,⟨#[]⟩,ops⟩
 |read {nd:Int} {key:ByteArray}:0<=nd->nd<=1->bQ false key ⟨#[]⟩=true->Wf ⟨2,nd,0,0,key,[]⟩
 |tick {nd:Int}:0<=nd->nd<=1->Wf ⟨3,nd,0,0,⟨#[]⟩,[]⟩
 |promote {nd:Int}:0<=nd->nd<=1->Wf ⟨4,nd,0,0,⟨#[]⟩,[]⟩
 |flush {nd:Int}:0<=nd->nd<=1->Wf ⟨5,nd,0,0,⟨#[]⟩,[]⟩
 |deliver {n:Int}:0<=n->n<=999999999->Wf ⟨6,0,n,0,⟨#[]⟩,[]⟩
 |twice {n:Int}:0<=n->n<=999999999->Wf ⟨7,0,n,0,⟨#[]⟩,[]⟩
 |drop {n:Int}:0<=n->n<=999999999->Wf ⟨8,0,n,0,⟨#[]⟩,[]⟩
 |fuse {nd n:Int}:0<=nd->nd<=1->0<=n->n<=999999999->Wf ⟨9,nd,n,0,⟨#[]⟩,[]⟩
 |pull {nd:Int}:0<=nd->nd<=1->Wf ⟨10,nd,0,0,⟨#[]⟩,[]⟩
 |start {nd n t:Int}:0<=nd->nd<=1->0<=n->n<=999999999->0<=t->t<=999999999->Wf ⟨11,nd,n,t,⟨#[]⟩,[]⟩
 |round:Wf ⟨12,0,0,0,⟨#[]⟩,[]⟩
theorem dG(s:ByteArray):eqS s s=true:=by rw[p_]; simp
theorem nU{n:Int}(h0:0<=n)(h1:n<=999999999):inR n=true:=by
 unfold inR leI;rw[Bool.and_eq_true,decide_eq_true_eq,decide_eq_true_eq]; omega
theorem qA{n:Int}(h0:0<=n)(h1:n<=1):inR n=true:=nU h0 (by omega)
theorem tx2{k nd n t:Int}{key:ByteArray}{ops:List OpM}(a:inR nd=true)(b:inR n=true)(c:inR t=true)(d:eqI k 2=true->key.size<=1000000)(e:ops.length<4194304)(f:eqI k 1=true->ops.length<=8):txOk2 ⟨k,nd,n,t,key,ops⟩:=⟨⟨a,b,c,d,e⟩,f⟩
theorem tx0{k nd n t:Int}(a:inR nd=true)(b:inR n=true)(c:inR t=true):txOk2 ⟨k,nd,n,t,⟨#[]⟩,[]⟩:=tx2 a b c (fun _=>Nat.zero_le _) (by decide) (fun _=>Nat.zero_le _)
theorem Wf.txOk2{a:ActM}(h:Wf a):txOk2 a:=by
 have z0:inR 0=true:=rfl;cases h with
 |com h1 h2 h3=>exact tx2 (qA h1 h2) z0 z0 (fun _=>Nat.zero_le _) (Nat.lt_of_le_of_lt (rU h3) (by decide)) (fun _=>rU h3)
 |read h1 h2 h3=>exact tx2 (qA h1 h2) z0 z0 (fun _=>Nat.le_trans (l9 h3).2.1 (by decide)) (by decide) (fun _=>Nat.zero_le _)
 |tick h1 h2=>exact tx0 (qA h1 h2) z0 z0
 |promote h1 h2=>exact tx0 (qA h1 h2) z0 z0
 |flush h1 h2=>exact tx0 (qA h1 h2) z0 z0
 |pull h1 h2=>exact tx0 (qA h1 h2) z0 z0
 |deliver h1 h2=>exact tx0 z0 (nU h1 h2) z0
 |twice h1 h2=>exact tx0 z0 (nU h1 h2) z0
 |drop h1 h2=>exact tx0 z0 (nU h1 h2) z0
 |fuse h1 h2 h3 h4=>exact tx0 (qA h1 h2) (nU h3 h4) z0
 |start h1 h2 h3 h4 h5 h6=>exact tx0 (qA h1 h2) (nU h3 h4) (nU h5 h6)
 |round=>exact tx0 z0 z0 z0
theorem Wf.size{a:ActM}(h:Wf a):(aN a).size<=2000:=xw h.txOk2 fun h2=>by
 cases h with
 |read h1 h2 h3=>exact(l9 h3).2.1
 |_=>cases h2
theorem QH:∀ l:List UInt8,(∀ x∈l,x≠10)->Lib.indexByte l 10=-1
 |[],_=>rfl
 |b::l,h=>by
  have hb:(b == 10)=false:=beq_false_of_ne (h b (by simp));have ih:=QH l fun x hx=>h x (by simp[hx]);unfold Lib.indexByte;simp[hb,ih]
theorem aaS{s:ByteArray}(h:∀ x∈bl s,x≠10):inB s 10=false:=by
 unfold inB;have:=QH (bl s) h;have e:Lib.indexByte s.data.toList 10=-1:=this;rw[e]; rfl
def uP(w:ByteArray):Prop:=AA (bl w)/\∀ x∈bl w,x≠10
theorem Yc:∀ {ws:List ByteArray},(∀ w∈ws,uP w)->∀ x∈tailW (ws.map bl),x≠10
 |[],_,x,hx=>by simp[tailW]at hx
 |w::ws,h,x,hx=>by
  have e:tailW ((w::ws).map bl)=32::(bl w++tailW (ws.map bl)):=by unfold tailW; simp
  rw[e]at hx;rcases List.mem_cons.1 hx with rfl | hx
  ·decide
  ·rcases List.mem_append.1 hx with hx | hx
   ·exact(h w (by simp)).2 x hx
   ·exact Yc (fun y hy=>h y (by simp[hy])) x hx
theorem lg{a:ActM}{w0:ByteArray}{ws:List ByteArray}{k:Nat}{o:Value}(ha:Wf a)(ht:bl (aN a)=bl w0++tailW (ws.map bl))(h0:uP w0)(hw:∀ w∈ws,uP w)(hr:wB w0=false)(hf:dX k w0 ws=some (a,o)) :
  aG (aN a)=(a,true,0)/\∀ x∈bl (aN a),x≠10:=by
 have h10:∀ x∈bl (aN a),x≠10:=by
  rw[ht];intro x hx;rcases List.mem_append.1 hx with hx | hx
  ·exact h0.2 x hx
  ·exact Yc hw x hx
 refine⟨?_,h10⟩;unfold aG;have g1:gtI (af (aN a).size) 65536=false:=by unfold gtI af; exact decide_eq_false (by have:=ha.size; omega)
 rw[g1,aaS h10,ZE ht h0.1 (fun w h=>(hw w h).1)];simp only[hr,FW hf]
def opW(o:OpM):List ByteArray:=bif o.p then [kX,wdS o.k,wdS o.v]else [mP,wdS o.k]
theorem ae3{o:OpM}(h:jo o=true):bl (opS o)=tailW ((opW o).map bl):=by
 unfold opS;rw[h];simp only;rw[jf];show [32]++yF o.p o.k o.v=_;unfold yF opW;cases o.p with
 |true=>
  show [32]++([112,117,116]++32::(oD o.k++32::oD o.v))=_;show _=tailW [[112,117,116],oD o.k,oD o.v];unfold tailW; simp
 |false=>
  show [32]++([100,101,108]++32::oD o.k)=tailW [[100,101,108],oD o.k];unfold tailW; simp
theorem I9:∀ (l:List OpM) (s:ByteArray),(∀ o∈l,jo o=true)->bl (nC s l)=bl s++tailW ((l.flatMap opW).map bl)
 |[],s,_=>by show bl s=bl s++tailW []; unfold tailW; simp
 |o::l,s,h=>by
  show bl (nC (aj s (opS o)) l)=_;rw[I9 l _ (fun x hx=>h x (by simp[hx])),jf,ae3 (h o (by simp)),List.flatMap_cons,List.map_append,BN,List.append_assoc]
theorem OY:∀ (l:List OpM) (i:Nat),(badM i l).isNone=true->∀ o∈l,jo o=true
 |[],_,_,_,h=>by cases h
 |b::l,i,h,o,ho=>by
  simp only[badM]at h;cases hb:jo b with
  |false=>rw[hb]at h; cases h
  |true=>
   rw[hb]at h;rcases List.mem_cons.1 ho with rfl | ho
   ·exact hb
   ·exact OY l (i+1) h o ho
theorem uh{l:List OpM}(h:eqI (dO l) 0=true):l≠[]/\∀ o∈l,jo o=true:=by
 unfold dO at h;split at h<;>first | (cases h; done) | skip
 rename_i h1 h2 h3;refine⟨fun e=>?_,OY l 0 h3⟩;rw[e]at h1;exact absurd h1 (by decide)
theorem wQ(n:Int):bl (nS n)=tailW [bl (bF n)]:=by
 unfold nS;rw[jf];show [32]++bl (bF n)=_;unfold tailW; simp
theorem oM{n:Int}(h:0<=n):uP (bF n):=ad7 h
theorem DL(s:ByteArray):uP (wdS s):=YQ s
theorem aa1:uP kX:=⟨⟨by decide,by decide⟩,by decide⟩
theorem Zq:uP mP:=⟨⟨by decide,by decide⟩,by decide⟩
theorem Y6(o:OpM):∀ w∈opW o,uP w:=by
 intro w hw;unfold opW at hw;cases hp:o.p with
 |true=>
  rw[hp]at hw;simp only[cond_true,List.mem_cons,List.not_mem_nil,or_false]at hw;rcases hw with rfl | rfl | rfl
  ·exact aa1
  ·exact DL _
  ·exact DL _
 |false=>
  rw[hp]at hw;simp only[cond_false,List.mem_cons,List.not_mem_nil,or_false]at hw;rcases hw with rfl | rfl
  ·exact Zq
  ·exact DL _
theorem EZ{k v:ByteArray}{p:Bool}(h:bQ p k v=true):eY (wdS k)=true:=by
 unfold eY;rw[(rZ k).1,(rZ k).2];have:bQ false k ⟨#[]⟩=true:=by
  obtain⟨h1,h2,h3,h4⟩:=l9 h;unfold bQ;rw[decide_eq_true h1,decide_eq_true h2]; rfl
 rw[this]; rfl
theorem Ns:∀ (l out:List OpM),(∀ o∈l,jo o=true)->opE (l.flatMap opW) out=(true,[],out++l)
 |[],out,_=>by simp[opE]
 |⟨p,k,v⟩::l,out,h=>by
  have ho:bQ p k v=true:=h ⟨p,k,v⟩ (by simp);have ih:=fun out=>Ns l out (fun x hx=>h x (by simp[hx]));rw[List.flatMap_cons];cases p with
  |true=>
   show opE (kX::wdS k::wdS v::l.flatMap opW) out=_;rw[opE.eq_def];have e1:eqS kX kX=true:=dG _;have e2:eqI (byE (wdS v)) 0=true:=by rw[(rZ v).2]; rfl
   simp only[e1,EZ ho,e2,ih,(rZ k).1,(rZ v).1];simp
  |false=>
   show opE (mP::wdS k::l.flatMap opW) out=_;rw[opE.eq_def];have e1:eqS mP kX=false:=by kernel_rfl
   have e2:eqS mP mP=true:=dG _;have ev:v=⟨#[]⟩:=by
    obtain⟨h1,h2,h3,h4⟩:=l9 ho;rcases h4 with h4 | h4
    ·cases h4
    ·exact lZ h4
   simp only[e1,e2,EZ ho,ih,(rZ k).1];rw[ev];simp
theorem ZH{l:List OpM}(h:eqI (dO l) 0=true):pV (l.flatMap opW)=true/\opsV (l.flatMap opW)=l:=by
 have q:=Ns l [] (uh h).2;unfold pV opsV;rw[q];exact⟨h,rfl⟩
theorem afU(a:ByteArray)(l:List ByteArray):tailW ((a::l).map bl)=tailW [bl a]++tailW (l.map bl):=by unfold tailW; simp
theorem Wf.back{a:ActM}(h:Wf a):aG (aN a)=(a,true,0)/\∀ x∈bl (aN a),x≠10:=by
 have h':=h;have one:∀ (W:ByteArray) (n m:Int),0<=n->n<=m->m<=999999999->bl (aj W (nS n))=bl W++tailW ([bF n].map bl)/\(∀ w∈[bF n],uP w):=fun W n m h0 h1 h2=>
  ⟨by rw[jf,wQ]; rfl,fun w hw=>by obtain rfl:=List.mem_singleton.1 hw; exact oM h0⟩
 cases h with
 | @com nd ops h1 h2 h3=>
  obtain⟨hne,hall⟩:=uh h3;obtain⟨b1,b2⟩:=ZH h3;refine lg (w0:=n_) (ws:=bF nd::ops.flatMap opW) (k:=0) (o:=aK ops) h' ?_ ⟨⟨by decide,by decide⟩,by decide⟩ ?_ rfl ?_
  ·show bl (nC (aj _ (nS nd)) ops)=_;rw[I9 _ _ hall,jf,wQ,afU,List.append_assoc]; rfl
  ·intro w hw;rcases List.mem_cons.1 hw with rfl | hw
   ·exact oM h1
   ·obtain⟨o,_,ho⟩:=List.mem_flatMap.1 hw;exact Y6 o w ho
  ·obtain⟨n1,n2⟩:=iZ h1 h2 (by omega);show nM n_ (bF nd::ops.flatMap opW)=_;unfold nM;cases hf:ops.flatMap opW with
   |nil=>
    exfalso;cases ops with
    |nil=>exact hne rfl
    |cons o l=>
     rw[List.flatMap_cons]at hf;have:=congrArg List.length hf;rw[List.length_append]at this;have e:0<(opW o).length:=by unfold opW; cases o.p<;>simp
     simp only[List.length_nil]at this;omega
   |cons b t=>
    rw[hf]at b1 b2;have e1:eqS n_ n_=true:=dG _;simp only[e1,n1,n2,b1,b2]
 | @read nd key h1 h2 h3=>
  obtain⟨n1,n2⟩:=iZ h1 h2 (by omega);refine lg (w0:=⟨#[114,101,97,100]⟩) (ws:=[bF nd,wdS key]) (k:=1) (o:=mG) h' ?_ ⟨⟨by decide,by decide⟩,by decide⟩ ?_ rfl ?_
  ·show bl (aj (aj _ (nS nd)) (aj ⟨#[32]⟩ (wdS key)))=_;rw[jf,jf,jf,wQ];show _=_++tailW [bl (bF nd),bl (wdS key)];unfold tailW;simp[bl]
  ·intro w hw;simp only[List.mem_cons,List.not_mem_nil,or_false]at hw;rcases hw with rfl | rfl
   ·exact oM h1
   ·exact DL _
  ·show nP ⟨#[114,101,97,100]⟩ 2 ⟨#[114,101,97,100]⟩ [bF nd,wdS key]=_;unfold nP;simp only[dG,n1,n2,EZ h3,(rZ key).1]
 | @tick nd h1 h2=>
  obtain⟨n1,n2⟩:=iZ h1 h2 (by omega);obtain⟨t1,t2⟩:=one ⟨#[116,105,99,107]⟩ nd 1 h1 h2 (by omega);exact lg (ws:=[bF nd]) (k:=2) (o:=mG) h' t1 ⟨⟨by decide,by decide⟩,by decide⟩ t2 rfl (by
   show gZ ⟨#[116,105,99,107]⟩ 3 ⟨#[116,105,99,107]⟩ [bF nd]=_;unfold gZ;simp only[dG,n1,n2])
 | @promote nd h1 h2=>
  obtain⟨n1,n2⟩:=iZ h1 h2 (by omega);obtain⟨t1,t2⟩:=one ⟨#[112,114,111,109,111,116,101]⟩ nd 1 h1 h2 (by omega);exact lg (ws:=[bF nd]) (k:=3) (o:=mG) h' t1 ⟨⟨by decide,by decide⟩,by decide⟩ t2 rfl (by
   show gZ ⟨#[112,114,111,109,111,116,101]⟩ 4 ⟨#[112,114,111,109,111,116,101]⟩ [bF nd]=_;unfold gZ;simp only[dG,n1,n2])
 | @flush nd h1 h2=>
  obtain⟨n1,n2⟩:=iZ h1 h2 (by omega);obtain⟨t1,t2⟩:=one ⟨#[102,108,117,115,104]⟩ nd 1 h1 h2 (by omega);exact lg (ws:=[bF nd]) (k:=4) (o:=mG) h' t1 ⟨⟨by decide,by decide⟩,by decide⟩ t2 rfl (by
   show gZ ⟨#[102,108,117,115,104]⟩ 5 ⟨#[102,108,117,115,104]⟩ [bF nd]=_;unfold gZ;simp only[dG,n1,n2])
 | @deliver n h1 h2=>
  obtain⟨n1,n2⟩:=iZ h1 h2 (by omega);obtain⟨t1,t2⟩:=one ⟨#[100,101,108,105,118,101,114]⟩ n 999999999 h1 h2 (by omega);exact lg (ws:=[bF n]) (k:=5) (o:=mG) h' t1 ⟨⟨by decide,by decide⟩,by decide⟩ t2 rfl (by
   show jg ⟨#[100,101,108,105,118,101,114]⟩ 6 ⟨#[100,101,108,105,118,101,114]⟩ [bF n]=_;unfold jg;simp only[dG,n1,n2])
 | @twice n h1 h2=>
  obtain⟨n1,n2⟩:=iZ h1 h2 (by omega);obtain⟨t1,t2⟩:=one ⟨#[116,119,105,99,101]⟩ n 999999999 h1 h2 (by omega);exact lg (ws:=[bF n]) (k:=6) (o:=mG) h' t1 ⟨⟨by decide,by decide⟩,by decide⟩ t2 rfl (by
   show jg ⟨#[116,119,105,99,101]⟩ 7 ⟨#[116,119,105,99,101]⟩ [bF n]=_;unfold jg;simp only[dG,n1,n2])
 | @drop n h1 h2=>
  obtain⟨n1,n2⟩:=iZ h1 h2 (by omega);obtain⟨t1,t2⟩:=one ⟨#[100,114,111,112]⟩ n 999999999 h1 h2 (by omega);exact lg (ws:=[bF n]) (k:=7) (o:=mG) h' t1 ⟨⟨by decide,by decide⟩,by decide⟩ t2 rfl (by
   show jg ⟨#[100,114,111,112]⟩ 8 ⟨#[100,114,111,112]⟩ [bF n]=_;unfold jg;simp only[dG,n1,n2])
 | @pull nd h1 h2=>
  obtain⟨n1,n2⟩:=iZ h1 h2 (by omega);obtain⟨t1,t2⟩:=one ⟨#[112,117,108,108]⟩ nd 1 h1 h2 (by omega);exact lg (ws:=[bF nd]) (k:=9) (o:=mG) h' t1 ⟨⟨by decide,by decide⟩,by decide⟩ t2 rfl (by
   show gZ ⟨#[112,117,108,108]⟩ 10 ⟨#[112,117,108,108]⟩ [bF nd]=_;unfold gZ;simp only[dG,n1,n2])
 | @fuse nd n h1 h2 h3 h4=>
  obtain⟨n1,n2⟩:=iZ h1 h2 (by omega);obtain⟨m1,m2⟩:=iZ h3 h4 (by omega);refine lg (w0:=⟨#[102,117,115,101]⟩) (ws:=[bF nd,bF n]) (k:=8) (o:=mG) h' ?_ ⟨⟨by decide,by decide⟩,by decide⟩ ?_ rfl ?_
  ·show bl (aj (aj _ (nS nd)) (nS n))=_;rw[jf,jf,wQ,wQ];show _=_++tailW [bl (bF nd),bl (bF n)];unfold tailW;simp[bl]
  ·intro w hw;simp only[List.mem_cons,List.not_mem_nil,or_false]at hw;rcases hw with rfl | rfl
   ·exact oM h1
   ·exact oM h3
  ·show nN ⟨#[102,117,115,101]⟩ 9 ⟨#[102,117,115,101]⟩ [bF nd,bF n]=_;unfold nN;simp only[dG,n1,n2,m1,m2]
 | @start nd n t h1 h2 h3 h4 h5 h6=>
  obtain⟨n1,n2⟩:=iZ h1 h2 (by omega);obtain⟨m1,m2⟩:=iZ h3 h4 (by omega);obtain⟨k1,k2⟩:=iZ h5 h6 (by omega);refine lg (w0:=⟨#[115,116,97,114,116]⟩) (ws:=[bF nd,bF n,bF t]) (k:=10) (o:=mG) h' ?_ ⟨⟨by decide,by decide⟩,by decide⟩ ?_ rfl ?_
  ·show bl (aj (aj (aj _ (nS nd)) (nS n)) (nS t))=_;rw[jf,jf,jf,wQ,wQ,wQ];show _=_++tailW [bl (bF nd),bl (bF n),bl (bF t)];unfold tailW;simp[bl]
  ·intro w hw;simp only[List.mem_cons,List.not_mem_nil,or_false]at hw;rcases hw with rfl | rfl | rfl
   ·exact oM h1
   ·exact oM h3
   ·exact oM h5
  ·show kZ ⟨#[115,116,97,114,116]⟩ 11 ⟨#[115,116,97,114,116]⟩ [bF nd,bF n,bF t]=_;unfold kZ;simp only[dG,n1,n2,m1,m2,k1,k2]
 |round=>
  refine lg (w0:=⟨#[114,111,117,110,100]⟩) (ws:=[]) (k:=11) (o:=mG) h' (by rfl) ⟨⟨by decide,by decide⟩,by decide⟩ (by simp) rfl ?_;show qm ⟨#[114,111,117,110,100]⟩ 12 ⟨#[114,111,117,110,100]⟩ []=_;unfold qm;simp only[dG]
theorem bY(s:ByteArray):(bl s).length=s.size:=nR s
def o5(ws:List ByteArray):Nat:=(tailW (ws.map bl)).length
theorem qH:o5 []=0:=rfl
theorem jC(w:ByteArray)(ws:List ByteArray):o5 (w::ws)=w.size+1+o5 ws:=by
 unfold o5;have e:tailW ((w::ws).map bl)=32::(bl w++tailW (ws.map bl)):=by unfold tailW; simp
 rw[e,List.length_cons,List.length_append,bY]; omega
theorem y8:∀ (l cur:List UInt8),(tailW (Pl.wordsB cur l)).length<=cur.length+l.length+1
 |[],cur=>by
  cases cur with
  |nil=>simp[Pl.wordsB,tailW]
  |cons c t=>simp[Pl.wordsB,tailW]
 |b::l,cur=>by
  have tc:∀ (w:List UInt8) (ws:List (List UInt8)),(tailW (w::ws)).length=w.length+1+(tailW ws).length:=fun w ws=>by
   unfold tailW; simp; omega
  unfold Pl.wordsB;cases b == 32 with
  |true=>
   have ih:=y8 l [];cases cur with
   |nil=>simp only[List.length_nil,List.length_cons]at ih ⊢; omega
   |cons c t=>
    simp only[tc,List.length_cons,List.length_nil]at ih ⊢; omega
  |false=>
   have ih:=y8 l (cur++[b]);simp only[List.length_append,List.length_cons,List.length_nil]at ih ⊢; omega
theorem Yp{s w0:ByteArray}{r:List ByteArray}(h:ed s=w0::r):w0.size+o5 r<=s.size:=by
 have q:=y8 (bl s) [];have e:(ed s).map bl=Pl.wordsB [] (bl s):=o6 s;rw[<-e,h,bY]at q;have:=jC w0 r;unfold o5 at this;simp only[List.length_nil]at q;show w0.size+(tailW (r.map bl)).length<=s.size;omega
theorem EG:∀ (k:Nat) (w:List UInt8),w.length<=k->(eG w).1.length<=w.length
 |_,[],_=>by rw[eG.eq_def]; exact Nat.le_refl _
 |0,x::r,hk=>by simp at hk
 |k+1,x::r,hk=>by
  have hk:r.length<=k:=by simpa using hk
  cases hp:gy x.toNat with
  |true=>
   rw[uF hp];have:=EG k r hk;simp only[List.length_cons]; omega
  |false=>
   by_cases ho:eqI x.toNat 92=false\/r.length<2
   ·rw[y7 hp ho]; simp
   ·have he:eqI x.toNat 92=true:=by
     cases h:eqI x.toNat 92 with
     |true=>rfl
     |false=>exact absurd (Or.inl h) ho
    have h2:¬r.length<2:=fun h=>ho (Or.inr h);obtain⟨a,r,rfl⟩:∃ a r',r=a::r':=by cases r with
     |nil=>simp at h2
     |cons a r'=>exact⟨_,_,rfl⟩
    obtain⟨b,r,rfl⟩:∃ a r',r=a::r':=by cases r with
     |nil=>simp at h2
     |cons a r'=>exact⟨_,_,rfl⟩
    rw[wS hp he];cases hg:pM a b with
    |false=>simp
    |true=>
     have:=EG k r (by simp at hk; omega);simp only[List.length_cons]; omega
theorem ZJ(w:ByteArray):(byS w).size<=w.size:=by
 rw[<-bY,<-bY];show(kw (bl w)).1.length<=_;unfold kw;have:=EG (bl w).length (bl w) (Nat.le_refl _);split
 ·exact Nat.zero_le _
 ·split
  ·exact Nat.zero_le _
  ·exact Nat.zero_le _
  ·exact this
theorem GN(w:ByteArray):(wdS (byS w)).size<=5*w.size+2:=by
 have h1:=vW (byS w);have h2:=ZJ w;omega
theorem l_{a b:ByteArray}(h:eqS a b=true):a=b:=by
 rw[p_]at h;exact lZ (eq_of_beq h)
theorem qO(n:Int):(nS n).size=(bF n).size+1:=by unfold nS; rw[a_,lz0]; omega
theorem acW{s:ByteArray}(h:eY s=true):bQ false (byS s) ⟨#[]⟩=true:=by
 unfold eY at h;rw[Bool.and_eq_true]at h;exact h.2
theorem ZF:∀ (l:List OpM) (s:ByteArray),(∀ o∈l,jo o=true)->(nC s l).size=s.size+o5 (l.flatMap opW)
 |l,s,h=>by rw[<-bY,I9 l s h,List.length_append,bY]; rfl
theorem MK(a b:List ByteArray):o5 (a++b)=o5 a+o5 b:=by
 unfold o5;rw[List.map_append,BN,List.length_append]
theorem EI:∀ (k:Nat) (ws:List ByteArray) (out:List OpM),ws.length<=k->(opE ws out).1=true->o5 ((opE ws out).2.2.flatMap opW)<=o5 (out.flatMap opW)+5*o5 ws
 |_,[],out,_,_=>by simp[opE]
 |_,[w0],out,_,h=>by simp[opE]at h
 |0,_::_::_,_,h,_=>by simp at h
 |k+1,w0::w1::tl,out,hl,h=>by
  rw[opE.eq_def]at h ⊢;cases e1:eqS w0 kX with
  |true=>
   have h0:w0.size=3:=by rw[l_ e1]; rfl
   cases tl with
   |nil=>simp only[e1]at h; cases h
   |cons w2 r=>
    simp only[e1]at h ⊢;cases e2:eY w1 with
    |false=>simp only[e2]at h; cases h
    |true=>
     cases e3:eqI (byE w2) 0 with
     |false=>simp only[e2,e3]at h; cases h
     |true=>
      simp only[e2,e3]at h ⊢;have ih:=EI k r (out++[(⟨true,byS w1,byS w2⟩:OpM)]) (by simp at hl; omega) h;refine Nat.le_trans ih ?_;rw[List.flatMap_append,MK];have e:[(⟨true,byS w1,byS w2⟩:OpM)].flatMap opW=[kX,wdS (byS w1),wdS (byS w2)]:=by simp[opW]
      rw[e];simp only[jC,qH];have a1:=GN w1;have a2:=GN w2;have a3:kX.size=3:=rfl;omega
  |false=>
   simp only[e1]at h ⊢;cases e4:eqS w0 mP with
   |false=>simp only[e4]at h; cases h
   |true=>
    have h0:w0.size=3:=by rw[l_ e4]; rfl
    cases e2:eY w1 with
    |false=>simp only[e4,e2]at h; cases h
    |true=>
     simp only[e4,e2]at h ⊢;have ih:=EI k tl (out++[(⟨false,byS w1,⟨#[]⟩⟩:OpM)]) (by simp at hl; omega) h;refine Nat.le_trans ih ?_;rw[List.flatMap_append,MK];have e:[(⟨false,byS w1,⟨#[]⟩⟩:OpM)].flatMap opW=[mP,wdS (byS w1)]:=by simp[opW]
     rw[e];simp only[jC,qH];have a1:=GN w1;have a3:mP.size=3:=rfl;omega
theorem yJ{W:ByteArray}{kd:Int}{w0:ByteArray}{r:List ByteArray}{p:ActM×Value}(h:gZ W kd w0 r=some p):∃ a,w0=W/\r=[bF a]/\p.1=⟨kd,a,0,0,⟨#[]⟩,[]⟩/\0<=a/\a<=1:=by
 unfold gZ at h;split at h
 ·rename_i a hw;split at h
  ·rename_i hn;obtain⟨h1,h2,h3,h4⟩:=qg hn;cases h;exact⟨dE a,(l_ hw).symm,by rw[h3],rfl,h1,h2⟩
  ·cases h
 ·cases h
theorem ER{W:ByteArray}{kd:Int}{w0:ByteArray}{r:List ByteArray}{p:ActM×Value}(h:jg W kd w0 r=some p):∃ a,w0=W/\r=[bF a]/\p.1=⟨kd,0,a,0,⟨#[]⟩,[]⟩/\0<=a/\a<=999999999:=by
 unfold jg at h;split at h
 ·rename_i a hw;split at h
  ·rename_i hn;obtain⟨h1,h2,h3,h4⟩:=qg hn;cases h;exact⟨dE a,(l_ hw).symm,by rw[h3],rfl,h1,h2⟩
  ·cases h
 ·cases h
theorem acs{k:Nat}{w0:ByteArray}{r:List ByteArray}{p:ActM×Value}(h:dX k w0 r=some p):Wf p.1/\(aN p.1).size<=5*(w0.size+o5 r):=by
 have one:∀ (W:ByteArray) (n:Int) (a:ActM),w0=W->r=[bF n]->aN a=aj W (nS n)->(aN a).size<=5*(w0.size+o5 r):=fun W n a e1 e2 e3=>by
  subst e1 e2;rw[e3,a_,qO,jC,qH]; omega
 unfold dX at h;split at h
 ·unfold nM at h;split at h
  ·rename_i a b t hw;split at h
   ·rename_i hn hb;obtain⟨h1,h2,h3,h4⟩:=qg hn;cases h;have ho:(opE (b::t) []).1=true/\eqI (dO (opE (b::t) []).2.2) 0=true:=by
     unfold pV at hb;cases ho:(opE (b::t) []).1 with
     |true=>rw[ho]at hb; exact⟨rfl,hb⟩
     |false=>rw[ho]at hb; cases hb
    have hv:opsV (b::t)=(opE (b::t) []).2.2:=by unfold opsV; rw[ho.1]
    refine⟨Wf.com h1 h2 (by rw[hv]; exact ho.2),?_⟩;show(nC (aj _ (nS (dE a))) (opsV (b::t))).size<=_;have q:=EI (b::t).length (b::t) [] (Nat.le_refl _) ho.1;rw[hv,ZF _ _ (uh ho.2).2,a_,qO,h3,<-l_ hw,jC a];have e0:o5 (([]:List OpM).flatMap opW)=0:=rfl;rw[e0]at q;have e2:n_.size=6:=rfl;have e3:=lz1;omega
   ·cases h
  ·cases h
 ·unfold nP at h;split at h
  ·rename_i a b hw;split at h
   ·rename_i hn hk;obtain⟨h1,h2,h3,h4⟩:=qg hn;cases h;refine⟨Wf.read h1 h2 (acW hk),?_⟩;show(aj (aj _ (nS (dE a))) (aj ⟨#[32]⟩ (wdS (byS b)))).size<=_;rw[a_,a_,a_,qO,h3,<-l_ hw,jC,jC,qH];have:=GN b;have e3:=lz2;have e4:=lz0;omega
   ·cases h
  ·cases h
 ·obtain⟨a,e1,e2,e3,h1,h2⟩:=yJ h;rw[e3]; exact⟨Wf.tick h1 h2,one _ _ _ e1 e2 rfl⟩
 ·obtain⟨a,e1,e2,e3,h1,h2⟩:=yJ h;rw[e3]; exact⟨Wf.promote h1 h2,one _ _ _ e1 e2 rfl⟩
 ·obtain⟨a,e1,e2,e3,h1,h2⟩:=yJ h;rw[e3]; exact⟨Wf.flush h1 h2,one _ _ _ e1 e2 rfl⟩
 ·obtain⟨a,e1,e2,e3,h1,h2⟩:=ER h;rw[e3]; exact⟨Wf.deliver h1 h2,one _ _ _ e1 e2 rfl⟩
 ·obtain⟨a,e1,e2,e3,h1,h2⟩:=ER h;rw[e3]; exact⟨Wf.twice h1 h2,one _ _ _ e1 e2 rfl⟩
 ·obtain⟨a,e1,e2,e3,h1,h2⟩:=ER h;rw[e3]; exact⟨Wf.drop h1 h2,one _ _ _ e1 e2 rfl⟩
 ·unfold nN at h;split at h
  ·rename_i a b hw;split at h
   ·rename_i hn hk;obtain⟨h1,h2,h3,h4⟩:=qg hn;obtain⟨k1,k2,k3,k4⟩:=qg hk;cases h;refine⟨Wf.fuse h1 h2 k1 k2,?_⟩;show(aj (aj _ (nS (dE a))) (nS (dE b))).size<=_;rw[a_,a_,qO,qO,h3,k3,<-l_ hw,jC,jC,qH];have e3:=lz9;omega
   ·cases h
  ·cases h
 ·obtain⟨a,e1,e2,e3,h1,h2⟩:=yJ h;rw[e3]; exact⟨Wf.pull h1 h2,one _ _ _ e1 e2 rfl⟩
 ·unfold kZ at h;split at h
  ·rename_i a b c hw;split at h
   ·rename_i hn hk hj;obtain⟨h1,h2,h3,h4⟩:=qg hn;obtain⟨k1,k2,k3,k4⟩:=qg hk;obtain⟨j1,j2,j3,j4⟩:=qg hj;cases h;refine⟨Wf.start h1 h2 k1 k2 j1 j2,?_⟩;show(aj (aj (aj _ (nS (dE a))) (nS (dE b))) (nS (dE c))).size<=_;rw[a_,a_,a_,qO,qO,qO,h3,k3,j3,<-l_ hw,jC,jC,jC,qH];have e3:=qF;omega
   ·cases h
  ·cases h
 ·unfold qm at h;split at h
  ·rename_i hw;cases h;refine⟨Wf.round,?_⟩;rw[<-l_ hw,qH];show(ByteArray.mk #[114,111,117,110,100]).size<=_;omega
  ·cases h
 ·cases h
theorem RX{s:ByteArray}{a:ActM}{e:Int}(h:aG s=(a,true,e)):e=0/\Wf a/\(aN a).size<=5*s.size/\1<=s.size:=by
 unfold aG at h;split at h
 ·cases h
 ·cases h
 ·cases h
 ·rename_i w0 r _ _ hw;split at h
  ·cases h
  ·rename_i p hr hp;cases h;unfold gm at hp;obtain⟨j,hj,hf⟩:=List.exists_of_findSome?_eq_some hp;obtain⟨q1,q2⟩:=acs hf;have q3:=Yp hw;refine⟨rfl,q1,by omega,?_⟩;obtain⟨k1,k2⟩:=yz hf;rw[<-bY]at q3;have:1<=(bl w0).length:=by
    show 1<=w0.data.toList.length;rw[k2];have:∀ i:Fin 12,1<=(CZ i.val).length:=by decide
    exact this ⟨j,k1⟩
   omega
  ·cases h
theorem OM{a b:OpM}:uw a b=true↔a=b:=by
 obtain⟨p,k,v⟩:=a;obtain⟨q,l,w⟩:=b;unfold uw eqB;constructor
 ·intro h;have h:and (p == q) (and (eqS k l) (and (eqS v w) true))=true:=h;simp only[Bool.and_eq_true,beq_iff_eq,and_true]at h;obtain⟨h1,h2,h3⟩:=h;rw[h1,l_ h2,l_ h3]
 ·intro h;cases h;show and (p == p) (and (eqS k k) (and (eqS v v) true))=true;rw[dG,dG]; simp
theorem J9:∀ (l m:List OpM) (i:Nat),l.length=m.length->((jL i l m).isNone=true↔l=m)
 |[],[],i,_=>by simp[jL]
 |[],_::_,i,h=>by simp at h
 |_::_,[],i,h=>by simp at h
 |a::l,b::m,i,h=>by
  have ih:=J9 l m (i+1) (by simpa using h);unfold jL;cases ho:uw a b with
  |true=>
   obtain rfl:=OM.1 ho;simp only[ih,List.cons.injEq,true_and]
  |false=>
   constructor
   ·intro h; cases h
   ·intro h;simp only[List.cons.injEq]at h;rw[OM.2 h.1]at ho; cases ho
theorem JZ{l m:List OpM}:kE l m=true↔l=m:=by
 unfold kE;cases hn:neI (af l.length) (af m.length)with
 |true=>
  constructor
  ·intro h; cases h
  ·rintro rfl;unfold neI at hn;simp at hn
 |false=>
  unfold neI af at hn;have hl:l.length=m.length:=by
   have:=bne_eq_false_iff_eq.1 hn;omega
  exact J9 l m 0 hl
theorem ig{a b:Int}:eqI a b=true↔a=b:=by unfold eqI; exact decide_eq_true_iff
theorem wM{a b:ActM}:jk a b=true↔a=b:=by
 constructor
 ·intro h;unfold jk at h;split at h
  ·rename_i h1 h2 h3 h4 h5;obtain⟨a1,a2,a3,a4,a5,a6⟩:=a;obtain⟨b1,b2,b3,b4,b5,b6⟩:=b;simp only at h h1 h2 h3 h4 h5;rw[ig.1 h1,ig.1 h2,ig.1 h3,ig.1 h4,l_ h5,JZ.1 h]
  ·cases h
 ·rintro rfl;have e:∀ n:Int,eqI n n=true:=fun n=>ig.2 rfl;unfold jk;simp only[e,dG];exact JZ.2 rfl
theorem Wf.early{a:ActM}(h:Wf a):early a=false:=by
 unfold VS.Tryz.early;cases h with
 |com h1 h2 h3=>
  show neI (dO _) 0=false;unfold neI;rw[ig.1 h3]; rfl
 |read h1 h2 h3=>
  show dN (bQ false _ _)=false;rw[h3]; rfl
 |_=>rfl
theorem Wf.known{a:ActM}(h:Wf a):vG a.kind=true:=by cases h<;>rfl
theorem uH{a:ActM}:dQ a=0↔Wf a:=by
 constructor
 ·intro h;unfold dQ at h;split at h
  ·rename_i h1 h2 h3;unfold wH at h3;simp only[Bool.and_eq_true]at h3;obtain⟨⟨h3,h4⟩,h5⟩:=h3;have e:=wM.1 h5;have hl:aG (aN a)=(a,true,(aG (aN a)).2.2):=by
    conv=>lhs; rw[show aG (aN a)=((aG (aN a)).1,(aG (aN a)).2.1,(aG (aN a)).2.2) from rfl,e,h4]
   exact(RX hl).2.1
  ·cases h
 ·intro h;unfold dQ;have hb:wH a=true:=by
   unfold wH;rw[h.back.1];show(dN (neI 0 0)&&true&&jk a a)=true;rw[wM.2 rfl]; rfl
  rw[h.known,h.early,hb]
theorem JF{a:ActM}:neI (dQ a) 0=false↔Wf a:=by
 rw[<-uH];unfold neI;exact bne_eq_false_iff_eq
theorem Az:∀ (l:List ActM) (i:Nat),cO i l=none↔∀ a∈l,Wf a
 |[],i=>by simp[cO]
 |a::l,i=>by
  have ih:=Az l (i+1);simp only[cO];cases hc:neI (dQ a) 0 with
  |true=>
   constructor
   ·intro h; cases h
   ·intro h;rw[JF.2 (h a (by simp))]at hc; cases hc
  |false=>
   simp only[ih,List.mem_cons,forall_eq_or_imp,JF.1 hc,true_and]
def mkT(l:List UInt8):ByteArray:=⟨⟨l⟩⟩
theorem Oi(l:List UInt8):(mkT l).size=l.length:=rfl
theorem Ba(a:ActM)(l:List ActM):dZ (a::l)=bl (aN a)++10::dZ l:=by
 show kU a++dZ l=_;unfold kU;rw[List.append_assoc]; rfl
theorem Oe:∀ a b:List ActM,dZ (a++b)=dZ a++dZ b
 |[],b=>rfl
 |x::a,b=>by
  show dZ (x::(a++b))=_;rw[Ba,Ba,Oe a b,List.append_assoc]; rfl
theorem Uo:∀ (f:Nat) (s:ByteArray) (out:List ActM) (c:Nat),(∀ a∈out,Wf a)->out.length<=200->(∀ a∈(paM f s out c).2.2.1,Wf a)/\(paM f s out c).2.2.1.length<=200/\(dZ (paM f s out c).2.2.1).length<=(dZ out).length+6*s.size
 |0,s,out,c,h,hl=>⟨h,hl,Nat.le_add_right _ _⟩
 |f+1,s,out,c,h,hl=>by
  unfold paM;cases Nat.beq s.size 0 with
  |true=>exact⟨h,hl,Nat.le_add_right _ _⟩
  |false=>
   have hln:(lnA s).size+(lnB s).size<=s.size:=by
    have h:=F_ s.data.toList;have h1:(lnA s).size=(brk s.data.toList).1.length:=by unfold lnA; simp[ByteArray.size]
    have h2:(lnB s).size=(brk s.data.toList).2.1.length:=by unfold lnB; simp[ByteArray.size]
    have h3:=nR s;rw[h1,h2]; omega
   generalize hx:aG (lnA s)=x;obtain⟨a,th,er⟩:=x;simp only;cases neI er 0 with
   |true=>exact⟨h,hl,Nat.le_add_right _ _⟩
   |false=>
    cases th with
    |false=>
     obtain⟨r1,r2,r3⟩:=Uo f (lnB s) out (c+1) h hl;exact⟨r1,r2,Nat.le_trans r3 (by omega)⟩
    |true=>
     cases h2:eqI (af out.length) 200 with
     |true=>exact⟨h,hl,Nat.le_add_right _ _⟩
     |false=>
      have hne:out.length≠200:=fun e=>by
       unfold eqI af at h2;have:=of_decide_eq_false h2;omega
      obtain⟨_,w1,w2,w3⟩:=RX hx;obtain⟨r1,r2,r3⟩:=Uo f (lnB s) (out++[a]) (c+1) (fun y hy=>by
       rcases List.mem_append.1 hy with hy | hy
       ·exact h y hy
       ·obtain rfl:=List.mem_singleton.1 hy;exact w1) (by rw[List.length_append]; simp only[List.length_cons,List.length_nil]; omega)
      refine⟨r1,r2,Nat.le_trans r3 ?_⟩;have e1:dZ [a]=bl (aN a)++10::[]:=Ba a [];have e2:(dZ [a]).length=(aN a).size+1:=by rw[e1,List.length_append,bY]; rfl
      rw[Oe,List.length_append,e2]; omega
theorem aaW{s:ByteArray}(hs:s.size<=8000):(∀ a∈(dK s).2,Wf a)/\(dK s).2.length<=200/\(dZ (dK s).2).length<=65536:=by
 obtain⟨r1,r2,r3⟩:=Uo (s.size+1) s [] 0 (by simp) (by simp);have e0:(dZ []).length=0:=rfl;rw[e0]at r3;unfold dK kY;split
 ·exact⟨by simp,by simp,by simp[dZ]⟩
 ·exact⟨by simp,by simp,by simp[dZ]⟩
 ·exact⟨r1,r2,Nat.le_trans r3 (by omega)⟩
theorem Vl(p:Bool)(k v:ByteArray):iU P E jR 50 66 [.agg ⟨[.bool p, .string k, .string v]⟩] =
 (ag (ltI (af k.size) 1)
 (some ((.int .i64 2),(mkSt [])))
 (ag (gtI (af k.size) 16)
 (some ((.int .i64 2),(mkSt [])))
 (ag (gtI (af v.size) 32)
 (some ((.int .i64 2),(mkSt [])))
 (ag (dN p)
 (ag (neS v ⟨#[]⟩)
 (some ((.int .i64 2),(mkSt [])))
 (some ((.int .i64 0),(mkSt []))))
 (some ((.int .i64 0),(mkSt []))))))):=by kernel_rfl
theorem wo:CallOkR P 66 GX:=check_any fun p k v=>by rw[Vl]; exact Gz p k v
def abg(O:Bool->ByteArray->ByteArray->Bool):Ct:=bH P 66 (mJ O) ctF
def Jt:Ct:=abg bQ
theorem IW:CtOk P Jt:=aU aW wo
def Drb:HeadX:=⟨0,25,[0,2,3],[.val, .val, .val],[],aJ⟩
def Brb:Code:=(bK P 65 0).getD .skip
theorem V_:bK P 65 0=some Brb:=by kernel_rfl
theorem IQ:Occ P 65 (.block 0 (.loop Brb)):=dA V_
theorem Xa(O:Bool->ByteArray->ByteArray->Bool)(n b:Nat)(c:List Value)(r i:Int):aQ P E (abg O) 50 65 Brb Drb [ai 3 n b c, .int .i64 r, .int .i64 i] [] =
 (ag (ltI i (af n))
 (ae (Bool.and (Nat.beq 3 3) (inI i n))
 (ae (Bool.and (Nat.ble (Nat.add (atN i 3) 3) c.length) (jP [.bool,.string,.string] c (atN i 3)))
 (ag (O (asB (ah c (atN i 3))) (asS (ah c (Nat.add (atN i 3) 1))) (asS (ah c (Nat.add (Nat.add (atN i 3) 1) 1))))
 (some ((.tuple ⟨[.int .i64 0,.iface 18446744073709551619 (.agg ⟨(.slice none n b)::c⟩),.int .i64 r,.int .i64 (aB .i64 i 1)]⟩),(mkSt [])))
 (some ((.tuple ⟨[.int .i64 (-1),.iface 18446744073709551619 (.agg ⟨(.slice none n b)::c⟩),.int .i64 2,.int .i64 i]⟩),(mkSt []))))))
 (some ((.tuple ⟨[.int .i64 1,.iface 18446744073709551619 (.agg ⟨(.slice none n b)::c⟩),.int .i64 r,.int .i64 i]⟩),(mkSt [])))):=by kernel_rfl
theorem acx(C:List Value->List Blk->Bool)(ok:Bool)(r y:Int)(n b:Nat)(c:List Value):bn P E (dR P 65 0 Drb (iD C (.ite ok (.leaf (.normal,[ai 3 n b c, .int .i64 0, .int .i64 (af n)],[])) (.leaf (.ret,[ai 3 n b c, .int .i64 r, .int .i64 y],[])))) ctF) 50 aJ [] [] 0 65 [ai 3 n b c] [] =
 (ag (eqI (af n) 0)
 (some ((.int .i64 2),(mkSt [])))
 (ag (gtI (af n) 8)
 (some ((.int .i64 3),(mkSt [])))
 (ae (C [.iface 18446744073709551619 (.agg ⟨(.slice none n b)::c⟩),.int .i64 0,.int .i64 0] [])
 (ag ok
 (some ((.int .i64 0),(mkSt [])))
 (some ((.int .i64 r),(mkSt []))))))):=by kernel_rfl
theorem fzO(l:List OpM):(Value.iface 18446744073709551619 (.agg ⟨.slice none l.length 0::EOp.all l⟩))=aK l:=by unfold aK ai; rw[ja]
def rbV(r:Int)(l:List OpM)(i:Int):List Value:=[aK l, .int .i64 r, .int .i64 i]
theorem Zc{l:List OpM}{i:Nat}(hi:i<l.length)(hl:l.length<4194304):aQ P E Jt 50 65 Brb Drb (rbV 0 l i) []=match jo l[i]with
  |true=>some (.tuple ⟨exV .normal::rbV 0 l ((i+1:Nat):Int)⟩,mkSt [])
  |false=>some (.tuple ⟨exV .ret::rbV 2 l i⟩,mkSt []):=by
 unfold rbV;have q:=Xa bQ l.length 0 (EOp.all l) 0 i;refine Eq.trans ?_ (q.trans ?_)
 ·rfl
 clear q;have n3:∀ l:List OpM,(EOp.all l).length=Nat.mul l.length 3:=fun l=>EOp.all_length l;have g1:ltI (i:Int) (af l.length)=true:=by unfold ltI af; exact decide_eq_true (by omega)
 have g2:inI (i:Int) l.length=true:=by unfold inI; exact decide_eq_true (by omega)
 have g3:Nat.ble (Nat.add (atN (i:Int) 3) 3) (Nat.mul l.length 3)=true:=Nat.ble_eq_true_of_le (by
  show(i:Int).toNat*3+3<=l.length*3;have:(i:Int).toNat=i:=by omega
  omega)
 have g4:=qU hi;have a1:aB .i64 (i:Int) 1=((i+1:Nat):Int):=by unfold aB; rw[wrap64 (by omega) (by omega)]; omega
 have ab:∀ b,asB (.bool b)=b:=fun _=>rfl;have aS:∀ b,asS (.string b)=b:=fun _=>rfl;have b3:∀ n,Nat.beq n n=true:=Nat.beq_refl;simp only[n3,g1,g2,g3,g4,zi hi,yI hi,zy hi,ab,aS,a1,b3,Bool.and_self,az,aA,fzO];unfold jo;cases bQ l[i].p l[i].k l[i].v<;>rfl
theorem aeT{l:List OpM}:aQ P E Jt 50 65 Brb Drb (rbV 0 l l.length) []=some (.tuple ⟨exV (.exit 0)::rbV 0 l l.length⟩,mkSt []):=by
 unfold rbV;have q:=Xa bQ l.length 0 (EOp.all l) 0 l.length;refine Eq.trans ?_ (q.trans ?_)
 ·rfl
 clear q;have g1:ltI (l.length:Int) (af l.length)=false:=by unfold ltI af; exact decide_eq_false (by omega)
 simp only[g1,ax,fzO]
 rfl
theorem RG(l:List OpM)(hl:l.length<4194304):∀ (k i:Nat),i+k=l.length->
  LRX P 65 0 Brb Drb.head (rbV 0 l i) [] (match badM i (l.drop i)with | none=> .normal | some _=> .ret) (match badM i (l.drop i)with | none=>rbV 0 l l.length | some j=>rbV 2 l j) []
 |0,i,h=>by
  obtain rfl:i=l.length:=by omega
  rw[List.drop_length];exact LRX.stop (n:=50) (aF Jt) au IW IQ (e:= .exit 0) aeT (by intro h; cases h)
 |k+1,i,h=>by
  have hi:i<l.length:=by omega
  have q:=Zc hi hl;rw[List.drop_eq_getElem_cons hi];simp only[badM];cases ho:jo l[i]with
  |true=>
   rw[ho]at q;exact LRX.again (n:=50) (aF Jt) au IW IQ q (RG l hl k (i+1) (by omega))
  |false=>
   rw[ho]at q;exact LRX.stop (n:=50) (aF Jt) au IW IQ (e:= .ret) q (by intro h; cases h)
def kRb:Con (List OpM) where
 enc l:=(rbV 0 l 0,[])
 ok l:=l.length<4194304
 inj a b h:=by
  unfold rbV aK at h;simp only[Prod.mk.injEq,List.cons.injEq,true_and,and_true]at h;exact EOp.all_inj _ _ (ry h)
 dflt:=[]
def UJ(l:List OpM):DT (Ex×List Value×List Blk):= .ite (badM 0 l).isNone (.leaf (.normal,rbV 0 l l.length,[])) (.leaf (.ret,rbV 2 l ((badM 0 l).getD 0),[]))
theorem WN:LoopOkX P 65 0 Brb Drb.head (kP kRb.C kRb.D UJ):=
 fQ kRb (bz V_) fun l ho e vs' bs' hev=>by
  have q:=RG l ho l.length 0 (by omega);rw[List.drop_zero]at q;unfold UJ at hev;cases hb:badM 0 l with
  |none=>
   rw[hb]at hev q;simp only[Option.isNone_none,DT.eval,Option.some.injEq,Prod.mk.injEq]at hev;obtain⟨rfl,rfl,rfl⟩:=hev;exact q
  |some j=>
   rw[hb]at hev q;simp only[Option.isNone_some,Option.getD_some,DT.eval,Option.some.injEq,Prod.mk.injEq]at hev;obtain⟨rfl,rfl,rfl⟩:=hev;exact q
def abo(l:List OpM):Ct:=dR P 65 0 Drb (iD (kRb.at l) (UJ l)) ctF
theorem acT(l:List OpM):bn P E (abo l) 50 aJ [] [] 0 65 (kBk.enc l).1 (kBk.enc l).2=some (.int .i64 (dO l),mkSt []):=by
 have q:=acx (kRb.at l) (badM 0 l).isNone 2 ((badM 0 l).getD 0:Nat) l.length 0 (EOp.all l);refine Eq.trans ?_ (q.trans ?_)
 ·rfl
 clear q;unfold dO;cases eqI (af l.length) 0 with
 |true=>rfl
 |false=>
  cases gtI (af l.length) 8 with
  |true=>rfl
  |false=>
   simp only[ax];refine bu (k:=kRb) (s:=l) (by show rbV _ _ _=_; unfold rbV; rw[fzO]) rfl ?_;cases (badM 0 l).isNone<;>rfl
theorem WY:CallOkX P 0 65 (jS kBk.C kBk.D fun l=> .leaf (.int .i64 (dO l),[])):=f_ kBk fun l ho v bs' hev=>by
 simp only[DT.eval,Option.some.injEq,Prod.mk.injEq]at hev;obtain⟨rfl,rfl⟩:=hev;exact CRX.of (aF (abo l)) au (bf aW (gU kRb WN (s:=l) ho)) (acT l)
def nmT(k:Nat):ByteArray:=⟨(CZ k).toArray⟩
theorem Zh:((List.range 12).all fun k=>BK P E jR 50 62 [.int .i64 ((k+1:Nat):Int)] (.string (nmT k)))=true:=by kernel_rfl
def shT:Nat->ByteArray
 |0=>⟨#[110,111]⟩
 |1=>⟨#[110,107]⟩
 |2=>⟨#[110]⟩
 |3=>⟨#[110]⟩
 |4=>⟨#[110]⟩
 |5=>⟨#[97]⟩
 |6=>⟨#[97]⟩
 |7=>⟨#[97]⟩
 |8=>⟨#[110,97]⟩
 |9=>⟨#[110]⟩
 |10=>⟨#[110,97,116]⟩
 |_=>⟨#[]⟩
theorem WT:((List.range 12).all fun k=>BK P E jR 50 67 [.int .i64 ((k+1:Nat):Int)] (.string (shT k)))=true:=by kernel_rfl
def ZZ(k:Nat)(c:Int):Bool:=(shT k).data.toList.any fun b=>eqI b.toNat c
def Ui:List Int:=[110,97,116,111,107]
theorem adu:((List.range 12).all fun k=>Ui.all fun c=>BK P E jR 50 64 [.int .i64 ((k+1:Nat):Int), .int .u8 c] (.bool (ZZ k c)))=true:=by kernel_rfl
theorem ac4{k:Nat}(h:k<12):CR P 62 [.int .i64 ((k+1:Nat):Int)] (.string (nmT k)) []:=CR.is (aF jR) au (je P) (List.all_eq_true.1 Zh k (List.mem_range.2 h))
theorem Y7{k:Nat}(h:k<12):CR P 67 [.int .i64 ((k+1:Nat):Int)] (.string (shT k)) []:=CR.is (aF jR) au (je P) (List.all_eq_true.1 WT k (List.mem_range.2 h))
theorem aeE{k:Nat}(h:k<12){c:Int}(hc:c∈Ui):CR P 64 [.int .i64 ((k+1:Nat):Int), .int .u8 c] (.bool (ZZ k c)) []:=CR.is (aF jR) au (je P) (List.all_eq_true.1 (List.all_eq_true.1 adu k (List.mem_range.2 h)) c hc)
def kdC(k:Int):Bool:=and (leI 1 k) (leI k 12)
theorem xH{k:Int}:kdC k=true↔∃ j:Nat,j<12/\k=((j+1:Nat):Int):=by
 unfold kdC leI;rw[Bool.and_eq_true,decide_eq_true_eq,decide_eq_true_eq];constructor
 ·intro h; exact⟨k.toNat-1,by omega,by omega⟩
 ·rintro ⟨j,h1,rfl⟩; omega
def nmI(k:Int):ByteArray:=nmT (k.toNat-1)
def xe(k c:Int):Bool:=ZZ (k.toNat-1) c
def zJ(C:Int->Bool)(F:Int->ByteArray):fG
 |[.int .i64 k]=>some (.ite (C k) (.leaf (.string (F k),[])) .fail)
 |_=>none
theorem afP{g:FuncId}{F:Nat->ByteArray}(h:∀ k,k<12->CR P g [.int .i64 ((k+1:Nat):Int)] (.string (F k)) []):CallOkR P g (zJ kdC fun k=>F (k.toNat-1)):=by
 refine⟨fun args t hR v bs hev=>?_⟩;unfold zJ at hR;split at hR
 ·rename_i k;obtain rfl:=Option.some.inj hR;cases hc:kdC k with
  |false=>rw[hc]at hev; cases hev
  |true=>
   rw[hc]at hev;simp only[DT.eval,Option.some.injEq,Prod.mk.injEq]at hev;obtain⟨rfl,rfl⟩:=hev;obtain⟨j,hj,rfl⟩:=xH.1 hc;exact h j hj
 ·cases hR
theorem Tm:CallOkR P 62 (zJ kdC nmI):=afP fun k h=>ac4 h
def TD(C:Int->Int->Bool)(H:Int->Int->Bool):fG
 |[.int .i64 k, .int .u8 c]=>some (.ite (C k c) (.leaf (.bool (H k c),[])) .fail)
 |_=>none
def Ae(k c:Int):Bool:=and (kdC k) (Ui.any fun d=>eqI c d)
theorem afv:CallOkR P 64 (TD Ae xe):=by
 refine⟨fun args t hR v bs hev=>?_⟩;unfold TD at hR;split at hR
 ·rename_i k c;obtain rfl:=Option.some.inj hR;cases hc:Ae k c with
  |false=>rw[hc]at hev; cases hev
  |true=>
   rw[hc]at hev;simp only[DT.eval,Option.some.injEq,Prod.mk.injEq]at hev;obtain⟨rfl,rfl⟩:=hev;unfold Ae at hc;rw[Bool.and_eq_true]at hc;obtain⟨h1,h2⟩:=hc;obtain⟨j,hj,rfl⟩:=xH.1 h1;obtain⟨d,hd,he⟩:=List.any_eq_true.1 h2;obtain rfl:=ig.1 he;exact aeE hj hd
 ·cases hR
def Drw:HeadX:=⟨0,43,[0,3,4,5],[.val, .own, .val, .val],[9,29,3,3],aJ⟩
def Brw:Code:=(bK P 61 0).getD .skip
theorem Wv:bK P 61 0=some Brw:=by kernel_rfl
theorem Ro:Occ P 61 (.block 0 (.loop Brw)):=dA Wv
theorem XT(s:ByteArray)(m:Nat)(d:List Value)(a i:Int):aQ P E ctF 50 61 Brw Drw [.string s, .slice (some ⟨0,0,none⟩) m unk, .int .i64 a, .int .i64 i] [.cells d 9 false] =
 (ag (leI i (af s.size))
 (ag (eqI i (af s.size))
 (ag (geI a 0)
 (ae (eP a i s.size)
 (ae (Nat.ble (Nat.add m 1) 4194304)
 (ae (Nat.beq (Nat.add 0 (Nat.mul m 1)) d.length)
 (ae (Nat.ble (Nat.add 0 (Nat.mul (Nat.add m 1) 1)) (List.length (List.append (gI 0 d) [.string (iC s a i)])))
 (some ((.tuple ⟨[.int .i64 0,.string s,.slice (Option.some (Addr.mk 0 0 none)) (Nat.add m 1) 18446744073709551616,.int .i64 (-1),.int .i64 (aB .i64 i 1)]⟩),(mkSt [Blk.cells (renL true (rhoO 0 [3]) (takeC (Nat.mul (Nat.add m 1) 1) (ak 0 (List.append (gI 0 d) [.string (iC s a i)])))) 9 false])))))))
 (ae (Nat.ble (Nat.add 0 (Nat.mul m 1)) d.length)
 (some ((.tuple ⟨[.int .i64 0,.string s,.slice (Option.some (Addr.mk 0 0 none)) m 18446744073709551616,.int .i64 a,.int .i64 (aB .i64 i 1)]⟩),(mkSt [Blk.cells (renL true (rhoO 0 [1]) (takeC (Nat.mul m 1) (ak 0 d))) 9 false])))))
 (ae (inI i s.size)
 (ag (dN (eqI (bAt s i) 32))
 (ag (ltI a 0)
 (ag (eqI (bAt s i) 32)
 (ag (geI i 0)
 (ae (eP i i s.size)
 (ae (Nat.ble (Nat.add m 1) 4194304)
 (ae (Nat.beq (Nat.add 0 (Nat.mul m 1)) d.length)
 (ae (Nat.ble (Nat.add 0 (Nat.mul (Nat.add m 1) 1)) (List.length (List.append (gI 0 d) [.string (iC s i i)])))
 (some ((.tuple ⟨[.int .i64 0,.string s,.slice (Option.some (Addr.mk 0 0 none)) (Nat.add m 1) 18446744073709551616,.int .i64 (-1),.int .i64 (aB .i64 i 1)]⟩),(mkSt [Blk.cells (renL true (rhoO 0 [3]) (takeC (Nat.mul (Nat.add m 1) 1) (ak 0 (List.append (gI 0 d) [.string (iC s i i)])))) 9 false])))))))
 (ae (Nat.ble (Nat.add 0 (Nat.mul m 1)) d.length)
 (some ((.tuple ⟨[.int .i64 0,.string s,.slice (Option.some (Addr.mk 0 0 none)) m 18446744073709551616,.int .i64 i,.int .i64 (aB .i64 i 1)]⟩),(mkSt [Blk.cells (renL true (rhoO 0 [1]) (takeC (Nat.mul m 1) (ak 0 d))) 9 false])))))
 (ae (Nat.ble (Nat.add 0 (Nat.mul m 1)) d.length)
 (some ((.tuple ⟨[.int .i64 0,.string s,.slice (Option.some (Addr.mk 0 0 none)) m 18446744073709551616,.int .i64 i,.int .i64 (aB .i64 i 1)]⟩),(mkSt [Blk.cells (renL true (rhoO 0 [1]) (takeC (Nat.mul m 1) (ak 0 d))) 9 false])))))
 (ag (eqI (bAt s i) 32)
 (ag (geI a 0)
 (ae (eP a i s.size)
 (ae (Nat.ble (Nat.add m 1) 4194304)
 (ae (Nat.beq (Nat.add 0 (Nat.mul m 1)) d.length)
 (ae (Nat.ble (Nat.add 0 (Nat.mul (Nat.add m 1) 1)) (List.length (List.append (gI 0 d) [.string (iC s a i)])))
 (some ((.tuple ⟨[.int .i64 0,.string s,.slice (Option.some (Addr.mk 0 0 none)) (Nat.add m 1) 18446744073709551616,.int .i64 (-1),.int .i64 (aB .i64 i 1)]⟩),(mkSt [Blk.cells (renL true (rhoO 0 [3]) (takeC (Nat.mul (Nat.add m 1) 1) (ak 0 (List.append (gI 0 d) [.string (iC s a i)])))) 9 false])))))))
 (ae (Nat.ble (Nat.add 0 (Nat.mul m 1)) d.length)
 (some ((.tuple ⟨[.int .i64 0,.string s,.slice (Option.some (Addr.mk 0 0 none)) m 18446744073709551616,.int .i64 a,.int .i64 (aB .i64 i 1)]⟩),(mkSt [Blk.cells (renL true (rhoO 0 [1]) (takeC (Nat.mul m 1) (ak 0 d))) 9 false])))))
 (ae (Nat.ble (Nat.add 0 (Nat.mul m 1)) d.length)
 (some ((.tuple ⟨[.int .i64 0,.string s,.slice (Option.some (Addr.mk 0 0 none)) m 18446744073709551616,.int .i64 a,.int .i64 (aB .i64 i 1)]⟩),(mkSt [Blk.cells (renL true (rhoO 0 [1]) (takeC (Nat.mul m 1) (ak 0 d))) 9 false]))))))
 (ag (eqI (bAt s i) 32)
 (ag (geI a 0)
 (ae (eP a i s.size)
 (ae (Nat.ble (Nat.add m 1) 4194304)
 (ae (Nat.beq (Nat.add 0 (Nat.mul m 1)) d.length)
 (ae (Nat.ble (Nat.add 0 (Nat.mul (Nat.add m 1) 1)) (List.length (List.append (gI 0 d) [.string (iC s a i)])))
 (some ((.tuple ⟨[.int .i64 0,.string s,.slice (Option.some (Addr.mk 0 0 none)) (Nat.add m 1) 18446744073709551616,.int .i64 (-1),.int .i64 (aB .i64 i 1)]⟩),(mkSt [Blk.cells (renL true (rhoO 0 [3]) (takeC (Nat.mul (Nat.add m 1) 1) (ak 0 (List.append (gI 0 d) [.string (iC s a i)])))) 9 false])))))))
 (ae (Nat.ble (Nat.add 0 (Nat.mul m 1)) d.length)
 (some ((.tuple ⟨[.int .i64 0,.string s,.slice (Option.some (Addr.mk 0 0 none)) m 18446744073709551616,.int .i64 a,.int .i64 (aB .i64 i 1)]⟩),(mkSt [Blk.cells (renL true (rhoO 0 [1]) (takeC (Nat.mul m 1) (ak 0 d))) 9 false])))))
 (ae (Nat.ble (Nat.add 0 (Nat.mul m 1)) d.length)
 (some ((.tuple ⟨[.int .i64 0,.string s,.slice (Option.some (Addr.mk 0 0 none)) m 18446744073709551616,.int .i64 a,.int .i64 (aB .i64 i 1)]⟩),(mkSt [Blk.cells (renL true (rhoO 0 [1]) (takeC (Nat.mul m 1) (ak 0 d))) 9 false]))))))))
 (ae (Nat.ble (Nat.add 0 (Nat.mul m 1)) d.length)
 (some ((.tuple ⟨[.int .i64 1,.string s,.slice (Option.some (Addr.mk 0 0 none)) m 18446744073709551616,.int .i64 a,.int .i64 i]⟩),(mkSt [Blk.cells (renL true (rhoO 0 [1]) (takeC (Nat.mul m 1) (ak 0 d))) 9 false]))))):=by kernel_rfl
def af4(LC:List Value->List Blk->Bool)(s:ByteArray)(m:Nat)(d:List Value)(a i:Int):Ct:=dR P 61 0 Drw (iD LC (.leaf (.normal,[.string s, .slice (some ⟨0,0,none⟩) m unk, .int .i64 a, .int .i64 i],[.cells d 9 false]))) ctF
theorem X6(LC:List Value->List Blk->Bool)(s:ByteArray)(m:Nat)(d:List Value)(a i:Int):bn P E (af4 LC s m d a i) 50 aJ [.val] [29] 0 61 [.string s] [] =
 (ae (LC [.string s,.slice (Option.some (Addr.mk 0 0 none)) 0 18446744073709551616,.int .i64 (-1),.int .i64 0] [Blk.cells [] 9 false])
 (ae (ny P 0 m 18446744073709551616 (renL true (bZ [] 1) d) 9)
 (some ((.iface 18446744073709551617 (.agg ⟨(.slice none m 0)::(takeC (Nat.mul m 1) (ak 0 (renL true (bZ [] 1) d)))⟩)),(mkSt []))))):=by kernel_rfl
def atI:Option Nat->Int
 |none=>-1
 |some a=>a
def lU(out:List ByteArray):List Blk:=[.cells (out.map Value.string) 9 false]
def rwV(s:ByteArray)(n:Nat)(a:Option Nat)(i:Int):List Value:=[.string s, .slice (some ⟨0,0,none⟩) n unk, .int .i64 (atI a), .int .i64 i]
theorem Pg(out:List ByteArray)(w:ByteArray):List.append (gI 0 (out.map Value.string)) [.string w]=(out++[w]).map Value.string:=by rw[ug,List.map_append]; rfl
theorem pq{l:List ByteArray}{n:Nat}(h:n=l.length):takeC n (ak 0 (l.map Value.string))=l.map Value.string:=by
 subst h; exact qY (by omega)
def sV(s:ByteArray)(i:Nat):Bool:=match eqI i (af s.size)with
 |true=>true
 |false=>eqI (bAt s i) 32
def rwN(s:ByteArray)(i:Nat):Option Nat->List ByteArray->List ByteArray×Option Nat
 |some a,out=>match sV s i with
  |true=>(out++[iC s a i],none)
  |false=>(out,some a)
 |none,out=>match sV s i with
  |true=>(out,none)
  |false=>(out,some i)
theorem Zt{s:ByteArray}{i:Nat}{a:Option Nat}{out:List ByteArray}(hs:s.size<=4194302)(hi:i<=s.size)(ha:∀ x,a=some x->x<i)(ho:out.length+1<=4194304) :
  aQ P E ctF 50 61 Brw Drw (rwV s out.length a i) (lU out)=some (.tuple ⟨exV .normal::rwV s (rwN s i a out).1.length (rwN s i a out).2 ((i+1:Nat):Int)⟩,mkSt (lU (rwN s i a out).1)):=by
 unfold rwV lU;rw[XT];have z0:∀ n,Nat.add 0 n=n:=Nat.zero_add;have z1:∀ n,Nat.mul n 1=n:=Nat.mul_one;have bb:∀ n,Nat.ble n n=true:=fun n=>Nat.ble_eq_true_of_le (Nat.le_refl n);have b3:∀ n,Nat.beq n n=true:=Nat.beq_refl;have t1:Nat.ble (Nat.add out.length 1) 4194304=true:=Nat.ble_eq_true_of_le ho;have ol:∀ w:ByteArray,(out++[w]).length=Nat.add out.length 1:=fun w=>by simp
 have os:∀ w:ByteArray,takeC (Nat.add out.length 1) (ak 0 ((out++[w]).map Value.string))=(out++[w]).map Value.string:=fun w=>pq (ol w).symm;have g1:leI (i:Int) (af s.size)=true:=by unfold leI af; exact decide_eq_true (by omega)
 have a1:aB .i64 (i:Int) 1=((i+1:Nat):Int):=by unfold aB; rw[wrap64 (by omega) (by omega)]; omega
 simp only[g1,z0,z1,bb,b3,t1,ol,os,kC,Pg,pq rfl,sS,a1,az,aA];unfold rwN sV;cases a with
 |none=>
  have e1:geI (atI none) 0=false:=rfl;have e2:ltI (atI none) 0=true:=rfl;have e3:geI (i:Int) 0=true:=by unfold geI; exact decide_eq_true (by omega)
  simp only[e1,e2,ax,az];cases h1:eqI (i:Int) (af s.size)with
  |true=>rfl
  |false=>
   have hlt:i<s.size:=by
    unfold eqI af at h1;have:=of_decide_eq_false h1;omega
   simp only[bD hlt,aA,ax];cases h2:eqI (bAt s i) 32 with
   |true=>rfl
   |false=>rfl
 |some x=>
  have hx:=ha x rfl;have ex:atI (some x)=(x:Int):=rfl;have e1:geI (x:Int) 0=true:=by unfold geI; exact decide_eq_true (by omega)
  have e2:ltI (x:Int) 0=false:=by unfold ltI; exact decide_eq_false (by omega)
  have e3:eP (x:Int) (i:Int) s.size=true:=mi (by omega) (by omega) (by omega);rw[ex];simp only[e1,e2,e3,ax,az,aA];cases h1:eqI (i:Int) (af s.size)with
  |true=>simp only[az,List.length_append,List.length_cons,List.length_nil]; rfl
  |false=>
   have hlt:i<s.size:=by
    unfold eqI af at h1;have:=of_decide_eq_false h1;omega
   simp only[bD hlt,aA,ax];cases h2:eqI (bAt s i) 32 with
   |true=>simp only[az,ax,jq,List.length_append,List.length_cons,List.length_nil]; rfl
   |false=>rfl
theorem adz{s:ByteArray}{i:Nat}{a:Option Nat}{out:List ByteArray}(hi:s.size<i):aQ P E ctF 50 61 Brw Drw (rwV s out.length a i) (lU out)=some (.tuple ⟨exV (.exit 0)::rwV s out.length a i⟩,mkSt (lU out)):=by
 unfold rwV lU;rw[XT];have z0:∀ n,Nat.add 0 n=n:=Nat.zero_add;have z1:∀ n,Nat.mul n 1=n:=Nat.mul_one;have bb:∀ n,Nat.ble n n=true:=fun n=>Nat.ble_eq_true_of_le (Nat.le_refl n);have g1:leI (i:Int) (af s.size)=false:=by unfold leI af; exact decide_eq_false (by omega)
 simp only[g1,z0,z1,bb,kC,pq rfl,sS,ax,aA]
 rfl
def rwL(s:ByteArray)(i:Nat)(a:Option Nat):List ByteArray:=(Pl.wordsB (Pl.curB s i a) ((bl s).drop i)).map fun w=>⟨⟨w⟩⟩
theorem yB{s:ByteArray}{a i:Nat}(h1:a<=i)(h2:i<=s.size):bl (iC s a i)=((bl s).drop a).take (i-a):=by
 unfold iC bl;simp[ByteArray.extract,ByteArray.copySlice,List.extract_eq_take_drop]
theorem x9{s:ByteArray}{i:Nat}(h:i<s.size):bAt s i=(((bl s)[i]'(by rw[bY]; exact h)).toNat:Int):=by
 unfold bAt;have:((s.data.toList.getD i 0).toNat:Int)=_:=rfl;show((s.data.toList.getD ((i:Int).toNat) 0).toNat:Int)=_;rw[show((i:Int)).toNat=i by omega,List.getD_eq_getElem?_getD,List.getElem?_eq_getElem (by have:=bY s; unfold bl at this; omega)]
 rfl
theorem Na{s:ByteArray}{x i:Nat}(h:x<i)(hi:i<=s.size):Pl.curB s i (some x)=bl (iC s x i)/\Pl.curB s i (some x)≠[]:=by
 have e:Pl.curB s i (some x)=bl (iC s x i):=by rw[yB (by omega) hi]; rfl
 refine⟨e,fun hn=>?_⟩;rw[e,yB (by omega) hi]at hn;have:=congrArg List.length hn;rw[List.length_take,List.length_drop,bY]at this;simp only[List.length_nil]at this;omega
theorem Un(cur:List UInt8)(h:cur≠[]):Pl.wordsB cur []=[cur]:=by
 cases cur with
 |nil=>exact absurd rfl h
 |cons c t=>rfl
theorem XM(cur l:List UInt8)(h:cur≠[]):Pl.wordsB cur (32::l)=cur::Pl.wordsB [] l:=by
 cases cur with
 |nil=>exact absurd rfl h
 |cons c t=>rfl
theorem zL{b:UInt8}{c:Nat}(hc:c<256):eqI (b.toNat:Int) (c:Int)=(b == UInt8.ofNat c):=by
 unfold eqI;have h2:(UInt8.ofNat c).toNat=c:=by simp; omega
 cases h:b == UInt8.ofNat c with
 |true=>
  have:=eq_of_beq h;exact decide_eq_true (by rw[this,h2])
 |false=>
  refine decide_eq_false fun e=>?_;have:b=UInt8.ofNat c:=UInt8.toNat_inj.1 (by rw[h2]; omega);rw[this]at h;simp at h
theorem afR{s:ByteArray}{i:Nat}{a:Option Nat}{out:List ByteArray}(hi:i<=s.size)(ha:∀ x,a=some x->x<i) :
  (rwN s i a out).1++rwL s (i+1) (rwN s i a out).2=out++rwL s i a/\(i=s.size->(rwN s i a out).2=none)/\(∀ x,(rwN s i a out).2=some x->x<i+1)/\(rwN s i a out).1.length<=out.length+1:=by
 have hlen:(bl s).length=s.size:=bY s;by_cases he:i=s.size
 ·subst he;have hb:sV s s.size=true:=by
   unfold sV;have:eqI (s.size:Int) (af s.size)=true:=by unfold eqI af; exact decide_eq_true rfl
   rw[this]
  have d0:(bl s).drop s.size=[]:=List.drop_of_length_le (by omega);have d1:(bl s).drop (s.size+1)=[]:=List.drop_of_length_le (by omega);cases a with
  |none=>
   unfold rwN rwL;simp only[hb,d0,d1];exact⟨rfl,fun _=>trivial,(by intro x h; cases h),Nat.le_succ _⟩
  |some x=>
   obtain⟨c1,c2⟩:=Na (ha x rfl) (Nat.le_refl s.size);unfold rwN rwL;simp only[hb,d0,d1,Un _ c2];refine⟨?_,fun _=>trivial,(by intro x h; cases h),by simp⟩;rw[c1];show out++[_]++[]=out++[_]
   simp[bl]
 ·have hlt:i<s.size:=by omega
  have hne:eqI (i:Int) (af s.size)=false:=by unfold eqI af; exact decide_eq_false (by omega)
  have hd:(bl s).drop i=(bl s)[i]'(by omega)::(bl s).drop (i+1):=List.drop_eq_getElem_cons (by omega);have hbb:sV s i=((bl s)[i]'(by omega) == 32):=by
   unfold sV;rw[hne,x9 hlt];exact zL (c:=32) (by decide)
  have wstep:∀ (cur:List UInt8),((bl s)[i]'(by omega) == 32)=false->Pl.wordsB cur ((bl s).drop i)=Pl.wordsB (cur++[(bl s)[i]'(by omega)]) ((bl s).drop (i+1)):=fun cur h=>by
   rw[hd];show(match(bl s)[i]'(by omega) == 32 with | true=>_ | false=>_)=_;rw[h]
  cases hq:(bl s)[i]'(by omega) == 32 with
  |true=>
   rw[hq]at hbb;have h32:(bl s)[i]'(by omega)=32:=eq_of_beq hq;rw[h32]at hd;cases a with
   |none=>
    unfold rwN rwL;simp only[hbb,hd];exact⟨rfl,fun h=>absurd h he,(by intro x h; cases h),Nat.le_succ _⟩
   |some x=>
    obtain⟨c1,c2⟩:=Na (ha x rfl) hi;unfold rwN rwL;simp only[hbb,hd,XM _ _ c2];refine⟨?_,fun h=>absurd h he,(by intro x h; cases h),by simp⟩;rw[c1,List.map_cons,List.append_assoc]
    rfl
  |false=>
   rw[hq]at hbb;have hcur:∀ x,x<=i->Pl.curB s (i+1) (some x)=((bl s).drop x).take (i-x)++[(bl s)[i]'(by omega)]:=fun x hx=>by
    show((bl s).drop x).take (i+1-x)=_;rw[show i+1-x=(i-x)+1 by omega,List.take_add_one];congr 1;rw[List.getElem?_drop,show x+(i-x)=i by omega,List.getElem?_eq_getElem (by omega)]
    rfl
   cases a with
   |none=>
    unfold rwN rwL;simp only[hbb,wstep _ hq];refine⟨?_,fun h=>absurd h he,(by intro x h; cases h; omega),Nat.le_succ _⟩;rw[hcur i (Nat.le_refl i)];simp[Pl.curB]
   |some x=>
    have hx:=ha x rfl;unfold rwN rwL;simp only[hbb,wstep _ hq];refine⟨?_,fun h=>absurd h he,(by intro y h; cases h; omega),Nat.le_succ _⟩;rw[hcur x (by omega)]
    rfl
theorem QZ(s:ByteArray)(hs:s.size<=4194302):∀ (k i:Nat) (a:Option Nat) (out:List ByteArray),i+k=s.size+1->(∀ x,a=some x->x<i)->(i=s.size+1->a=none)->out.length<=i->
  LRX P 61 0 Brw Drw.head (rwV s out.length a i) (lU out) .normal (rwV s (out++rwL s i a).length none ((s.size+1:Nat):Int)) (lU (out++rwL s i a))
 |0,i,a,out,hi,ha,hz,ho=>by
  obtain rfl:i=s.size+1:=by omega
  obtain rfl:=hz rfl;have e:rwL s (s.size+1) none=[]:=by
   unfold rwL;rw[List.drop_of_length_le (by rw[bY]; omega)]
   rfl
  rw[e,List.append_nil];exact LRX.stop (n:=50) (aF ctF) au aW Ro (e:= .exit 0) (adz (by omega)) (by intro h; cases h)
 |k+1,i,a,out,hi,ha,hz,ho=>by
  obtain⟨q1,q2,q3,q4⟩:=afR (out:=out) (show i<=s.size by omega) ha;have q:=Zt (out:=out) hs (show i<=s.size by omega) ha (by omega);rw[<-q1];exact LRX.again (n:=50) (aF ctF) au aW Ro q (QZ s hs k (i+1) _ _ (by omega) q3 (fun h=>q2 (by omega)) (by omega))
def kRw:Con ByteArray where
 enc s:=(rwV s 0 none 0,lU [])
 ok s:=s.size<=4194302
 inj a b h:=by
  unfold rwV at h;simp only[Prod.mk.injEq,List.cons.injEq,Value.string.injEq,true_and,and_true]at h;exact h
 dflt:=default
theorem adv(s:ByteArray):rwL s 0 none=ed s:=by
 refine Bc ?_;have e:(ed s).map bl=Pl.wordsB [] (bl s):=o6 s;rw[e];unfold rwL;rw[List.map_map,List.drop_zero];show(Pl.wordsB [] (bl s)).map (fun w=>w)=_;simp
theorem Ya:LoopOkX P 61 0 Brw Drw.head (kP kRw.C kRw.D fun s=> .leaf (.normal,rwV s (ed s).length none ((s.size+1:Nat):Int),lU (ed s))):=
 fQ kRw (bz Wv) fun s ho e vs' bs' hev=>by
  have q:=QZ s ho (s.size+1) 0 none [] (by omega) (by intro x h; cases h) (by omega) (by simp);rw[adv]at q;simp only[DT.eval,Option.some.injEq,Prod.mk.injEq]at hev;obtain⟨rfl,rfl,rfl⟩:=hev;exact q
theorem OD{l:List ByteArray}:ny P 0 l.length 18446744073709551616 (l.map Value.string) 9=true:=by
 have he:esz P 9=1:=by kernel_rfl
 unfold ny;rw[he,X7,kC];have h2:Nat.ble (Nat.add 0 (Nat.mul l.length 1)) l.length=true:=Nat.ble_eq_true_of_le (by show 0+l.length*1<=_; omega);rw[h2]; rfl
theorem Xx{s:ByteArray}(h:s.size<=4194302):CRX P 0 61 [.string s] [] (fzS (ed s)) []:=by
 have q:=X6 (kRw.at s) s (ed s).length ((ed s).map Value.string) (-1) ((s.size+1:Nat):Int);refine CRX.of (aF _) au (bf aW (gU kRw Ya (s:=s) h)) (n:=50) (pol:=aJ) (fl:=[.val]) (ts:=[29]) (Eq.trans ?_ (q.trans ?_))
 ·rfl
 refine bu (k:=kRw) (s:=s) rfl rfl ?_;have z1:∀ n,Nat.mul n 1=n:=Nat.mul_one;simp only[sS,OD,z1,pq rfl,aA];unfold fzS ai FZ
 rfl
def BP:Con ByteArray where
 enc s:=([.string s],[])
 ok s:=s.size<=4194302
 inj a b h:=by simp only[Prod.mk.injEq,List.cons.injEq,Value.string.injEq,and_true]at h; exact h
 dflt:=default
theorem aat:CallOkX P 0 61 (jS BP.C BP.D fun s=> .leaf (fzS (ed s),[])):=f_ BP fun s ho v bs' hev=>by
 simp only[DT.eval,Option.some.injEq,Prod.mk.injEq]at hev;obtain⟨rfl,rfl⟩:=hev;exact Xx ho
theorem Fh:∀ (k:Nat) (w:List UInt8),w.length<=k->(dH w).1.length<=w.length
 |_,[],_=>by rw[dH.eq_def]; simp
 |0,x::r,hk=>by simp at hk
 |k+1,x::r,hk=>by
  have hk:r.length<=k:=by simpa using hk
  cases hp:neI x.toNat 92 with
  |true=>
   rw[yK hp];have:=Fh k r hk;simpa using this
  |false=>
   by_cases ho:r.length<2
   ·rw[Gj hp ho]; simp
   ·obtain⟨a,r,rfl⟩:∃ a r',r=a::r':=by cases r with
     |nil=>simp at ho
     |cons a r'=>exact⟨_,_,rfl⟩
    obtain⟨b,r,rfl⟩:∃ a r',r=a::r':=by cases r with
     |nil=>simp at ho
     |cons a r'=>exact⟨_,_,rfl⟩
    rw[AL hp];cases iJ a.toNat&&iJ b.toNat with
    |false=>simp
    |true=>
     have:=Fh k r (by simp at hk; omega);simp; omega
def QR:fG
 |[.string s]=>some (.ite (Nat.ble (3*s.size) 4194304) (.leaf (.tuple ⟨[.string ⟨⟨(kw s.data.toList).1⟩⟩, .int .i64 (kw s.data.toList).2]⟩,[])) .fail)
 |_=>none
theorem XA:CallOkR P 93 QR:=by
 refine mY afe (n:=50) fun args t hR v bs hev=>?_;unfold QR at hR;split at hR
 ·rename_i s;obtain rfl:=Option.some.inj hR;cases hc:Nat.ble (3*s.size) 4194304 with
  |false=>rw[hc]at hev; cases hev
  |true=>
   rw[hc]at hev;simp only[DT.eval,Option.some.injEq,Prod.mk.injEq]at hev;obtain⟨rfl,rfl⟩:=hev;have hsz:=Nat.le_of_ble_eq_true hc;have hlen:=Fh s.data.toList.length s.data.toList (Nat.le_refl _);have hs:s.data.toList.length=s.size:=by simp
   rw[UV,<-Si];refine aT ?_ ?_
   ·have h1:atB (.slice (some ⟨0,0,none⟩) 0 18446744073709551616) 0 ([]:List Value).length=true:=CE 0 0;have h9:Nat.ble (([]:List Value).length+s.size) 4194304=true:=bM (by simp; omega);unfold yg;rw[h1,h9]
    rfl
   unfold Jo;cases hq:s.data.toList == [34,34]with
   |true=>
    refine dD (by rw[nJ]; show(!(s.data.toList == [34,34]))=false; rw[hq]; rfl) ?_;refine dD ?_ rfl;rw[nJ];have:s.data.toList=[34,34]:=by simpa using hq
    rw[this]
    rfl
   |false=>
    refine dY (by rw[nJ]; show(!(s.data.toList == [34,34]))=true; rw[hq]; rfl) ?_;simp only[List.nil_append,lI,DD];generalize dH s.data.toList=q at hlen;obtain⟨out,bad,left⟩:=q;cases bad with
    |true=>exact dY rfl rfl
    |false=>
     refine dD rfl ?_;simp only at hlen ⊢;refine aT (fB (bM (by simp)) (BX _)) ?_;refine aT (bM ?_) ?_
     ·show 3*(ByteArray.mk ⟨out⟩).size<=4194304;have:(ByteArray.mk ⟨out⟩).size=out.length:=rfl;rw[this]; omega
     cases hw:kR out == s.data.toList with
     |false=>exact dY (by rw[nJ]; show(!(kR out == s.data.toList))=true; rw[hw]; rfl) rfl
     |true=>
      refine dD (by rw[nJ]; show(!(kR out == s.data.toList))=false; rw[hw]; rfl) ?_;exact aT (fB (bM (by simp)) (BX _)) rfl
 ·cases hR
def Uy(B:ByteArray->ByteArray)(G:ByteArray->Int):fG
 |[.string s]=>some (.ite (Nat.ble s.size 1000000) (.leaf (.tuple ⟨[.string (B s), .int .i64 (G s)]⟩,[])) .fail)
 |_=>none
theorem WW:CallOkR P 93 (Uy byS byE):=by
 refine⟨fun args t hR v bs hev=>?_⟩;unfold Uy at hR;split at hR
 ·rename_i s;obtain rfl:=Option.some.inj hR;cases hc:Nat.ble s.size 1000000 with
  |false=>rw[hc]at hev; cases hev
  |true=>
   rw[hc]at hev;refine XA.run [.string s] _ rfl v bs ?_;have:Nat.ble (3*s.size) 4194304=true:=Nat.ble_eq_true_of_le (by have:=Nat.le_of_ble_eq_true hc; omega);rw[this]; exact hev
 ·cases hR
def abO(B:ByteArray->ByteArray)(G:ByteArray->Int):Ct:=bH P 93 (Uy B G) ctF
def Dro:HeadX:=⟨0,67,[0,2,3,4,5],[.val, .val, .val, .own, .val],[29,22,4,22,3],aJ⟩
def Bro:Code:=(bK P 81 0).getD .skip
theorem Xb:bK P 81 0=some Bro:=by kernel_rfl
theorem Jr:Occ P 81 (.block 0 (.loop Bro)):=dA Xb
theorem Wj(B:ByteArray->ByteArray)(G:ByteArray->Int)(n b:Nat)(c:List Value)(m:Nat)(d:List Value)(i:Int):aQ P E (abO B G) 50 81 Bro Dro [ai 1 n b c,ai 3 0 0 [], .bool false, .slice (some ⟨0,0,none⟩) m unk, .int .i64 i] [.cells d 74 false] =
 (ag (ltI i (af n))
 (ae (Bool.and (Nat.beq 1 1) (inI i n))
 (ae (Bool.and (Nat.ble (Nat.add (atN i 1) 1) c.length) (dw .string (ah c (atN i 1))))
 (ag (eqS (asS (ah c (atN i 1))) ⟨#[112,117,116]⟩)
 (ag (gtI (aB .i64 i 3) (af n))
 (ae (Nat.ble (Nat.add 0 (Nat.mul m 3)) d.length)
 (some ((.tuple ⟨[.int .i64 (-1),.iface 18446744073709551617 (.agg ⟨(.slice none n b)::c⟩),.iface 18446744073709551619 (.agg ⟨[.slice none 0 0]⟩),.bool false,.slice (Option.some (Addr.mk 0 0 none)) m 18446744073709551616,.int .i64 i]⟩),(mkSt [Blk.cells (renL true (rhoO 0 [2]) (takeC (Nat.mul m 3) (ak 0 d))) 74 false]))))
 (ae (Bool.and (Nat.beq 1 1) (inI (aB .i64 i 1) n))
 (ae (Bool.and (Nat.ble (Nat.add (atN (aB .i64 i 1) 1) 1) c.length) (dw .string (ah c (atN (aB .i64 i 1) 1))))
 (ae (Nat.ble (ByteArray.size (asS (ah c (atN (aB .i64 i 1) 1)))) 1000000)
 (ag (neI (G (asS (ah c (atN (aB .i64 i 1) 1)))) 0)
 (ae (Nat.ble (Nat.add 0 (Nat.mul m 3)) d.length)
 (some ((.tuple ⟨[.int .i64 (-1),.iface 18446744073709551617 (.agg ⟨(.slice none n b)::c⟩),.iface 18446744073709551619 (.agg ⟨[.slice none 0 0]⟩),.bool false,.slice (Option.some (Addr.mk 0 0 none)) m 18446744073709551616,.int .i64 i]⟩),(mkSt [Blk.cells (renL true (rhoO 0 [2]) (takeC (Nat.mul m 3) (ak 0 d))) 74 false]))))
 (ae (Bool.and (Nat.beq 1 1) (inI (aB .i64 i 2) n))
 (ae (Bool.and (Nat.ble (Nat.add (atN (aB .i64 i 2) 1) 1) c.length) (dw .string (ah c (atN (aB .i64 i 2) 1))))
 (ae (Nat.ble (ByteArray.size (asS (ah c (atN (aB .i64 i 2) 1)))) 1000000)
 (ag (neI (G (asS (ah c (atN (aB .i64 i 2) 1)))) 0)
 (ae (Nat.ble (Nat.add 0 (Nat.mul m 3)) d.length)
 (some ((.tuple ⟨[.int .i64 (-1),.iface 18446744073709551617 (.agg ⟨(.slice none n b)::c⟩),.iface 18446744073709551619 (.agg ⟨[.slice none 0 0]⟩),.bool false,.slice (Option.some (Addr.mk 0 0 none)) m 18446744073709551616,.int .i64 i]⟩),(mkSt [Blk.cells (renL true (rhoO 0 [2]) (takeC (Nat.mul m 3) (ak 0 d))) 74 false]))))
 (ae (Nat.ble (Nat.add m 1) 4194304)
 (ae (Nat.beq (Nat.add 0 (Nat.mul m 3)) d.length)
 (ae (Nat.ble (Nat.add 0 (Nat.mul (Nat.add m 1) 3)) (List.length (List.append (gI 0 d) [.bool true,.string (B (asS (ah c (atN (aB .i64 i 1) 1)))),.string (B (asS (ah c (atN (aB .i64 i 2) 1))))])))
 (some ((.tuple ⟨[.int .i64 0,.iface 18446744073709551617 (.agg ⟨(.slice none n b)::c⟩),.iface 18446744073709551619 (.agg ⟨[.slice none 0 0]⟩),.bool false,.slice (Option.some (Addr.mk 0 0 none)) (Nat.add m 1) 18446744073709551616,.int .i64 (aB .i64 i 3)]⟩),(mkSt [Blk.cells (renL true (rhoO 0 [4]) (takeC (Nat.mul (Nat.add m 1) 3) (ak 0 (List.append (gI 0 d) [.bool true,.string (B (asS (ah c (atN (aB .i64 i 1) 1)))),.string (B (asS (ah c (atN (aB .i64 i 2) 1))))])))) 74 false])))))))))))))))
 (ag (eqS (asS (ah c (atN i 1))) ⟨#[100,101,108]⟩)
 (ag (gtI (aB .i64 i 2) (af n))
 (ae (Nat.ble (Nat.add 0 (Nat.mul m 3)) d.length)
 (some ((.tuple ⟨[.int .i64 (-1),.iface 18446744073709551617 (.agg ⟨(.slice none n b)::c⟩),.iface 18446744073709551619 (.agg ⟨[.slice none 0 0]⟩),.bool false,.slice (Option.some (Addr.mk 0 0 none)) m 18446744073709551616,.int .i64 i]⟩),(mkSt [Blk.cells (renL true (rhoO 0 [2]) (takeC (Nat.mul m 3) (ak 0 d))) 74 false]))))
 (ae (Bool.and (Nat.beq 1 1) (inI (aB .i64 i 1) n))
 (ae (Bool.and (Nat.ble (Nat.add (atN (aB .i64 i 1) 1) 1) c.length) (dw .string (ah c (atN (aB .i64 i 1) 1))))
 (ae (Nat.ble (ByteArray.size (asS (ah c (atN (aB .i64 i 1) 1)))) 1000000)
 (ag (neI (G (asS (ah c (atN (aB .i64 i 1) 1)))) 0)
 (ae (Nat.ble (Nat.add 0 (Nat.mul m 3)) d.length)
 (some ((.tuple ⟨[.int .i64 (-1),.iface 18446744073709551617 (.agg ⟨(.slice none n b)::c⟩),.iface 18446744073709551619 (.agg ⟨[.slice none 0 0]⟩),.bool false,.slice (Option.some (Addr.mk 0 0 none)) m 18446744073709551616,.int .i64 i]⟩),(mkSt [Blk.cells (renL true (rhoO 0 [2]) (takeC (Nat.mul m 3) (ak 0 d))) 74 false]))))
 (ae (Nat.ble (Nat.add m 1) 4194304)
 (ae (Nat.beq (Nat.add 0 (Nat.mul m 3)) d.length)
 (ae (Nat.ble (Nat.add 0 (Nat.mul (Nat.add m 1) 3)) (List.length (List.append (gI 0 d) [.bool false,.string (B (asS (ah c (atN (aB .i64 i 1) 1)))),.string ⟨#[]⟩])))
 (some ((.tuple ⟨[.int .i64 0,.iface 18446744073709551617 (.agg ⟨(.slice none n b)::c⟩),.iface 18446744073709551619 (.agg ⟨[.slice none 0 0]⟩),.bool false,.slice (Option.some (Addr.mk 0 0 none)) (Nat.add m 1) 18446744073709551616,.int .i64 (aB .i64 i 2)]⟩),(mkSt [Blk.cells (renL true (rhoO 0 [4]) (takeC (Nat.mul (Nat.add m 1) 3) (ak 0 (List.append (gI 0 d) [.bool false,.string (B (asS (ah c (atN (aB .i64 i 1) 1)))),.string ⟨#[]⟩])))) 74 false])))))))))))
 (ae (Nat.ble (Nat.add 0 (Nat.mul m 3)) d.length)
 (some ((.tuple ⟨[.int .i64 (-1),.iface 18446744073709551617 (.agg ⟨(.slice none n b)::c⟩),.iface 18446744073709551619 (.agg ⟨[.slice none 0 0]⟩),.bool false,.slice (Option.some (Addr.mk 0 0 none)) m 18446744073709551616,.int .i64 i]⟩),(mkSt [Blk.cells (renL true (rhoO 0 [2]) (takeC (Nat.mul m 3) (ak 0 d))) 74 false]))))))))
 (ae (Nat.ble (Nat.add 0 (Nat.mul m 3)) d.length)
 (some ((.tuple ⟨[.int .i64 1,.iface 18446744073709551617 (.agg ⟨(.slice none n b)::c⟩),.iface 18446744073709551619 (.agg ⟨[.slice none 0 0]⟩),.bool false,.slice (Option.some (Addr.mk 0 0 none)) m 18446744073709551616,.int .i64 i]⟩),(mkSt [Blk.cells (renL true (rhoO 0 [1]) (takeC (Nat.mul m 3) (ak 0 d))) 74 false]))))):=by kernel_rfl
def aa7(LC CC:List Value->List Blk->Bool)(ok:Bool)(n:Nat)(c:List Value)(m:Nat)(d:List Value)(i:Int)(r:Int):Ct:=
 bH P 65 (fun args=>iL CC (.leaf (.int .i64 r,[])) args []) (dR P 81 0 Dro (iD LC (.ite ok (.leaf (.normal,[ai 1 n 0 c,ai 3 0 0 [], .bool false, .slice (some ⟨0,0,none⟩) m unk, .int .i64 i],[.cells d 74 false])) (.leaf (.ret,[ai 1 n 0 c,ai 3 0 0 [], .bool false, .slice (some ⟨0,0,none⟩) m unk, .int .i64 i],[.cells d 74 false])))) ctF)
theorem ZB(LC CC:List Value->List Blk->Bool)(ok:Bool)(n:Nat)(c:List Value)(m:Nat)(d:List Value)(i:Int)(r:Int):bn P E (aa7 LC CC ok n c m d i r) 50 aJ [.val, .val] [22,4] 0 81 [ai 1 n 0 c] [] =
 (ae (LC [.iface 18446744073709551617 (.agg ⟨(.slice none n 0)::c⟩),.iface 18446744073709551619 (.agg ⟨[.slice none 0 0]⟩),.bool false,.slice (Option.some (Addr.mk 0 0 none)) 0 18446744073709551616,.int .i64 0] [Blk.cells [] 74 false])
 (ag ok
 (ae (Bool.and (Nat.ble (Nat.add 0 (Nat.mul m 3)) (List.length (renL true (bZ [] 1) d))) (Nat.ble 1 3))
 (ae (bT (takeC (Nat.mul m 3) (ak 0 (renL true (bZ [] 1) d))))
 (ae (CC [.iface 18446744073709551619 (.agg ⟨(.slice none m 0)::(takeC (Nat.mul m 3) (ak 0 (renL true (bZ [] 1) d)))⟩)] [])
 (ae (ny P 0 m 18446744073709551616 (renL true (bZ [] 1) d) 74)
 (some ((.tuple ⟨[.iface 18446744073709551619 (.agg ⟨(.slice none m 0)::(takeC (Nat.mul m 3) (ak 0 (renL true (bZ [] 1) d)))⟩),.bool (eqI r 0)]⟩),(mkSt [])))))))
 (some ((.tuple ⟨[.iface 18446744073709551619 (.agg ⟨[.slice none 0 0]⟩),.bool false]⟩),(mkSt []))))):=by kernel_rfl
theorem Gn{ws:List ByteArray}{j:Nat}(h:j<ws.length):ah (ws.map Value.string) (atN (j:Int) 1) = .string ws[j]:=by
 have e:atN (j:Int) 1=j:=by simp[atN]
 rw[e];unfold ah;rw[List.getD_eq_getElem?_getD,List.getElem?_map,List.getElem?_eq_getElem h]; rfl
def roN:List ByteArray->Option (OpM×Nat)
 |w0::w1::tl=>match eqS w0 kX with
  |true=>match tl with
   |[]=>none
   |w2::_=>match eqI (byE w1) 0,eqI (byE w2) 0 with
    |true,true=>some (⟨true,byS w1,byS w2⟩,3)
    |_,_=>none
  |false=>match eqS w0 mP with
   |true=>match eqI (byE w1) 0 with
    |true=>some (⟨false,byS w1,⟨#[]⟩⟩,2)
    |false=>none
   |false=>none
 |_=>none
def roV(ws:List ByteArray)(n:Nat)(i:Int):List Value:=[fzS ws,aK [], .bool false, .slice (some ⟨0,0,none⟩) n unk, .int .i64 i]
def Ic:Ct:=abO byS byE
theorem Ii:CtOk P Ic:=aU aW WW
def WsS(ws:List ByteArray):Prop:=(∀ w∈ws,w.size<=1000000)/\ws.length<=4000000
theorem Jc(a b:Int):neI a b=!(eqI a b):=rfl
theorem Zv{ws:List ByteArray}{i:Nat}{out:List OpM}(hw:WsS ws)(hi:i<ws.length)(ho:out.length+1<=4194304) :
  aQ P E Ic 50 81 Bro Dro (roV ws out.length i) (gq out)=match roN (ws.drop i)with
   |some (o,k)=>some (.tuple ⟨exV .normal::roV ws (out++[o]).length ((i+k:Nat):Int)⟩,mkSt (gq (out++[o])))
   |none=>some (.tuple ⟨exV .ret::roV ws out.length i⟩,mkSt (gq out)):=by
 obtain⟨hs,hl⟩:=hw;unfold roV gq;have q:=Wj byS byE ws.length 0 (ws.map Value.string) out.length (EOp.all out) i;refine Eq.trans ?_ (q.trans ?_)
 ·rfl
 clear q;have hz:∀ (b:Bool),aK []=(Value.iface 18446744073709551619 (.agg ⟨[.slice none 0 0]⟩)):=fun _=>(fzO []).symm;have fs:(Value.iface 18446744073709551617 (.agg ⟨.slice none ws.length 0::ws.map Value.string⟩))=fzS ws:=by unfold fzS ai FZ; rfl
 have b3:∀ n,Nat.beq n n=true:=Nat.beq_refl;have b2:∀ n,Nat.ble n n=true:=fun n=>Nat.ble_eq_true_of_le (Nat.le_refl n);have t1:Nat.ble (Nat.add out.length 1) 4194304=true:=Nat.ble_eq_true_of_le ho;have ol:∀ o:OpM,(out++[o]).length=Nat.add out.length 1:=fun o=>by simp
 have os:∀ o:OpM,takeC (Nat.mul (Nat.add out.length 1) 3) (ak 0 (EOp.all (out++[o])))=EOp.all (out++[o]):=fun o=>mD (ol o).symm;have g1:ltI (i:Int) (af ws.length)=true:=fO hi;have ad:∀ k:Nat,k<=3->aB .i64 (i:Int) (k:Int)=((i+k:Nat):Int):=fun k hk=>by unfold aB; rw[wrap64 (by omega) (by omega)]; omega
 have a1:aB .i64 (i:Int) 1=((i+1:Nat):Int):=ad 1 (by omega);have a2:aB .i64 (i:Int) 2=((i+2:Nat):Int):=ad 2 (by omega);have a3:aB .i64 (i:Int) 3=((i+3:Nat):Int):=ad 3 (by omega);have nb:∀ j:Nat,j<ws.length->Nat.ble (Nat.add (atN (j:Int) 1) 1) ws.length=true:=fun j hj=>Nat.ble_eq_true_of_le (by
  show(j:Int).toNat*1+1<=ws.length;omega)
 have sz:∀ (j:Nat) (hj:j<ws.length),Nat.ble (ByteArray.size ws[j]) 1000000=true:=fun j hj=>Nat.ble_eq_true_of_le (hs _ (List.getElem_mem hj));have gt:∀ k:Nat,gtI ((i+k:Nat):Int) (af ws.length)=decide (ws.length<i+k):=fun k=>by
  unfold gtI af;exact decide_eq_decide.2 (by omega)
 simp only[g1,a1,a2,a3,kC,bD hi,nb i hi,Gn hi,fV,fU,b3,b2,pG,iP,mD rfl,Enc.all_ren,gt,Bool.and_self,az,aA,fs];rw[List.drop_eq_getElem_cons hi];have d2:∀ {p:Prop} [Decidable p],p->decide p=true:=fun h=>decide_eq_true h;have d0:∀ {p:Prop} [Decidable p],¬p->decide p=false:=fun h=>decide_eq_false h;by_cases h1:i+1<ws.length
 ·rw[List.drop_eq_getElem_cons h1];have e2:¬ws.length<i+2:=by omega
  simp only[d0 e2,bD h1,nb _ h1,Gn h1,fV,fU,sz _ h1,Bool.and_self,aA,ax,Jc];by_cases h2:i+2<ws.length
  ·rw[List.drop_eq_getElem_cons h2];have e3:¬ws.length<i+3:=by omega
   simp only[d0 e3,bD h2,nb _ h2,Gn h2,fV,fU,sz _ h2,Bool.and_self,aA,ax,Lp,pG,ol,b2,b3,t1,iP,os,Enc.all_ren,roN];cases hp:eqS ws[i] kX with
   |true=>
    have hp:eqS ws[i] ⟨#[112,117,116]⟩=true:=hp;rw[hp];cases eqI (byE ws[i+1]) 0 with
    |false=>rw[hz true]; rfl
    |true=>
     cases eqI (byE ws[i+2]) 0 with
     |false=>rw[hz true]; rfl
     |true=>simp only[ol]; rw[hz true]; rfl
   |false=>
    have hp:eqS ws[i] ⟨#[112,117,116]⟩=false:=hp;rw[hp];cases hq:eqS ws[i] mP with
    |false=>
     have hq:eqS ws[i] ⟨#[100,101,108]⟩=false:=hq;rw[hq,hz true]; rfl
    |true=>
     have hq:eqS ws[i] ⟨#[100,101,108]⟩=true:=hq;rw[hq];cases eqI (byE ws[i+1]) 0 with
     |false=>rw[hz true]; rfl
     |true=>simp only[ol]; rw[hz true]; rfl
  ·have e3:ws.length<i+3:=by omega
   rw[List.drop_of_length_le (show ws.length<=i+1+1 by omega)];simp only[d2 e3,Lp,pG,ol,b2,b3,t1,iP,os,Enc.all_ren,az,aA,roN];cases hp:eqS ws[i] kX with
   |true=>
    have hp:eqS ws[i] ⟨#[112,117,116]⟩=true:=hp;rw[hp,hz true]; rfl
   |false=>
    have hp:eqS ws[i] ⟨#[112,117,116]⟩=false:=hp;rw[hp];cases hq:eqS ws[i] mP with
    |false=>
     have hq:eqS ws[i] ⟨#[100,101,108]⟩=false:=hq;rw[hq,hz true]; rfl
    |true=>
     have hq:eqS ws[i] ⟨#[100,101,108]⟩=true:=hq;rw[hq];cases eqI (byE ws[i+1]) 0 with
     |false=>rw[hz true]; rfl
     |true=>simp only[ol]; rw[hz true]; rfl
 ·rw[List.drop_of_length_le (show ws.length<=i+1 by omega)];have e2:ws.length<i+2:=by omega
  have e3:ws.length<i+3:=by omega
  simp only[d2 e2,d2 e3,az,aA,roN,hz true];cases eqS ws[i] ⟨#[112,117,116]⟩with
  |true=>rfl
  |false=>cases eqS ws[i] ⟨#[100,101,108]⟩<;>rfl
theorem adY{ws:List ByteArray}{i:Nat}{out:List OpM}(h:ws.length<=i):aQ P E Ic 50 81 Bro Dro (roV ws out.length i) (gq out)=some (.tuple ⟨exV (.exit 0)::roV ws out.length i⟩,mkSt (gq out)):=by
 unfold roV gq;have q:=Wj byS byE ws.length 0 (ws.map Value.string) out.length (EOp.all out) i;refine Eq.trans ?_ (q.trans ?_)
 ·rfl
 clear q;have b2:∀ n,Nat.ble n n=true:=fun n=>Nat.ble_eq_true_of_le (Nat.le_refl n);have g1:ltI (i:Int) (af ws.length)=false:=by unfold ltI af; exact decide_eq_false (by omega)
 have fs:(Value.iface 18446744073709551617 (.agg ⟨.slice none ws.length 0::ws.map Value.string⟩))=fzS ws:=by unfold fzS ai FZ; rfl
 simp only[g1,b2,pG,iP,mD rfl,Enc.all_ren,ax,aA,fs];rw[<-fzO []]
 rfl
end Go.VS.Tryz
end

noncomputable section
namespace Go.VS

section
variable{P:Program}{ct:Ct}{K:Prot}
def OT(P:Program)(E:Eng)(ct:Ct)(n0:Nat)(kn:Knot):Tv:=fun g args st k=>match qi P g with
 |none=>none
 |some fb=>oC P E ct n0 kn g (max fb.1.ntmps args.length) none fb.2 (TE args 0 .leaf) [] st fun e s d st=>
   @Ex.rec (fun _=>Res) (Ig P ct kn fb.1.results.toList k s d st) (fun _=>none) (Ig P ct kn fb.1.results.toList k s d st) e
def Bl(P:Program)(ct:Ct)(n:Nat)(g:FuncId)(args:List Value)(st:St):Option (Value×St):=match P.funcs[g]? with
 |none=>none
 |some fn=>match fn.body with
  |none=>none
  |some c=>match aP P ct n g c { slots:=jJ args 0 .leaf,ntmps:=max fn.ntmps args.length,defers:=[] } st with
   |some (.normal,f,st) | some (.ret,f,st)=>match dM P ct n f.defers st with
    |some st=>match lT P fn f st with
     |some vs=>some (kN vs,st)
     |none=>none
    |none=>none
   |_=>none
theorem Y4{E:Eng}(hE:EngOk P ct E)(n0:Nat){kn:Knot}(hkn:CallOk P ct kn):∀ g args st k r,OT P E ct n0 kn g args st k=some r->∃ n v st',Bl P ct n g args st=some (v,st')/\k v st'=some r:=by
 intro g args st k r h;unfold OT at h;unfold qi at h;rw[wu]at h;split at h
 ·cases h
 ·rename_i fb hfb;split at hfb
  ·rename_i fn hfn;split at hfb
   ·rename_i c hcb;obtain rfl:=Option.some.inj hfb;obtain⟨m,e,s1,d1,st1,h1,h⟩:=iY hE hkn n0 g _ none c _ _ _ _ _ h;rw[H7]at h1;have done:(e = .normal\/e = .ret)->Ig P ct kn fn.results.toList k s1 d1 st1=some r->∃ n v st',Bl P ct n g args st=some (v,st')/\k v st'=some r:=by
     intro he h;obtain⟨n2,st2,h2,h⟩:=tH hkn _ _ _ _ h;obtain⟨vs,h3,h4⟩:=vX (nt:=max fn.ntmps args.length) (d:=d1) _ _ h;refine⟨max m n2,kN vs,st2,?_,h4⟩;have e1:=(h_ (Nat.le_max_left m n2)).1 _ _ _ _ _ h1;have e2:=(h_ (Nat.le_max_right m n2)).2.2.2.2.1 _ _ _ h2;have h3':lT P fn ⟨s1,max fn.ntmps args.length,d1,none⟩ st2=some vs:=h3;rcases he with rfl | rfl<;>simp only[Bl,hfn,hcb,e1,e2,h3']
    cases e with
    |normal=>exact done (Or.inl rfl) h
    |ret=>exact done (Or.inr rfl) h
    |exit id=>cases h
   ·cases hfb
  ·cases hfb
theorem Ue{n:Nat}(ih:Snd P ct K n):∀ g args st v st',Bl P ct n g args st=some (v,st')->∀ Y w args' cs,VRL Y args args'.toList->Rel P K Y st w->lL P K Y g args' .normal cs w v st':=by
 intro g args st v st' h Y w args' cs ha hr;generalize hkd:(CallKind.normal)=kind;unfold Bl at h;split at h
 ·cases h
 ·rename_i fn hfn;split at h
  ·cases h
  ·rename_i c hb;have hl:=ha.length;have henter:Frame.enter P g args' kind={ fn:=g,tmps:=args'++Array.replicate (fn.ntmps-args'.size) undef,todo:=[.code c],defers:=[],mode:= .run,kind }:=by
    simp[Frame.enter,hfn,hb]
   have hf0:FrR Y { slots:=jJ args 0 .leaf,ntmps:=max fn.ntmps args.length,defers:=[] } (Frame.enter P g args' kind):=by
    rw[henter];exact⟨Ed ha fn.ntmps,rfl,rfl,rfl⟩
   have fin:∀ {e:Ex} {f:Fr} {st1:St},aP P ct n g c { slots:=jJ args 0 .leaf,ntmps:=max fn.ntmps args.length,defers:=[] } st=some (e,f,st1)->(e = .normal\/e = .ret)->
     (match dM P ct n f.defers st1 with
      |some st=>match lT P fn f st with
       |some vs=>some (kN vs,st)
       |none=>none
      |none=>none)=some (v,st')->lL P K Y g args' kind cs w v st':=by
    intro e f st1 hcode he h;obtain⟨Y1,fr1,w1,h1,h2,h3,h4,h5,h6,h7,h8,h9⟩:=ih.code g c _ st e f st1 hcode ⟨fn,c,hfn,hb, .refl _⟩ Y w (Frame.enter P g args' kind) cs [] (by rw[henter]) (by rw[henter]) hf0 hr;have hro:fr1.roundOf=none:=by rw[h8,henter]
    have hs1:step P (lone fr1 cs w1) = .next (lone { fr1 with mode:= .returning } cs w1):=by
     rcases he with rfl | rfl
     ·exact D5 h5.mode h9 hro
     ·obtain⟨k2,h9⟩:=h9; exact Ea h5.mode h9 hro
    split at h
    ·rename_i st2 hdef;obtain⟨Y2,w2,t1,t2,t3,t4⟩:=ih.defers f.defers st1 st2 hdef Y1 w1 { fr1 with mode:= .returning } cs rfl h5.defers h3;split at h
     ·rename_i vs hres;simp at h;obtain⟨rfl,rfl⟩:=h;obtain⟨v',r1,r2⟩:=Eg t3 (tmps:=fr1.tmps) (h5.slots.mono t2) hres;refine⟨Y2,{ fr1 with mode:= .returning,defers:=[] },w2,v',(h1.trans (.one hs1)).trans t1,h2.trans t2,t3,h4.trans t4,r2,rfl,rfl,?_,?_,fn,hfn,r1⟩
      ·show fr1.kind=kind; rw[h6,henter]
      ·show fr1.fn=g; rw[h7,henter]
     ·cases h
    ·cases h
   split at h
   ·rename_i f st1 hcode;exact fin hcode (Or.inl rfl) h
   ·rename_i f st1 hcode;exact fin hcode (Or.inr rfl) h
   ·cases h
def Nc(P:Program)(E:Eng)(ct:Ct)(n:Nat)(g:FuncId)(args:List Value):Res:=OT P E ct n (oI P E ct n n) g args (start 0) Ld
theorem CR.ofB{E:Eng}(hE:EngOk P ct E)(hN:noNum P=true)(hct:CtOk P ct){n:Nat}{g:FuncId}{args:List Value}{v:Value}{bs:List Blk}(h:Nc P E ct n g args=some (v,mkSt bs)):CR P g args v bs:=by
 intro w args' cs obs hG ha;unfold Nc at h;obtain⟨m,v1,st1,h1,h2⟩:=Y4 hE n (jc hE n n) _ _ _ _ _ h;obtain⟨Y1,fr,w1,v',a1,a2,a3,a4,a5,a6⟩:=Ue (eX hN hct m (K0 w obs)) g args (start 0) v1 st1 h1 (envOf w) w args' cs ha (oZ w obs hG);unfold Ld at h2;split at h2
 ·rename_i ms hm;simp only[Option.some.injEq,Prod.mk.injEq]at h2;obtain⟨rfl,hst⟩:=h2;obtain⟨m1,m2,m3⟩:=kH hm;simp only[cu]at m2 m3;have hren:RenOk true (rhoO 0 (o_ v1)) Y1 (iM 0 (o_ v1) Y1):=by
   refine⟨fun b b' l hb hl=>?_,fun _ k l h=>h⟩;unfold rhoO at hb;split at hb
   ·rename_i j hj;obtain rfl:=Option.some.inj hb;obtain⟨k,rfl,hk⟩:=oP _ _ _ _ hj;show(if 0+k<0 then Y1 ((0+k:Nat):Int)else match(o_ v1)[0+k-0]? with | some b=>Y1 (b:Int) | none=>none)=_;rw[if_neg (by omega),show 0+k-0=k by omega,hk]; exact hl
   ·split at hb
    ·rename_i hle;exact absurd (Nat.le_of_ble_eq_true hle) (by omega)
    ·cases hb
  have hmid:=kG (N:=0) (src:=o_ v1) a3 (fun i hi=>hi.elim) (Nat.zero_le _) m1 m2;refine⟨iM 0 (o_ v1) Y1,fr,w1,v',a1,?_,?_,a4,iK hren _ _ a5,a6⟩
  ·intro i l hi;cases i with
   |ofNat i=>cases hi
   |negSucc k=>exact a2 _ _ hi
  ·rw[<-hst,m3]; exact hmid
 ·cases h2
end
end Go.VS
end

noncomputable section
namespace Go.VS.Tryz
open Go.VS
set_option maxRecDepth 1000000
def Drn:HeadX:=⟨0,49,[0,2,3,4,5],[.val, .val, .val, .val, .val],[],aJ⟩
def Brn:Code:=(bK P 94 0).getD .skip
theorem LP:bK P 94 0=some Brn:=by kernel_rfl
theorem IR:Occ P 94 (.block 0 (.loop Brn)):=dA LP
theorem XG(s:ByteArray)(n i:Int):aQ P E ctF 50 94 Brn Drn [.string s, .int .i64 0, .bool false, .int .i64 n, .int .i64 i] [] =
 (ag (ltI i (af s.size))
 (ae (inI i s.size)
 (ag (ltI (bAt s i) 48)
 (some ((.tuple ⟨[.int .i64 (-1),.string s,.int .i64 0,.bool false,.int .i64 n,.int .i64 i]⟩),(mkSt [])))
 (ae (inI i s.size)
 (ag (gtI (bAt s i) 57)
 (some ((.tuple ⟨[.int .i64 (-1),.string s,.int .i64 0,.bool false,.int .i64 n,.int .i64 i]⟩),(mkSt [])))
 (ae (inI i s.size)
 (some ((.tuple ⟨[.int .i64 0,.string s,.int .i64 0,.bool false,.int .i64 (aB .i64 (BQ .i64 10 n) (cvI .i64 (uZ .u8 (bAt s i) 48))),.int .i64 (aB .i64 i 1)]⟩),(mkSt []))))))))
 (some ((.tuple ⟨[.int .i64 1,.string s,.int .i64 0,.bool false,.int .i64 n,.int .i64 i]⟩),(mkSt [])))):=by kernel_rfl
def ab5(LC:List Value->List Blk->Bool)(ok:Bool)(s:ByteArray)(n i:Int):Ct:=dR P 94 0 Drn (iD LC (.ite ok (.leaf (.normal,[.string s, .int .i64 0, .bool false, .int .i64 n, .int .i64 i],[])) (.leaf (.ret,[.string s, .int .i64 0, .bool false, .int .i64 n, .int .i64 i],[])))) ctF
theorem Zw(LC:List Value->List Blk->Bool)(ok:Bool)(s:ByteArray)(n i:Int):bn P E (ab5 LC ok s n i) 50 aJ [] [] 0 94 [.string s] [] =
 (ag (ltI (af s.size) 1)
 (some ((.tuple ⟨[.int .i64 0,.bool false]⟩),(mkSt [])))
 (ag (gtI (af s.size) 9)
 (some ((.tuple ⟨[.int .i64 0,.bool false]⟩),(mkSt [])))
 (ae (inI 0 s.size)
 (ag (eqI (bAt s 0) 48)
 (ag (gtI (af s.size) 1)
 (some ((.tuple ⟨[.int .i64 0,.bool false]⟩),(mkSt [])))
 (ae (LC [.string s,.int .i64 0,.bool false,.int .i64 0,.int .i64 0] [])
 (ag ok
 (some ((.tuple ⟨[.int .i64 n,.bool true]⟩),(mkSt [])))
 (some ((.tuple ⟨[.int .i64 0,.bool false]⟩),(mkSt []))))))
 (ae (LC [.string s,.int .i64 0,.bool false,.int .i64 0,.int .i64 0] [])
 (ag ok
 (some ((.tuple ⟨[.int .i64 n,.bool true]⟩),(mkSt [])))
 (some ((.tuple ⟨[.int .i64 0,.bool false]⟩),(mkSt []))))))))):=by kernel_rfl
def aba(C:Int->Bool)(F:Int->ByteArray):Ct:=bH P 68 (nI C F) jR
theorem adp(C:Int->Bool)(F:Int->ByteArray)(n:Int):Nc P E (aba C F) 50 68 [.int .i64 n] =
 (ag (ltI n 10)
 (ae (eP n (aB .i64 n 1) 10)
 (some ((.string (iC ⟨#[48,49,50,51,52,53,54,55,56,57]⟩ n (aB .i64 n 1))),(mkSt []))))
 (ae (C (xq .i64 n 10))
 (ae (C (xk n 10))
 (ae (bI (F (xq .i64 n 10)) (F (xk n 10)))
 (some ((.string (aj (F (xq .i64 n 10)) (F (xk n 10)))),(mkSt []))))))):=by kernel_rfl
def dgC(k:Nat)(n:Int):Bool:=and (leI 0 n) (ltI n k)
theorem sU{k:Nat}{n:Int}:dgC k n=true↔0<=n/\n<k:=by
 unfold dgC leI ltI;rw[Bool.and_eq_true,decide_eq_true_eq,decide_eq_true_eq]
theorem aaR{u:Nat}(h:u<10):iC ⟨#[48,49,50,51,52,53,54,55,56,57]⟩ (u:Int) ((u+1:Nat):Int)=bF (u:Int):=by
 refine lZ ?_;rw[rD,Lib.decDigits_one h,yB (by omega) (by show u+1<=10; omega)];have:∀ i:Fin 10,(([48,49,50,51,52,53,54,55,56,57]:List UInt8).drop i.val).take (i.val+1-i.val)=[UInt8.ofNat (48+i.val)]:=by decide
 exact this ⟨u,h⟩
theorem ZX{k n:Nat}(hR:CallOkR P 68 (nI (dgC k) bF))(hn:n<10\/(10<=k/\n<10*k))(hn2:n<=999999999):CR P 68 [.int .i64 n] (.string (bF (n:Int))) []:=by
 refine CR.ofB (aF (aba (dgC k) bF)) au (aU (je P) hR) (n:=50) ((adp (dgC k) bF n).trans ?_);have a1:aB .i64 (n:Int) 1=((n+1:Nat):Int):=by unfold aB; rw[wrap64 (by omega) (by omega)]; omega
 by_cases h:n<10
 ·have g1:ltI (n:Int) 10=true:=by unfold ltI; exact decide_eq_true (by omega)
  have g2:eP (n:Int) ((n+1:Nat):Int) 10=true:=mi (by omega) (by omega) (by omega);rw[g1,a1,g2,aaR h]
  rfl
 ·have g1:ltI (n:Int) 10=false:=by unfold ltI; exact decide_eq_false (by omega)
  have eq:xq .i64 (n:Int) 10=((n / 10:Nat):Int):=by
   unfold xq;have:Int.tdiv (n:Int) 10=((n / 10:Nat):Int):=by rw[Int.tdiv_eq_ediv_of_nonneg (by omega)]; omega
   rw[this,wrap64 (by omega) (by omega)]
  have er:xk (n:Int) 10=((n % 10:Nat):Int):=by
   unfold xk;rw[Int.tmod_eq_emod_of_nonneg (by omega)]; omega
  have c1:dgC k ((n / 10:Nat):Int)=true:=sU.2 ⟨by omega,by omega⟩;have c2:dgC k ((n % 10:Nat):Int)=true:=sU.2 ⟨by omega,by omega⟩;have f1:bI (bF ((n / 10:Nat):Int)) (bF ((n % 10:Nat):Int))=true:=by
   have z1:=CG (u:=n / 10) (by omega);have z2:=CG (u:=n % 10) (by omega);unfold bI;exact Nat.ble_eq_true_of_le (by show(bF ((n / 10:Nat):Int)).size+(bF ((n % 10:Nat):Int)).size<=_; omega)
  have e3:aj (bF ((n / 10:Nat):Int)) (bF ((n % 10:Nat):Int))=bF (n:Int):=by
   refine lZ ?_;rw[jf,rD,rD,rD]
   conv=>rhs; rw[Lib.decDigits]
   rw[dif_neg h,Lib.decDigits_one (Nat.mod_lt _ (by decide))]
  rw[g1,eq,er];refine Eq.trans ax ?_;rw[c1,c2,f1,e3]
  rfl
theorem WI{k j:Nat}(hk:j<=10\/(10<=k/\j<=10*k))(hj:j<=1000000000)(hR:CallOkR P 68 (nI (dgC k) bF)):CallOkR P 68 (nI (dgC j) bF):=by
 refine⟨fun args t hR' v bs hev=>?_⟩;unfold nI at hR';split at hR'
 ·rename_i n;obtain rfl:=Option.some.inj hR';cases hc:dgC j n with
  |false=>rw[hc]at hev; cases hev
  |true=>
   rw[hc]at hev;simp only[DT.eval,Option.some.injEq,Prod.mk.injEq]at hev;obtain⟨rfl,rfl⟩:=hev;obtain⟨h1,h2⟩:=sU.1 hc;obtain⟨u,rfl⟩:∃ u:Nat,n=(u:Int):=⟨n.toNat,by omega⟩
   exact ZX hR (by omega) (by omega)
 ·cases hR'
theorem Zj:CallOkR P 68 (nI (dgC 0) bF):=by
 refine⟨fun args t hR' v bs hev=>?_⟩;unfold nI at hR';split at hR'
 ·rename_i n;obtain rfl:=Option.some.inj hR';have hc:dgC 0 n=false:=by
   cases hc:dgC 0 n with
   |false=>rfl
   |true=>have:=sU.1 hc; omega
  rw[hc]at hev; cases hev
 ·cases hR'
theorem XI:CallOkR P 68 (nI (dgC 1000000000) bF):=by
 have o1:=WI (j:=10) (Or.inl (by omega)) (by omega) Zj;have st:∀ k,10<=k->k<=100000000->CallOkR P 68 (nI (dgC k) bF)->CallOkR P 68 (nI (dgC (10*k)) bF):=fun k h1 h2=>WI (Or.inr ⟨h1,Nat.le_refl _⟩) (by omega);exact st 100000000 (by omega) (by omega) (st 10000000 (by omega) (by omega) (st 1000000 (by omega) (by omega) (st 100000 (by omega) (by omega) (st 10000 (by omega) (by omega) (st 1000 (by omega) (by omega) (st 100 (by omega) (by omega) (st 10 (by omega) (by omega) o1)))))))
def rnV(s:ByteArray)(n i:Int):List Value:=[.string s, .int .i64 0, .bool false, .int .i64 n, .int .i64 i]
def dgI(x:Int):Bool:=match ltI x 48,gtI x 57 with
 |false,false=>true
 |_,_=>false
theorem aae{s:ByteArray}{i n:Nat}(hi:i<s.size)(hs:s.size<=9)(hn:n<=99999999):aQ P E ctF 50 94 Brn Drn (rnV s n i) []=match Lib.digitVal ((bl s)[i]'(by rw[bY]; exact hi))with
  |some d=>some (.tuple ⟨exV .normal::rnV s ((n*10+d:Nat):Int) ((i+1:Nat):Int)⟩,mkSt [])
  |none=>some (.tuple ⟨exV .ret::rnV s n i⟩,mkSt []):=by
 unfold rnV;rw[XG];have g1:ltI (i:Int) (af s.size)=true:=by unfold ltI af; exact decide_eq_true (by omega)
 have a1:aB .i64 (i:Int) 1=((i+1:Nat):Int):=by unfold aB; rw[wrap64 (by omega) (by omega)]; omega
 simp only[g1,bD hi,a1,x9 hi,az,aA];generalize (bl s)[i]'(by rw[bY]; exact hi)=b;unfold Lib.digitVal;by_cases h1:b.toNat<48
 ·have e1:ltI (b.toNat:Int) 48=true:=by unfold ltI; exact decide_eq_true (by omega)
  rw[e1,if_neg (by omega)]; rfl
 ·have e1:ltI (b.toNat:Int) 48=false:=by unfold ltI; exact decide_eq_false (by omega)
  rw[e1];refine Eq.trans ax ?_;by_cases h2:b.toNat<=57
  ·have e2:gtI (b.toNat:Int) 57=false:=by unfold gtI; exact decide_eq_false (by omega)
   have e3:aB .i64 (BQ .i64 10 (n:Int)) (cvI .i64 (uZ .u8 (b.toNat:Int) 48))=((n*10+(b.toNat-48):Nat):Int):=by
    have w8:uZ .u8 (b.toNat:Int) 48=((b.toNat-48:Nat):Int):=by
     unfold uZ;have:(b.toNat:Int)-48=((b.toNat-48:Nat):Int):=by omega
     rw[this];have hb:∀ m:Fin 256,IntKind.u8.wrap (m.val:Int)=m.val:=by decide +kernel
     exact hb ⟨b.toNat-48,by omega⟩
    rw[w8];unfold aB BQ cvI;rw[wrap64 (n:=((b.toNat-48:Nat):Int)) (by omega) (by omega),wrap64 (n:=10*(n:Int)) (by omega) (by omega),wrap64 (by omega) (by omega)];omega
   rw[e2,if_pos ⟨by omega,h2⟩,e3]; rfl
  ·have e2:gtI (b.toNat:Int) 57=true:=by unfold gtI; exact decide_eq_true (by omega)
   rw[e2,if_neg (by omega)]; rfl
theorem afc{s:ByteArray}{n:Int}:aQ P E ctF 50 94 Brn Drn (rnV s n s.size) []=some (.tuple ⟨exV (.exit 0)::rnV s n s.size⟩,mkSt []):=by
 unfold rnV;rw[XG];have g1:ltI (s.size:Int) (af s.size)=false:=by unfold ltI af; exact decide_eq_false (by omega)
 rw[g1]; rfl
def rnM:List UInt8->Nat->Nat->Bool×Nat×Nat
 |[],n,i=>(true,n,i)
 |b::l,n,i=>match Lib.digitVal b with
  |some d=>rnM l (n*10+d) (i+1)
  |none=>(false,n,i)
def aga:Bool->Ex
 |true=> .normal
 |false=> .ret
theorem QB(s:ByteArray)(hs:s.size<=9):∀ (k i n:Nat),i+k=s.size->n<10^i->
  LRX P 94 0 Brn Drn.head (rnV s n i) [] (aga (rnM ((bl s).drop i) n i).1) (rnV s (rnM ((bl s).drop i) n i).2.1 (rnM ((bl s).drop i) n i).2.2) []
 |0,i,n,h,hn=>by
  obtain rfl:i=s.size:=by omega
  rw[List.drop_of_length_le (by rw[bY]; exact Nat.le_refl _)];exact LRX.stop (n:=50) (aF ctF) au aW IR (e:= .exit 0) afc (by intro h; cases h)
 |k+1,i,n,h,hn=>by
  have hi:i<s.size:=by omega
  have hp:10^i<=10^8:=Nat.pow_le_pow_right (by decide) (by omega)
  have q:=aae (n:=n) hi hs (by
   have:(10:Nat)^8=100000000:=by decide
   omega)
  rw[List.drop_eq_getElem_cons (by rw[bY]; exact hi)];simp only[rnM];cases hd:Lib.digitVal ((bl s)[i]'(by rw[bY]; exact hi))with
  |some d=>
   rw[hd]at q;have hd9:d<10:=by
    unfold Lib.digitVal at hd;split at hd
    ·have:=Option.some.inj hd; omega
    ·cases hd
   exact LRX.again (n:=50) (aF ctF) au aW IR q (QB s hs k (i+1) (n*10+d) (by omega) (by rw[Nat.pow_succ]; omega))
  |none=>
   rw[hd]at q;exact LRX.stop (n:=50) (aF ctF) au aW IR (e:= .ret) q (by intro h; cases h)
def kRn:Con ByteArray where
 enc s:=(rnV s 0 0,[])
 ok s:=s.size<=9
 inj a b h:=by
  unfold rnV at h;simp only[Prod.mk.injEq,List.cons.injEq,Value.string.injEq,true_and,and_true]at h;exact h
 dflt:=default
def aez(s:ByteArray):DT (Ex×List Value×List Blk):= .ite (rnM (bl s) 0 0).1 (.leaf (.normal,rnV s (rnM (bl s) 0 0).2.1 (rnM (bl s) 0 0).2.2,[])) (.leaf (.ret,rnV s (rnM (bl s) 0 0).2.1 (rnM (bl s) 0 0).2.2,[]))
theorem Yd:LoopOkX P 94 0 Brn Drn.head (kP kRn.C kRn.D aez):=
 fQ kRn (bz LP) fun s ho e vs' bs' hev=>by
  have q:=QB s ho s.size 0 0 (by omega) (by decide);rw[List.drop_zero]at q;unfold aez at hev;cases hb:(rnM (bl s) 0 0).1<;>(rw[hb]at hev q; simp only[DT.eval,Option.some.injEq,Prod.mk.injEq]at hev; obtain⟨rfl,rfl,rfl⟩:=hev; exact q)
theorem Js:∀ (l:List UInt8) (n i:Nat),match Lib.decFrom n l with | some v=>(rnM l n i).1=true/\(rnM l n i).2.1=v | none=>(rnM l n i).1=false
 |[],n,i=>⟨rfl,rfl⟩
 |b::l,n,i=>by
  have ih:=fun d=>Js l (n*10+d) (i+1);simp only[Lib.decFrom,rnM];cases Lib.digitVal b with
  |none=>rfl
  |some d=>exact ih d
theorem MN{b:UInt8}{d:Nat}(h:Lib.digitVal b=some d):d<10/\b=UInt8.ofNat (48+d):=by
 unfold Lib.digitVal at h;split at h
 ·rename_i hb;have:=Option.some.inj h;refine⟨by omega,UInt8.toNat_inj.1 ?_⟩;simp; omega
 ·cases h
theorem Q3:∀ (l:List UInt8) (acc v:Nat),0<acc->Lib.decFrom acc l=some v->Lib.decDigits v=Lib.decDigits acc++l
 |[],acc,v,_,h=>by
  obtain rfl:=Option.some.inj h;simp
 |b::l,acc,v,ha,h=>by
  simp only[Lib.decFrom]at h;cases hd:Lib.digitVal b with
  |none=>rw[hd]at h; cases h
  |some d=>
   rw[hd]at h;obtain⟨h1,h2⟩:=MN hd;rw[Q3 l (acc*10+d) v (by omega) h]
   conv=>lhs; rw[Lib.decDigits]
   rw[dif_neg (by omega),h2,show(acc*10+d) / 10=acc by omega,show(acc*10+d) % 10=d by omega,List.append_assoc]
   rfl
theorem Zm:∀ u:Nat,0<u->∀ b r,Lib.decDigits u=b::r->b≠48:=by
 intro u
 induction u using Nat.strongRecOn with
 |ind u ih=>
  intro hu b r h;rw[Lib.decDigits]at h;split at h
  ·rename_i hlt;simp only[List.cons.injEq]at h;rw[<-h.1];intro e;have:=congrArg UInt8.toNat e;simp at this;omega
  ·rename_i hlt;cases hd:Lib.decDigits (u / 10)with
   |nil=>exact absurd hd (vC _)
   |cons c t=>
    rw[hd]at h;simp only[List.cons_append,List.cons.injEq]at h;rw[<-h.1];exact ih (u / 10) (by omega) (by omega) c t hd
def fP(s:ByteArray):Bool:=match ltI (af s.size) 1,gtI (af s.size) 9,eqI (bAt s 0) 48&&gtI (af s.size) 1 with
 |false,false,false=>(rnM (bl s) 0 0).1
 |_,_,_=>false
def iq(s:ByteArray):Int:=match fP s with
 |true=>(rnM (bl s) 0 0).2.1
 |false=>0
theorem rf(s:ByteArray):fP s=bG s 999999999/\(bG s 999999999=true->iq s=dE s):=by
 have key:bG s 999999999=true->fP s=true/\iq s=dE s:=by
  intro h;obtain⟨h1,h2,h3,h4⟩:=qg h;obtain⟨u,hu⟩:∃ u:Nat,dE s=(u:Int):=⟨(dE s).toNat,by omega⟩
  have hb:bl s=Lib.decDigits u:=by rw[<-h3,hu,rD]
  have hl:s.size=(Lib.decDigits u).length:=by rw[<-bY,hb]
  have hpos:1<=s.size:=by rw[hl,Lib.decDigits_length]; exact Lib.nDigits_pos u
  have g1:ltI (af s.size) 1=false:=by unfold ltI af; exact decide_eq_false (by omega)
  have g2:gtI (af s.size) 9=false:=by unfold gtI af; exact decide_eq_false (by omega)
  have g3:(eqI (bAt s 0) 48&&gtI (af s.size) 1)=false:=by
   cases hq:gtI (af s.size) 1 with
   |false=>rw[Bool.and_false]
   |true=>
    unfold gtI af at hq;have hq:=of_decide_eq_true hq;have hu0:0<u:=by
     apply Nat.pos_of_ne_zero;intro e;rw[e]at hl;have:(Lib.decDigits 0).length=1:=by rw[Lib.decDigits_length,Lib.nDigits_small (by decide)]
     omega
    rw[Bool.and_true];have hlt:0<s.size:=by omega
    have e0:bAt s 0=(((bl s)[0]'(by rw[bY]; exact hlt)).toNat:Int):=x9 (i:=0) hlt;rw[e0];have hne:(bl s)[0]'(by rw[bY]; exact hlt)≠48:=by
     obtain⟨c,t,hd⟩:∃ c t,bl s=c::t:=by
      cases hd:bl s with
      |nil=>have:=congrArg List.length hd; rw[bY]at this; simp only[List.length_nil]at this; omega
      |cons c t=>exact⟨c,t,rfl⟩
     simp only[hd,List.getElem_cons_zero];exact Zm u hu0 c t (by rw[<-hb,hd])
    have:=zL (b:=(bl s)[0]'(by rw[bY]; exact hlt)) (c:=48) (by decide);rw[show((48:Nat):Int)=48 from rfl]at this;rw[this];exact beq_false_of_ne hne
  have q:=Js (bl s) 0 0;have hdb:=MZ u;rw[<-hb]at hdb;rw[hdb]at q;have hB:fP s=true:=by unfold fP; rw[g1,g2,g3]; exact q.1
  exact⟨hB,by unfold iq; rw[hB,q.2,hu]⟩
 have back:fP s=true->bG s 999999999=true:=by
  intro h;unfold fP at h;split at h
  ·rename_i g1 g2 g3;unfold ltI af at g1;unfold gtI af at g2;have g1:=of_decide_eq_false g1;have g2:=of_decide_eq_false g2;have q:=Js (bl s) 0 0;cases hd:Lib.decFrom 0 (bl s)with
   |none=>rw[hd]at q; rw[q]at h; cases h
   |some v=>
    have hlt:0<s.size:=by omega
    have hs:bl s=Lib.decDigits v:=by
     cases hb:bl s with
     |nil=>have:=congrArg List.length hb; rw[bY]at this; simp only[List.length_nil]at this; omega
     |cons b l=>
      have hd':=hd;rw[hb]at hd';simp only[Lib.decFrom]at hd';cases hv:Lib.digitVal b with
      |none=>rw[hv]at hd'; cases hd'
      |some d=>
       rw[hv]at hd';obtain⟨d1,d2⟩:=MN hv;simp only[Nat.zero_mul,Nat.zero_add]at hd';by_cases hd0:d=0
       ·subst hd0;have e0:bAt s 0=(((bl s)[0]'(by rw[bY]; exact hlt)).toNat:Int):=x9 (i:=0) hlt;have e48:eqI (bAt s 0) 48=true:=by
         rw[e0];have:(bl s)[0]'(by rw[bY]; exact hlt)=48:=by simp only[hb,List.getElem_cons_zero,d2]; rfl
         rw[this]; rfl
        rw[e48,Bool.true_and]at g3;unfold gtI af at g3;have g3:=of_decide_eq_false g3;have hll:l=[]:=by
         have:=congrArg List.length hb;rw[bY,List.length_cons]at this;exact List.length_eq_zero_iff.1 (by omega)
        subst hll;obtain rfl:=Option.some.inj hd';rw[Lib.decDigits_one (by decide),d2]
       ·rw[Q3 l d v (by omega) hd',Lib.decDigits_one d1,d2]; rfl
    have hv9:v<=999999999:=by
     have hlen:=Lib.decFrom_lt (bl s) 0 v hd;have hp:10^(bl s).length<=10^9:=Nat.pow_le_pow_right (by decide) (by rw[bY]; omega);have:(10:Nat)^9=1000000000:=by decide
     omega
    have es:s=bF (v:Int):=lZ (by rw[hs,rD]);have nb:=iZ (n:=(v:Int)) (m:=999999999) (by omega) (by omega) (by omega);rw[<-es]at nb;exact nb.1
  ·cases h
 refine⟨?_,fun h=>(key h).2⟩;cases hn:bG s 999999999 with
 |true=>exact(key hn).1
 |false=>
  cases hr:fP s with
  |false=>rfl
  |true=>rw[back hr]at hn; cases hn
def adQ(LC:List Value->List Blk->Bool)(s:ByteArray):Ct:=ab5 LC (rnM (bl s) 0 0).1 s (rnM (bl s) 0 0).2.1 (rnM (bl s) 0 0).2.2
theorem aaK(s:ByteArray):CRX P 0 94 [.string s] [] (.tuple ⟨[.int .i64 (iq s), .bool (fP s)]⟩) []:=by
 have q:=fun LC=>Zw LC (rnM (bl s) 0 0).1 s (rnM (bl s) 0 0).2.1 (rnM (bl s) 0 0).2.2;by_cases h9:s.size<=9
 ·refine CRX.of (aF (adQ (kRn.at s) s)) au (bf aW (gU kRn Yd (s:=s) h9)) (n:=50) (pol:=aJ) (fl:=[]) (ts:=[]) (Eq.trans ?_ ((q (kRn.at s)).trans ?_))
  ·rfl
  unfold iq fP;cases g1:ltI (af s.size) 1 with
  |true=>rfl
  |false=>
   cases g2:gtI (af s.size) 9 with
   |true=>rfl
   |false=>
    have hin:inI 0 s.size=true:=by
     unfold ltI af at g1;have g1:=of_decide_eq_false g1;exact bD (i:=0) (by omega)
    simp only[hin,ax,aA];have hk:∀ x:Res,ae (kRn.at s [.string s, .int .i64 0, .bool false, .int .i64 0, .int .i64 0] []) x=x:=fun x=>bu (k:=kRn) (s:=s) rfl rfl rfl;cases eqI (bAt s 0) 48 with
    |true=>
     cases gtI (af s.size) 1 with
     |true=>rfl
     |false=>
      simp only[az,ax,Bool.and_false,hk];cases (rnM (bl s) 0 0).1<;>rfl
    |false=>
     simp only[az,ax,Bool.false_and,hk];cases (rnM (bl s) 0 0).1<;>rfl
 ·refine CRX.of (aF (adQ (fun _ _=>false) s)) au (bf aW (lD (bz LP))) (n:=50) (pol:=aJ) (fl:=[]) (ts:=[]) (Eq.trans ?_ ((q (fun _ _=>false)).trans ?_))
  ·rfl
  have g1:ltI (af s.size) 1=false:=by unfold ltI af; exact decide_eq_false (by omega)
  have g2:gtI (af s.size) 9=true:=by unfold gtI af; exact decide_eq_true (by omega)
  unfold iq fP;rw[g1,g2]; rfl
def Vw(B:ByteArray->Bool)(V:ByteArray->Int):fG
 |[.string s]=>some (.leaf (.tuple ⟨[.int .i64 (V s), .bool (B s)]⟩,[]))
 |_=>none
theorem acb:CallOkX P 0 94 (fun args bs=>match bs with | []=>Vw fP iq args | _=>none):=⟨fun args bs t hR v bs' hev=>by
 split at hR
 ·unfold Vw at hR;split at hR
  ·obtain rfl:=Option.some.inj hR;simp only[DT.eval,Option.some.injEq,Prod.mk.injEq]at hev;obtain⟨rfl,rfl⟩:=hev;exact aaK _
  ·cases hR
 ·cases hR⟩
def rpM(ws:List ByteArray):Nat->Nat->List OpM->Bool×List OpM×Nat
 |0,i,out=>(true,out,i)
 |f+1,i,out=>match Nat.ble ws.length i with
  |true=>(true,out,i)
  |false=>match roN (ws.drop i)with
   |some (o,k)=>rpM ws f (i+k) (out++[o])
   |none=>(false,out,i)
theorem Vk{l:List ByteArray}{o:OpM}{k:Nat}(h:roN l=some (o,k)):2<=k/\k<=l.length:=by
 unfold roN at h;split at h
 ·split at h
  ·split at h
   ·cases h
   ·split at h<;>cases h;exact⟨by omega,by simp⟩
  ·split at h
   ·split at h<;>cases h;exact⟨by omega,by simp⟩
   ·cases h
 ·cases h
theorem RZ{ws:List ByteArray}(hw:WsS ws):∀ (f i:Nat) (out:List OpM),ws.length<i+f->i<=ws.length->out.length<=i->
  LRX P 81 0 Bro Dro.head (roV ws out.length i) (gq out) (exB (rpM ws f i out).1) (roV ws (rpM ws f i out).2.1.length (rpM ws f i out).2.2) (gq (rpM ws f i out).2.1)
 |0,i,out,h,h2,_=>by omega
 |f+1,i,out,h,h2,ho=>by
  unfold rpM;cases hb:Nat.ble ws.length i with
  |true=>exact LRX.stop (n:=50) (aF Ic) au Ii Jr (e:= .exit 0) (adY (Nat.le_of_ble_eq_true hb)) (by intro h; cases h)
  |false=>
   have hi:i<ws.length:=by
    apply Nat.lt_of_not_le;intro h;rw[Nat.ble_eq_true_of_le h]at hb; cases hb
   have q:=Zv (out:=out) hw hi (by have:=hw.2; omega);cases hr:roN (ws.drop i)with
   |none=>
    rw[hr]at q;exact LRX.stop (n:=50) (aF Ic) au Ii Jr (e:= .ret) q (by intro h; cases h)
   |some p=>
    obtain⟨o,k⟩:=p;rw[hr]at q;obtain⟨k1,k2⟩:=Vk hr;rw[List.length_drop]at k2;exact LRX.again (n:=50) (aF Ic) au Ii Jr q (RZ hw f (i+k) (out++[o]) (by omega) (by omega) (by rw[List.length_append]; simp only[List.length_cons,List.length_nil]; omega))
def rpX(ws:List ByteArray):Bool×List OpM×Nat:=rpM ws (ws.length+1) 0 []
def kRo:Con (List ByteArray) where
 enc ws:=(roV ws 0 0,gq [])
 ok:=WsS
 inj a b h:=by
  unfold roV at h;simp only[Prod.mk.injEq,List.cons.injEq,true_and,and_true]at h;exact uS h
 dflt:=[]
def abG(ws:List ByteArray):DT (Ex×List Value×List Blk):= .ite (rpX ws).1 (.leaf (.normal,roV ws (rpX ws).2.1.length (rpX ws).2.2,gq (rpX ws).2.1)) (.leaf (.ret,roV ws (rpX ws).2.1.length (rpX ws).2.2,gq (rpX ws).2.1))
theorem WH:LoopOkX P 81 0 Bro Dro.head (kP kRo.C kRo.D abG):=
 fQ kRo (bz Xb) fun ws ho e vs' bs' hev=>by
  have q:=RZ ho (ws.length+1) 0 [] (by omega) (Nat.zero_le _) (by simp);unfold abG rpX at hev;cases hb:(rpM ws (ws.length+1) 0 []).1<;>(rw[hb]at hev q; simp only[DT.eval,Option.some.injEq,Prod.mk.injEq]at hev; obtain⟨rfl,rfl,rfl⟩:=hev; exact q)
def qX(ws:List ByteArray):List OpM:=match(rpX ws).1 with
 |true=>(rpX ws).2.1
 |false=>[]
def vJ(ws:List ByteArray):Bool:=match(rpX ws).1 with
 |true=>eqI (dO (rpX ws).2.1) 0
 |false=>false
theorem Rz(ws:List ByteArray):∀ (f i:Nat) (out:List OpM),i<=ws.length->out.length<=i->(rpM ws f i out).2.1.length<=ws.length
 |0,i,out,h,ho=>by show out.length<=_; omega
 |f+1,i,out,h,ho=>by
  unfold rpM;cases hb:Nat.ble ws.length i with
  |true=>show out.length<=_; omega
  |false=>
   cases hr:roN (ws.drop i)with
   |none=>show out.length<=_; omega
   |some p=>
    obtain⟨o,k⟩:=p;obtain⟨k1,k2⟩:=Vk hr;have hi:i<ws.length:=by
     apply Nat.lt_of_not_le;intro h;rw[Nat.ble_eq_true_of_le h]at hb; cases hb
    rw[List.length_drop]at k2;exact Rz ws f (i+k) (out++[o]) (by omega) (by rw[List.length_append]; simp only[List.length_cons,List.length_nil]; omega)
def agd(ws:List ByteArray):Ct:=aa7 (kRo.at ws) (kBk.at (rpX ws).2.1) (rpX ws).1 ws.length (ws.map Value.string) (rpX ws).2.1.length (EOp.all (rpX ws).2.1) (rpX ws).2.2 (dO (rpX ws).2.1)
theorem Zo{ws:List ByteArray}(h:WsS ws):CRX P 0 81 [fzS ws] [] (.tuple ⟨[aK (qX ws), .bool (vJ ws)]⟩) []:=by
 have hl:=Rz ws (ws.length+1) 0 [] (Nat.zero_le _) (by simp);have hk:kBk.ok (rpX ws).2.1:=Nat.lt_of_le_of_lt hl (by have:=h.2; omega);refine CRX.of (aF (agd ws)) au (aU (bf aW (gU kRo WH (s:=ws) h)) (CallOkR.ofX (eF kBk WY (s:=(rpX ws).2.1) hk))) (n:=50) (pol:=aJ) (fl:=[.val, .val]) (ts:=[22,4]) (Eq.trans ?_ ((ZB (kRo.at ws) (kBk.at (rpX ws).2.1) (rpX ws).1 ws.length (ws.map Value.string) (rpX ws).2.1.length (EOp.all (rpX ws).2.1) (rpX ws).2.2 (dO (rpX ws).2.1)).trans ?_))
 ·rfl
 have fs:(Value.iface 18446744073709551617 (.agg ⟨.slice none ws.length 0::ws.map Value.string⟩))=fzS ws:=by unfold fzS ai FZ; rfl
 have b2:∀ n,Nat.ble n n=true:=fun n=>Nat.ble_eq_true_of_le (Nat.le_refl n);have b13:Nat.ble 1 3=true:=rfl;refine bu (k:=kRo) (s:=ws) (by show roV _ _ _=_; unfold roV; rw[<-fs,<-fzO []]; try rfl) rfl ?_;unfold qX vJ;cases (rpX ws).1 with
 |false=>
  refine Eq.trans ax ?_;rw[<-fzO []]; rfl
 |true=>
  simp only[az,Enc.all_ren,pG,iP,mD rfl,b2,b13,Iu,Yn,Bool.and_self,aA,fzO];exact bu (k:=kBk) (s:=(rpX ws).2.1) rfl rfl rfl
theorem Qq(ws:List ByteArray):∀ (f i:Nat) (out:List OpM),∀ o∈out,o∈(rpM ws f i out).2.1
 |0,i,out,o,h=>h
 |f+1,i,out,o,h=>by
  unfold rpM;cases Nat.ble ws.length i with
  |true=>exact h
  |false=>
   cases roN (ws.drop i)with
   |none=>exact h
   |some p=>exact Qq ws f _ _ o (List.mem_append_left _ h)
theorem Xq{w:ByteArray}(h:eY w=true):eqI (byE w) 0=true:=by
 unfold eY at h;rw[Bool.and_eq_true]at h;exact h.1
theorem Qr{w v:ByteArray}{p:Bool}(h:eqI (byE w) 0=true)(ho:jo ⟨p,byS w,v⟩=true):eY w=true:=by
 unfold eY;rw[h];obtain⟨h1,h2,h3,h4⟩:=l9 ho;unfold bQ;rw[decide_eq_true h1,decide_eq_true h2]; rfl
theorem OA(ws:List ByteArray):∀ (f i:Nat) (out:List OpM),ws.length<i+f->(opE (ws.drop i) out).1=true->(rpM ws f i out).1=true/\(rpM ws f i out).2.1=(opE (ws.drop i) out).2.2
 |0,i,out,h,hq=>by
  rw[List.drop_of_length_le (by omega)];exact⟨rfl,rfl⟩
 |f+1,i,out,h,hq=>by
  unfold rpM;cases hb:Nat.ble ws.length i with
  |true=>
   rw[List.drop_of_length_le (Nat.le_of_ble_eq_true hb)];exact⟨rfl,rfl⟩
  |false=>
   have hi:i<ws.length:=by
    apply Nat.lt_of_not_le;intro h;rw[Nat.ble_eq_true_of_le h]at hb; cases hb
   have ih:=fun k o=>OA ws f (i+k) (out++[o]);have hd:∀ k,ws.drop (i+k)=(ws.drop i).drop k:=fun k=>by rw[List.drop_drop]
   generalize hl:ws.drop i=l at hq;rw[hl]at hd
   match l,hq with
   |[],_=>
    have:=congrArg List.length hl;rw[List.length_drop]at this;simp only[List.length_nil]at this;omega
   |[w0],hq=>simp[opE]at hq
   |w0::w1::tl,hq=>
    rw[opE.eq_def]at hq ⊢;simp only at hq ⊢;unfold roN;cases e1:eqS w0 kX with
    |true=>
     cases tl with
     |nil=>simp only[e1]at hq; cases hq
     |cons w2 r=>
      simp only[e1]at hq ⊢;cases e2:eY w1 with
      |false=>simp only[e2]at hq; cases hq
      |true=>
       cases e3:eqI (byE w2) 0 with
       |false=>simp only[e2,e3]at hq; cases hq
       |true=>
        simp only[e2,e3,Xq e2]at hq ⊢;have q:=ih 3 ⟨true,byS w1,byS w2⟩ (by omega);rw[hd]at q;exact q hq
    |false=>
     simp only[e1]at hq ⊢;cases e4:eqS w0 mP with
     |false=>simp only[e4]at hq; cases hq
     |true=>
      cases e2:eY w1 with
      |false=>simp only[e4,e2]at hq; cases hq
      |true=>
       simp only[e4,e2,Xq e2]at hq ⊢;have q:=ih 2 ⟨false,byS w1,⟨#[]⟩⟩ (by omega);rw[hd]at q;exact q hq
theorem L6(ws:List ByteArray):∀ (f i:Nat) (out:List OpM),ws.length<i+f->(rpM ws f i out).1=true->(∀ o∈(rpM ws f i out).2.1,jo o=true)->(opE (ws.drop i) out).1=true
 |0,i,out,h,hq,_=>by
  rw[List.drop_of_length_le (by omega)]
  rfl
 |f+1,i,out,h,hq,hall=>by
  unfold rpM at hq hall;cases hb:Nat.ble ws.length i with
  |true=>
   rw[List.drop_of_length_le (Nat.le_of_ble_eq_true hb)]
   rfl
  |false=>
   rw[hb]at hq hall;simp only at hq hall;have hd:∀ k,ws.drop (i+k)=(ws.drop i).drop k:=fun k=>by rw[List.drop_drop]
   cases hr:roN (ws.drop i)with
   |none=>rw[hr]at hq; cases hq
   |some p=>
    obtain⟨o,k⟩:=p;rw[hr]at hq hall;simp only at hq hall;obtain⟨k1,k2⟩:=Vk hr;have ho:jo o=true:=hall o (Qq ws f _ _ o (by simp));have ih:=L6 ws f (i+k) (out++[o]) (by omega) hq hall;rw[hd]at ih;generalize ws.drop i=l at hr ih;unfold roN at hr;split at hr
    ·rename_i w0 w1 tl;split at hr
     ·rename_i e1;split at hr
      ·cases hr
      ·rename_i w2 r;split at hr
       ·rename_i e2 e3;cases hr;rw[opE.eq_def];simp only[e1,Qr e2 ho,e3];exact ih
       ·cases hr
     ·rename_i e1;split at hr
      ·rename_i e4;split at hr
       ·rename_i e2;cases hr;rw[opE.eq_def];simp only[e1,e4,Qr e2 ho];exact ih
       ·cases hr
      ·cases hr
    ·cases hr
theorem aey(ws:List ByteArray):vJ ws=pV ws/\(pV ws=true->qX ws=opsV ws):=by
 have a:=OA ws (ws.length+1) 0 [] (by omega);have b:=L6 ws (ws.length+1) 0 [] (by omega);rw[List.drop_zero]at a b;unfold vJ pV qX opsV rpX;cases ho:(opE ws []).1 with
 |true=>
  obtain⟨a1,a2⟩:=a ho;rw[a1,a2];exact⟨rfl,fun _=>rfl⟩
 |false=>
  refine⟨?_,fun h=>by cases h⟩;cases hr:(rpM ws (ws.length+1) 0 []).1 with
  |false=>rfl
  |true=>
   simp only;cases hc:eqI (dO (rpM ws (ws.length+1) 0 []).2.1) 0 with
   |false=>rfl
   |true=>
    rw[b hr (uh hc).2]at ho; cases ho
def jV(KC:Int->Bool)(sh:ByteArray)(NB:ByteArray->Bool)(NV:ByteArray->Int)(B:ByteArray->ByteArray)(G:ByteArray->Int)(O:Bool->ByteArray->ByteArray->Bool)(OC:List Value->List Blk->Bool)(on:Nat)(oc:List Value)(ob:Bool):Ct:=
 bJ P aJ 0 81 (iL OC (.leaf (.tuple ⟨[ai 3 on 0 oc, .bool ob]⟩,[]))) (bH P 67 (zJ KC fun _=>sh) (bH P 94 (Vw NB NV) (bH P 93 (Uy B G) (bH P 66 (mJ O) ctF))))
theorem adx(KC:Int->Bool)(NB:ByteArray->Bool)(NV:ByteArray->Int)(B:ByteArray->ByteArray)(G:ByteArray->Int)(O:Bool->ByteArray->ByteArray->Bool)(OC:List Value->List Blk->Bool)(on:Nat)(oc:List Value)(ob:Bool)(k:Int)(n:Nat)(c:List Value):bn P E (jV KC ⟨#[]⟩ NB NV B G O OC on oc ob) 50 aJ [.keep, .val] [24,4] 0 63 [.int .i64 k,ai 1 n 0 c] [] =
 (ae (KC k)
 (some ((.tuple ⟨[.agg ⟨[.int .i64 k,.int .i64 0,.int .i64 0,.int .i64 0,.string ⟨#[]⟩,.slice none 0 0]⟩,.bool (eqI (af n) 0)]⟩),(mkSt [])))):=by kernel_rfl
theorem acM(KC:Int->Bool)(NB:ByteArray->Bool)(NV:ByteArray->Int)(B:ByteArray->ByteArray)(G:ByteArray->Int)(O:Bool->ByteArray->ByteArray->Bool)(OC:List Value->List Blk->Bool)(on:Nat)(oc:List Value)(ob:Bool)(k:Int)(n:Nat)(c:List Value):bn P E (jV KC ⟨#[110]⟩ NB NV B G O OC on oc ob) 50 aJ [.keep, .val] [24,4] 0 63 [.int .i64 k,ai 1 n 0 c] [] =
 (ae (KC k)
 (ag (geI 0 (af n))
 (some ((.tuple ⟨[.agg ⟨[.int .i64 k,.int .i64 0,.int .i64 0,.int .i64 0,.string ⟨#[]⟩,.slice none 0 0]⟩,.bool false]⟩),(mkSt [])))
 (ae (Bool.and (Nat.beq 1 1) (inI 0 n))
 (ae (Bool.and (Nat.ble 1 c.length) (dw .string (ah c 0)))
 (ag (NB (asS (ah c 0)))
 (ag (dN (leI (NV (asS (ah c 0))) 1))
 (some ((.tuple ⟨[.agg ⟨[.int .i64 k,.int .i64 (NV (asS (ah c 0))),.int .i64 0,.int .i64 0,.string ⟨#[]⟩,.slice none 0 0]⟩,.bool false]⟩),(mkSt [])))
 (some ((.tuple ⟨[.agg ⟨[.int .i64 k,.int .i64 (NV (asS (ah c 0))),.int .i64 0,.int .i64 0,.string ⟨#[]⟩,.slice none 0 0]⟩,.bool (eqI (af n) 1)]⟩),(mkSt []))))
 (some ((.tuple ⟨[.agg ⟨[.int .i64 k,.int .i64 (NV (asS (ah c 0))),.int .i64 0,.int .i64 0,.string ⟨#[]⟩,.slice none 0 0]⟩,.bool false]⟩),(mkSt [])))))))):=by kernel_rfl
theorem acm(KC:Int->Bool)(NB:ByteArray->Bool)(NV:ByteArray->Int)(B:ByteArray->ByteArray)(G:ByteArray->Int)(O:Bool->ByteArray->ByteArray->Bool)(OC:List Value->List Blk->Bool)(on:Nat)(oc:List Value)(ob:Bool)(k:Int)(n:Nat)(c:List Value):bn P E (jV KC ⟨#[97]⟩ NB NV B G O OC on oc ob) 50 aJ [.keep, .val] [24,4] 0 63 [.int .i64 k,ai 1 n 0 c] [] =
 (ae (KC k)
 (ag (geI 0 (af n))
 (some ((.tuple ⟨[.agg ⟨[.int .i64 k,.int .i64 0,.int .i64 0,.int .i64 0,.string ⟨#[]⟩,.slice none 0 0]⟩,.bool false]⟩),(mkSt [])))
 (ae (Bool.and (Nat.beq 1 1) (inI 0 n))
 (ae (Bool.and (Nat.ble 1 c.length) (dw .string (ah c 0)))
 (ag (dN (NB (asS (ah c 0))))
 (some ((.tuple ⟨[.agg ⟨[.int .i64 k,.int .i64 0,.int .i64 (NV (asS (ah c 0))),.int .i64 0,.string ⟨#[]⟩,.slice none 0 0]⟩,.bool false]⟩),(mkSt [])))
 (some ((.tuple ⟨[.agg ⟨[.int .i64 k,.int .i64 0,.int .i64 (NV (asS (ah c 0))),.int .i64 0,.string ⟨#[]⟩,.slice none 0 0]⟩,.bool (eqI (af n) 1)]⟩),(mkSt [])))))))):=by kernel_rfl
theorem aco(KC:Int->Bool)(NB:ByteArray->Bool)(NV:ByteArray->Int)(B:ByteArray->ByteArray)(G:ByteArray->Int)(O:Bool->ByteArray->ByteArray->Bool)(OC:List Value->List Blk->Bool)(on:Nat)(oc:List Value)(ob:Bool)(k:Int)(n:Nat)(c:List Value):bn P E (jV KC ⟨#[110,107]⟩ NB NV B G O OC on oc ob) 50 aJ [.keep, .val] [24,4] 0 63 [.int .i64 k,ai 1 n 0 c] [] =
 (ae (KC k)
 (ag (geI 0 (af n))
 (some ((.tuple ⟨[.agg ⟨[.int .i64 k,.int .i64 0,.int .i64 0,.int .i64 0,.string ⟨#[]⟩,.slice none 0 0]⟩,.bool false]⟩),(mkSt [])))
 (ae (Bool.and (Nat.beq 1 1) (inI 0 n))
 (ae (Bool.and (Nat.ble 1 c.length) (dw .string (ah c 0)))
 (ag (NB (asS (ah c 0)))
 (ag (dN (leI (NV (asS (ah c 0))) 1))
 (some ((.tuple ⟨[.agg ⟨[.int .i64 k,.int .i64 (NV (asS (ah c 0))),.int .i64 0,.int .i64 0,.string ⟨#[]⟩,.slice none 0 0]⟩,.bool false]⟩),(mkSt [])))
 (ag (geI 1 (af n))
 (some ((.tuple ⟨[.agg ⟨[.int .i64 k,.int .i64 (NV (asS (ah c 0))),.int .i64 0,.int .i64 0,.string ⟨#[]⟩,.slice none 0 0]⟩,.bool false]⟩),(mkSt [])))
 (ae (Bool.and (Nat.beq 1 1) (inI 1 n))
 (ae (Bool.and (Nat.ble 2 c.length) (dw .string (ah c 1)))
 (ae (Nat.ble (ByteArray.size (asS (ah c 1))) 1000000)
 (ag (eqI (G (asS (ah c 1))) 0)
 (ag (O false (B (asS (ah c 1))) ⟨#[]⟩)
 (some ((.tuple ⟨[.agg ⟨[.int .i64 k,.int .i64 (NV (asS (ah c 0))),.int .i64 0,.int .i64 0,.string (B (asS (ah c 1))),.slice none 0 0]⟩,.bool (eqI (af n) 2)]⟩),(mkSt [])))
 (some ((.tuple ⟨[.agg ⟨[.int .i64 k,.int .i64 (NV (asS (ah c 0))),.int .i64 0,.int .i64 0,.string (B (asS (ah c 1))),.slice none 0 0]⟩,.bool false]⟩),(mkSt []))))
 (some ((.tuple ⟨[.agg ⟨[.int .i64 k,.int .i64 (NV (asS (ah c 0))),.int .i64 0,.int .i64 0,.string (B (asS (ah c 1))),.slice none 0 0]⟩,.bool false]⟩),(mkSt [])))))))))
 (some ((.tuple ⟨[.agg ⟨[.int .i64 k,.int .i64 (NV (asS (ah c 0))),.int .i64 0,.int .i64 0,.string ⟨#[]⟩,.slice none 0 0]⟩,.bool false]⟩),(mkSt [])))))))):=by kernel_rfl
theorem adq(KC:Int->Bool)(NB:ByteArray->Bool)(NV:ByteArray->Int)(B:ByteArray->ByteArray)(G:ByteArray->Int)(O:Bool->ByteArray->ByteArray->Bool)(OC:List Value->List Blk->Bool)(on:Nat)(oc:List Value)(ob:Bool)(k:Int)(n:Nat)(c:List Value):bn P E (jV KC ⟨#[110,97]⟩ NB NV B G O OC on oc ob) 50 aJ [.keep, .val] [24,4] 0 63 [.int .i64 k,ai 1 n 0 c] [] =
 (ae (KC k)
 (ag (geI 0 (af n))
 (some ((.tuple ⟨[.agg ⟨[.int .i64 k,.int .i64 0,.int .i64 0,.int .i64 0,.string ⟨#[]⟩,.slice none 0 0]⟩,.bool false]⟩),(mkSt [])))
 (ae (Bool.and (Nat.beq 1 1) (inI 0 n))
 (ae (Bool.and (Nat.ble 1 c.length) (dw .string (ah c 0)))
 (ag (NB (asS (ah c 0)))
 (ag (dN (leI (NV (asS (ah c 0))) 1))
 (some ((.tuple ⟨[.agg ⟨[.int .i64 k,.int .i64 (NV (asS (ah c 0))),.int .i64 0,.int .i64 0,.string ⟨#[]⟩,.slice none 0 0]⟩,.bool false]⟩),(mkSt [])))
 (ag (geI 1 (af n))
 (some ((.tuple ⟨[.agg ⟨[.int .i64 k,.int .i64 (NV (asS (ah c 0))),.int .i64 0,.int .i64 0,.string ⟨#[]⟩,.slice none 0 0]⟩,.bool false]⟩),(mkSt [])))
 (ae (Bool.and (Nat.beq 1 1) (inI 1 n))
 (ae (Bool.and (Nat.ble 2 c.length) (dw .string (ah c 1)))
 (ag (dN (NB (asS (ah c 1))))
 (some ((.tuple ⟨[.agg ⟨[.int .i64 k,.int .i64 (NV (asS (ah c 0))),.int .i64 (NV (asS (ah c 1))),.int .i64 0,.string ⟨#[]⟩,.slice none 0 0]⟩,.bool false]⟩),(mkSt [])))
 (some ((.tuple ⟨[.agg ⟨[.int .i64 k,.int .i64 (NV (asS (ah c 0))),.int .i64 (NV (asS (ah c 1))),.int .i64 0,.string ⟨#[]⟩,.slice none 0 0]⟩,.bool (eqI (af n) 2)]⟩),(mkSt []))))))))
 (some ((.tuple ⟨[.agg ⟨[.int .i64 k,.int .i64 (NV (asS (ah c 0))),.int .i64 0,.int .i64 0,.string ⟨#[]⟩,.slice none 0 0]⟩,.bool false]⟩),(mkSt [])))))))):=by kernel_rfl
theorem ac_(KC:Int->Bool)(NB:ByteArray->Bool)(NV:ByteArray->Int)(B:ByteArray->ByteArray)(G:ByteArray->Int)(O:Bool->ByteArray->ByteArray->Bool)(OC:List Value->List Blk->Bool)(on:Nat)(oc:List Value)(ob:Bool)(k:Int)(n:Nat)(c:List Value):bn P E (jV KC ⟨#[110,97,116]⟩ NB NV B G O OC on oc ob) 50 aJ [.keep, .val] [24,4] 0 63 [.int .i64 k,ai 1 n 0 c] [] =
 (ae (KC k)
 (ag (geI 0 (af n))
 (some ((.tuple ⟨[.agg ⟨[.int .i64 k,.int .i64 0,.int .i64 0,.int .i64 0,.string ⟨#[]⟩,.slice none 0 0]⟩,.bool false]⟩),(mkSt [])))
 (ae (Bool.and (Nat.beq 1 1) (inI 0 n))
 (ae (Bool.and (Nat.ble 1 c.length) (dw .string (ah c 0)))
 (ag (NB (asS (ah c 0)))
 (ag (dN (leI (NV (asS (ah c 0))) 1))
 (some ((.tuple ⟨[.agg ⟨[.int .i64 k,.int .i64 (NV (asS (ah c 0))),.int .i64 0,.int .i64 0,.string ⟨#[]⟩,.slice none 0 0]⟩,.bool false]⟩),(mkSt [])))
 (ag (geI 1 (af n))
 (some ((.tuple ⟨[.agg ⟨[.int .i64 k,.int .i64 (NV (asS (ah c 0))),.int .i64 0,.int .i64 0,.string ⟨#[]⟩,.slice none 0 0]⟩,.bool false]⟩),(mkSt [])))
 (ae (Bool.and (Nat.beq 1 1) (inI 1 n))
 (ae (Bool.and (Nat.ble 2 c.length) (dw .string (ah c 1)))
 (ag (dN (NB (asS (ah c 1))))
 (some ((.tuple ⟨[.agg ⟨[.int .i64 k,.int .i64 (NV (asS (ah c 0))),.int .i64 (NV (asS (ah c 1))),.int .i64 0,.string ⟨#[]⟩,.slice none 0 0]⟩,.bool false]⟩),(mkSt [])))
 (ag (geI 2 (af n))
 (some ((.tuple ⟨[.agg ⟨[.int .i64 k,.int .i64 (NV (asS (ah c 0))),.int .i64 (NV (asS (ah c 1))),.int .i64 0,.string ⟨#[]⟩,.slice none 0 0]⟩,.bool false]⟩),(mkSt [])))
 (ae (Bool.and (Nat.beq 1 1) (inI 2 n))
 (ae (Bool.and (Nat.ble 3 c.length) (dw .string (ah c 2)))
 (ag (dN (NB (asS (ah c 2))))
 (some ((.tuple ⟨[.agg ⟨[.int .i64 k,.int .i64 (NV (asS (ah c 0))),.int .i64 (NV (asS (ah c 1))),.int .i64 (NV (asS (ah c 2))),.string ⟨#[]⟩,.slice none 0 0]⟩,.bool false]⟩),(mkSt [])))
 (some ((.tuple ⟨[.agg ⟨[.int .i64 k,.int .i64 (NV (asS (ah c 0))),.int .i64 (NV (asS (ah c 1))),.int .i64 (NV (asS (ah c 2))),.string ⟨#[]⟩,.slice none 0 0]⟩,.bool (eqI (af n) 3)]⟩),(mkSt []))))))))))))
 (some ((.tuple ⟨[.agg ⟨[.int .i64 k,.int .i64 (NV (asS (ah c 0))),.int .i64 0,.int .i64 0,.string ⟨#[]⟩,.slice none 0 0]⟩,.bool false]⟩),(mkSt [])))))))):=by kernel_rfl
theorem adr(KC:Int->Bool)(NB:ByteArray->Bool)(NV:ByteArray->Int)(B:ByteArray->ByteArray)(G:ByteArray->Int)(O:Bool->ByteArray->ByteArray->Bool)(OC:List Value->List Blk->Bool)(on:Nat)(oc:List Value)(ob:Bool)(k:Int)(n:Nat)(c:List Value):bn P E (jV KC ⟨#[110,111]⟩ NB NV B G O OC on oc ob) 50 aJ [.keep, .val] [24,4] 0 63 [.int .i64 k,ai 1 n 0 c] [] =
 (ae (KC k)
 (ag (geI 0 (af n))
 (some ((.tuple ⟨[.agg ⟨[.int .i64 k,.int .i64 0,.int .i64 0,.int .i64 0,.string ⟨#[]⟩,.slice none 0 0]⟩,.bool false]⟩),(mkSt [])))
 (ae (Bool.and (Nat.beq 1 1) (inI 0 n))
 (ae (Bool.and (Nat.ble 1 c.length) (dw .string (ah c 0)))
 (ag (NB (asS (ah c 0)))
 (ag (dN (leI (NV (asS (ah c 0))) 1))
 (some ((.tuple ⟨[.agg ⟨[.int .i64 k,.int .i64 (NV (asS (ah c 0))),.int .i64 0,.int .i64 0,.string ⟨#[]⟩,.slice none 0 0]⟩,.bool false]⟩),(mkSt [])))
 (ag (geI 1 (af n))
 (some ((.tuple ⟨[.agg ⟨[.int .i64 k,.int .i64 (NV (asS (ah c 0))),.int .i64 0,.int .i64 0,.string ⟨#[]⟩,.slice none 0 0]⟩,.bool false]⟩),(mkSt [])))
 (ae (Bool.and (Nat.beq 1 1) (eP 1 (af n) n))
 (ae (OC [.iface 18446744073709551617 (.agg ⟨(.slice none (aX 1 (af n)) 0)::(takeC (Nat.mul (aX 1 (af n)) 1) (ak 1 c))⟩)] [])
 (some ((.tuple ⟨[.agg ⟨[.int .i64 k,.int .i64 (NV (asS (ah c 0))),.int .i64 0,.int .i64 0,.string ⟨#[]⟩,.iface 18446744073709551619 (.agg ⟨(.slice none on 0)::oc⟩)]⟩,.bool ob]⟩),(mkSt [])))))))
 (some ((.tuple ⟨[.agg ⟨[.int .i64 k,.int .i64 (NV (asS (ah c 0))),.int .i64 0,.int .i64 0,.string ⟨#[]⟩,.slice none 0 0]⟩,.bool false]⟩),(mkSt [])))))))):=by kernel_rfl
def tK(o:Option (ActM×Value))(res:Res):Prop:=match o with
 |some p=>res=some (.tuple ⟨[.agg ⟨kF p.1 p.2⟩, .bool true]⟩,mkSt [])
 |none=>∃ l:List Value,l.length=6/\l.all oneCell=true/\res=some (.tuple ⟨[.agg ⟨l⟩, .bool false]⟩,mkSt [])
theorem gbO{l:List Value}{res:Res}(h:res=some (.tuple ⟨[.agg ⟨l⟩, .bool false]⟩,mkSt []))(h1:l.length=6)(h2:l.all oneCell=true):tK none res:=⟨l,h1,h2,h⟩
theorem hgO{res:Res}(h:∃ l:List Value,l.length=6/\l.all oneCell=true/\res=some (.tuple ⟨[.agg ⟨l⟩, .bool false]⟩,mkSt [])):tK none res:=h
theorem pz(s:ByteArray):bG s 1=(bG s 999999999&&leI (dE s) 1):=by
 unfold bG leI gtI;by_cases h:dE s<=1
 ·rw[decide_eq_true h,decide_eq_false (show ¬dE s>1 by omega),decide_eq_false (show ¬dE s>999999999 by omega),Bool.and_true]
 ·rw[decide_eq_false h,decide_eq_true (show dE s>1 by omega)];simp
section
variable{k:Int}{OC:List Value->List Blk->Bool}{on:Nat}{oc:List Value}{ob:Bool}
theorem l0(a:ByteArray)(t:List ByteArray):geI 0 (af (a::t).length)=false:=by unfold geI af; exact decide_eq_false (by simp only[List.length_cons]; omega)
theorem l1(a b:ByteArray)(t:List ByteArray):geI 1 (af (a::b::t).length)=false:=by unfold geI af; exact decide_eq_false (by simp only[List.length_cons]; omega)
theorem l2(a b c:ByteArray)(t:List ByteArray):geI 2 (af (a::b::c::t).length)=false:=by unfold geI af; exact decide_eq_false (by simp only[List.length_cons]; omega)
theorem in0(a:ByteArray)(t:List ByteArray):inI 0 (a::t).length=true:=bD (i:=0) (by simp)
theorem in1(a b:ByteArray)(t:List ByteArray):inI 1 (a::b::t).length=true:=bD (i:=1) (by simp)
theorem in2(a b c:ByteArray)(t:List ByteArray):inI 2 (a::b::c::t).length=true:=bD (i:=2) (by simp)
theorem bl0(a:ByteArray)(t:List ByteArray):Nat.ble 1 (a::t).length=true:=Nat.ble_eq_true_of_le (by simp)
theorem bl1(a b:ByteArray)(t:List ByteArray):Nat.ble 2 (a::b::t).length=true:=Nat.ble_eq_true_of_le (by simp)
theorem bl2(a b c:ByteArray)(t:List ByteArray):Nat.ble 3 (a::b::c::t).length=true:=Nat.ble_eq_true_of_le (by simp)
theorem nt0(a:ByteArray)(t:List ByteArray):ah ((a::t).map Value.string) 0 = .string a:=rfl
theorem nt1(a b:ByteArray)(t:List ByteArray):ah ((a::b::t).map Value.string) 1 = .string b:=rfl
theorem nt2(a b c:ByteArray)(t:List ByteArray):ah ((a::b::c::t).map Value.string) 2 = .string c:=rfl
theorem DI{l:List ByteArray}{j:Nat}(h:l.length≠j):eqI (af l.length) (j:Int)=false:=vN h
theorem agf{r:List ByteArray}:tK (qm (nmT 11) k (nmT 11) r) (bn P E (jV (fun j=>eqI j k) ⟨#[]⟩ fP iq byS byE bQ OC on oc ob) 50 aJ [.keep, .val] [24,4] 0 63 [.int .i64 k,ai 1 r.length 0 (r.map Value.string)] []):=by
 have q:=adx (fun j=>eqI j k) fP iq byS byE bQ OC on oc ob k r.length (r.map Value.string);rw[ig.2 rfl]at q;unfold qm;rw[dG];cases r with
 |nil=>exact q
 |cons a t=>exact gbO (q.trans (by rw[show eqI (af (a::t).length) 0=false from DI (j:=0) (by simp)]; rfl)) rfl rfl
theorem UW{W:ByteArray}{r:List ByteArray}:tK (gZ W k W r) (bn P E (jV (fun j=>eqI j k) ⟨#[110]⟩ fP iq byS byE bQ OC on oc ob) 50 aJ [.keep, .val] [24,4] 0 63 [.int .i64 k,ai 1 r.length 0 (r.map Value.string)] []):=by
 have q:=acM (fun j=>eqI j k) fP iq byS byE bQ OC on oc ob k r.length (r.map Value.string);rw[ig.2 rfl]at q;unfold gZ;rw[dG];cases r with
 |nil=>exact gbO q rfl rfl
 |cons a t=>
  obtain⟨n1,n2⟩:=rf a;simp only[l0,in0,bl0,nt0,kC,oz,fV,fU,n1,Bool.and_self,aA,ax]at q;have e1:=pz a;cases h9:bG a 999999999 with
  |false=>
   rw[h9]at q e1;cases t with
   |nil=>simp only[e1,Bool.false_and]; exact gbO q rfl rfl
   |cons b t=>exact gbO q rfl rfl
  |true=>
   rw[h9,n2 h9]at q;rw[h9,Bool.true_and]at e1;cases h1:leI (dE a) 1 with
   |false=>
    rw[h1]at q e1;cases t with
    |nil=>simp only[e1]; exact gbO q rfl rfl
    |cons b t=>exact gbO q rfl rfl
   |true=>
    rw[h1]at q e1;cases t with
    |nil=>simp only[e1]; exact q
    |cons b t=>exact gbO (q.trans (by rw[show eqI (af (a::b::t).length) 1=false from DI (j:=1) (by simp)]; rfl)) rfl rfl
theorem aab{W:ByteArray}{r:List ByteArray}:tK (jg W k W r) (bn P E (jV (fun j=>eqI j k) ⟨#[97]⟩ fP iq byS byE bQ OC on oc ob) 50 aJ [.keep, .val] [24,4] 0 63 [.int .i64 k,ai 1 r.length 0 (r.map Value.string)] []):=by
 have q:=acm (fun j=>eqI j k) fP iq byS byE bQ OC on oc ob k r.length (r.map Value.string);rw[ig.2 rfl]at q;unfold jg;rw[dG];cases r with
 |nil=>exact gbO q rfl rfl
 |cons a t=>
  obtain⟨n1,n2⟩:=rf a;simp only[l0,in0,bl0,nt0,kC,oz,fV,fU,n1,Bool.and_self,aA,ax]at q;cases h9:bG a 999999999 with
  |false=>
   rw[h9]at q;cases t with
   |nil=>simp only[h9]; exact gbO q rfl rfl
   |cons b t=>exact gbO q rfl rfl
  |true=>
   rw[h9,n2 h9]at q;cases t with
   |nil=>simp only[h9]; exact q
   |cons b t=>exact gbO (q.trans (by rw[show eqI (af (a::b::t).length) 1=false from DI (j:=1) (by simp)]; rfl)) rfl rfl
theorem afQ{W:ByteArray}{r:List ByteArray}(hs:∀ w∈r,w.size<=1000000):tK (nP W k W r) (bn P E (jV (fun j=>eqI j k) ⟨#[110,107]⟩ fP iq byS byE bQ OC on oc ob) 50 aJ [.keep, .val] [24,4] 0 63 [.int .i64 k,ai 1 r.length 0 (r.map Value.string)] []):=by
 have q:=aco (fun j=>eqI j k) fP iq byS byE bQ OC on oc ob k r.length (r.map Value.string);rw[ig.2 rfl]at q;unfold nP;rw[dG];cases r with
 |nil=>exact gbO q rfl rfl
 |cons a t=>
  obtain⟨n1,n2⟩:=rf a;simp only[l0,in0,bl0,nt0,kC,oz,fV,fU,n1,Bool.and_self,aA,ax]at q;cases h9:bG a 1 with
  |false=>
   have hg:(∃ l:List Value,l.length=6/\l.all oneCell=true/\bn P E (jV (fun j=>eqI j k) ⟨#[110,107]⟩ fP iq byS byE bQ OC on oc ob) 50 aJ [.keep, .val] [24,4] 0 63 [.int .i64 k,ai 1 (a::t).length 0 ((a::t).map Value.string)] []=some (.tuple ⟨[.agg ⟨l⟩, .bool false]⟩,mkSt [])):=by
    rw[pz]at h9;cases h:bG a 999999999 with
    |false=>rw[h]at q; exact⟨_,rfl,rfl,q⟩
    |true=>
     rw[h,Bool.true_and]at h9;rw[h,n2 h,h9]at q;exact⟨_,rfl,rfl,q⟩
   cases t with
   |nil=>exact hgO hg
   |cons b t=>
    cases t with
    |nil=>simp only[h9]; exact hgO hg
    |cons c t=>exact hgO hg
  |true=>
   have h9':=h9;rw[pz,Bool.and_eq_true]at h9';rw[h9'.1,n2 h9'.1,h9'.2]at q;cases t with
   |nil=>exact gbO q rfl rfl
   |cons b t=>
    have sb:Nat.ble b.size 1000000=true:=Nat.ble_eq_true_of_le (hs b (by simp));simp only[l1,in1,bl1,nt1,fV,fU,sb,jq,Bool.and_self,aA,ax,az]at q;cases h2:eY b with
    |false=>
     have hg:(∃ l:List Value,l.length=6/\l.all oneCell=true/\bn P E (jV (fun j=>eqI j k) ⟨#[110,107]⟩ fP iq byS byE bQ OC on oc ob) 50 aJ [.keep, .val] [24,4] 0 63 [.int .i64 k,ai 1 (a::b::t).length 0 ((a::b::t).map Value.string)] []=some (.tuple ⟨[.agg ⟨l⟩, .bool false]⟩,mkSt [])):=by
      unfold eY at h2;cases h:eqI (byE b) 0 with
      |false=>rw[h]at q; exact⟨_,rfl,rfl,q⟩
      |true=>
       rw[h,Bool.true_and]at h2;rw[h,h2]at q;exact⟨_,rfl,rfl,q⟩
     cases t with
     |nil=>simp only[h9,h2]; exact hgO hg
     |cons x t=>exact hgO hg
    |true=>
     have h2':=h2;unfold eY at h2';rw[Bool.and_eq_true]at h2';rw[h2'.1,h2'.2]at q;cases t with
     |nil=>simp only[h9,h2]; exact q
     |cons c t=>exact gbO (q.trans (by rw[show eqI (af (a::b::c::t).length) 2=false from DI (j:=2) (by simp)]; rfl)) rfl rfl
theorem afY{W:ByteArray}{r:List ByteArray}:tK (nN W k W r) (bn P E (jV (fun j=>eqI j k) ⟨#[110,97]⟩ fP iq byS byE bQ OC on oc ob) 50 aJ [.keep, .val] [24,4] 0 63 [.int .i64 k,ai 1 r.length 0 (r.map Value.string)] []):=by
 have q:=adq (fun j=>eqI j k) fP iq byS byE bQ OC on oc ob k r.length (r.map Value.string);rw[ig.2 rfl]at q;unfold nN;rw[dG];cases r with
 |nil=>exact gbO q rfl rfl
 |cons a t=>
  obtain⟨n1,n2⟩:=rf a;simp only[l0,in0,bl0,nt0,kC,oz,fV,fU,n1,Bool.and_self,aA,ax]at q;cases h9:bG a 1 with
  |false=>
   have hg:(∃ l:List Value,l.length=6/\l.all oneCell=true/\bn P E (jV (fun j=>eqI j k) ⟨#[110,97]⟩ fP iq byS byE bQ OC on oc ob) 50 aJ [.keep, .val] [24,4] 0 63 [.int .i64 k,ai 1 (a::t).length 0 ((a::t).map Value.string)] []=some (.tuple ⟨[.agg ⟨l⟩, .bool false]⟩,mkSt [])):=by
    rw[pz]at h9;cases h:bG a 999999999 with
    |false=>rw[h]at q; exact⟨_,rfl,rfl,q⟩
    |true=>
     rw[h,Bool.true_and]at h9;rw[h,n2 h,h9]at q;exact⟨_,rfl,rfl,q⟩
   cases t with
   |nil=>exact hgO hg
   |cons b t=>
    cases t with
    |nil=>simp only[h9]; exact hgO hg
    |cons c t=>exact hgO hg
  |true=>
   have h9':=h9;rw[pz,Bool.and_eq_true]at h9';rw[h9'.1,n2 h9'.1,h9'.2]at q;cases t with
   |nil=>exact gbO q rfl rfl
   |cons b t=>
    obtain⟨m1,m2⟩:=rf b;simp only[l1,in1,bl1,nt1,fV,fU,m1,jq,Bool.and_self,aA,ax,az]at q;cases h2:bG b 999999999 with
    |false=>
     rw[h2]at q;cases t with
     |nil=>simp only[h9,h2]; exact gbO q rfl rfl
     |cons x t=>exact gbO q rfl rfl
    |true=>
     rw[h2,m2 h2]at q;cases t with
     |nil=>simp only[h9,h2]; exact q
     |cons c t=>exact gbO (q.trans (by rw[show eqI (af (a::b::c::t).length) 2=false from DI (j:=2) (by simp)]; rfl)) rfl rfl
theorem aes{W:ByteArray}{r:List ByteArray}:tK (kZ W k W r) (bn P E (jV (fun j=>eqI j k) ⟨#[110,97,116]⟩ fP iq byS byE bQ OC on oc ob) 50 aJ [.keep, .val] [24,4] 0 63 [.int .i64 k,ai 1 r.length 0 (r.map Value.string)] []):=by
 have q:=ac_ (fun j=>eqI j k) fP iq byS byE bQ OC on oc ob k r.length (r.map Value.string);rw[ig.2 rfl]at q;unfold kZ;rw[dG];cases r with
 |nil=>exact gbO q rfl rfl
 |cons a t=>
  obtain⟨n1,n2⟩:=rf a;simp only[l0,in0,bl0,nt0,kC,oz,fV,fU,n1,Bool.and_self,aA,ax]at q;cases h9:bG a 1 with
  |false=>
   have hg:(∃ l:List Value,l.length=6/\l.all oneCell=true/\bn P E (jV (fun j=>eqI j k) ⟨#[110,97,116]⟩ fP iq byS byE bQ OC on oc ob) 50 aJ [.keep, .val] [24,4] 0 63 [.int .i64 k,ai 1 (a::t).length 0 ((a::t).map Value.string)] []=some (.tuple ⟨[.agg ⟨l⟩, .bool false]⟩,mkSt [])):=by
    rw[pz]at h9;cases h:bG a 999999999 with
    |false=>rw[h]at q; exact⟨_,rfl,rfl,q⟩
    |true=>
     rw[h,Bool.true_and]at h9;rw[h,n2 h,h9]at q;exact⟨_,rfl,rfl,q⟩
   cases t with
   |nil=>exact hgO hg
   |cons b t=>
    cases t with
    |nil=>exact hgO hg
    |cons c t=>
     cases t with
     |nil=>simp only[h9]; exact hgO hg
     |cons d t=>exact hgO hg
  |true=>
   have h9':=h9;rw[pz,Bool.and_eq_true]at h9';rw[h9'.1,n2 h9'.1,h9'.2]at q;cases t with
   |nil=>exact gbO q rfl rfl
   |cons b t=>
    obtain⟨m1,m2⟩:=rf b;simp only[l1,in1,bl1,nt1,fV,fU,m1,jq,Bool.and_self,aA,ax,az]at q;cases h2:bG b 999999999 with
    |false=>
     rw[h2]at q;cases t with
     |nil=>exact gbO q rfl rfl
     |cons c t=>
      cases t with
      |nil=>simp only[h9,h2]; exact gbO q rfl rfl
      |cons d t=>exact gbO q rfl rfl
    |true=>
     rw[h2,m2 h2]at q;cases t with
     |nil=>exact gbO q rfl rfl
     |cons c t=>
      obtain⟨p1,p2⟩:=rf c;simp only[l2,in2,bl2,nt2,fV,fU,p1,jq,Bool.and_self,aA,ax,az]at q;cases h3:bG c 999999999 with
      |false=>
       rw[h3]at q;cases t with
       |nil=>simp only[h9,h2,h3]; exact gbO q rfl rfl
       |cons x t=>exact gbO q rfl rfl
      |true=>
       rw[h3,p2 h3]at q;cases t with
       |nil=>simp only[h9,h2,h3]; exact q
       |cons d t=>exact gbO (q.trans (by rw[show eqI (af (a::b::c::d::t).length) 3=false from DI (j:=3) (by simp)]; rfl)) rfl rfl
end
end Go.VS.Tryz
end

noncomputable section
namespace Go.VS

section
variable{P:Program}
theorem Lu{w:World}{r:Reach}{base:Nat}{t:TypeId}{v:Value}(h:Cell.okWide P w r base t v):v.oneCell'=true:=by
 cases v with
 |agg cs=>cases hu:P.underlying t with
  |none=>simp[Cell.okWide,Cell.ok,hu]at h
  |some d=>cases d<;>simp[Cell.okWide,Cell.ok,hu]at h
 |tuple cs=>cases hu:P.underlying t with
  |none=>simp[Cell.okWide,Cell.ok,hu]at h
  |some d=>cases d<;>simp[Cell.okWide,Cell.ok,hu]at h
 |_=>rfl
theorem ae1{Y:Env}{v:Value}(h:v.oneCell'=true):VR Y (.chan (some 0)) v:=h
end
end Go.VS
end

noncomputable section
namespace Go.VS.Tryz
open Go.VS
set_option maxRecDepth 1000000
def kRp:Con (List ByteArray) where
 enc ws:=([fzS ws],[])
 ok:=WsS
 inj a b h:=by
  simp only[Prod.mk.injEq,List.cons.injEq,and_true]at h;exact uS h
 dflt:=[]
theorem aci:CallOkX P 0 81 (jS kRp.C kRp.D fun ws=> .leaf (.tuple ⟨[aK (qX ws), .bool (vJ ws)]⟩,[])):=f_ kRp fun ws ho v bs' hev=>by
 simp only[DT.eval,Option.some.injEq,Prod.mk.injEq]at hev;obtain⟨rfl,rfl⟩:=hev;exact Zo ho
theorem wZ(ws:List ByteArray):(Value.iface 18446744073709551617 (.agg ⟨.slice none ws.length 0::ws.map Value.string⟩))=fzS ws:=by unfold fzS ai FZ; rfl
theorem age{k:Int}{r:List ByteArray}(hk:k=1):tK (nM n_ r) (bn P E (jV (fun j=>eqI j k) ⟨#[110,111]⟩ fP iq byS byE bQ (kRp.at (r.drop 1)) (qX (r.drop 1)).length (EOp.all (qX (r.drop 1))) (vJ (r.drop 1))) 50 aJ [.keep, .val] [24,4] 0 63 [.int .i64 k,ai 1 r.length 0 (r.map Value.string)] []):=by
 subst hk;have q:=adr (fun j=>eqI j 1) fP iq byS byE bQ (kRp.at (r.drop 1)) (qX (r.drop 1)).length (EOp.all (qX (r.drop 1))) (vJ (r.drop 1)) 1 r.length (r.map Value.string);rw[ig.2 rfl]at q;unfold nM;rw[dG];cases r with
 |nil=>exact gbO q rfl rfl
 |cons a t=>
  obtain⟨n1,n2⟩:=rf a;simp only[l0,in0,bl0,nt0,kC,oz,fV,fU,n1,Bool.and_self,aA,ax]at q;cases h9:bG a 1 with
  |false=>
   have hg:(∃ l:List Value,l.length=6/\l.all oneCell=true/\bn P E (jV (fun j=>eqI j 1) ⟨#[110,111]⟩ fP iq byS byE bQ (kRp.at ((a::t).drop 1)) (qX ((a::t).drop 1)).length (EOp.all (qX ((a::t).drop 1))) (vJ ((a::t).drop 1))) 50 aJ [.keep, .val] [24,4] 0 63 [.int .i64 1,ai 1 (a::t).length 0 ((a::t).map Value.string)] []=some (.tuple ⟨[.agg ⟨l⟩, .bool false]⟩,mkSt [])):=by
    rw[pz]at h9;cases h:bG a 999999999 with
    |false=>rw[h]at q; exact⟨_,rfl,rfl,q⟩
    |true=>
     rw[h,Bool.true_and]at h9;rw[h,n2 h,h9]at q;exact⟨_,rfl,rfl,q⟩
   cases t with
   |nil=>exact hgO hg
   |cons b t=>simp only[h9]; exact hgO hg
  |true=>
   have h9':=h9;rw[pz,Bool.and_eq_true]at h9';rw[h9'.1,n2 h9'.1,h9'.2]at q;cases t with
   |nil=>exact gbO q rfl rfl
   |cons b t=>
    obtain⟨r1,r2⟩:=aey (b::t);have hc:eP 1 (af (a::b::t).length) (a::b::t).length=true:=mi (by omega) (by unfold af; simp only[List.length_cons]; omega) (by unfold af; omega);have hlap:aX 1 (af (a::b::t).length)=(b::t).length:=by simp only[aX,af,List.length_cons]; omega
    have htl:takeC (b::t).length (ak 1 ((a::b::t).map Value.string))=(b::t).map Value.string:=qY (by simp);have z1:∀ n,Nat.mul n 1=n:=Nat.mul_one;simp only[l1,hc,hlap,z1,htl,jq,Bool.and_self,aA,ax,az]at q;have q:=q.trans (bu (k:=kRp) (s:=b::t) (by show [fzS (b::t)]=_; rw[<-wZ]) rfl rfl);cases h2:pV (b::t)with
    |false=>
     have r1:vJ ((a::b::t).drop 1)=false:=r1.trans h2;simp only[h9,h2];rw[r1]at q ⊢;exact gbO q rfl rfl
    |true=>
     have r1:vJ ((a::b::t).drop 1)=true:=r1.trans h2;have r2:qX ((a::b::t).drop 1)=opsV (b::t):=r2 h2;simp only[h9,h2];rw[r1,r2,fzO]at q;rw[r1,r2];exact q
def ku:Value:= .chan (some 0)
def adB:Option (ActM×Value)->Value
 |some p=> .tuple ⟨[g_ p.1, .bool true]⟩
 |none=> .tuple ⟨[.agg ⟨[ku,ku,ku,ku,ku,ku]⟩, .bool false]⟩
theorem WA{Y:Env}{l:List Value}{b x:Value}(h1:l.length=6)(h2:l.all oneCell=true)(h:VR Y (.tuple ⟨[.agg ⟨l⟩,b]⟩) x):VR Y (.tuple ⟨[.agg ⟨[ku,ku,ku,ku,ku,ku]⟩,b]⟩) x:=by
 simp only[VR,VRA,VRL]at h;obtain⟨a',rfl,y,ys,e,⟨c,rfl,hc⟩,hrest⟩:=h;have hlen:=hc.length;have hone:=VRL.oneCells hc h2;refine⟨a',rfl,?_⟩;simp only[VRA,VRL];refine⟨_,ys,e,⟨c,rfl,?_⟩,hrest⟩;obtain⟨c⟩:=c;simp only at hlen hone;rw[h1]at hlen
 match c,hlen,hone with
 |[c0,c1,c2,c3,c4,c5],_,hone=>
  have o:=fun v hv=>hone v hv;have t:∀ v,v.oneCell'=true->VR Y ku v:=fun v h=>ae1 h;exact VRL.cons (t _ (o c0 (by simp))) (VRL.cons (t _ (o c1 (by simp))) (VRL.cons (t _ (o c2 (by simp))) (VRL.cons (t _ (o c3 (by simp))) (VRL.cons (t _ (o c4 (by simp))) (VRL.cons (t _ (o c5 (by simp))) VRL.nil)))))
theorem YL{Y:Env}{a:ActM}{b x:Value}(ho:a.ops=[])(h:VR Y (.tuple ⟨[.agg ⟨kF a mG⟩,b]⟩) x):VR Y (.tuple ⟨[g_ a,b]⟩) x:=by
 simp only[VR,VRA,VRL]at h;obtain⟨a',rfl,y,ys,e,⟨c,rfl,hc⟩,hrest⟩:=h;unfold kF at hc;simp only[VRL]at hc;obtain⟨y1,l1,e1,q1,y2,l2,rfl,q2,y3,l3,rfl,q3,y4,l4,rfl,q4,y5,l5,rfl,q5,y6,l6,rfl,q6,q7⟩:=hc;refine⟨a',rfl,?_⟩;simp only[VRA,VRL];refine⟨_,ys,e,⟨c,rfl,?_⟩,hrest⟩;simp only[VRA,VRL,kF];exact⟨y1,_,e1,q1,y2,_,rfl,q2,y3,_,rfl,q3,y4,_,rfl,q4,y5,_,rfl,q5,y6,_,rfl,by rw[ho]; exact NT q6,q7⟩
theorem Jb{k:Nat}(h:k<12):CallOkR P 67 (zJ (fun j=>eqI j ((k+1:Nat):Int)) fun _=>shT k):=by
 refine⟨fun args t hR v bs hev=>?_⟩;unfold zJ at hR;split at hR
 ·rename_i j;obtain rfl:=Option.some.inj hR;simp only at hev;cases hc:eqI j ((k+1:Nat):Int)with
  |false=>rw[hc]at hev; cases hev
  |true=>
   rw[hc]at hev;simp only[DT.eval,Option.some.injEq,Prod.mk.injEq]at hev;obtain⟨rfl,rfl⟩:=hev;obtain rfl:=ig.1 hc;exact Y7 h
 ·cases hR
theorem aaz:CallOkR P 94 (Vw fP iq):=CallOkR.ofX acb
def TV(k:Nat)(ws:List ByteArray):Ct:=jV (fun j=>eqI j ((k+1:Nat):Int)) (shT k) fP iq byS byE bQ (kRp.at ws) (qX ws).length (EOp.all (qX ws)) (vJ ws)
theorem aau{k:Nat}(h:k<12){ws:List ByteArray}(hw:WsS ws):CtOk P (TV k ws):=
 aO (aU (aU (aU (aU aW wo) WW) aaz) (Jb h)) (eF kRp aci (s:=ws) hw)
theorem ad6{k:Nat}(hk:k<12){r:List ByteArray}(hs:∀ w∈r,w.size<=1000000):tK (dX k (nmT k) r) (bn P E (TV k (r.drop 1)) 50 aJ [.keep, .val] [24,4] 0 63 [.int .i64 ((k+1:Nat):Int),ai 1 r.length 0 (r.map Value.string)] []):=by
 match k,hk with
 |0,_=>exact age rfl
 |1,_=>exact afQ hs
 |2,_=>exact UW
 |3,_=>exact UW
 |4,_=>exact UW
 |5,_=>exact aab
 |6,_=>exact aab
 |7,_=>exact aab
 |8,_=>exact afY
 |9,_=>exact UW
 |10,_=>exact aes
 |11,_=>exact agf
theorem acH{k:Nat}(hk:k<12){r:List ByteArray}(hr:WsS r):CRX P 0 63 [.int .i64 ((k+1:Nat):Int),fzS r] [] (adB (dX k (nmT k) r)) []:=by
 have hd:WsS (r.drop 1):=⟨fun w h=>hr.1 w (List.mem_of_mem_drop h),by rw[List.length_drop]; have:=hr.2; omega⟩
 have q:=ad6 hk hr.1;have of:=fun v h=>CRX.of (P:=P) (aF (TV k (r.drop 1))) au (aau hk hd) (n:=50) (pol:=aJ) (fl:=[.keep, .val]) (ts:=[24,4]) (N:=0) (g:=63) (args:=[.int .i64 ((k+1:Nat):Int),fzS r]) (bs:=[]) (v:=v) (bs':=[]) h;cases hf:dX k (nmT k) r with
 |none=>
  rw[hf]at q;obtain⟨l,h1,h2,h3⟩:=q;exact(of _ h3).weak fun Y x hx=>WA h1 h2 hx
 |some p=>
  rw[hf]at q;rcases Rt hf with⟨h1,h2⟩ | h1
  ·have q:_=some (Value.tuple ⟨[.agg ⟨kF p.1 p.2⟩, .bool true]⟩,mkSt []):=q;rw[h1]at q;exact(of _ q).weak fun Y x hx=>YL h2 hx
  ·have q:_=some (Value.tuple ⟨[.agg ⟨kF p.1 p.2⟩, .bool true]⟩,mkSt []):=q;rw[h1]at q;exact of _ q
def Drl:HeadX:=⟨1,58,[0,2,3,4,5],[.val, .keep, .val, .val, .val],[9,54,4,25,3],aJ⟩
def Brl:Code:=(bK P 34 0).getD .skip
theorem V7:bK P 34 0=some Brl:=by kernel_rfl
theorem Ji:Occ P 34 (.block 0 (.loop Brl)):=dA V7
def pA:Value:= .pointer (some ⟨0,0,none⟩)
theorem Yk(s:ByteArray)(i:Int):aQ P E ctF 50 34 Brl Drl [.string s,pA, .bool false, .int .i64 0, .int .i64 i] [.cells dI 24 true] =
 (ag (ltI i (af s.size))
 (ae (inI i s.size)
 (ag (eqI (bAt s i) 10)
 (some ((.tuple ⟨[.int .i64 (-1),.string s,.pointer (Option.some (Addr.mk 0 0 none)),.bool false,.int .i64 350,.int .i64 i]⟩),(mkSt [Blk.cells [.int .i64 0,.int .i64 0,.int .i64 0,.int .i64 0,.string ⟨#[]⟩,.slice none 0 0] 24 true])))
 (some ((.tuple ⟨[.int .i64 0,.string s,.pointer (Option.some (Addr.mk 0 0 none)),.bool false,.int .i64 0,.int .i64 (aB .i64 i 1)]⟩),(mkSt [Blk.cells [.int .i64 0,.int .i64 0,.int .i64 0,.int .i64 0,.string ⟨#[]⟩,.slice none 0 0] 24 true])))))
 (some ((.tuple ⟨[.int .i64 1,.string s,.pointer (Option.some (Addr.mk 0 0 none)),.bool false,.int .i64 0,.int .i64 i]⟩),(mkSt [Blk.cells [.int .i64 0,.int .i64 0,.int .i64 0,.int .i64 0,.string ⟨#[]⟩,.slice none 0 0] 24 true])))):=by kernel_rfl
def Drm:HeadX:=⟨1,58,[0,2,3,4,6,7],[.val, .keep, .val, .val, .val, .val],[9,54,4,25,29,3],aJ⟩
def Brm:Code:=(bK P 34 2).getD .skip
theorem Ol:bK P 34 2=some Brm:=by kernel_rfl
theorem DR:Occ P 34 (.block 2 (.loop Brm)):=dA Ol
def abQ(NC:Int->Bool)(NF:Int->ByteArray)(AC:List Value->List Blk->Bool)(ok:Bool)(k nd n t:Int)(key:ByteArray)(on:Nat)(oc:List Value):Ct:=
 bH P 62 (zJ NC NF) (bJ P aJ 0 63 (iL AC (.ite ok (.leaf (.tuple ⟨[.agg ⟨[.int .i64 k, .int .i64 nd, .int .i64 n, .int .i64 t, .string key,ai 3 on 0 oc]⟩, .bool true]⟩,[])) (.leaf (.tuple ⟨[.agg ⟨[ku,ku,ku,ku,ku,ku]⟩, .bool false]⟩,[])))) ctF)
theorem XC(NC:Int->Bool)(NF:Int->ByteArray)(AC:List Value->List Blk->Bool)(ok:Bool)(k nd n t:Int)(key:ByteArray)(on:Nat)(oc:List Value)(s:ByteArray)(m:Nat)(c:List Value)(j:Int):aQ P E (abQ NC NF AC ok k nd n t key on oc) 50 34 Brm Drm [.string s,pA, .bool false, .int .i64 0,ai 1 m 0 c, .int .i64 j] [.cells dI 24 true] =
 (ag (leI j 12)
 (ae (NC j)
 (ae (Bool.and (Nat.beq 1 1) (inI 0 m))
 (ae (Bool.and (Nat.ble 1 c.length) (dw .string (ah c 0)))
 (ae (Bool.and (Nat.ble 1 c.length) (dw .string (ah c 0)))
 (ae (dn (.string (asS (ah c 0))) (.string (asS (ah c 0))))
 (ag (eqS (NF j) (asS (ah c 0)))
 (ae (Bool.and (Nat.beq 1 1) (eP 1 (af m) m))
 (ae (AC [.int .i64 j,.iface 18446744073709551617 (.agg ⟨(.slice none (aX 1 (af m)) 0)::(takeC (Nat.mul (aX 1 (af m)) 1) (ak 1 c))⟩)] [])
 (ag ok
 (some ((.tuple ⟨[.int .i64 (-1),.string s,.pointer (Option.some (Addr.mk 0 0 none)),.bool true,.int .i64 0,.iface 18446744073709551617 (.agg ⟨(.slice none m 0)::c⟩),.int .i64 j]⟩),(mkSt [Blk.cells [.int .i64 k,.int .i64 nd,.int .i64 n,.int .i64 t,.string key,.iface 18446744073709551619 (.agg ⟨(.slice none on 0)::oc⟩)] 24 true])))
 (some ((.tuple ⟨[.int .i64 0,.string s,.pointer (Option.some (Addr.mk 0 0 none)),.bool false,.int .i64 0,.iface 18446744073709551617 (.agg ⟨(.slice none m 0)::c⟩),.int .i64 (aB .i64 j 1)]⟩),(mkSt [Blk.cells [.int .i64 0,.int .i64 0,.int .i64 0,.int .i64 0,.string ⟨#[]⟩,.slice none 0 0] 24 true]))))))
 (some ((.tuple ⟨[.int .i64 0,.string s,.pointer (Option.some (Addr.mk 0 0 none)),.bool false,.int .i64 0,.iface 18446744073709551617 (.agg ⟨(.slice none m 0)::c⟩),.int .i64 (aB .i64 j 1)]⟩),(mkSt [Blk.cells [.int .i64 0,.int .i64 0,.int .i64 0,.int .i64 0,.string ⟨#[]⟩,.slice none 0 0] 24 true])))))))))
 (some ((.tuple ⟨[.int .i64 3,.string s,.pointer (Option.some (Addr.mk 0 0 none)),.bool false,.int .i64 0,.iface 18446744073709551617 (.agg ⟨(.slice none m 0)::c⟩),.int .i64 j]⟩),(mkSt [Blk.cells [.int .i64 0,.int .i64 0,.int .i64 0,.int .i64 0,.string ⟨#[]⟩,.slice none 0 0] 24 true])))):=by kernel_rfl
def abq(LC MC WC:List Value->List Blk->Bool)(o1 o2:Bool)(s:ByteArray)(m:Nat)(c:List Value)(i j:Int)(k nd n t:Int)(key:ByteArray)(on:Nat)(oc:List Value):Ct:=
 dR P 34 0 Drl (iD LC (.ite o1 (.leaf (.ret,[.string s,pA, .bool false, .int .i64 350, .int .i64 i],[.cells dI 24 true])) (.leaf (.normal,[.string s,pA, .bool false, .int .i64 0, .int .i64 (af s.size)],[.cells dI 24 true]))))
 (dR P 34 2 Drm (iD MC (.ite o2 (.leaf (.ret,[.string s,pA, .bool true, .int .i64 0,ai 1 m 0 c, .int .i64 j],[.cells [.int .i64 k, .int .i64 nd, .int .i64 n, .int .i64 t, .string key,ai 3 on 0 oc] 24 true])) (.leaf (.normal,[.string s,pA, .bool false, .int .i64 0,ai 1 m 0 c, .int .i64 13],[.cells dI 24 true]))))
 (bJ P aJ 0 61 (iL WC (.leaf (ai 1 m 0 c,[]))) ctF))
theorem WU(LC MC WC:List Value->List Blk->Bool)(o1 o2:Bool)(s:ByteArray)(m:Nat)(c:List Value)(i j:Int)(k nd n t:Int)(key:ByteArray)(on:Nat)(oc:List Value):bn P E (abq LC MC WC o1 o2 s m c i j k nd n t key on oc) 50 aJ [.keep, .val, .val] [24,4,25] 0 34 [.string s] [] =
 (ag (gtI (af s.size) 65536)
 (some ((.tuple ⟨[.agg ⟨[.int .i64 0,.int .i64 0,.int .i64 0,.int .i64 0,.string ⟨#[]⟩,.slice none 0 0]⟩,.bool false,.int .i64 3]⟩),(mkSt [])))
 (ae (LC [.string s,.pointer (Option.some (Addr.mk 0 0 none)),.bool false,.int .i64 0,.int .i64 0] [Blk.cells [.int .i64 0,.int .i64 0,.int .i64 0,.int .i64 0,.string ⟨#[]⟩,.slice none 0 0] 24 true])
 (ag o1
 (some ((.tuple ⟨[.agg ⟨[.int .i64 0,.int .i64 0,.int .i64 0,.int .i64 0,.string ⟨#[]⟩,.slice none 0 0]⟩,.bool false,.int .i64 350]⟩),(mkSt [])))
 (ae (WC [.string s] [])
 (ag (eqI (af m) 0)
 (some ((.tuple ⟨[.agg ⟨[.int .i64 0,.int .i64 0,.int .i64 0,.int .i64 0,.string ⟨#[]⟩,.slice none 0 0]⟩,.bool false,.int .i64 0]⟩),(mkSt [])))
 (ae (Bool.and (Nat.beq 1 1) (inI 0 m))
 (ae (Bool.and (Nat.ble 1 c.length) (dw .string (ah c 0)))
 (ae (inI 0 (ByteArray.size (asS (ah c 0))))
 (ag (eqI (bAt (asS (ah c 0)) 0) 35)
 (some ((.tuple ⟨[.agg ⟨[.int .i64 0,.int .i64 0,.int .i64 0,.int .i64 0,.string ⟨#[]⟩,.slice none 0 0]⟩,.bool false,.int .i64 0]⟩),(mkSt [])))
 (ae (MC [.string s,.pointer (Option.some (Addr.mk 0 0 none)),.bool false,.int .i64 0,.iface 18446744073709551617 (.agg ⟨(.slice none m 0)::c⟩),.int .i64 1] [Blk.cells [.int .i64 0,.int .i64 0,.int .i64 0,.int .i64 0,.string ⟨#[]⟩,.slice none 0 0] 24 true])
 (ag o2
 (some ((.tuple ⟨[.agg ⟨[.int .i64 k,.int .i64 nd,.int .i64 n,.int .i64 t,.string key,.iface 18446744073709551619 (.agg ⟨(.slice none on 0)::oc⟩)]⟩,.bool true,.int .i64 0]⟩),(mkSt [])))
 (some ((.tuple ⟨[.agg ⟨[.int .i64 0,.int .i64 0,.int .i64 0,.int .i64 0,.string ⟨#[]⟩,.slice none 0 0]⟩,.bool false,.int .i64 350]⟩),(mkSt [])))))))))))))):=by kernel_rfl
def rlV(s:ByteArray)(e i:Int):List Value:=[.string s,pA, .bool false, .int .i64 e, .int .i64 i]
def rlB:List Blk:=[.cells dI 24 true]
theorem aax{s:ByteArray}{i:Nat}(hi:i<s.size)(hs:s.size<=4194302):aQ P E ctF 50 34 Brl Drl (rlV s 0 i) rlB=match(bl s)[i]'(by rw[bY]; exact hi) == 10 with
  |true=>some (.tuple ⟨exV .ret::rlV s 350 i⟩,mkSt rlB)
  |false=>some (.tuple ⟨exV .normal::rlV s 0 ((i+1:Nat):Int)⟩,mkSt rlB):=by
 unfold rlV rlB;rw[Yk];have g1:ltI (i:Int) (af s.size)=true:=by unfold ltI af; exact decide_eq_true (by omega)
 have a1:aB .i64 (i:Int) 1=((i+1:Nat):Int):=by unfold aB; rw[wrap64 (by omega) (by omega)]; omega
 have e10:=zL (b:=(bl s)[i]'(by rw[bY]; exact hi)) (c:=10) (by decide);rw[show((10:Nat):Int)=10 from rfl,show UInt8.ofNat 10=10 from rfl]at e10;simp only[g1,bD hi,a1,x9 hi,e10,az,aA];cases (bl s)[i]'(by rw[bY]; exact hi) == 10<;>rfl
theorem afh{s:ByteArray}:aQ P E ctF 50 34 Brl Drl (rlV s 0 s.size) rlB=some (.tuple ⟨exV (.exit 0)::rlV s 0 s.size⟩,mkSt rlB):=by
 unfold rlV rlB;rw[Yk];have g1:ltI (s.size:Int) (af s.size)=false:=by unfold ltI af; exact decide_eq_false (by omega)
 rw[g1]; rfl
def ten:List UInt8->Nat->Option Nat
 |[],_=>none
 |b::l,i=>match b == 10 with
  |true=>some i
  |false=>ten l (i+1)
theorem YK:∀ (l:List UInt8) (i:Nat),(ten l i).isSome=decide (0<=Lib.indexByte l 10)
 |[],i=>rfl
 |b::l,i=>by
  have ih:=YK l (i+1);have hg:=Lib.indexByte_ge l 10;unfold ten Lib.indexByte;cases hb:b == 10 with
  |true=>simp
  |false=>
   simp only[Bool.false_eq_true,if_false];rw[ih];by_cases h:Lib.indexByte l 10=-1
   ·rw[h]; rfl
   ·have:(Lib.indexByte l 10 == -1)=false:=beq_false_of_ne h;simp only[this,Bool.false_eq_true,if_false];rw[decide_eq_true (show 0<=Lib.indexByte l 10 by omega)];first
     |exact(decide_eq_true (by omega)).symm
     |(simp only[h,if_false]; exact(decide_eq_true (by omega)).symm)
theorem RJ(s:ByteArray)(hs:s.size<=4194302):∀ (k i:Nat),i+k=s.size->
  LRX P 34 0 Brl Drl.head (rlV s 0 i) rlB (match ten ((bl s).drop i) i with | none=> .normal | some _=> .ret) (match ten ((bl s).drop i) i with | none=>rlV s 0 s.size | some j=>rlV s 350 j) rlB
 |0,i,h=>by
  obtain rfl:i=s.size:=by omega
  rw[List.drop_of_length_le (by rw[bY]; exact Nat.le_refl _)];exact LRX.stop (n:=50) (aF ctF) au aW Ji (e:= .exit 0) afh (by intro h; cases h)
 |k+1,i,h=>by
  have hi:i<s.size:=by omega
  have q:=aax hi hs;rw[List.drop_eq_getElem_cons (by rw[bY]; exact hi)];simp only[ten];cases ho:(bl s)[i]'(by rw[bY]; exact hi) == 10 with
  |false=>
   rw[ho]at q;exact LRX.again (n:=50) (aF ctF) au aW Ji q (RJ s hs k (i+1) (by omega))
  |true=>
   rw[ho]at q;exact LRX.stop (n:=50) (aF ctF) au aW Ji (e:= .ret) q (by intro h; cases h)
def kRl:Con ByteArray where
 enc s:=(rlV s 0 0,rlB)
 ok s:=s.size<=4194302
 inj a b h:=by
  unfold rlV at h;simp only[Prod.mk.injEq,List.cons.injEq,Value.string.injEq,true_and,and_true]at h;exact h
 dflt:=default
def abn(s:ByteArray):DT (Ex×List Value×List Blk):= .ite (ten (bl s) 0).isSome (.leaf (.ret,rlV s 350 ((ten (bl s) 0).getD 0:Nat),rlB)) (.leaf (.normal,rlV s 0 (af s.size),rlB))
theorem Wh:LoopOkX P 34 0 Brl Drl.head (kP kRl.C kRl.D abn):=
 fQ kRl (bz V7) fun s ho e vs' bs' hev=>by
  have q:=RJ s ho s.size 0 (by omega);rw[List.drop_zero]at q;unfold abn at hev;cases hb:ten (bl s) 0 with
  |none=>
   rw[hb]at hev q;simp only[Option.isSome_none,DT.eval,Option.some.injEq,Prod.mk.injEq]at hev;obtain⟨rfl,rfl,rfl⟩:=hev;exact q
  |some j=>
   rw[hb]at hev q;simp only[Option.isSome_some,Option.getD_some,DT.eval,Option.some.injEq,Prod.mk.injEq]at hev;obtain⟨rfl,rfl,rfl⟩:=hev;exact q
def kRa:Con (Nat×List ByteArray) where
 enc x:=([.int .i64 ((x.1+1:Nat):Int),fzS x.2],[])
 ok x:=x.1<12/\WsS x.2
 inj a b h:=by
  obtain⟨a1,a2⟩:=a;obtain⟨b1,b2⟩:=b;simp only[Prod.mk.injEq,List.cons.injEq,Value.int.injEq,true_and,and_true]at h;have:a1=b1:=by omega
  rw[this,uS h.2]
 dflt:=(0,[])
def adA(o:Option (ActM×Value)):DT (Value×List Blk):= .ite o.isSome (.leaf (.tuple ⟨[g_ ((o.map (·.1)).getD cZ), .bool true]⟩,[])) (.leaf (.tuple ⟨[.agg ⟨[ku,ku,ku,ku,ku,ku]⟩, .bool false]⟩,[]))
theorem ab8:CallOkX P 0 63 (jS kRa.C kRa.D fun x=>adA (dX x.1 (nmT x.1) x.2)):=f_ kRa fun x ho v bs' hev=>by
 have q:=acH ho.1 ho.2;unfold adA at hev;cases hf:dX x.1 (nmT x.1) x.2 with
 |none=>
  rw[hf]at hev q;simp only[Option.isSome_none,DT.eval,Option.some.injEq,Prod.mk.injEq]at hev;obtain⟨rfl,rfl⟩:=hev;exact q
 |some p=>
  rw[hf]at hev q;simp only[Option.isSome_some,Option.map_some,Option.getD_some,DT.eval,Option.some.injEq,Prod.mk.injEq]at hev;obtain⟨rfl,rfl⟩:=hev;exact q
def rmV(s:ByteArray)(ws:List ByteArray)(th:Bool)(j:Int):List Value:=[.string s,pA, .bool th, .int .i64 0,fzS ws, .int .i64 j]
def rmB(a:List Value):List Blk:=[.cells a 24 true]
def rmA(k:Nat)(r:List ByteArray):ActM:=((dX k (nmT k) r).map (·.1)).getD cZ
def FN(k:Nat)(r:List ByteArray):Ct:=abQ kdC nmI (kRa.at (k,r)) (dX k (nmT k) r).isSome (rmA k r).kind (rmA k r).node (rmA k r).n (rmA k r).t (rmA k r).key (rmA k r).ops.length (EOp.all (rmA k r).ops)
theorem CW{k:Nat}(h:k<12){r:List ByteArray}(hr:WsS r):CtOk P (FN k r):=aU (aO aW (eF kRa ab8 (s:=(k,r)) ⟨h,hr⟩)) Tm
theorem ZA{s w0:ByteArray}{r:List ByteArray}{k:Nat}(hk:k<12):aQ P E (FN k r) 50 34 Brm Drm (rmV s (w0::r) false ((k+1:Nat):Int)) (rmB dI)=match eqS (nmT k) w0,dX k (nmT k) r with
  |true,some p=>some (.tuple ⟨exV .ret::rmV s (w0::r) true ((k+1:Nat):Int)⟩,mkSt (rmB (kF p.1 (aK p.1.ops))))
  |_,_=>some (.tuple ⟨exV .normal::rmV s (w0::r) false ((k+2:Nat):Int)⟩,mkSt (rmB dI)):=by
 unfold rmV rmB;have q:=XC kdC nmI (kRa.at (k,r)) (dX k (nmT k) r).isSome (rmA k r).kind (rmA k r).node (rmA k r).n (rmA k r).t (rmA k r).key (rmA k r).ops.length (EOp.all (rmA k r).ops) s (w0::r).length ((w0::r).map Value.string) ((k+1:Nat):Int);refine Eq.trans ?_ (q.trans ?_)
 ·rfl
 clear q;have g1:leI ((k+1:Nat):Int) 12=true:=by unfold leI; exact decide_eq_true (by omega)
 have g2:kdC ((k+1:Nat):Int)=true:=xH.2 ⟨k,hk,rfl⟩;have g3:nmI ((k+1:Nat):Int)=nmT k:=by unfold nmI; congr 1
 have a1:aB .i64 ((k+1:Nat):Int) 1=((k+2:Nat):Int):=by unfold aB; rw[wrap64 (by omega) (by omega)]; omega
 have z1:∀ n,Nat.mul n 1=n:=Nat.mul_one;simp only[g1,g2,g3,a1,l_in,bl0,nt0,kC,oz,fV,fU,uG,uN,yR,z1,Y8,Bool.and_self,az,aA];rw[wZ (w0::r)];cases hn:eqS (nmT k) w0 with
 |false=>rfl
 |true=>
  refine Eq.trans az ?_;refine bu (k:=kRa) (s:=(k,r)) (by show [_,fzS r]=_; rw[<-wZ r]) rfl ?_;unfold rmA;cases dX k (nmT k) r with
  |none=>rfl
  |some p=>
   simp only[Option.isSome_some,Option.map_some,Option.getD_some,az];rw[fzO]
   rfl
theorem aek{s w0:ByteArray}{r:List ByteArray}:aQ P E (FN 0 r) 50 34 Brm Drm (rmV s (w0::r) false 13) (rmB dI)=some (.tuple ⟨exV (.exit 2)::rmV s (w0::r) false 13⟩,mkSt (rmB dI)):=by
 unfold rmV rmB;have q:=XC kdC nmI (kRa.at (0,r)) (dX 0 (nmT 0) r).isSome (rmA 0 r).kind (rmA 0 r).node (rmA 0 r).n (rmA 0 r).t (rmA 0 r).key (rmA 0 r).ops.length (EOp.all (rmA 0 r).ops) s (w0::r).length ((w0::r).map Value.string) 13;refine Eq.trans ?_ (q.trans ?_)
 ·rfl
 rw[wZ (w0::r)]
 rfl
def rmM(w0:ByteArray)(r:List ByteArray):Nat->Nat->Option (Nat×(ActM×Value))
 |0,_=>none
 |f+1,k=>match eqS (nmT k) w0,dX k (nmT k) r with
  |true,some p=>some (k,p)
  |_,_=>rmM w0 r f (k+1)
theorem afZ{k:Nat}{w0:ByteArray}:w0.data.toList=CZ k↔w0=nmT k:=by
 constructor
 ·intro h; exact lZ (h.trans (by unfold nmT bl; simp))
 ·rintro rfl; unfold nmT; simp
theorem O3(w0:ByteArray)(r:List ByteArray):∀ (f k:Nat),((List.range' k f).findSome? fun k=>dX k w0 r)=(rmM w0 r f k).map (·.2)
 |0,k=>rfl
 |f+1,k=>by
  have ih:=O3 w0 r f (k+1);rw[List.range'_succ,List.findSome?_cons];unfold rmM;cases hn:eqS (nmT k) w0 with
  |true=>
   obtain rfl:=l_ hn;cases hf:dX k (nmT k) r with
   |some p=>rfl
   |none=>exact ih
  |false=>
   cases hf:dX k w0 r with
   |some p=>
    have:=(afZ.1 (yz hf).2)
    rw[this,dG]at hn; cases hn
   |none=>exact ih
theorem Jp{s w0:ByteArray}{r:List ByteArray}(hr:WsS r):∀ (f k:Nat),k+f=12->
  LRX P 34 2 Brm Drm.head (rmV s (w0::r) false ((k+1:Nat):Int)) (rmB dI) (match rmM w0 r f k with | some _=> .ret | none=> .normal) (match rmM w0 r f k with | some x=>rmV s (w0::r) true ((x.1+1:Nat):Int) | none=>rmV s (w0::r) false 13) (match rmM w0 r f k with | some x=>rmB (kF x.2.1 (aK x.2.1.ops)) | none=>rmB dI)
 |0,k,h=>by
  obtain rfl:k=12:=by omega
  exact LRX.stop (n:=50) (aF (FN 0 r)) au (CW (by decide) hr) DR (e:= .exit 2) aek (by intro h; cases h)
 |f+1,k,h=>by
  have hk:k<12:=by omega
  have q:=ZA (s:=s) (w0:=w0) (r:=r) hk;unfold rmM;cases hn:eqS (nmT k) w0 with
  |false=>
   rw[hn]at q;exact LRX.again (n:=50) (aF (FN k r)) au (CW hk hr) DR q (Jp hr f (k+1) (by omega))
  |true=>
   cases hf:dX k (nmT k) r with
   |none=>
    rw[hn,hf]at q;exact LRX.again (n:=50) (aF (FN k r)) au (CW hk hr) DR q (Jp hr f (k+1) (by omega))
   |some p=>
    rw[hn,hf]at q;exact LRX.stop (n:=50) (aF (FN k r)) au (CW hk hr) DR (e:= .ret) q (by intro h; cases h)
def kRm:Con (ByteArray×ByteArray×List ByteArray) where
 enc x:=(rmV x.1 (x.2.1::x.2.2) false 1,rmB dI)
 ok x:=WsS x.2.2
 inj a b h:=by
  obtain⟨a1,a2,a3⟩:=a;obtain⟨b1,b2,b3⟩:=b;unfold rmV at h;simp only[Prod.mk.injEq,List.cons.injEq,Value.string.injEq,true_and,and_true]at h;obtain⟨h1,h2⟩:=h;have:=uS h2;simp only[List.cons.injEq]at this;rw[h1,this.1,this.2]
 dflt:=(default,default,[])
def rmX(x:ByteArray×ByteArray×List ByteArray):Option (Nat×(ActM×Value)):=rmM x.2.1 x.2.2 12 0
def abA(x:ByteArray×ByteArray×List ByteArray):DT (Ex×List Value×List Blk):= .ite (rmX x).isSome (.leaf (.ret,rmV x.1 (x.2.1::x.2.2) true ((((rmX x).map (·.1)).getD 0+1:Nat):Int),rmB (kF (((rmX x).map (·.2.1)).getD cZ) (aK (((rmX x).map (·.2.1)).getD cZ).ops)))) (.leaf (.normal,rmV x.1 (x.2.1::x.2.2) false 13,rmB dI))
theorem VP:LoopOkX P 34 2 Brm Drm.head (kP kRm.C kRm.D abA):=
 fQ kRm (bz Ol) fun x ho e vs' bs' hev=>by
  obtain⟨s,w0,r⟩:=x;have q:=Jp (s:=s) (w0:=w0) ho 12 0 (by omega);unfold abA rmX at hev;cases hb:rmM w0 r 12 0 with
  |none=>
   rw[hb]at q;simp only[hb,Option.isSome_none,DT.eval,Option.some.injEq,Prod.mk.injEq]at hev;obtain⟨rfl,rfl,rfl⟩:=hev;exact q
  |some y=>
   rw[hb]at q;simp only[hb,Option.isSome_some,Option.map_some,Option.getD_some,DT.eval,Option.some.injEq,Prod.mk.injEq]at hev;obtain⟨rfl,rfl,rfl⟩:=hev;exact q
def lG(x:ByteArray×ByteArray×List ByteArray):ActM:=((rmX x).map (·.2.1)).getD cZ
def afF(s:ByteArray):Ct:=abq (kRl.at s) (fun _ _=>false) (BP.at s) (ten (bl s) 0).isSome (rmX (s,default,[])).isSome s (ed s).length ((ed s).map Value.string) ((ten (bl s) 0).getD 0:Nat) ((((rmX (s,default,[])).map (·.1)).getD 0+1:Nat):Int) (lG (s,default,[])).kind (lG (s,default,[])).node (lG (s,default,[])).n (lG (s,default,[])).t (lG (s,default,[])).key (lG (s,default,[])).ops.length (EOp.all (lG (s,default,[])).ops)
theorem XW{s:ByteArray}(hs:s.size<=999999):CRX P 0 34 [.string s] [] (yM (aG s)) []:=by
 obtain⟨hw,hl,hp⟩:=JG (s:=s) (by omega);have z:∀ {e:Int},CRX P 0 34 [.string s] [] (.tuple ⟨[.agg ⟨dI⟩, .bool false, .int .i64 e]⟩) []->CRX P 0 34 [.string s] [] (yM (cZ,false,e)) []:=fun h=>h.weak fun Y x hx=>QL hx;have o1:(ten (bl s) 0).isSome=inB s 10:=YK (bl s) 0;have rlOk:=gU kRl Wh (s:=s) (show s.size<=4194302 by omega);have wOk:=eF BP aat (s:=s) (show s.size<=4194302 by omega);have q:=fun MC w0 r=>WU (kRl.at s) MC (BP.at s) (ten (bl s) 0).isSome (rmX (s,w0,r)).isSome s (ed s).length ((ed s).map Value.string) ((ten (bl s) 0).getD 0:Nat) ((((rmX (s,w0,r)).map (·.1)).getD 0+1:Nat):Int) (lG (s,w0,r)).kind (lG (s,w0,r)).node (lG (s,w0,r)).n (lG (s,w0,r)).t (lG (s,w0,r)).key (lG (s,w0,r)).ops.length (EOp.all (lG (s,w0,r)).ops);have of0:=fun v h=>CRX.of (P:=P) (aF (afF s)) au (bf (bf (aO aW wOk) (lD (bz Ol))) rlOk) (n:=50) (pol:=aJ) (fl:=[.keep, .val, .val]) (ts:=[24,4,25]) (N:=0) (g:=34) (args:=[.string s]) (bs:=[]) (v:=v) (bs':=[]) h;unfold aG;cases h1:gtI (af s.size) 65536 with
 |true=>
  refine z (of0 _ ((q (fun _ _=>false) default []).trans ?_));rw[h1]; rfl
 |false=>
 cases h2:inB s 10 with
 |true=>
  refine z (of0 _ ((q (fun _ _=>false) default []).trans ?_));rw[h1,o1,h2];refine Eq.trans ax ?_;exact bu (k:=kRl) (s:=s) rfl rfl rfl
 |false=>
 cases h3:ed s with
 |nil=>
  refine z (of0 _ ((q (fun _ _=>false) default []).trans ?_));rw[h1,o1,h2];refine Eq.trans ax ?_;refine bu (k:=kRl) (s:=s) rfl rfl ?_;refine Eq.trans ax ?_;refine bu (k:=BP) (s:=s) rfl rfl ?_;rw[h3]
  rfl
 |cons w0 r=>
  have hr:WsS r:=by
   have hw':∀ w∈ed s,w.size<=s.size:=fun w hm=>by
    have h:=(Pl.wordsB_facts (bl s) []).1;have hmem:bl w∈Pl.wordsB [] (bl s):=by
     have e:(ed s).map bl=Pl.wordsB [] (bl s):=o6 s;rw[<-e]; exact List.mem_map.2 ⟨w,hm,rfl⟩
    have:=(h _ hmem).2;rw[bY,bY]at this;simpa using this
   rw[h3]at hw' hl;refine⟨fun w hm=>by have:=hw' w (List.mem_cons_of_mem _ hm); omega,?_⟩;have h:=(Pl.wordsB_facts (bl s) []).2;have e:(ed s).map bl=Pl.wordsB [] (bl s):=o6 s;rw[<-e,h3,List.length_map,bY]at h;simp only[List.length_cons]at h;omega
  rw[h3]at hw hl hp;have a1:eqI (af (w0::r).length) 0=false:=by unfold eqI af; exact decide_eq_false (by simp only[List.length_cons]; omega)
  have a2:inI 0 w0.size=true:=bD (i:=0) (hp w0 (by simp));have rmOk:=gU kRm VP (s:=(s,w0,r)) hr;have hfind:(rmX (s,w0,r)).map (·.2)=gm w0 r:=by
   unfold rmX gm;rw[<-O3 w0 r 12 0,List.range_eq_range']
  have key:∀ v,(ag (wB w0) (some (.tuple ⟨[.agg ⟨dI⟩, .bool false, .int .i64 0]⟩,mkSt [])) (ag (rmX (s,w0,r)).isSome (some (.tuple ⟨[g_ (lG (s,w0,r)), .bool true, .int .i64 0]⟩,mkSt [])) (some (.tuple ⟨[.agg ⟨dI⟩, .bool false, .int .i64 350]⟩,mkSt []))):Res)=some (v,mkSt [])->
    CRX P 0 34 [.string s] [] v []:=fun v hv=>by
   have q:=q (kRm.at (s,w0,r)) w0 r;rw[h3]at q wOk;refine CRX.of (aF _) au (bf (bf (aO aW wOk) rmOk) rlOk) (n:=50) (pol:=aJ) (fl:=[.keep, .val, .val]) (ts:=[24,4,25]) (q.trans ?_);rw[h1,o1,h2];refine Eq.trans ax ?_;refine bu (k:=kRl) (s:=s) rfl rfl ?_;refine Eq.trans ax ?_;refine bu (k:=BP) (s:=s) rfl rfl ?_;simp only[a1,l_in,kC,bl0,nt0,fV,fU,oz,a2,Bool.and_self,aA,ax];refine Eq.trans ?_ hv;unfold wB;cases eqI (bAt w0 0) 35 with
   |true=>rfl
   |false=>
    simp only[ax];refine bu (k:=kRm) (s:=(s,w0,r)) (by show rmV _ _ _ _=_; unfold rmV; rw[<-wZ (w0::r)]; try rfl) rfl ?_;unfold g_ kF;rw[fzO]
    rfl
  simp only;cases h4:wB w0 with
  |true=>exact z (key _ (by rw[h4]; rfl))
  |false=>
   cases h5:rmX (s,w0,r)with
   |none=>
    rw[h5]at hfind;rw[<-hfind];exact z (key _ (by rw[h4,h5]; rfl))
   |some p=>
    have ha:lG (s,w0,r)=p.2.1:=by unfold lG; rw[h5]; rfl
    rw[h5]at hfind;rw[<-hfind];exact key _ (by rw[h4,h5,ha]; rfl)
def AB:Con ByteArray where
 enc s:=([.string s],[])
 ok s:=s.size<=999999
 inj a b h:=by simp only[Prod.mk.injEq,List.cons.injEq,Value.string.injEq,and_true]at h; exact h
 dflt:=default
theorem aac:CallOkX P 0 34 (jS AB.C AB.D fun s=> .leaf (yM (aG s),[])):=f_ AB fun s ho v bs' hev=>by
 simp only[DT.eval,Option.some.injEq,Prod.mk.injEq]at hev;obtain⟨rfl,rfl⟩:=hev;exact XW ho
def Drs:HeadX:=⟨0,36,[0,3,4,5],[.val, .own, .val, .val],[9,29,3,3],aJ⟩
def Brs:Code:=(bK P 33 0).getD .skip
theorem YI:bK P 33 0=some Brs:=by kernel_rfl
theorem I7:Occ P 33 (.block 0 (.loop Brs)):=dA YI
theorem YZ(s:ByteArray)(m:Nat)(d:List Value)(f i:Int):aQ P E ctF 50 33 Brs Drs [.string s, .slice (some ⟨0,0,none⟩) m unk, .int .i64 f, .int .i64 i] [.cells d 9 false] =
 (ag (ltI i (af s.size))
 (ae (inI i s.size)
 (ag (eqI (bAt s i) 10)
 (ae (eP f i s.size)
 (ae (Nat.ble (Nat.add m 1) 4194304)
 (ae (Nat.beq (Nat.add 0 (Nat.mul m 1)) d.length)
 (ae (Nat.ble (Nat.add 0 (Nat.mul (Nat.add m 1) 1)) (List.length (List.append (gI 0 d) [.string (iC s f i)])))
 (some ((.tuple ⟨[.int .i64 0,.string s,.slice (Option.some (Addr.mk 0 0 none)) (Nat.add m 1) 18446744073709551616,.int .i64 (aB .i64 i 1),.int .i64 (aB .i64 i 1)]⟩),(mkSt [Blk.cells (renL true (rhoO 0 [3]) (takeC (Nat.mul (Nat.add m 1) 1) (ak 0 (List.append (gI 0 d) [.string (iC s f i)])))) 9 false])))))))
 (ae (Nat.ble (Nat.add 0 (Nat.mul m 1)) d.length)
 (some ((.tuple ⟨[.int .i64 0,.string s,.slice (Option.some (Addr.mk 0 0 none)) m 18446744073709551616,.int .i64 f,.int .i64 (aB .i64 i 1)]⟩),(mkSt [Blk.cells (renL true (rhoO 0 [1]) (takeC (Nat.mul m 1) (ak 0 d))) 9 false]))))))
 (ae (Nat.ble (Nat.add 0 (Nat.mul m 1)) d.length)
 (some ((.tuple ⟨[.int .i64 1,.string s,.slice (Option.some (Addr.mk 0 0 none)) m 18446744073709551616,.int .i64 f,.int .i64 i]⟩),(mkSt [Blk.cells (renL true (rhoO 0 [1]) (takeC (Nat.mul m 1) (ak 0 d))) 9 false]))))):=by kernel_rfl
theorem T_(LC:List Value->List Blk->Bool)(s:ByteArray)(m:Nat)(d:List Value)(f:Int):bn P E (dR P 33 0 Drs (iD LC (.leaf (.normal,[.string s, .slice (some ⟨0,0,none⟩) m unk, .int .i64 f, .int .i64 (af s.size)],[.cells d 9 false]))) ctF) 50 aJ [.val] [29] 0 33 [.string s] [] =
 (ae (LC [.string s,.slice (Option.some (Addr.mk 0 0 none)) 0 18446744073709551616,.int .i64 0,.int .i64 0] [Blk.cells [] 9 false])
 (ag (ltI f (af s.size))
 (ae (eP f (af s.size) s.size)
 (ae (Nat.ble (Nat.add m 1) 4194304)
 (ae (Nat.beq (Nat.add 0 (Nat.mul m 1)) (List.length (renL true (bZ [] 1) d)))
 (ae (ny P 0 (Nat.add m 1) 18446744073709551616 (List.append (gI 0 (renL true (bZ [] 1) d)) [.string (iC s f (af s.size))]) 9)
 (some ((.iface 18446744073709551617 (.agg ⟨(.slice none (Nat.add m 1) 0)::(takeC (Nat.mul (Nat.add m 1) 1) (ak 0 (List.append (gI 0 (renL true (bZ [] 1) d)) [.string (iC s f (af s.size))])))⟩)),(mkSt [])))))))
 (ae (ny P 0 m 18446744073709551616 (renL true (bZ [] 1) d) 9)
 (some ((.iface 18446744073709551617 (.agg ⟨(.slice none m 0)::(takeC (Nat.mul m 1) (ak 0 (renL true (bZ [] 1) d)))⟩)),(mkSt [])))))):=by kernel_rfl
def Drp:HeadX:=⟨0,48,[0,2,3,4,5,6,7],[.val, .val, .val, .val, .own, .val, .val],[9,34,3,25,34,29,3],aJ⟩
def Brp:Code:=(bK P 13 0).getD .skip
theorem Oj:bK P 13 0=some Brp:=by kernel_rfl
theorem x_:Occ P 13 (.block 0 (.loop Brp)):=dA Oj
def YN(LC:List Value->List Blk->Bool)(k nd n t:Int)(key:ByteArray)(on:Nat)(oc:List Value)(th:Bool)(er:Int):Ct:=
 bJ P aJ 0 34 (iL LC (.leaf (.tuple ⟨[.agg ⟨[.int .i64 k, .int .i64 nd, .int .i64 n, .int .i64 t, .string key,ai 3 on 0 oc]⟩, .bool th, .int .i64 er]⟩,[]))) ctF
theorem Vy(LC:List Value->List Blk->Bool)(k nd n t:Int)(key:ByteArray)(on:Nat)(oc:List Value)(th:Bool)(er:Int)(s:ByteArray)(m:Nat)(d:List Value)(nl:Nat)(cl:List Value)(i:Int):aQ P E (YN LC k nd n t key on oc th er) 50 13 Brp Drp [.string s,ai 6 0 0 [], .int .i64 0, .int .i64 0, .slice (some ⟨0,0,none⟩) m unk,ai 1 nl 0 cl, .int .i64 i] [.cells d 24 false] =
 (ag (ltI i (af nl))
 (ae (Bool.and (Nat.beq 1 1) (inI i nl))
 (ae (Bool.and (Nat.ble (Nat.add (atN i 1) 1) cl.length) (dw .string (ah cl (atN i 1))))
 (ae (LC [.string (asS (ah cl (atN i 1)))] [])
 (ag (neI er 0)
 (ae (Nat.ble (Nat.add 0 (Nat.mul m 6)) d.length)
 (some ((.tuple ⟨[.int .i64 (-1),.string s,.iface 18446744073709551622 (.agg ⟨[.slice none 0 0]⟩),.int .i64 i,.int .i64 er,.slice (Option.some (Addr.mk 0 0 none)) m 18446744073709551616,.iface 18446744073709551617 (.agg ⟨(.slice none nl 0)::cl⟩),.int .i64 i]⟩),(mkSt [Blk.cells (renL true (rhoO 0 [2]) (takeC (Nat.mul m 6) (ak 0 d))) 24 false]))))
 (ag th
 (ag (eqI (af m) 200)
 (ae (Nat.ble (Nat.add 0 (Nat.mul m 6)) d.length)
 (some ((.tuple ⟨[.int .i64 (-1),.string s,.iface 18446744073709551622 (.agg ⟨[.slice none 0 0]⟩),.int .i64 i,.int .i64 3,.slice (Option.some (Addr.mk 0 0 none)) m 18446744073709551616,.iface 18446744073709551617 (.agg ⟨(.slice none nl 0)::cl⟩),.int .i64 i]⟩),(mkSt [Blk.cells (renL true (rhoO 0 [2]) (takeC (Nat.mul m 6) (ak 0 d))) 24 false]))))
 (ag th
 (ae (Nat.ble (Nat.add m 1) 4194304)
 (ae (Nat.beq (Nat.add 0 (Nat.mul m 6)) d.length)
 (ae (Nat.ble (Nat.add 0 (Nat.mul (Nat.add m 1) 6)) (List.length (List.append (gI 0 d) [.int .i64 k,.int .i64 nd,.int .i64 n,.int .i64 t,.string key,.iface 18446744073709551619 (.agg ⟨(.slice none on 0)::oc⟩)])))
 (some ((.tuple ⟨[.int .i64 0,.string s,.iface 18446744073709551622 (.agg ⟨[.slice none 0 0]⟩),.int .i64 0,.int .i64 0,.slice (Option.some (Addr.mk 0 0 none)) (Nat.add m 1) 18446744073709551616,.iface 18446744073709551617 (.agg ⟨(.slice none nl 0)::cl⟩),.int .i64 (aB .i64 i 1)]⟩),(mkSt [Blk.cells (renL true (rhoO 0 [4]) (takeC (Nat.mul (Nat.add m 1) 6) (ak 0 (List.append (gI 0 d) [.int .i64 k,.int .i64 nd,.int .i64 n,.int .i64 t,.string key,.iface 18446744073709551619 (.agg ⟨(.slice none on 0)::oc⟩)])))) 24 false]))))))
 (ae (Nat.ble (Nat.add 0 (Nat.mul m 6)) d.length)
 (some ((.tuple ⟨[.int .i64 0,.string s,.iface 18446744073709551622 (.agg ⟨[.slice none 0 0]⟩),.int .i64 0,.int .i64 0,.slice (Option.some (Addr.mk 0 0 none)) m 18446744073709551616,.iface 18446744073709551617 (.agg ⟨(.slice none nl 0)::cl⟩),.int .i64 (aB .i64 i 1)]⟩),(mkSt [Blk.cells (renL true (rhoO 0 [2]) (takeC (Nat.mul m 6) (ak 0 d))) 24 false]))))))
 (ag th
 (ae (Nat.ble (Nat.add m 1) 4194304)
 (ae (Nat.beq (Nat.add 0 (Nat.mul m 6)) d.length)
 (ae (Nat.ble (Nat.add 0 (Nat.mul (Nat.add m 1) 6)) (List.length (List.append (gI 0 d) [.int .i64 k,.int .i64 nd,.int .i64 n,.int .i64 t,.string key,.iface 18446744073709551619 (.agg ⟨(.slice none on 0)::oc⟩)])))
 (some ((.tuple ⟨[.int .i64 0,.string s,.iface 18446744073709551622 (.agg ⟨[.slice none 0 0]⟩),.int .i64 0,.int .i64 0,.slice (Option.some (Addr.mk 0 0 none)) (Nat.add m 1) 18446744073709551616,.iface 18446744073709551617 (.agg ⟨(.slice none nl 0)::cl⟩),.int .i64 (aB .i64 i 1)]⟩),(mkSt [Blk.cells (renL true (rhoO 0 [4]) (takeC (Nat.mul (Nat.add m 1) 6) (ak 0 (List.append (gI 0 d) [.int .i64 k,.int .i64 nd,.int .i64 n,.int .i64 t,.string key,.iface 18446744073709551619 (.agg ⟨(.slice none on 0)::oc⟩)])))) 24 false]))))))
 (ae (Nat.ble (Nat.add 0 (Nat.mul m 6)) d.length)
 (some ((.tuple ⟨[.int .i64 0,.string s,.iface 18446744073709551622 (.agg ⟨[.slice none 0 0]⟩),.int .i64 0,.int .i64 0,.slice (Option.some (Addr.mk 0 0 none)) m 18446744073709551616,.iface 18446744073709551617 (.agg ⟨(.slice none nl 0)::cl⟩),.int .i64 (aB .i64 i 1)]⟩),(mkSt [Blk.cells (renL true (rhoO 0 [2]) (takeC (Nat.mul m 6) (ak 0 d))) 24 false]))))))))))
 (ae (Nat.ble (Nat.add 0 (Nat.mul m 6)) d.length)
 (some ((.tuple ⟨[.int .i64 1,.string s,.iface 18446744073709551622 (.agg ⟨[.slice none 0 0]⟩),.int .i64 0,.int .i64 0,.slice (Option.some (Addr.mk 0 0 none)) m 18446744073709551616,.iface 18446744073709551617 (.agg ⟨(.slice none nl 0)::cl⟩),.int .i64 i]⟩),(mkSt [Blk.cells (renL true (rhoO 0 [1]) (takeC (Nat.mul m 6) (ak 0 d))) 24 false]))))):=by kernel_rfl
def ab4(PC SC:List Value->List Blk->Bool)(ok:Bool)(s:ByteArray)(m:Nat)(d:List Value)(nl:Nat)(cl:List Value)(li le ji:Int):Ct:=
 bJ P aJ 0 33 (iL SC (.leaf (ai 1 nl 0 cl,[]))) (dR P 13 0 Drp (iD PC (.ite ok (.leaf (.normal,[.string s,ai 6 0 0 [], .int .i64 0, .int .i64 0, .slice (some ⟨0,0,none⟩) m unk,ai 1 nl 0 cl, .int .i64 (af nl)],[.cells d 24 false])) (.leaf (.ret,[.string s,ai 6 0 0 [], .int .i64 li, .int .i64 le, .slice (some ⟨0,0,none⟩) m unk,ai 1 nl 0 cl, .int .i64 ji],[.cells d 24 false])))) ctF)
theorem Tz(PC SC:List Value->List Blk->Bool)(ok:Bool)(s:ByteArray)(m:Nat)(d:List Value)(nl:Nat)(cl:List Value)(li le ji:Int):bn P E (ab4 PC SC ok s m d nl cl li le ji) 50 aJ [.val, .val, .val] [34,3,25] 0 13 [.string s] [] =
 (ag (gtI (af s.size) 65536)
 (some ((.tuple ⟨[.iface 18446744073709551622 (.agg ⟨[.slice none 0 0]⟩),.int .i64 (-1),.int .i64 3]⟩),(mkSt [])))
 (ae (SC [.string s] [])
 (ae (PC [.string s,.iface 18446744073709551622 (.agg ⟨[.slice none 0 0]⟩),.int .i64 0,.int .i64 0,.slice (Option.some (Addr.mk 0 0 none)) 0 18446744073709551616,.iface 18446744073709551617 (.agg ⟨(.slice none nl 0)::cl⟩),.int .i64 0] [Blk.cells [] 24 false])
 (ag ok
 (ae (ny P 0 m 18446744073709551616 (renL true (bZ [] 1) d) 24)
 (some ((.tuple ⟨[.iface 18446744073709551622 (.agg ⟨(.slice none m 0)::(takeC (Nat.mul m 6) (ak 0 (renL true (bZ [] 1) d)))⟩),.int .i64 0,.int .i64 0]⟩),(mkSt []))))
 (some ((.tuple ⟨[.iface 18446744073709551622 (.agg ⟨[.slice none 0 0]⟩),.int .i64 li,.int .i64 le]⟩),(mkSt []))))))):=by kernel_rfl
def m_:List UInt8->List UInt8->List (List UInt8)
 |cur,[]=>match cur with
  |[]=>[]
  |c::t=>[c::t]
 |cur,b::l=>match b == 10 with
  |true=>cur::m_ [] l
  |false=>m_ (cur++[b]) l
def rsV(s:ByteArray)(n:Nat)(f i:Int):List Value:=[.string s, .slice (some ⟨0,0,none⟩) n unk, .int .i64 f, .int .i64 i]
theorem aaf{s:ByteArray}{i f:Nat}{out:List ByteArray}(hs:s.size<=4194302)(hi:i<s.size)(hf:f<=i)(ho:out.length+1<=4194304) :
  aQ P E ctF 50 33 Brs Drs (rsV s out.length f i) (lU out)=match(bl s)[i]'(by rw[bY]; exact hi) == 10 with
   |true=>some (.tuple ⟨exV .normal::rsV s (out++[iC s f i]).length ((i+1:Nat):Int) ((i+1:Nat):Int)⟩,mkSt (lU (out++[iC s f i])))
   |false=>some (.tuple ⟨exV .normal::rsV s out.length f ((i+1:Nat):Int)⟩,mkSt (lU out)):=by
 unfold rsV lU;rw[YZ];have z0:∀ n,Nat.add 0 n=n:=Nat.zero_add;have z1:∀ n,Nat.mul n 1=n:=Nat.mul_one;have bb:∀ n,Nat.ble n n=true:=fun n=>Nat.ble_eq_true_of_le (Nat.le_refl n);have t1:Nat.ble (Nat.add out.length 1) 4194304=true:=Nat.ble_eq_true_of_le ho;have ol:∀ w:ByteArray,(out++[w]).length=Nat.add out.length 1:=fun w=>by simp
 have os:∀ w:ByteArray,takeC (Nat.add out.length 1) (ak 0 ((out++[w]).map Value.string))=(out++[w]).map Value.string:=fun w=>pq (ol w).symm;have g1:ltI (i:Int) (af s.size)=true:=by unfold ltI af; exact decide_eq_true (by omega)
 have a1:aB .i64 (i:Int) 1=((i+1:Nat):Int):=by unfold aB; rw[wrap64 (by omega) (by omega)]; omega
 have e10:=zL (b:=(bl s)[i]'(by rw[bY]; exact hi)) (c:=10) (by decide);rw[show((10:Nat):Int)=10 from rfl,show UInt8.ofNat 10=10 from rfl]at e10;have gc:eP (f:Int) (i:Int) s.size=true:=mi (by omega) (by omega) (by omega);simp only[g1,gc,bD hi,a1,x9 hi,e10,z0,z1,bb,oz,t1,ol,os,kC,Pg,pq rfl,sS,az,aA];cases (bl s)[i]'(by rw[bY]; exact hi) == 10 with
 |true=>simp only[az,ol]; rfl
 |false=>rfl
theorem afl{s:ByteArray}{f:Int}{out:List ByteArray}:aQ P E ctF 50 33 Brs Drs (rsV s out.length f s.size) (lU out)=some (.tuple ⟨exV (.exit 0)::rsV s out.length f s.size⟩,mkSt (lU out)):=by
 unfold rsV lU;rw[YZ];have z0:∀ n,Nat.add 0 n=n:=Nat.zero_add;have z1:∀ n,Nat.mul n 1=n:=Nat.mul_one;have bb:∀ n,Nat.ble n n=true:=fun n=>Nat.ble_eq_true_of_le (Nat.le_refl n);have g1:ltI (s.size:Int) (af s.size)=false:=by unfold ltI af; exact decide_eq_false (by omega)
 simp only[g1,z0,z1,bb,kC,pq rfl,sS,ax,aA]
 rfl
def rsM(s:ByteArray):Nat->Nat->Nat->List ByteArray->List ByteArray×Nat
 |0,_,f,out=>(out,f)
 |k+1,i,f,out=>match(bl s).getD i 0 == 10 with
  |true=>rsM s k (i+1) (i+1) (out++[iC s f i])
  |false=>rsM s k (i+1) f out
theorem Ir(s:ByteArray)(hs:s.size<=4194302):∀ (k i f:Nat) (out:List ByteArray),i+k=s.size->f<=i->out.length<=i->
  LRX P 33 0 Brs Drs.head (rsV s out.length f i) (lU out) .normal (rsV s (rsM s k i f out).1.length (rsM s k i f out).2 s.size) (lU (rsM s k i f out).1)
 |0,i,f,out,h,hf,ho=>by
  obtain rfl:i=s.size:=by omega
  exact LRX.stop (n:=50) (aF ctF) au aW I7 (e:= .exit 0) afl (by intro h; cases h)
 |k+1,i,f,out,h,hf,ho=>by
  have hi:i<s.size:=by omega
  have q:=aaf (out:=out) hs hi hf (by omega);have e:(bl s).getD i 0=(bl s)[i]'(by rw[bY]; exact hi):=by rw[List.getD_eq_getElem?_getD,List.getElem?_eq_getElem (by rw[bY]; exact hi)]; rfl
  unfold rsM;rw[e];cases hb:(bl s)[i]'(by rw[bY]; exact hi) == 10 with
  |true=>
   rw[hb]at q;exact LRX.again (n:=50) (aF ctF) au aW I7 q (Ir s hs k (i+1) (i+1) _ (by omega) (by omega) (by rw[List.length_append]; simp only[List.length_cons,List.length_nil]; omega))
  |false=>
   rw[hb]at q;exact LRX.again (n:=50) (aF ctF) au aW I7 q (Ir s hs k (i+1) f out (by omega) (by omega) (by omega))
def rsF(s:ByteArray)(x:List ByteArray×Nat):List ByteArray:=match ltI x.2 (af s.size)with
 |true=>x.1++[iC s x.2 (af s.size)]
 |false=>x.1
theorem TJ(s:ByteArray):∀ (k i f:Nat) (out:List ByteArray),i+k=s.size->f<=i->out.length<=i->(rsM s k i f out).2<=s.size/\(rsM s k i f out).1.length<=s.size
 |0,i,f,out,h,hf,ho=>⟨by show f<=_; omega,by show out.length<=_; omega⟩
 |k+1,i,f,out,h,hf,ho=>by
  unfold rsM;cases (bl s).getD i 0 == 10 with
  |true=>exact TJ s k (i+1) (i+1) _ (by omega) (by omega) (by rw[List.length_append]; simp only[List.length_cons,List.length_nil]; omega)
  |false=>exact TJ s k (i+1) f out (by omega) (by omega) (by omega)
theorem FB(s:ByteArray):∀ (k i f:Nat) (out:List ByteArray),i+k=s.size->f<=i->(rsF s (rsM s k i f out)).map bl=out.map bl++m_ (((bl s).drop f).take (i-f)) ((bl s).drop i)
 |0,i,f,out,h,hf=>by
  obtain rfl:i=s.size:=by omega
  have hl:=bY s;rw[show(bl s).drop s.size=[] from List.drop_of_length_le (by omega)];show(rsF s (out,f)).map bl=_;unfold rsF;by_cases hlt:f<s.size
  ·have g:ltI (f:Int) (af s.size)=true:=by unfold ltI af; exact decide_eq_true (by omega)
   have hne:((bl s).drop f).take (s.size-f)≠[]:=fun e=>by
    have:=congrArg List.length e;rw[List.length_take,List.length_drop,hl]at this;simp only[List.length_nil]at this;omega
   simp only[g];rw[List.map_append];congr 1;show [bl (iC s f (s.size:Int))]=_;rw[yB (by omega) (Nat.le_refl _)];cases hc:((bl s).drop f).take (s.size-f)with
   |nil=>exact absurd hc hne
   |cons c t=>rfl
  ·have g:ltI (f:Int) (af s.size)=false:=by unfold ltI af; exact decide_eq_false (by omega)
   have e0:((bl s).drop f).take (s.size-f)=[]:=by rw[show s.size-f=0 by omega]; rfl
   simp only[g];rw[e0];simp[m_]
 |k+1,i,f,out,h,hf=>by
  have hi:i<s.size:=by omega
  have hl:=bY s;have e:(bl s).getD i 0=(bl s)[i]'(by omega):=by rw[List.getD_eq_getElem?_getD,List.getElem?_eq_getElem (by omega)]; rfl
  have hd:(bl s).drop i=(bl s)[i]'(by omega)::(bl s).drop (i+1):=List.drop_eq_getElem_cons (by omega);unfold rsM;rw[e,hd];cases hb:(bl s)[i]'(by omega) == 10 with
  |true=>
   simp only[m_,hb];rw[FB s k (i+1) (i+1) _ (by omega) (by omega),List.map_append,List.append_assoc];congr 1;show [bl (iC s f i)]++_=_;rw[yB hf (by omega),show i+1-(i+1)=0 by omega]
   rfl
  |false=>
   simp only[m_,hb];rw[FB s k (i+1) f out (by omega) (by omega)];congr 2;rw[show i+1-f=(i-f)+1 by omega,List.take_add_one];congr 1;rw[List.getElem?_drop,show f+(i-f)=i by omega,List.getElem?_eq_getElem (by omega)]
   rfl
def rsX(s:ByteArray):List ByteArray×Nat:=rsM s s.size 0 0 []
def iy(s:ByteArray):List ByteArray:=rsF s (rsX s)
theorem Es(s:ByteArray):(iy s).map bl=m_ [] (bl s):=by
 have q:=FB s s.size 0 0 [] (by omega) (by omega);exact q
def kRs:Con ByteArray where
 enc s:=(rsV s 0 0 0,lU [])
 ok s:=s.size<=4194302
 inj a b h:=by
  unfold rsV at h;simp only[Prod.mk.injEq,List.cons.injEq,Value.string.injEq,true_and,and_true]at h;exact h
 dflt:=default
theorem Xy:LoopOkX P 33 0 Brs Drs.head (kP kRs.C kRs.D fun s=> .leaf (.normal,rsV s (rsX s).1.length (rsX s).2 (af s.size),lU (rsX s).1)):=
 fQ kRs (bz YI) fun s ho e vs' bs' hev=>by
  have q:=Ir s ho s.size 0 0 [] (by omega) (by omega) (by simp);simp only[DT.eval,Option.some.injEq,Prod.mk.injEq]at hev;obtain⟨rfl,rfl,rfl⟩:=hev;exact q
theorem Uj{s:ByteArray}(h:s.size<=4194302):CRX P 0 33 [.string s] [] (fzS (iy s)) []:=by
 obtain⟨hf,hn⟩:=TJ s s.size 0 0 [] (by omega) (by omega) (by simp);refine CRX.of (aF _) au (bf aW (gU kRs Xy (s:=s) h)) (n:=50) (pol:=aJ) (fl:=[.val]) (ts:=[29]) (Eq.trans ?_ ((T_ (kRs.at s) s (rsX s).1.length ((rsX s).1.map Value.string) (rsX s).2).trans ?_))
 ·rfl
 refine bu (k:=kRs) (s:=s) rfl rfl ?_;have z0:∀ n,Nat.add 0 n=n:=Nat.zero_add;have z1:∀ n,Nat.mul n 1=n:=Nat.mul_one;unfold iy rsF;cases hg:ltI ((rsX s).2:Int) (af s.size)with
 |false=>
  simp only[sS,OD,z1,pq rfl,ax,aA];rw[wZ]
 |true=>
  have hg':=hg;unfold ltI af at hg';have hg':=of_decide_eq_true hg';have gc:eP ((rsX s).2:Int) (af s.size) s.size=true:=mi (by omega) (by unfold af; omega) (by unfold af; omega);have t1:Nat.ble (Nat.add (rsX s).1.length 1) 4194304=true:=Nat.ble_eq_true_of_le (by show(rsX s).1.length+1<=_; unfold rsX; omega);have ol:∀ w:ByteArray,Nat.add (rsX s).1.length 1=((rsX s).1++[w]).length:=fun w=>by simp
  simp only[sS,gc,t1,z0,z1,kC,oz,Pg,az,aA];rw[ol (iC s (rsX s).2 (af s.size)),OD,pq rfl,wZ]
  rfl
def Jz:Con ByteArray where
 enc s:=([.string s],[])
 ok s:=s.size<=4194302
 inj a b h:=by simp only[Prod.mk.injEq,List.cons.injEq,Value.string.injEq,and_true]at h; exact h
 dflt:=default
theorem X9:CallOkX P 0 33 (jS Jz.C Jz.D fun s=> .leaf (fzS (iy s),[])):=f_ Jz fun s ho v bs' hev=>by
 simp only[DT.eval,Option.some.injEq,Prod.mk.injEq]at hev;obtain⟨rfl,rfl⟩:=hev;exact Uj ho
def oU(s:ByteArray)(li le:Int)(m:Nat)(L:List ByteArray)(i:Int):List Value:=[.string s,ai 6 0 0 [], .int .i64 li, .int .i64 le, .slice (some ⟨0,0,none⟩) m unk,fzS L, .int .i64 i]
def wL(w:ByteArray):Ct:=YN (AB.at w) (aG w).1.kind (aG w).1.node (aG w).1.n (aG w).1.t (aG w).1.key (aG w).1.ops.length (EOp.all (aG w).1.ops) (aG w).2.1 (aG w).2.2
theorem LZ{w:ByteArray}(h:w.size<=999999):CtOk P (wL w):=aO aW (eF AB aac (s:=w) h)
theorem Xh{s:ByteArray}{L:List ByteArray}{out:List ActM}{i:Nat}(hi:i<L.length)(hl:L.length<=4194304)(ho:out.length<=200):aQ P E (wL L[i]) 50 13 Brp Drp (oU s 0 0 out.length L i) (paB out) =
  match neI (aG L[i]).2.2 0,(aG L[i]).2.1,eqI (af out.length) 200 with
  |true,_,_=>some (.tuple ⟨exV .ret::oU s i (aG L[i]).2.2 out.length L i⟩,mkSt (paB out))
  |false,true,true=>some (.tuple ⟨exV .ret::oU s i 3 out.length L i⟩,mkSt (paB out))
  |false,true,false=>some (.tuple ⟨exV .normal::oU s 0 0 (out++[(aG L[i]).1]).length L ((i+1:Nat):Int)⟩,mkSt (paB (out++[(aG L[i]).1])))
  |false,false,_=>some (.tuple ⟨exV .normal::oU s 0 0 out.length L ((i+1:Nat):Int)⟩,mkSt (paB out)):=by
 unfold oU paB;have q:=Vy (AB.at L[i]) (aG L[i]).1.kind (aG L[i]).1.node (aG L[i]).1.n (aG L[i]).1.t (aG L[i]).1.key (aG L[i]).1.ops.length (EOp.all (aG L[i]).1.ops) (aG L[i]).2.1 (aG L[i]).2.2 s out.length (aH.all out) L.length (L.map Value.string) i;refine Eq.trans ?_ (q.trans ?_)
 ·rfl
 clear q;have b3:∀ n,Nat.beq n n=true:=Nat.beq_refl;have b2:∀ n,Nat.ble n n=true:=fun n=>Nat.ble_eq_true_of_le (Nat.le_refl n);have t1:Nat.ble (Nat.add out.length 1) 4194304=true:=Nat.ble_eq_true_of_le (by show out.length+1<=_; omega);have ol:∀ a:ActM,(out++[a]).length=Nat.add out.length 1:=fun a=>by simp
 have os:∀ a:ActM,takeC (Nat.mul (Nat.add out.length 1) 6) (ak 0 (aH.all (out++[a])))=aH.all (out++[a]):=fun a=>qP (ol a).symm;have hadd:aB .i64 (i:Int) 1=((i+1:Nat):Int):=by unfold aB; rw[wrap64 (by omega) (by omega)]; omega
 have nb:Nat.ble (Nat.add (atN (i:Int) 1) 1) L.length=true:=Nat.ble_eq_true_of_le (by
  show(i:Int).toNat*1+1<=L.length;omega)
 have hfz3:∀ l:List OpM,(Value.iface 18446744073709551619 (.agg ⟨.slice none l.length 0::EOp.all l⟩))=ai 3 l.length 0 (EOp.all l):=fun l=>by unfold ai; rw[ja]
 have hfz0:ai 6 0 0 [] = .iface 18446744073709551622 (.agg ⟨[.slice none 0 0]⟩):=by unfold ai FZ; rfl
 rw[fO hi];simp only[kC,bD hi,nb,Gn hi,fV,fU,b3,Bool.and_self,az,aA,wZ];refine bu (k:=AB) (s:=L[i]) rfl rfl ?_;generalize aG L[i]=x;obtain⟨a,th,er⟩:=x;simp only;simp only[hfz3,Xn,AX,b2,b3,t1,ol,os,qP rfl,iP,Enc.all_ren,hadd,aA];rw[hfz0];cases neI er 0 with
 |true=>rfl
 |false=>
  cases th with
  |false=>rfl
  |true=>cases eqI (af out.length) 200<;>rfl
theorem ac9{s:ByteArray}{L:List ByteArray}{out:List ActM}:aQ P E (wL default) 50 13 Brp Drp (oU s 0 0 out.length L L.length) (paB out)=some (.tuple ⟨exV (.exit 0)::oU s 0 0 out.length L L.length⟩,mkSt (paB out)):=by
 unfold oU paB;have q:=Vy (AB.at default) (aG default).1.kind (aG default).1.node (aG default).1.n (aG default).1.t (aG default).1.key (aG default).1.ops.length (EOp.all (aG default).1.ops) (aG default).2.1 (aG default).2.2 s out.length (aH.all out) L.length (L.map Value.string) L.length;refine Eq.trans ?_ (q.trans ?_)
 ·rfl
 clear q;have b2:∀ n,Nat.ble n n=true:=fun n=>Nat.ble_eq_true_of_le (Nat.le_refl n);have hfz0:ai 6 0 0 [] = .iface 18446744073709551622 (.agg ⟨[.slice none 0 0]⟩):=by unfold ai FZ; rfl
 have g1:ltI (L.length:Int) (af L.length)=false:=by unfold ltI af; exact decide_eq_false (by omega)
 simp only[g1,ax,AX,b2,qP rfl,iP,Enc.all_ren,aA,wZ];rw[hfz0]
 rfl
def mf:List ByteArray->List ActM->Nat->Option (Int×Int)×List ActM×Nat
 |[],out,i=>(none,out,i)
 |w::L,out,i=>match neI (aG w).2.2 0,(aG w).2.1,eqI (af out.length) 200 with
  |true,_,_=>(some (i,(aG w).2.2),out,i)
  |false,true,true=>(some (i,3),out,i)
  |false,true,false=>mf L (out++[(aG w).1]) (i+1)
  |false,false,_=>mf L out (i+1)
theorem EF(s:ByteArray)(L:List ByteArray)(hl:L.length<=4194304)(hw:∀ w∈L,w.size<=999999):∀ (k i:Nat) (out:List ActM),i+k=L.length->out.length<=200->
  LRX P 13 0 Brp Drp.head (oU s 0 0 out.length L i) (paB out) (paX (mf (L.drop i) out i).1) (oU s ((mf (L.drop i) out i).1.getD (0,0)).1 ((mf (L.drop i) out i).1.getD (0,0)).2 (mf (L.drop i) out i).2.1.length L (mf (L.drop i) out i).2.2) (paB (mf (L.drop i) out i).2.1)
 |0,i,out,h,ho=>by
  obtain rfl:i=L.length:=by omega
  rw[List.drop_length];exact LRX.stop (n:=50) (aF (wL default)) au (LZ (by decide)) x_ (e:= .exit 0) ac9 (by intro h; cases h)
 |k+1,i,out,h,ho=>by
  have hi:i<L.length:=by omega
  have q:=Xh (s:=s) (out:=out) hi hl ho;have hk:=LZ (hw L[i] (List.getElem_mem hi));rw[List.drop_eq_getElem_cons hi];unfold mf;cases h1:neI (aG L[i]).2.2 0 with
  |true=>
   rw[h1]at q;exact LRX.stop (n:=50) (aF (wL L[i])) au hk x_ (e:= .ret) q (by intro h; cases h)
  |false=>
   cases h2:(aG L[i]).2.1 with
   |false=>
    rw[h1,h2]at q;exact LRX.again (n:=50) (aF (wL L[i])) au hk x_ q (EF s L hl hw k (i+1) out (by omega) ho)
   |true=>
    cases h3:eqI (af out.length) 200 with
    |true=>
     rw[h1,h2,h3]at q;exact LRX.stop (n:=50) (aF (wL L[i])) au hk x_ (e:= .ret) q (by intro h; cases h)
    |false=>
     rw[h1,h2,h3]at q;have hne:out.length≠200:=by
      intro e;unfold eqI af at h3;have:=of_decide_eq_false h3;omega
     exact LRX.again (n:=50) (aF (wL L[i])) au hk x_ q (EF s L hl hw k (i+1) _ (by omega) (by rw[List.length_append]; simp only[List.length_cons,List.length_nil]; omega))
theorem Me:CallOkR P 69 (RwV wdC wdS):=⟨fun args t hR v bs hev=>by
 refine Nw.run args t ?_ v bs hev;unfold RwV at hR;unfold zo;split at hR
 ·exact hR
 ·cases hR⟩
def abb(O:Bool->ByteArray->ByteArray->Bool)(C:ByteArray->Bool)(W:ByteArray->ByteArray):Ct:=bH P 69 (RwV C W) (bH P 66 (mJ O) jR)
theorem VQ(O:Bool->ByteArray->ByteArray->Bool)(C:ByteArray->Bool)(W:ByteArray->ByteArray)(p:Bool)(k v:ByteArray):iU P E (abb O C W) 50 70 [.agg ⟨[.bool p, .string k, .string v]⟩] =
 (ag (O p k v)
 (ag p
 (ae (C k)
 (ae (bI ⟨#[112,117,116,32]⟩ (W k))
 (ae (bI (aj ⟨#[112,117,116,32]⟩ (W k)) ⟨#[32]⟩)
 (ae (C v)
 (ae (bI (aj (aj ⟨#[112,117,116,32]⟩ (W k)) ⟨#[32]⟩) (W v))
 (ae (dn (.string v) (.string v))
 (some ((.tuple ⟨[.string (aj (aj (aj ⟨#[112,117,116,32]⟩ (W k)) ⟨#[32]⟩) (W v)),.int .i64 0]⟩),(mkSt [])))))))))
 (ae (C k)
 (ae (bI ⟨#[100,101,108,32]⟩ (W k))
 (some ((.tuple ⟨[.string (aj ⟨#[100,101,108,32]⟩ (W k)),.int .i64 0]⟩),(mkSt []))))))
 (some ((.tuple ⟨[.string ⟨#[]⟩,.int .i64 2]⟩),(mkSt [])))):=by kernel_rfl
def aaE:Ct:=abb bQ wdC wdS
theorem acS:CtOk P aaE:=aU (aU (je P) wo) Me
theorem WR(p:Bool)(k v:ByteArray):iU P E aaE 50 70 [.agg ⟨[.bool p, .string k, .string v]⟩]=some (match bQ p k v with | true=> .tuple ⟨[.string (pg p k v), .int .i64 0]⟩ | false=> .tuple ⟨[.string ⟨#[]⟩, .int .i64 2]⟩,mkSt []):=by
 unfold aaE;rw[VQ];cases ho:bQ p k v with
 |false=>rfl
 |true=>
  refine dY rfl ?_;obtain⟨h1,h2,h3,h4⟩:=l9 ho;have wk:=qJ k;have wv:=qJ v;have ek:wdS k=⟨⟨oD k⟩⟩:=rfl;have ev:wdS v=⟨⟨oD v⟩⟩:=rfl;have ck:wdC k=true:=bM (by omega);have cv:wdC v=true:=bM (by omega);have fit:∀ a b:List UInt8,a.length+b.length<=1000->bI ⟨⟨a⟩⟩ ⟨⟨b⟩⟩=true:=fun a b h=>bM (by show a.length+b.length<=_; omega);rw[ek,ev];simp only[Jv,show(ByteArray.mk #[112,117,116,32])=⟨⟨[112,117,116,32]⟩⟩ from rfl,show(ByteArray.mk #[100,101,108,32])=⟨⟨[100,101,108,32]⟩⟩ from rfl,show(ByteArray.mk #[32])=⟨⟨[32]⟩⟩ from rfl,ck,cv];cases p<;>simp only[az,ax,WS,XK,Y8]
  ·simp (disch:=first | rfl | (refine fit _ _ ?_; simp only[List.length_append,List.length_cons,List.length_nil]<;>omega) | (refine bM ?_; omega)) only[wC]
   rfl
  ·simp (disch:=first | rfl | (refine fit _ _ ?_; simp only[List.length_append,List.length_cons,List.length_nil]<;>omega) | (refine bM ?_; omega)) only[wC];refine gz ?_ rfl;simp[pg,yF]
theorem Zd:CallOkR P 70 (xC bQ pg):=by
 refine mY acS (n:=50) fun args t hR v bs hev=>?_;unfold xC at hR;split at hR
 ·rename_i p k w;obtain rfl:=Option.some.inj hR;rw[WR];cases ho:bQ p k w<;>(rw[ho]at hev; simp only[DT.eval,Option.some.injEq,Prod.mk.injEq]at hev; obtain⟨rfl,rfl⟩:=hev; rfl)
 ·cases hR
def Drt:HeadX:=⟨1,79,[1,3,4,5,6],[.keep, .val, .val, .val, .val],[54,9,9,3,3],aJ⟩
def Brt:Code:=(bK P 36 3).getD .skip
theorem MM:bK P 36 3=some Brt:=by kernel_rfl
theorem Rx:Occ P 36 (.block 3 (.loop Brt)):=dA MM
def abD(O:Bool->ByteArray->ByteArray->Bool)(T:Bool->ByteArray->ByteArray->ByteArray):Ct:=bH P 70 (xC O T) ctF
theorem Xi(O:Bool->ByteArray->ByteArray->Bool)(T:Bool->ByteArray->ByteArray->ByteArray)(k nd nn t:Int)(key:ByteArray)(n:Nat)(c:List Value)(s sh:ByteArray)(i j:Int):aQ P E (abD O T) 50 36 Brt Drt [pA, .string s, .string sh, .int .i64 i, .int .i64 j] [.cells [.int .i64 k, .int .i64 nd, .int .i64 nn, .int .i64 t, .string key,ai 3 n 0 c] 24 true] =
 (ag (ltI j (af n))
 (ae (Bool.and (Nat.beq 3 3) (inI j n))
 (ae (Bool.and (Nat.ble (Nat.add (atN j 3) 3) c.length) (jP [.bool,.string,.string] c (atN j 3)))
 (ag (O (asB (ah c (atN j 3))) (asS (ah c (Nat.add (atN j 3) 1))) (asS (ah c (Nat.add (Nat.add (atN j 3) 1) 1))))
 (ae (bI s ⟨#[32]⟩)
 (ae (bI (aj s ⟨#[32]⟩) (T (asB (ah c (atN j 3))) (asS (ah c (Nat.add (atN j 3) 1))) (asS (ah c (Nat.add (Nat.add (atN j 3) 1) 1)))))
 (some ((.tuple ⟨[.int .i64 0,.pointer (Option.some (Addr.mk 0 0 none)),.string (aj (aj s ⟨#[32]⟩) (T (asB (ah c (atN j 3))) (asS (ah c (Nat.add (atN j 3) 1))) (asS (ah c (Nat.add (Nat.add (atN j 3) 1) 1))))),.string sh,.int .i64 i,.int .i64 (aB .i64 j 1)]⟩),(mkSt [Blk.cells [.int .i64 k,.int .i64 nd,.int .i64 nn,.int .i64 t,.string key,.iface 18446744073709551619 (.agg ⟨(.slice none n 0)::c⟩)] 24 true])))))
 (ae (bI s ⟨#[32]⟩)
 (ae (bI (aj s ⟨#[32]⟩) ⟨#[]⟩)
 (some ((.tuple ⟨[.int .i64 0,.pointer (Option.some (Addr.mk 0 0 none)),.string (aj (aj s ⟨#[32]⟩) ⟨#[]⟩),.string sh,.int .i64 i,.int .i64 (aB .i64 j 1)]⟩),(mkSt [Blk.cells [.int .i64 k,.int .i64 nd,.int .i64 nn,.int .i64 t,.string key,.iface 18446744073709551619 (.agg ⟨(.slice none n 0)::c⟩)] 24 true]))))))))
 (some ((.tuple ⟨[.int .i64 4,.pointer (Option.some (Addr.mk 0 0 none)),.string s,.string sh,.int .i64 i,.int .i64 j]⟩),(mkSt [Blk.cells [.int .i64 k,.int .i64 nd,.int .i64 nn,.int .i64 t,.string key,.iface 18446744073709551619 (.agg ⟨(.slice none n 0)::c⟩)] 24 true])))):=by kernel_rfl
def wF(NC:Int->Bool)(NF:Int->ByteArray)(KC:Int->Bool)(sh:ByteArray)(DC:Int->Bool)(DF:Int->ByteArray)(WC:ByteArray->Bool)(WF:ByteArray->ByteArray)(LC:List Value->List Blk->Bool)(s2:ByteArray)(k nd nn t:Int)(key:ByteArray)(n:Nat)(c:List Value):Ct:=
 dR P 36 3 Drt (iD LC (.leaf (.normal,[pA, .string s2, .string ⟨#[110,111]⟩, .int .i64 1, .int .i64 (af n)],[.cells [.int .i64 k, .int .i64 nd, .int .i64 nn, .int .i64 t, .string key,ai 3 n 0 c] 24 true])))
  (bH P 62 (zJ NC NF) (bH P 67 (zJ KC fun _=>sh) (bH P 68 (nI DC DF) (bH P 69 (RwV WC WF) ctF))))
theorem ac3(NC:Int->Bool)(NF:Int->ByteArray)(KC:Int->Bool)(DC:Int->Bool)(DF:Int->ByteArray)(WC:ByteArray->Bool)(WF:ByteArray->ByteArray)(LC:List Value->List Blk->Bool)(s2:ByteArray)(k nd nn t:Int)(key:ByteArray)(n:Nat)(c:List Value):bn P E (wF NC NF KC ⟨#[]⟩ DC DF WC WF LC s2 k nd nn t key n c) 50 aJ [] [] 0 36 [.agg ⟨[.int .i64 k, .int .i64 nd, .int .i64 nn, .int .i64 t, .string key,ai 3 n 0 c]⟩] [] =
 (ae (NC k)
 (ae (KC k)
 (some ((.string (NF k)),(mkSt []))))):=by kernel_rfl
theorem acv(NC:Int->Bool)(NF:Int->ByteArray)(KC:Int->Bool)(DC:Int->Bool)(DF:Int->ByteArray)(WC:ByteArray->Bool)(WF:ByteArray->ByteArray)(LC:List Value->List Blk->Bool)(s2:ByteArray)(k nd nn t:Int)(key:ByteArray)(n:Nat)(c:List Value):bn P E (wF NC NF KC ⟨#[110]⟩ DC DF WC WF LC s2 k nd nn t key n c) 50 aJ [] [] 0 36 [.agg ⟨[.int .i64 k, .int .i64 nd, .int .i64 nn, .int .i64 t, .string key,ai 3 n 0 c]⟩] [] =
 (ae (NC k)
 (ae (KC k)
 (ae (bI (NF k) ⟨#[32]⟩)
 (ae (DC nd)
 (ae (bI (aj (NF k) ⟨#[32]⟩) (DF nd))
 (some ((.string (aj (aj (NF k) ⟨#[32]⟩) (DF nd))),(mkSt [])))))))):=by kernel_rfl
theorem ac5(NC:Int->Bool)(NF:Int->ByteArray)(KC:Int->Bool)(DC:Int->Bool)(DF:Int->ByteArray)(WC:ByteArray->Bool)(WF:ByteArray->ByteArray)(LC:List Value->List Blk->Bool)(s2:ByteArray)(k nd nn t:Int)(key:ByteArray)(n:Nat)(c:List Value):bn P E (wF NC NF KC ⟨#[97]⟩ DC DF WC WF LC s2 k nd nn t key n c) 50 aJ [] [] 0 36 [.agg ⟨[.int .i64 k, .int .i64 nd, .int .i64 nn, .int .i64 t, .string key,ai 3 n 0 c]⟩] [] =
 (ae (NC k)
 (ae (KC k)
 (ae (bI (NF k) ⟨#[32]⟩)
 (ae (DC nn)
 (ae (bI (aj (NF k) ⟨#[32]⟩) (DF nn))
 (some ((.string (aj (aj (NF k) ⟨#[32]⟩) (DF nn))),(mkSt [])))))))):=by kernel_rfl
theorem acB(NC:Int->Bool)(NF:Int->ByteArray)(KC:Int->Bool)(DC:Int->Bool)(DF:Int->ByteArray)(WC:ByteArray->Bool)(WF:ByteArray->ByteArray)(LC:List Value->List Blk->Bool)(s2:ByteArray)(k nd nn t:Int)(key:ByteArray)(n:Nat)(c:List Value):bn P E (wF NC NF KC ⟨#[110,107]⟩ DC DF WC WF LC s2 k nd nn t key n c) 50 aJ [] [] 0 36 [.agg ⟨[.int .i64 k, .int .i64 nd, .int .i64 nn, .int .i64 t, .string key,ai 3 n 0 c]⟩] [] =
 (ae (NC k)
 (ae (KC k)
 (ae (bI (NF k) ⟨#[32]⟩)
 (ae (DC nd)
 (ae (bI (aj (NF k) ⟨#[32]⟩) (DF nd))
 (ae (bI (aj (aj (NF k) ⟨#[32]⟩) (DF nd)) ⟨#[32]⟩)
 (ae (WC key)
 (ae (bI (aj (aj (aj (NF k) ⟨#[32]⟩) (DF nd)) ⟨#[32]⟩) (WF key))
 (some ((.string (aj (aj (aj (aj (NF k) ⟨#[32]⟩) (DF nd)) ⟨#[32]⟩) (WF key))),(mkSt []))))))))))):=by kernel_rfl
theorem acQ(NC:Int->Bool)(NF:Int->ByteArray)(KC:Int->Bool)(DC:Int->Bool)(DF:Int->ByteArray)(WC:ByteArray->Bool)(WF:ByteArray->ByteArray)(LC:List Value->List Blk->Bool)(s2:ByteArray)(k nd nn t:Int)(key:ByteArray)(n:Nat)(c:List Value):bn P E (wF NC NF KC ⟨#[110,97]⟩ DC DF WC WF LC s2 k nd nn t key n c) 50 aJ [] [] 0 36 [.agg ⟨[.int .i64 k, .int .i64 nd, .int .i64 nn, .int .i64 t, .string key,ai 3 n 0 c]⟩] [] =
 (ae (NC k)
 (ae (KC k)
 (ae (bI (NF k) ⟨#[32]⟩)
 (ae (DC nd)
 (ae (bI (aj (NF k) ⟨#[32]⟩) (DF nd))
 (ae (bI (aj (aj (NF k) ⟨#[32]⟩) (DF nd)) ⟨#[32]⟩)
 (ae (DC nn)
 (ae (bI (aj (aj (aj (NF k) ⟨#[32]⟩) (DF nd)) ⟨#[32]⟩) (DF nn))
 (some ((.string (aj (aj (aj (aj (NF k) ⟨#[32]⟩) (DF nd)) ⟨#[32]⟩) (DF nn))),(mkSt []))))))))))):=by kernel_rfl
theorem ab6(NC:Int->Bool)(NF:Int->ByteArray)(KC:Int->Bool)(DC:Int->Bool)(DF:Int->ByteArray)(WC:ByteArray->Bool)(WF:ByteArray->ByteArray)(LC:List Value->List Blk->Bool)(s2:ByteArray)(k nd nn t:Int)(key:ByteArray)(n:Nat)(c:List Value):bn P E (wF NC NF KC ⟨#[110,97,116]⟩ DC DF WC WF LC s2 k nd nn t key n c) 50 aJ [] [] 0 36 [.agg ⟨[.int .i64 k, .int .i64 nd, .int .i64 nn, .int .i64 t, .string key,ai 3 n 0 c]⟩] [] =
 (ae (NC k)
 (ae (KC k)
 (ae (bI (NF k) ⟨#[32]⟩)
 (ae (DC nd)
 (ae (bI (aj (NF k) ⟨#[32]⟩) (DF nd))
 (ae (bI (aj (aj (NF k) ⟨#[32]⟩) (DF nd)) ⟨#[32]⟩)
 (ae (DC nn)
 (ae (bI (aj (aj (aj (NF k) ⟨#[32]⟩) (DF nd)) ⟨#[32]⟩) (DF nn))
 (ae (bI (aj (aj (aj (aj (NF k) ⟨#[32]⟩) (DF nd)) ⟨#[32]⟩) (DF nn)) ⟨#[32]⟩)
 (ae (DC t)
 (ae (bI (aj (aj (aj (aj (aj (NF k) ⟨#[32]⟩) (DF nd)) ⟨#[32]⟩) (DF nn)) ⟨#[32]⟩) (DF t))
 (some ((.string (aj (aj (aj (aj (aj (aj (NF k) ⟨#[32]⟩) (DF nd)) ⟨#[32]⟩) (DF nn)) ⟨#[32]⟩) (DF t))),(mkSt [])))))))))))))):=by kernel_rfl
theorem adi(NC:Int->Bool)(NF:Int->ByteArray)(KC:Int->Bool)(DC:Int->Bool)(DF:Int->ByteArray)(WC:ByteArray->Bool)(WF:ByteArray->ByteArray)(LC:List Value->List Blk->Bool)(s2:ByteArray)(k nd nn t:Int)(key:ByteArray)(n:Nat)(c:List Value):bn P E (wF NC NF KC ⟨#[110,111]⟩ DC DF WC WF LC s2 k nd nn t key n c) 50 aJ [] [] 0 36 [.agg ⟨[.int .i64 k, .int .i64 nd, .int .i64 nn, .int .i64 t, .string key,ai 3 n 0 c]⟩] [] =
 (ae (NC k)
 (ae (KC k)
 (ae (bI (NF k) ⟨#[32]⟩)
 (ae (DC nd)
 (ae (bI (aj (NF k) ⟨#[32]⟩) (DF nd))
 (ae (LC [.pointer (Option.some (Addr.mk 0 0 none)),.string (aj (aj (NF k) ⟨#[32]⟩) (DF nd)),.string ⟨#[110,111]⟩,.int .i64 1,.int .i64 0] [Blk.cells [.int .i64 k,.int .i64 nd,.int .i64 nn,.int .i64 t,.string key,.iface 18446744073709551619 (.agg ⟨(.slice none n 0)::c⟩)] 24 true])
 (some ((.string s2),(mkSt []))))))))):=by kernel_rfl
theorem nD(a b c:ByteArray):aj (aj a b) c=aj a (aj b c):=lZ (by rw[jf,jf,jf,jf,List.append_assoc])
def noW:ByteArray:=⟨#[110,111]⟩
def rtV(s:ByteArray)(j:Int):List Value:=[pA, .string s, .string noW, .int .i64 1, .int .i64 j]
def rtB(x:TxS):List Blk:=[.cells (qK x.k x.nd x.n x.t x.key x.l) 24 true]
def Oc:Ct:=abD bQ pg
theorem Qy:CtOk P Oc:=aU aW Zd
theorem aaq{x:TxS}{i:Nat}{s:ByteArray}(hi:i<x.l.length)(hl:x.l.length<4194304)(ho:jo x.l[i]=true)(hs:s.size<=1000000000000):aQ P E Oc 50 36 Brt Drt (rtV s i) (rtB x)=some (.tuple ⟨exV .normal::rtV (aj s (opS x.l[i])) ((i+1:Nat):Int)⟩,mkSt (rtB x)):=by
 unfold rtV rtB;have q:=Xi bQ pg x.k x.nd x.n x.t x.key x.l.length (EOp.all x.l) s noW 1 i;refine Eq.trans ?_ (q.trans ?_)
 ·rfl
 clear q;have n3:∀ l:List OpM,(EOp.all l).length=Nat.mul l.length 3:=fun l=>EOp.all_length l;have g1:ltI (i:Int) (af x.l.length)=true:=by unfold ltI af; exact decide_eq_true (by omega)
 have g2:inI (i:Int) x.l.length=true:=by unfold inI; exact decide_eq_true (by omega)
 have g3:Nat.ble (Nat.add (atN (i:Int) 3) 3) (Nat.mul x.l.length 3)=true:=Nat.ble_eq_true_of_le (by
  show(i:Int).toNat*3+3<=x.l.length*3;have:(i:Int).toNat=i:=by omega
  omega)
 have g4:=qU hi;have a1:aB .i64 (i:Int) 1=((i+1:Nat):Int):=by unfold aB; rw[wrap64 (by omega) (by omega)]; omega
 have ab:∀ b,asB (.bool b)=b:=fun _=>rfl;have aS:∀ b,asS (.string b)=b:=fun _=>rfl;have b3:∀ n,Nat.beq n n=true:=Nat.beq_refl;have ho':bQ x.l[i].p x.l[i].k x.l[i].v=true:=ho;have s1:(ByteArray.mk #[32]).size=1:=rfl;have ht:=zl ho';have f1:bI s ⟨#[32]⟩=true:=bM (by rw[Nat.add_eq,s1]; omega);have f2:bI (aj s ⟨#[32]⟩) (pg x.l[i].p x.l[i].k x.l[i].v)=true:=bM (by rw[Nat.add_eq,a_,s1]; omega);simp only[n3,g1,g2,g3,g4,zi hi,yI hi,zy hi,ab,aS,a1,b3,ho',f1,f2,Bool.and_self,az,aA,fzO];unfold opS;rw[ho];simp only[nD]
 rfl
theorem aev{x:TxS}{s:ByteArray}:aQ P E Oc 50 36 Brt Drt (rtV s x.l.length) (rtB x)=some (.tuple ⟨exV (.exit 3)::rtV s x.l.length⟩,mkSt (rtB x)):=by
 unfold rtV rtB;have q:=Xi bQ pg x.k x.nd x.n x.t x.key x.l.length (EOp.all x.l) s noW 1 x.l.length;refine Eq.trans ?_ (q.trans ?_)
 ·rfl
 clear q;have g1:ltI (x.l.length:Int) (af x.l.length)=false:=by unfold ltI af; exact decide_eq_false (by omega)
 rw[g1,fzO]
 rfl
theorem Qs(x:TxS)(hl:x.l.length<4194304)(ho:∀ o∈x.l,jo o=true):∀ (k i:Nat) (s:ByteArray),i+k=x.l.length->s.size<=1000+201*i->
  LRX P 36 3 Brt Drt.head (rtV s i) (rtB x) .normal (rtV (nC s (x.l.drop i)) x.l.length) (rtB x)
 |0,i,s,h,hs=>by
  obtain rfl:i=x.l.length:=by omega
  rw[List.drop_length];exact LRX.stop (n:=50) (aF Oc) au Qy Rx (e:= .exit 3) aev (by intro h; cases h)
 |k+1,i,s,h,hs=>by
  have hi:i<x.l.length:=by omega
  have q:=aaq (s:=s) hi hl (ho _ (List.getElem_mem hi)) (by omega);rw[List.drop_eq_getElem_cons hi];simp only[nC];have:=FP x.l[i];exact LRX.again (n:=50) (aF Oc) au Qy Rx q (Qs x hl ho k (i+1) _ (by omega) (by rw[a_]; omega))
def kRt:Con TxS where
 enc x:=(rtV x.s 0,rtB x)
 ok x:=x.s.size<=1000/\x.l.length<4194304/\∀ o∈x.l,jo o=true
 inj a b h:=by
  obtain⟨a1,a2,a3,a4,a5,a6,a7⟩:=a;obtain⟨b1,b2,b3,b4,b5,b6,b7⟩:=b;unfold rtV rtB qK at h;simp only[Prod.mk.injEq,List.cons.injEq,Value.string.injEq,Blk.cells.injEq,Value.int.injEq,true_and,and_true]at h;obtain⟨rfl,rfl,rfl,rfl,rfl,rfl,h⟩:=h;rw[jD h]
 dflt:=⟨default,0,0,0,0,default,[]⟩
theorem YE:LoopOkX P 36 3 Brt Drt.head (kP kRt.C kRt.D fun x=> .leaf (.normal,rtV (nC x.s x.l) (af x.l.length),rtB x)):=
 fQ kRt (bz MM) fun x ho e vs' bs' hev=>by
  have q:=Qs x ho.2.1 ho.2.2 x.l.length 0 x.s (by omega) (by have:=ho.1; omega);rw[List.drop_zero]at q;simp only[DT.eval,Option.some.injEq,Prod.mk.injEq]at hev;obtain⟨rfl,rfl,rfl⟩:=hev;exact q
def Je(LC:List Value->List Blk->Bool)(s2:ByteArray)(j:Nat)(a:ActM):Ct:=wF kdC nmI (fun i=>eqI i ((j+1:Nat):Int)) (shT j) (dgC 1000000000) bF wdC wdS LC s2 a.kind a.node a.n a.t a.key a.ops.length (EOp.all a.ops)
theorem aan{s2:ByteArray}{j:Nat}(h:j<12){a:ActM}:CtOk P (Je (fun _ _=>false) s2 j a):=
 bf (aU (aU (aU (aU aW Me) XI) (Jb h)) Tm) (lD (bz MM))
theorem C_{a:ActM}{j:Nat}{s2:ByteArray}(h:j<12)(v:Value)(q:bn P E (Je (fun _ _=>false) s2 j a) 50 aJ [] [] 0 36 [g_ a] []=some (v,mkSt [])):CRX P 0 36 [g_ a] [] v []:=
 CRX.of (aF (Je (fun _ _=>false) s2 j a)) au (aan h) q
theorem Qm:∀ j:Fin 12,(nmT j.val).size<=7:=by decide
theorem Dy{j:Nat}(h:j<12)(hsh:shT j=⟨#[110]⟩){nd n t:Int}{key:ByteArray}{ops:List OpM}(h1:0<=nd)(h2:nd<=999999999):CRX P 0 36 [g_ ⟨((j+1:Nat):Int),nd,n,t,key,ops⟩] [] (.string (aj (nmT j) (nS nd))) []:=by
 refine C_ (s2:=default) h _ ?_;have q:=acv kdC nmI (fun i=>eqI i ((j+1:Nat):Int)) (dgC 1000000000) bF wdC wdS (fun _ _=>false) default ((j+1:Nat):Int) nd n t key ops.length (EOp.all ops);unfold Je;rw[hsh];refine q.trans ?_;have g2:kdC ((j+1:Nat):Int)=true:=xH.2 ⟨j,h,rfl⟩;have g3:nmI ((j+1:Nat):Int)=nmT j:=by unfold nmI; congr 1
 have g4:eqI ((j+1:Nat):Int) ((j+1:Nat):Int)=true:=ig.2 rfl;have d1:dgC 1000000000 nd=true:=sU.2 ⟨h1,by omega⟩;have z0:=Qm ⟨j,h⟩;have z1:=fJ (nU h1 h2);have fit:∀ x y:ByteArray,x.size+y.size<=100000000->bI x y=true:=fun x y h=>bM (by rw[Nat.add_eq]; omega);have f1:bI (nmT j) ⟨#[32]⟩=true:=fit _ _ (by rw[lz0]; simp only at z0; omega);have f2:bI (aj (nmT j) ⟨#[32]⟩) (bF nd)=true:=fit _ _ (by rw[a_,lz0]; simp only at z0; omega);rw[g2,g4,g3,f1,d1,f2,nD]
 rfl
theorem IJ{j:Nat}(h:j<12)(hsh:shT j=⟨#[97]⟩){nd n t:Int}{key:ByteArray}{ops:List OpM}(h1:0<=n)(h2:n<=999999999):CRX P 0 36 [g_ ⟨((j+1:Nat):Int),nd,n,t,key,ops⟩] [] (.string (aj (nmT j) (nS n))) []:=by
 refine C_ (s2:=default) h _ ?_;have q:=ac5 kdC nmI (fun i=>eqI i ((j+1:Nat):Int)) (dgC 1000000000) bF wdC wdS (fun _ _=>false) default ((j+1:Nat):Int) nd n t key ops.length (EOp.all ops);unfold Je;rw[hsh];refine q.trans ?_;have g2:kdC ((j+1:Nat):Int)=true:=xH.2 ⟨j,h,rfl⟩;have g3:nmI ((j+1:Nat):Int)=nmT j:=by unfold nmI; congr 1
 have g4:eqI ((j+1:Nat):Int) ((j+1:Nat):Int)=true:=ig.2 rfl;have d1:dgC 1000000000 n=true:=sU.2 ⟨h1,by omega⟩;have z0:=Qm ⟨j,h⟩;have z1:=fJ (nU h1 h2);have fit:∀ x y:ByteArray,x.size+y.size<=100000000->bI x y=true:=fun x y h=>bM (by rw[Nat.add_eq]; omega);have f1:bI (nmT j) ⟨#[32]⟩=true:=fit _ _ (by rw[lz0]; simp only at z0; omega);have f2:bI (aj (nmT j) ⟨#[32]⟩) (bF n)=true:=fit _ _ (by rw[a_,lz0]; simp only at z0; omega);rw[g2,g4,g3,f1,d1,f2,nD]
 rfl
theorem VV{a:ActM}(h:Wf a):CRX P 0 36 [g_ a] [] (.string (aN a)) []:=by
 have fit:∀ x y:ByteArray,x.size+y.size<=100000000->bI x y=true:=fun x y h=>bM (by rw[Nat.add_eq]; omega);have dg:∀ {n:Int},0<=n->n<=999999999->dgC 1000000000 n=true:=fun h1 h2=>sU.2 ⟨h1,by omega⟩;have e4:∀ n:Int,eqI n n=true:=fun n=>ig.2 rfl;cases h with
 | @com nd ops h1 h2 h3=>
  obtain⟨hne,hall⟩:=uh h3;have h8:=rU h3;have z1:=fJ (qA h1 h2)
  let x:TxS:=⟨aj ⟨#[99,111,109,109,105,116]⟩ (nS nd),1,nd,0,0,⟨#[]⟩,ops⟩
  have hx:kRt.ok x:=⟨by show(aj _ (aj _ _)).size<=1000; rw[a_,a_,lz1,lz0]; omega,by show ops.length<_; omega,hall⟩
  refine CRX.of (aF (Je (kRt.at x) (nC x.s ops) 0 ⟨1,nd,0,0,⟨#[]⟩,ops⟩)) au (bf (aU (aU (aU (aU aW Me) XI) (Jb (by decide))) Tm) (gU kRt YE (s:=x) hx)) (n:=50) (pol:=aJ) (fl:=[]) (ts:=[]) ?_;refine(adi kdC nmI (fun i=>eqI i ((0+1:Nat):Int)) (dgC 1000000000) bF wdC wdS (kRt.at x) (nC x.s ops) 1 nd 0 0 ⟨#[]⟩ ops.length (EOp.all ops)).trans ?_;have g2:kdC 1=true:=rfl;have g3:nmI 1=⟨#[99,111,109,109,105,116]⟩:=rfl;have g4:eqI 1 ((0+1:Nat):Int)=true:=rfl;have f1:bI ⟨#[99,111,109,109,105,116]⟩ ⟨#[32]⟩=true:=rfl;have f2:bI (aj ⟨#[99,111,109,109,105,116]⟩ ⟨#[32]⟩) (bF nd)=true:=fit _ _ (by rw[a_,lz0,lz1]; omega);rw[g2,g4,g3,f1,dg h1 (by omega),f2,nD];simp only[aA];exact bu (k:=kRt) (s:=x) rfl (by show rtB x=_; unfold rtB qK; rw[<-fzO]; try rfl) rfl
 | @read nd key h1 h2 h3=>
  refine C_ (s2:=default) (j:=1) (by decide) _ ?_;refine(acB kdC nmI (fun i=>eqI i ((1+1:Nat):Int)) (dgC 1000000000) bF wdC wdS (fun _ _=>false) default 2 nd 0 0 key 0 (EOp.all [])).trans ?_;have z1:=fJ (qA h1 h2);have z2:=vW key;have z3:=(l9 h3).2.1;have ck:wdC key=true:=bM (by omega);have g2:kdC 2=true:=rfl;have g3:nmI 2=⟨#[114,101,97,100]⟩:=rfl;have g4:eqI 2 ((1+1:Nat):Int)=true:=rfl;rw[g2,g4,g3,dg h1 (by omega),ck];simp only[aA];repeat refine aT (fit _ _ (by simp only[a_,lz0,lz2]; omega)) ?_
  refine gz ?_ rfl;show Value.string _=Value.string (aj (aj _ (aj _ _)) (aj _ _));simp only[nD]
 |tick h1 h2=>exact Dy (j:=2) (by decide) rfl h1 (by omega)
 |promote h1 h2=>exact Dy (j:=3) (by decide) rfl h1 (by omega)
 |flush h1 h2=>exact Dy (j:=4) (by decide) rfl h1 (by omega)
 |deliver h1 h2=>exact IJ (j:=5) (by decide) rfl h1 h2
 |twice h1 h2=>exact IJ (j:=6) (by decide) rfl h1 h2
 |drop h1 h2=>exact IJ (j:=7) (by decide) rfl h1 h2
 |pull h1 h2=>exact Dy (j:=9) (by decide) rfl h1 (by omega)
 | @fuse nd n h1 h2 h3 h4=>
  refine C_ (s2:=default) (j:=8) (by decide) _ ?_;refine(acQ kdC nmI (fun i=>eqI i ((8+1:Nat):Int)) (dgC 1000000000) bF wdC wdS (fun _ _=>false) default 9 nd n 0 ⟨#[]⟩ 0 (EOp.all [])).trans ?_;have z1:=fJ (qA h1 h2);have z2:=fJ (nU h3 h4);have g2:kdC 9=true:=rfl;have g3:nmI 9=⟨#[102,117,115,101]⟩:=rfl;have g4:eqI 9 ((8+1:Nat):Int)=true:=rfl;rw[g2,g4,g3,dg h1 (by omega),dg h3 h4];simp only[aA];repeat refine aT (fit _ _ (by simp only[a_,lz0,lz9]; omega)) ?_
  refine gz ?_ rfl;show Value.string _=Value.string (aj (aj _ (aj _ _)) (aj _ _));simp only[nD]
 | @start nd n t h1 h2 h3 h4 h5 h6=>
  refine C_ (s2:=default) (j:=10) (by decide) _ ?_;refine(ab6 kdC nmI (fun i=>eqI i ((10+1:Nat):Int)) (dgC 1000000000) bF wdC wdS (fun _ _=>false) default 11 nd n t ⟨#[]⟩ 0 (EOp.all [])).trans ?_;have z1:=fJ (qA h1 h2);have z2:=fJ (nU h3 h4);have z3:=fJ (nU h5 h6);have g2:kdC 11=true:=rfl;have g3:nmI 11=⟨#[115,116,97,114,116]⟩:=rfl;have g4:eqI 11 ((10+1:Nat):Int)=true:=rfl;rw[g2,g4,g3,dg h1 (by omega),dg h3 h4,dg h5 h6];simp only[aA];repeat refine aT (fit _ _ (by simp only[a_,lz0,qF]; omega)) ?_
  refine gz ?_ rfl;show Value.string _=Value.string (aj (aj (aj _ (aj _ _)) (aj _ _)) (aj _ _));simp only[nD]
 |round=>
  refine C_ (s2:=default) (j:=11) (by decide) _ ?_;exact(ac3 kdC nmI (fun i=>eqI i ((11+1:Nat):Int)) (dgC 1000000000) bF wdC wdS (fun _ _=>false) default 12 0 0 0 ⟨#[]⟩ 0 (EOp.all [])).trans rfl
end Go.VS.Tryz
end

section
noncomputable section
namespace Go.Proofs
open Go.RowKit Go.Shelf
set_option maxHeartbeats 2000000 in
set_option maxRecDepth 100000 in
theorem Tryz.bld_nil(b:Nat)(w:World)(hb:w.cell? ⟨b,1,none⟩=some (.slice none 0 0)):Calls Tryz.prog 26 #[.pointer (some ⟨b,0,none⟩)] w fun e w'=>e = .returned (.string ⟨#[]⟩)/\w'=w.drew:=by
 have L:Lays.n169 Tryz.prog Tryz.lays105_ren:={ Tryz.lays105 with }
 have X:=Tryz.Builder_Extra_105;have hUS:=Any.unsafeString_none L X;have c1:w.drew.cell? ⟨b,1,none⟩=some (.slice none 0 0):=hb;have hSD:(Builtin.unsafeSliceData_ #[(Tryz.lays105_ren.t 37)] (Tryz.lays105_ren.t 127) #[.slice none 0 0]).run Tryz.prog w.drew = .ok (.pointer none) w.drew:=rfl;have mixed:=L.mixed;have t72:=L.t72; have a72:=L.a72; have z72:=L.z72; have v72:=L.v72; have u72:=run_underlying L.t72;have t70:=L.t70; have a70:=L.a70; have z70:=L.z70; have v70:=L.v70; have u70:=run_underlying L.t70;have t37:=L.t37; have a37:=L.a37; have z37:=L.z37; have v37:=L.v37; have u37:=run_underlying L.t37;have t127:=L.t127; have a127:=L.a127; have z127:=L.z127; have v127:=L.v127; have u127:=run_underlying L.t127;have t3:=L.t3; have a3:=L.a3; have z3:=L.z3; have v3:=L.v3; have u3:=run_underlying L.t3;have t9:=L.t9; have a9:=L.a9; have z9:=L.z9; have v9:=L.v9; have u9:=run_underlying L.t9;have t5:=X.t5; have a5:=X.a5; have z5:=X.z5; have v5:=X.v5; have u5:=run_underlying X.t5;revert L;intro L
 go_enter L.f169,Body.n169_ntmps Tryz.lays105_ren
 go_wp2
 go_region_o
 all_goals (go_wp2; go_ret; exact⟨rfl,rfl⟩)
end Go.Proofs
namespace Go.VS.Tryz
set_option maxRecDepth 1000000
open Go.VS Go.RowKit
theorem ZY:CRX P 1 26 [dP] [.cells [.pointer none, .slice none 0 0] 61 true] (.string ⟨#[]⟩) [.cells [.pointer none, .slice none 0 0] 61 true]:=by
 intro K Y w args' cs hid ha hr;obtain⟨l0,hl,rfl⟩:=Fj ha;obtain⟨hv,hb,hK,y0,y1,f,hh,hy0,hy1,hf⟩:=BM hr hl;rw[hb];have hy1:y1 = .slice none 0 0:=VR.of_flat (.slice none 0 0) _ rfl hy1;subst hy1;have hc1:w.cell? ⟨l0.blk,1,none⟩=some (.slice none 0 0):=by unfold World.cell?; simp only[hh]; rfl
 obtain⟨e1,w',fr,⟨rfl,rfl⟩,hc,h1',k1,k2,k3,fn,k4,k5⟩:=Go.Proofs.Tryz.bld_nil l0.blk w hc1 cs;have q:=hr.below (w':=w.drew) ⟨rfl,rfl,rfl,Nat.le_refl _,fun k hk=>rfl⟩;exact⟨⟨Y,fr,w.drew,_,hc,(Env.le.refl Y).leN _,q.1,q.2,rfl,k1,k2,k3,h1',fn,by rw[<-h1']; exact k4,k5⟩,by simp⟩
def kS0:Con Unit where
 enc _:=([dP],[.cells [.pointer none, .slice none 0 0] 61 true])
 ok _:=True
 inj a b h:=rfl
 dflt:=()
theorem afX:CallOkX P 1 26 (jS kS0.C kS0.D fun _=> .leaf (.string ⟨#[]⟩,[.cells [.pointer none, .slice none 0 0] 61 true])):=f_ kS0 fun t ho v bs' hev=>by
 simp only[DT.eval,Option.some.injEq,Prod.mk.injEq]at hev;obtain⟨rfl,rfl⟩:=hev;exact ZY
def af0(SC:List Value->List Blk->Bool):Ct:=bJ P aJ 1 26 (iL SC (.leaf (.string ⟨#[]⟩,[.cells [.pointer none, .slice none 0 0] 61 true]))) ctF
theorem Uw(SC:List Value->List Blk->Bool):bn P E (af0 SC) 50 aJ [] [] 0 8 [ai 6 0 0 []] [] =
 (ae (SC [.pointer (Option.some (Addr.mk 0 0 none))] [Blk.cells [.pointer none,.slice none 0 0] 61 true])
 (some ((.tuple ⟨[.string ⟨#[]⟩,.nilIface]⟩),(mkSt [])))):=by kernel_rfl
theorem U4:CRX P 0 8 [fzActs []] [] (.tuple ⟨[.string (dL []).1,paE (dL []).2]⟩) []:=
 CRX.of (aF _) au (aO aW (eF kS0 afX (s:=()) trivial)) (n:=50) (pol:=aJ) (fl:=[]) (ts:=[]) ((Uw (kS0.at ())).trans (bu (k:=kS0) (s:=()) rfl rfl rfl))
theorem JC{l:List ActM}(hl:l.length<4194304)(h:∀ a∈l,kCk.ok a):CRX P 0 8 [fzActs l] [] (.tuple ⟨[.string (dL l).1,paE (dL l).2]⟩) []:=by
 cases l with
 |nil=>exact U4
 |cons a l=>exact V4 ⟨by simp,hl,h⟩
end Go.VS.Tryz
end

noncomputable section
namespace Go.VS.Tryz
open Go.VS
set_option maxRecDepth 1000000
def Dss:HeadX:=⟨0,27,[0,1,4,5],[.val, .val, .val, .val],[],aJ⟩
def Bss:Code:=(bK P 15 0).getD .skip
theorem LY:bK P 15 0=some Bss:=by kernel_rfl
theorem IK:Occ P 15 (.block 0 (.loop Bss)):=dA LY
def abe(SC:List Value->List Blk->Bool)(r:Bool):Ct:=bJ P aJ 0 7 (iL SC (.leaf (.bool r,[]))) ctF
theorem Yh(SC:List Value->List Blk->Bool)(r:Bool)(n b:Nat)(c:List Value)(n' b':Nat)(c':List Value)(i:Int):aQ P E (abe SC r) 50 15 Bss Dss [ai 6 n b c,ai 6 n' b' c', .bool false, .int .i64 i] [] =
 (ag (ltI i (af n))
 (ae (Bool.and (Nat.beq 6 6) (inI i n))
 (ae (Bool.and (Nat.ble (Nat.add (atN i 6) 6) c.length) (jP [.int .i64,.int .i64,.int .i64,.int .i64,.string,.slice 3] c (atN i 6)))
 (ae (Bool.and (Nat.beq 6 6) (inI i n'))
 (ae (Bool.and (Nat.ble (Nat.add (atN i 6) 6) (List.length c')) (jP [.int .i64,.int .i64,.int .i64,.int .i64,.string,.slice 3] c' (atN i 6)))
 (ae (SC [.agg ⟨[.int .i64 (asI (ah c (atN i 6))),.int .i64 (asI (ah c (Nat.add (atN i 6) 1))),.int .i64 (asI (ah c (Nat.add (Nat.add (atN i 6) 1) 1))),.int .i64 (asI (ah c (Nat.add (Nat.add (Nat.add (atN i 6) 1) 1) 1))),.string (asS (ah c (Nat.add (Nat.add (Nat.add (Nat.add (atN i 6) 1) 1) 1) 1))),.iface 18446744073709551619 (.agg ⟨(.slice none (zN (ah c (Nat.add (Nat.add (Nat.add (Nat.add (Nat.add (atN i 6) 1) 1) 1) 1) 1))) (zB (ah c (Nat.add (Nat.add (Nat.add (Nat.add (Nat.add (atN i 6) 1) 1) 1) 1) 1))))::(zC (ah c (Nat.add (Nat.add (Nat.add (Nat.add (Nat.add (atN i 6) 1) 1) 1) 1) 1)))⟩)]⟩,.agg ⟨[.int .i64 (asI (ah c' (atN i 6))),.int .i64 (asI (ah c' (Nat.add (atN i 6) 1))),.int .i64 (asI (ah c' (Nat.add (Nat.add (atN i 6) 1) 1))),.int .i64 (asI (ah c' (Nat.add (Nat.add (Nat.add (atN i 6) 1) 1) 1))),.string (asS (ah c' (Nat.add (Nat.add (Nat.add (Nat.add (atN i 6) 1) 1) 1) 1))),.iface 18446744073709551619 (.agg ⟨(.slice none (zN (ah c' (Nat.add (Nat.add (Nat.add (Nat.add (Nat.add (atN i 6) 1) 1) 1) 1) 1))) (zB (ah c' (Nat.add (Nat.add (Nat.add (Nat.add (Nat.add (atN i 6) 1) 1) 1) 1) 1))))::(zC (ah c' (Nat.add (Nat.add (Nat.add (Nat.add (Nat.add (atN i 6) 1) 1) 1) 1) 1)))⟩)]⟩] [])
 (ag (dN r)
 (some ((.tuple ⟨[.int .i64 (-1),.iface 18446744073709551622 (.agg ⟨(.slice none n b)::c⟩),.iface 18446744073709551622 (.agg ⟨(.slice none n' b')::c'⟩),.bool false,.int .i64 i]⟩),(mkSt [])))
 (some ((.tuple ⟨[.int .i64 0,.iface 18446744073709551622 (.agg ⟨(.slice none n b)::c⟩),.iface 18446744073709551622 (.agg ⟨(.slice none n' b')::c'⟩),.bool false,.int .i64 (aB .i64 i 1)]⟩),(mkSt [])))))))))
 (some ((.tuple ⟨[.int .i64 1,.iface 18446744073709551622 (.agg ⟨(.slice none n b)::c⟩),.iface 18446744073709551622 (.agg ⟨(.slice none n' b')::c'⟩),.bool false,.int .i64 i]⟩),(mkSt [])))):=by kernel_rfl
def ssV(l m:List ActM)(i:Int):List Value:=[fzActs l,fzActs m, .bool false, .int .i64 i]
def BL(a b:ActM):Ct:=abe (kSa.at (a,b)) (jk a b)
theorem Q9{a b:ActM}(h:kSa.ok (a,b)):CtOk P (BL a b):=aO aW (eF kSa afO (s:=(a,b)) h)
theorem fzA(l:List ActM):(Value.iface 18446744073709551622 (.agg ⟨.slice none l.length 0::aH.all l⟩))=fzActs l:=by unfold fzActs ai FZ; rfl
theorem ZO{l m:List ActM}{i:Nat}(hi:i<l.length)(he:m.length=l.length)(hl:l.length<4194304):aQ P E (BL l[i] (m[i]'(by omega))) 50 15 Bss Dss (ssV l m i) []=match jk l[i] (m[i]'(by omega))with
  |true=>some (.tuple ⟨exV .normal::ssV l m ((i+1:Nat):Int)⟩,mkSt [])
  |false=>some (.tuple ⟨exV .ret::ssV l m i⟩,mkSt []):=by
 have hj:i<m.length:=by omega
 unfold ssV BL;have q:=Yh (kSa.at (l[i],m[i])) (jk l[i] m[i]) l.length 0 (aH.all l) m.length 0 (aH.all m) i;refine Eq.trans ?_ (q.trans ?_)
 ·rfl
 clear q;have n6:∀ l:List ActM,(aH.all l).length=Nat.mul l.length 6:=fun l=>aH.all_length l;have g1:ltI (i:Int) (af l.length)=true:=by unfold ltI af; exact decide_eq_true (by omega)
 have g2:inI (i:Int) l.length=true:=by unfold inI; exact decide_eq_true (by omega)
 have g3:Nat.ble (Nat.add (atN (i:Int) 6) 6) (Nat.mul l.length 6)=true:=Nat.ble_eq_true_of_le (by
  show(i:Int).toNat*6+6<=l.length*6;have:(i:Int).toNat=i:=by omega
  omega)
 have g4:=sO hi;have g5:=sO hj;have a1:aB .i64 (i:Int) 1=((i+1:Nat):Int):=by unfold aB; rw[wrap64 (by omega) (by omega)]; omega
 have aI:∀ k n,asI (.int k n)=n:=fun _ _=>rfl;have aS:∀ b,asS (.string b)=b:=fun _=>rfl;have b6:Nat.beq 6 6=true:=rfl;have zn:∀ o:List OpM,zN (aK o)=o.length:=fun o=>yN;have zb:∀ o:List OpM,zB (aK o)=0:=fun o=>CJ;have zc:∀ o:List OpM,zC (aK o)=EOp.all o:=fun o=>Dh;simp only[n6,he,g1,g2,g3,g4,g5,AY hi,Aj hi,Bv hi,BR hi,Ak hi,zh hi,AY hj,Aj hj,Bv hj,BR hj,Ak hj,zh hj,aI,aS,zn,zb,zc,a1,b6,Bool.and_self,az,aA,xX];refine bu (k:=kSa) (s:=(l[i],m[i])) rfl rfl ?_;have hm:(Value.iface 18446744073709551622 (.agg ⟨.slice none l.length 0::aH.all m⟩))=fzActs m:=by rw[<-he]; exact fzA m
 rw[fzA l,hm];cases jk l[i] m[i]<;>rfl
theorem aeG{l m:List ActM}:aQ P E (BL cZ cZ) 50 15 Bss Dss (ssV l m l.length) []=some (.tuple ⟨exV (.exit 0)::ssV l m l.length⟩,mkSt []):=by
 unfold ssV BL;have q:=Yh (kSa.at (cZ,cZ)) (jk cZ cZ) l.length 0 (aH.all l) m.length 0 (aH.all m) (l.length:Int);refine Eq.trans ?_ (q.trans ?_)
 ·rfl
 clear q;have g1:ltI (l.length:Int) (af l.length)=false:=by unfold ltI af; exact decide_eq_false (by omega)
 rw[g1];refine Eq.trans ax ?_;rw[fzA l,fzA m]; rfl
def pO:Nat->List ActM->List ActM->Option Nat
 |i,a::l,b::m=>match jk a b with
  |true=>pO (i+1) l m
  |false=>some i
 |_,_,_=>none
theorem JV:∀ (l m:List ActM) (i:Nat),l.length=m.length->(pO i l m=none↔l=m)
 |[],[],i,_=>by simp[pO]
 |[],_::_,i,h=>by simp at h
 |_::_,[],i,h=>by simp at h
 |a::l,b::m,i,h=>by
  have ih:=JV l m (i+1) (by simpa using h);unfold pO;cases ho:jk a b with
  |true=>
   obtain rfl:=wM.1 ho;simp only[ih,List.cons.injEq,true_and]
  |false=>
   constructor
   ·intro h; cases h
   ·intro h;simp only[List.cons.injEq]at h;rw[wM.2 h.1]at ho; cases ho
def qh(l:List ActM):Prop:=l.length<4194304/\∀ a∈l,a.ops.length<4194304
theorem QF(l m:List ActM)(hl:qh l)(hm:qh m)(he:m.length=l.length):∀ (k i:Nat),i+k=l.length->
  LRX P 15 0 Bss Dss.head (ssV l m i) [] (match pO i (l.drop i) (m.drop i)with | none=> .normal | some _=> .ret) (match pO i (l.drop i) (m.drop i)with | none=>ssV l m l.length | some j=>ssV l m j) []
 |0,i,h=>by
  obtain rfl:i=l.length:=by omega
  rw[List.drop_length];have e:pO l.length [] (m.drop l.length)=none:=by unfold pO; rfl
  rw[e];exact LRX.stop (n:=50) (aF (BL cZ cZ)) au (Q9 ⟨by decide,by decide⟩) IK (e:= .exit 0) aeG (by intro h; cases h)
 |k+1,i,h=>by
  have hi:i<l.length:=by omega
  have hj:i<m.length:=by omega
  have q:=ZO hi he hl.1;have hk:=Q9 (a:=l[i]) (b:=m[i]) ⟨hl.2 _ (List.getElem_mem hi),hm.2 _ (List.getElem_mem hj)⟩;rw[List.drop_eq_getElem_cons hi,List.drop_eq_getElem_cons hj];simp only[pO];cases ho:jk l[i] m[i]with
  |true=>
   rw[ho]at q;exact LRX.again (n:=50) (aF (BL l[i] m[i])) au hk IK q (QF l m hl hm he k (i+1) (by omega))
  |false=>
   rw[ho]at q;exact LRX.stop (n:=50) (aF (BL l[i] m[i])) au hk IK (e:= .ret) q (by intro h; cases h)
def IL:Con (List ActM×List ActM) where
 enc x:=(ssV x.1 x.2 0,[])
 ok x:=qh x.1/\qh x.2/\x.2.length=x.1.length
 inj a b h:=by
  obtain⟨a1,a2⟩:=a;obtain⟨b1,b2⟩:=b;unfold ssV at h;simp only[Prod.mk.injEq,List.cons.injEq,true_and,and_true]at h;rw[lH h.1,lH h.2]
 dflt:=([],[])
def abK(x:List ActM×List ActM):DT (Ex×List Value×List Blk):= .ite (pO 0 x.1 x.2).isNone (.leaf (.normal,ssV x.1 x.2 x.1.length,[])) (.leaf (.ret,ssV x.1 x.2 ((pO 0 x.1 x.2).getD 0),[]))
theorem Yv:LoopOkX P 15 0 Bss Dss.head (kP IL.C IL.D abK):=
 fQ IL (bz LY) fun x ho e vs' bs' hev=>by
  obtain⟨l,m⟩:=x;have q:=QF l m ho.1 ho.2.1 ho.2.2 l.length 0 (by omega);rw[List.drop_zero,List.drop_zero]at q;unfold abK at hev;cases hb:pO 0 l m with
  |none=>
   rw[hb]at hev q;simp only[hb,Option.isNone_none,DT.eval,Option.some.injEq,Prod.mk.injEq]at hev;obtain⟨rfl,rfl,rfl⟩:=hev;exact q
  |some j=>
   rw[hb]at hev q;simp only[hb,Option.isNone_some,Option.getD_some,DT.eval,Option.some.injEq,Prod.mk.injEq]at hev;obtain⟨rfl,rfl,rfl⟩:=hev;exact q
def afI(LC:List Value->List Blk->Bool)(ok:Bool)(n b:Nat)(c:List Value)(n' b':Nat)(c':List Value)(j:Int):Ct:=
 dR P 15 0 Dss (iD LC (.ite ok (.leaf (.normal,[ai 6 n b c,ai 6 n' b' c', .bool false, .int .i64 n],[])) (.leaf (.ret,[ai 6 n b c,ai 6 n' b' c', .bool false, .int .i64 j],[])))) ctF
theorem Wl(LC:List Value->List Blk->Bool)(ok:Bool)(n b:Nat)(c:List Value)(n' b':Nat)(c':List Value)(j:Int):bn P E (afI LC ok n b c n' b' c' j) 50 aJ [] [] 0 15 [ai 6 n b c,ai 6 n' b' c'] [] =
 (ag (neI (af n) (af n'))
 (some ((.bool false),(mkSt [])))
 (ae (LC [.iface 18446744073709551622 (.agg ⟨(.slice none n b)::c⟩),.iface 18446744073709551622 (.agg ⟨(.slice none n' b')::c'⟩),.bool false,.int .i64 0] [])
 (ag ok
 (some ((.bool true),(mkSt [])))
 (some ((.bool false),(mkSt [])))))):=by kernel_rfl
def BV(l m:List ActM):Bool:=match neI (af l.length) (af m.length)with
 |true=>false
 |false=>(pO 0 l m).isNone
theorem U_{l m:List ActM}:BV l m=true↔l=m:=by
 unfold BV;cases hn:neI (af l.length) (af m.length)with
 |true=>
  constructor
  ·intro h; cases h
  ·rintro rfl;unfold neI at hn;simp at hn
 |false=>
  unfold neI af at hn;have hl:l.length=m.length:=by
   have:=bne_eq_false_iff_eq.1 hn;omega
  rw[<-JV l m 0 hl,Option.isNone_iff_eq_none]
theorem X8{l m:List ActM}(hl:qh l)(hm:qh m):CRX P 0 15 [fzActs l,fzActs m] [] (.bool (BV l m)) []:=by
 have q:=fun LC=>Wl LC (pO 0 l m).isNone l.length 0 (aH.all l) m.length 0 (aH.all m) ((pO 0 l m).getD 0:Nat);unfold BV;cases hn:neI (af l.length) (af m.length)with
 |true=>
  refine CRX.of (aF _) au (bf aW (lD (bz LY))) (n:=50) (pol:=aJ) (fl:=[]) (ts:=[]) ((q (fun _ _=>false)).trans ?_);rw[hn]; rfl
 |false=>
  have he:m.length=l.length:=by
   unfold neI af at hn;have:=bne_eq_false_iff_eq.1 hn;omega
  refine CRX.of (aF _) au (bf aW (gU IL Yv (s:=(l,m)) ⟨hl,hm,he⟩)) (n:=50) (pol:=aJ) (fl:=[]) (ts:=[]) (Eq.trans ?_ ((q (IL.at (l,m))).trans ?_))
  ·rfl
  rw[hn];refine Eq.trans ax ?_;refine bu (k:=IL) (s:=(l,m)) (by show ssV _ _ _=_; unfold ssV; rw[<-fzA l,<-fzA m]; try rfl) rfl ?_;cases (pO 0 l m).isNone<;>rfl
def uU(a:ActM):Bool:=gtI (af a.ops.length) 40
def lF:Nat->List ActM->Option Nat
 |_,[]=>none
 |i,a::l=>match uU a with
  |true=>some i
  |false=>lF (i+1) l
theorem GG:∀ (l:List ActM) (i:Nat),lF i l=none->∀ a∈l,a.ops.length<=40
 |[],_,_,_,h=>by cases h
 |b::l,i,h,a,ha=>by
  simp only[lF]at h;cases hb:uU b with
  |true=>rw[hb]at h; cases h
  |false=>
   rw[hb]at h;rcases List.mem_cons.1 ha with rfl | ha
   ·unfold uU gtI af at hb;have:=of_decide_eq_false hb;omega
   ·exact GG l (i+1) h a ha
def jZ(s:ByteArray):Option (Int×Int)×List ActM×Nat:=mf (iy s) [] 0
theorem Nu:∀ (l cur:List UInt8),cur++l≠[]->m_ cur l=(cur++(brk l).1)::m_ [] (brk l).2.1
 |[],cur,h=>by
  cases cur with
  |nil=>exact absurd rfl h
  |cons c t=>simp[m_,brk]
 |b::l,cur,h=>by
  show(match b == 10 with | true=>cur::m_ [] l | false=>m_ (cur++[b]) l)=(cur++(brk (b::l)).1)::m_ [] (brk (b::l)).2.1;unfold brk;cases hb:b == 10 with
  |true=>simp
  |false=>
   simp only;rw[Nu l (cur++[b]) (by simp)];simp
theorem Fe:∀ (l cur:List UInt8),(∀ w∈m_ cur l,w.length<=cur.length+l.length)/\(m_ cur l).length<=l.length+1
 |[],cur=>by
  cases cur with
  |nil=>simp[m_]
  |cons c t=>simp[m_]
 |b::l,cur=>by
  unfold m_;cases b == 10 with
  |true=>
   obtain⟨h1,h2⟩:=Fe l [];refine⟨fun w hw=>?_,by simp only[List.length_cons]; omega⟩;rcases List.mem_cons.1 hw with rfl | hw
   ·simp only[List.length_cons]; omega
   ·have:=h1 w hw;simp only[List.length_nil,List.length_cons]at this ⊢; omega
  |false=>
   obtain⟨h1,h2⟩:=Fe l (cur++[b]);refine⟨fun w hw=>?_,by simp only[List.length_cons]; omega⟩;have:=h1 w hw;simp only[List.length_append,List.length_cons,List.length_nil]at this ⊢; omega
theorem VN(s:ByteArray):(∀ w∈iy s,w.size<=s.size)/\(iy s).length<=s.size+1:=by
 obtain⟨h1,h2⟩:=Fe (bl s) [];rw[<-Es]at h1 h2;rw[List.length_map,bY]at h2;refine⟨fun w hw=>?_,h2⟩;have:=h1 (bl w) (List.mem_map.2 ⟨w,hw,rfl⟩);rw[bY,bY]at this;simpa using this
def H6:Con ByteArray where
 enc s:=(oU s 0 0 0 (iy s) 0,paB [])
 ok s:=s.size<=999999
 inj a b h:=by
  unfold oU at h;simp only[Prod.mk.injEq,List.cons.injEq,Value.string.injEq,true_and,and_true]at h;exact h.1
 dflt:=default
def YO(s:ByteArray):DT (Ex×List Value×List Blk):= .ite (jZ s).1.isNone (.leaf (.normal,oU s 0 0 (jZ s).2.1.length (iy s) (af (iy s).length),paB (jZ s).2.1)) (.leaf (.ret,oU s ((jZ s).1.getD (0,0)).1 ((jZ s).1.getD (0,0)).2 (jZ s).2.1.length (iy s) (jZ s).2.2,paB (jZ s).2.1))
theorem OH:∀ (L:List ByteArray) (out:List ActM) (i:Nat),(mf L out i).1=none->(mf L out i).2.2=i+L.length
 |[],out,i,_=>rfl
 |w::L,out,i,h=>by
  unfold mf at h ⊢;cases h1:neI (aG w).2.2 0 with
  |true=>rw[h1]at h; cases h
  |false=>
   rw[h1]at h;cases h2:(aG w).2.1 with
   |false=>
    rw[h2]at h;have:=OH L out (i+1) h;simp only[List.length_cons];omega
   |true=>
    rw[h2]at h;cases h3:eqI (af out.length) 200 with
    |true=>rw[h3]at h; cases h
    |false=>
     rw[h3]at h;have:=OH L (out++[(aG w).1]) (i+1) h;simp only[List.length_cons];omega
theorem UM:LoopOkX P 13 0 Brp Drp.head (kP H6.C H6.D YO):=
 fQ H6 (bz Oj) fun s ho e vs' bs' hev=>by
  have ho:s.size<=999999:=ho;obtain⟨l1,l2⟩:=VN s;have q:=EF s (iy s) (by omega) (fun w hw=>by have:=l1 w hw; omega) (iy s).length 0 [] (by omega) (by simp);have hi:=OH (iy s) [] 0;rw[List.drop_zero]at q;unfold YO jZ at hev;generalize mf (iy s) [] 0=x at hev q hi;obtain⟨o,out,c⟩:=x;cases o with
  |none=>
   simp only[Option.isNone_none,DT.eval,Option.some.injEq,Prod.mk.injEq]at hev;obtain⟨rfl,rfl,rfl⟩:=hev;have hi:c=0+(iy s).length:=hi rfl;rw[hi,Nat.zero_add]at q;exact q
  |some p=>
   simp only[Option.isNone_some,DT.eval,Option.getD_some,Option.some.injEq,Prod.mk.injEq]at hev;obtain⟨rfl,rfl,rfl⟩:=hev;exact q
def nZ(s:ByteArray):List ActM×Int×Int:=match gtI (af s.size) 65536,(jZ s).1 with
 |true,_=>([],-1,3)
 |false,none=>((jZ s).2.1,0,0)
 |false,some p=>([],p.1,p.2)
def UH(x:List ActM×Int×Int):Value:= .tuple ⟨[fzActs x.1, .int .i64 x.2.1, .int .i64 x.2.2]⟩
theorem UR(s:ByteArray):CRX P 0 13 [.string s] [] (UH (nZ s)) []:=by
 have hfz0:∀ l:List ActM,fzActs l = .iface 18446744073709551622 (.agg ⟨.slice none l.length 0::aH.all l⟩):=fun l=>(fzA l).symm;have q:=fun PC SC=>Tz PC SC (jZ s).1.isNone s (jZ s).2.1.length (aH.all (jZ s).2.1) (iy s).length ((iy s).map Value.string) ((jZ s).1.getD (0,0)).1 ((jZ s).1.getD (0,0)).2 (jZ s).2.2;unfold nZ;cases hg:gtI (af s.size) 65536 with
 |true=>
  refine CRX.of (aF (ab4 (fun _ _=>false) (fun _ _=>false) (jZ s).1.isNone s (jZ s).2.1.length (aH.all (jZ s).2.1) (iy s).length ((iy s).map Value.string) ((jZ s).1.getD (0,0)).1 ((jZ s).1.getD (0,0)).2 (jZ s).2.2)) au (aO (bf aW (lD (bz Oj))) LW) (n:=50) (pol:=aJ) (fl:=[.val, .val, .val]) (ts:=[34,3,25]) ((q (fun _ _=>false) (fun _ _=>false)).trans ?_);rw[hg];unfold UH;rw[hfz0]; rfl
 |false=>
  have hs:s.size<=999999:=by
   unfold gtI af at hg;have:=of_decide_eq_false hg;omega
  have lOk:=eF Jz X9 (s:=s) (show s.size<=4194302 by omega);have pOk:=gU H6 UM (s:=s) hs;refine CRX.of (aF _) au (aO (bf aW pOk) lOk) (n:=50) (pol:=aJ) (fl:=[.val, .val, .val]) (ts:=[34,3,25]) ((q (H6.at s) (Jz.at s)).trans ?_);rw[hg];refine Eq.trans ax ?_;refine bu (k:=Jz) (s:=s) rfl rfl ?_;refine bu (k:=H6) (s:=s) (by show oU _ _ _ _ _ _=_; unfold oU; rw[<-wZ]; unfold ai FZ; try rfl) rfl ?_;generalize jZ s=x;obtain⟨o,out,c⟩:=x;unfold UH;cases o with
  |none=>
   simp only[Option.isNone_none,az,Enc.all_ren,qP rfl,RV,aA];simp only[hfz0]
  |some p=>
   simp only[Option.isNone_some,ax,Option.getD_some];simp only[hfz0]
   rfl
theorem Q7:∀ (f:Nat) (s:ByteArray) (out:List ActM) (c:Nat) (L:List ByteArray),s.size<f->L.map bl=m_ [] (bl s)->(paM f s out c).1=(mf L out c).1/\(paM f s out c).2.2.1=(mf L out c).2.1
 |0,s,out,c,L,h,_=>by omega
 |f+1,s,out,c,L,h,hL=>by
  unfold paM;cases hb:Nat.beq s.size 0 with
  |true=>
   have h0:=Nat.eq_of_beq_eq_true hb;have he:bl s=[]:=List.length_eq_zero_iff.1 (by rw[bY]; exact h0);rw[he]at hL;cases L with
   |nil=>exact⟨rfl,rfl⟩
   |cons w L=>cases hL
  |false=>
   have h0:s.size≠0:=Nat.ne_of_beq_eq_false hb;have hne:bl s≠[]:=fun e=>h0 (by rw[<-bY,e]; rfl);rw[Nu _ _ (by simpa using hne)]at hL;have hlt:=(FD s).2 h0;cases L with
   |nil=>cases hL
   |cons w L=>
    simp only[List.map_cons,List.cons.injEq,List.nil_append]at hL;obtain⟨e1,e2⟩:=hL;obtain rfl:w=lnA s:=lZ e1;have ih:=fun o i=>Q7 f (lnB s) o i L (by omega) e2;unfold mf;cases neI (aG (lnA s)).2.2 0 with
    |true=>exact⟨rfl,rfl⟩
    |false=>
     cases (aG (lnA s)).2.1 with
     |false=>exact ih _ _
     |true=>
      cases eqI (af out.length) 200 with
      |true=>exact⟨rfl,rfl⟩
      |false=>exact ih _ _
theorem Jn:∀ (L:List ByteArray) (out:List ActM) (i:Nat) (p:Int×Int),(mf L out i).1=some p->eqI p.2 0=false
 |[],out,i,p,h=>by cases h
 |w::L,out,i,p,h=>by
  unfold mf at h;cases h1:neI (aG w).2.2 0 with
  |true=>
   rw[h1]at h;obtain rfl:=Option.some.inj h;rw[Jc]at h1;simpa using h1
  |false=>
   rw[h1]at h;cases h2:(aG w).2.1 with
   |false=>rw[h2]at h; exact Jn L _ _ p h
   |true=>
    rw[h2]at h;cases h3:eqI (af out.length) 200 with
    |true=>
     rw[h3]at h;obtain rfl:=Option.some.inj h
     rfl
    |false=>rw[h3]at h; exact Jn L _ _ p h
theorem Tn(s:ByteArray):(nZ s).1=(dK s).2/\ql (dK s).1 (nZ s).2.1 (nZ s).2.2=true:=by
 obtain⟨h1,h2⟩:=Q7 (s.size+1) s [] 0 (iy s) (by omega) (Es s);have hne:=Jn (iy s) [] 0;unfold nZ dK kY jZ;rw[h1,h2];cases gtI (af s.size) 65536 with
 |true=>exact⟨rfl,rfl⟩
 |false=>
  cases hr:(mf (iy s) [] 0).1 with
  |none=>exact⟨rfl,rfl⟩
  |some p=>
   refine⟨rfl,?_⟩;unfold ql;simp only[hne p hr,ig.2 rfl]
   rfl
def abW(HC HH:Int->Int->Bool)(O:Bool->ByteArray->ByteArray->Bool)(BC:List Value->List Blk->Bool)(r:Int):Ct:=
 bH P 64 (TD HC HH) (bH P 66 (mJ O) (bJ P aJ 0 65 (iL BC (.leaf (.int .i64 r,[]))) ctF))
def TP:Res:=some (.int .i64 2,mkSt [])
def orR(c:Bool)(x:Res):Res:=ag c TP x
def hsR(h bad:Bool)(x:Res):Res:=ag (dN h) (ag bad TP x) x
def bqR(k:Int)(x:Res):Res:=ae (dn (.int .i64 k) (.int .i64 k)) x
def ndR(HC:Int->Int->Bool)(k:Int)(x:Res):Res:=ae (HC k 110) (ae (HC k 97) (ae (HC k 116) (ae (HC k 111) (ae (HC k 107) (bqR k (bqR k (bqR k (bqR k (bqR k (bqR k (bqR k (bqR k (bqR k (bqR k x))))))))))))))
def lkR(O:Bool->ByteArray->ByteArray->Bool)(h:Bool)(key:ByteArray):Res:=ag h (ag (O false key ⟨#[]⟩) (some (.int .i64 0,mkSt [])) TP) (some (.int .i64 0,mkSt []))
def loR(BC:List Value->List Blk->Bool)(h:Bool)(v:Value)(r:Int)(x:Res):Res:=ag h (ae (BC [v] []) (ag (neI r 0) TP x)) x
theorem adZ(HC HH:Int->Int->Bool)(O:Bool->ByteArray->ByteArray->Bool)(BC:List Value->List Blk->Bool)(r:Int)(k nd nn t:Int)(key:ByteArray)(n:Nat)(c:List Value):bn P E (abW HC HH O BC r) 50 aJ [] [] 0 35 [.agg ⟨[.int .i64 k, .int .i64 nd, .int .i64 nn, .int .i64 t, .string key,ai 3 n 0 c]⟩] [] =
  orR (ltI k 1) (orR (gtI k 12) (orR (ltI nd 0) (orR (gtI nd 1) (orR (ltI nn 0) (orR (gtI nn 999999999) (orR (ltI t 0) (orR (gtI t 999999999)
   (ndR HC k (hsR (HH k 110) (neI nd 0) (hsR (HH k 97) (neI nn 0) (hsR (HH k 116) (neI t 0) (hsR (HH k 111) (neI (af n) 0) (hsR (HH k 107) (neS key ⟨#[]⟩)
    (loR BC (HH k 111) (ai 3 n 0 c) r (lkR O (HH k 107) key))))))))))))))):=by kernel_rfl
def b2R(b:Bool):Res:=some (.int .i64 (bif b then 0 else 2),mkSt [])
theorem adV(c y:Bool):orR c (b2R y)=b2R (!c&&y):=by cases c<;>cases y<;>rfl
theorem adW(h bad y:Bool):hsR h bad (b2R y)=b2R ((h || !bad)&&y):=by cases h<;>cases bad<;>cases y<;>rfl
theorem Yj{k:Int}(h:kdC k=true)(x:Res):ndR Ae k x=x:=by
 unfold ndR bqR Ae;rw[h];simp only[pU]
 rfl
theorem afb(h:Bool)(key:ByteArray):lkR bQ h key=b2R (!h || bQ false key ⟨#[]⟩):=by
 unfold lkR;cases h with
 |false=>rfl
 |true=>cases bQ false key ⟨#[]⟩<;>rfl
theorem adE{l:List OpM}(h y:Bool):loR (kBk.at l) h (ai 3 l.length 0 (EOp.all l)) (dO l) (b2R y)=b2R ((!h || eqI (dO l) 0)&&y):=by
 unfold loR;cases h with
 |false=>exact ax.trans (by simp)
 |true=>
  refine az.trans ?_;refine bu (k:=kBk) (s:=l) rfl rfl ?_;rw[Jc];cases eqI (dO l) 0 with
  |true=>simp only[Bool.not_true,Bool.true_and,Bool.false_or]; exact ax
  |false=>rfl
def rcT(a:ActM):Bool:=(xe a.kind 110 || !neI a.node 0)&&((xe a.kind 97 || !neI a.n 0)&&((xe a.kind 116 || !neI a.t 0)&&((xe a.kind 111 || !neI (af a.ops.length) 0)&&((xe a.kind 107 || !neS a.key ⟨#[]⟩)&&((!xe a.kind 111 || eqI (dO a.ops) 0)&&(!xe a.kind 107 || bQ false a.key ⟨#[]⟩))))))
def rcB(a:ActM):Bool:=!ltI a.kind 1&&(!gtI a.kind 12&&(!ltI a.node 0&&(!gtI a.node 1&&(!ltI a.n 0&&(!gtI a.n 999999999&&(!ltI a.t 0&&(!gtI a.t 999999999&&rcT a)))))))
theorem acV(a:ActM):bn P E (abW Ae xe bQ (kBk.at a.ops) (dO a.ops)) 50 aJ [] [] 0 35 [g_ a] []=b2R (rcB a):=by
 refine(adZ Ae xe bQ (kBk.at a.ops) (dO a.ops) a.kind a.node a.n a.t a.key a.ops.length (EOp.all a.ops)).trans ?_;have e:∀ x:Res,kdC a.kind=true->ndR Ae a.kind x=x:=fun x h=>Yj h x;unfold rcB;cases h1:ltI a.kind 1 with
 |true=>rfl
 |false=>
  cases h2:gtI a.kind 12 with
  |true=>rfl
  |false=>
   have hk:kdC a.kind=true:=by
    unfold ltI at h1;unfold gtI at h2;have h1:=of_decide_eq_false h1;have h2:=of_decide_eq_false h2;unfold kdC leI;rw[decide_eq_true (show 1<=a.kind by omega),decide_eq_true (show a.kind<=12 by omega)]; rfl
   rw[Yj hk];simp only[afb,adE,adW,adV]
   rfl
theorem R_{a:ActM}:rcB a=true↔Wf a:=by
 have sz:∀ s:ByteArray,(neS s ⟨#[]⟩=false)↔s=⟨#[]⟩:=fun s=>by
  rw[nJ];constructor
  ·intro h;have h:(s.data.toList == [])=true:=by simpa using h
   exact lZ (eq_of_beq h)
  ·rintro rfl; rfl
 have nz:∀ n:Int,(neI n 0=false)↔n=0:=fun n=>by unfold neI; exact bne_eq_false_iff_eq
 have lz:∀ l:List OpM,(af l.length=0)↔l=[]:=fun l=>by
  unfold af;constructor
  ·intro h; exact List.length_eq_zero_iff.1 (by omega)
  ·rintro rfl; rfl
 have b1:∀ x y:Int,ltI x y=false↔¬x<y:=fun x y=>by unfold ltI; exact decide_eq_false_iff_not
 have b2:∀ x y:Int,gtI x y=false↔¬x>y:=fun x y=>by unfold gtI; exact decide_eq_false_iff_not
 obtain⟨k,nd,n,t,key,ops⟩:=a;unfold rcB rcT;simp only[Bool.and_eq_true,Bool.not_eq_true',Bool.or_eq_true,sz,nz,lz,b1,b2];constructor
 ·rintro ⟨k1,k2,d1,d2,n1,n2,t1,t2,h1,h2,h3,h4,h5,h6,h7⟩;obtain⟨j,hj,rfl⟩:∃ j:Nat,j<12/\k=((j+1:Nat):Int):=⟨k.toNat-1,by omega,by omega⟩
  have nof:∀ {b:Bool} {p:Prop},b=false->(b=true\/p)->p:=fun e h=>by
   rcases h with h | h
   ·rw[e]at h; cases h
   ·exact h
  have yes:∀ {b:Bool} {p:Prop},b=true->(b=false\/p)->p:=fun e h=>by
   rcases h with h | h
   ·rw[e]at h; cases h
   ·exact h
  match j,hj with
  |0,_=>
   obtain rfl:=nof rfl h2;obtain rfl:=nof rfl h3;obtain rfl:=nof rfl h5;exact Wf.com (by omega) (by omega) (yes rfl h6)
  |1,_=>
   obtain rfl:=nof rfl h2;obtain rfl:=nof rfl h3;obtain rfl:=nof rfl h4;exact Wf.read (by omega) (by omega) (yes rfl h7)
  |2,_=>
   obtain rfl:=nof rfl h2;obtain rfl:=nof rfl h3;obtain rfl:=nof rfl h4;obtain rfl:=nof rfl h5;exact Wf.tick (by omega) (by omega)
  |3,_=>
   obtain rfl:=nof rfl h2;obtain rfl:=nof rfl h3;obtain rfl:=nof rfl h4;obtain rfl:=nof rfl h5;exact Wf.promote (by omega) (by omega)
  |4,_=>
   obtain rfl:=nof rfl h2;obtain rfl:=nof rfl h3;obtain rfl:=nof rfl h4;obtain rfl:=nof rfl h5;exact Wf.flush (by omega) (by omega)
  |5,_=>
   obtain rfl:=nof rfl h1;obtain rfl:=nof rfl h3;obtain rfl:=nof rfl h4;obtain rfl:=nof rfl h5;exact Wf.deliver (by omega) (by omega)
  |6,_=>
   obtain rfl:=nof rfl h1;obtain rfl:=nof rfl h3;obtain rfl:=nof rfl h4;obtain rfl:=nof rfl h5;exact Wf.twice (by omega) (by omega)
  |7,_=>
   obtain rfl:=nof rfl h1;obtain rfl:=nof rfl h3;obtain rfl:=nof rfl h4;obtain rfl:=nof rfl h5;exact Wf.drop (by omega) (by omega)
  |8,_=>
   obtain rfl:=nof rfl h3;obtain rfl:=nof rfl h4;obtain rfl:=nof rfl h5;exact Wf.fuse (by omega) (by omega) (by omega) (by omega)
  |9,_=>
   obtain rfl:=nof rfl h2;obtain rfl:=nof rfl h3;obtain rfl:=nof rfl h4;obtain rfl:=nof rfl h5;exact Wf.pull (by omega) (by omega)
  |10,_=>
   obtain rfl:=nof rfl h4;obtain rfl:=nof rfl h5;exact Wf.start (by omega) (by omega) (by omega) (by omega) (by omega) (by omega)
  |11,_=>
   obtain rfl:=nof rfl h1;obtain rfl:=nof rfl h2;obtain rfl:=nof rfl h3;obtain rfl:=nof rfl h4;obtain rfl:=nof rfl h5;exact Wf.round
 ·intro h;cases h with
  |com h1 h2 h3=>exact⟨by omega,by omega,by omega,by omega,by omega,by omega,by omega,by omega,Or.inl rfl,Or.inr rfl,Or.inr rfl,Or.inl rfl,Or.inr rfl,Or.inr h3,Or.inl rfl⟩
  |read h1 h2 h3=>exact⟨by omega,by omega,by omega,by omega,by omega,by omega,by omega,by omega,Or.inl rfl,Or.inr rfl,Or.inr rfl,Or.inr rfl,Or.inl rfl,Or.inl rfl,Or.inr h3⟩
  |tick h1 h2=>exact⟨by omega,by omega,by omega,by omega,by omega,by omega,by omega,by omega,Or.inl rfl,Or.inr rfl,Or.inr rfl,Or.inr rfl,Or.inr rfl,Or.inl rfl,Or.inl rfl⟩
  |promote h1 h2=>exact⟨by omega,by omega,by omega,by omega,by omega,by omega,by omega,by omega,Or.inl rfl,Or.inr rfl,Or.inr rfl,Or.inr rfl,Or.inr rfl,Or.inl rfl,Or.inl rfl⟩
  |flush h1 h2=>exact⟨by omega,by omega,by omega,by omega,by omega,by omega,by omega,by omega,Or.inl rfl,Or.inr rfl,Or.inr rfl,Or.inr rfl,Or.inr rfl,Or.inl rfl,Or.inl rfl⟩
  |deliver h1 h2=>exact⟨by omega,by omega,by omega,by omega,by omega,by omega,by omega,by omega,Or.inr rfl,Or.inl rfl,Or.inr rfl,Or.inr rfl,Or.inr rfl,Or.inl rfl,Or.inl rfl⟩
  |twice h1 h2=>exact⟨by omega,by omega,by omega,by omega,by omega,by omega,by omega,by omega,Or.inr rfl,Or.inl rfl,Or.inr rfl,Or.inr rfl,Or.inr rfl,Or.inl rfl,Or.inl rfl⟩
  |drop h1 h2=>exact⟨by omega,by omega,by omega,by omega,by omega,by omega,by omega,by omega,Or.inr rfl,Or.inl rfl,Or.inr rfl,Or.inr rfl,Or.inr rfl,Or.inl rfl,Or.inl rfl⟩
  |fuse h1 h2 h3 h4=>exact⟨by omega,by omega,by omega,by omega,by omega,by omega,by omega,by omega,Or.inl rfl,Or.inl rfl,Or.inr rfl,Or.inr rfl,Or.inr rfl,Or.inl rfl,Or.inl rfl⟩
  |pull h1 h2=>exact⟨by omega,by omega,by omega,by omega,by omega,by omega,by omega,by omega,Or.inl rfl,Or.inr rfl,Or.inr rfl,Or.inr rfl,Or.inr rfl,Or.inl rfl,Or.inl rfl⟩
  |start h1 h2 h3 h4 h5 h6=>exact⟨by omega,by omega,by omega,by omega,by omega,by omega,by omega,by omega,Or.inl rfl,Or.inl rfl,Or.inl rfl,Or.inr rfl,Or.inr rfl,Or.inl rfl,Or.inl rfl⟩
  |round=>exact⟨by omega,by omega,by omega,by omega,by omega,by omega,by omega,by omega,Or.inr rfl,Or.inr rfl,Or.inr rfl,Or.inr rfl,Or.inr rfl,Or.inl rfl,Or.inl rfl⟩
theorem KA(a:ActM):dQ a=bif rcB a then 0 else 2:=by
 cases hb:rcB a with
 |true=>exact uH.2 (R_.1 hb)
 |false=>
  have hn:¬dQ a=0:=fun h=>by rw[R_.2 (uH.1 h)]at hb; cases hb
  unfold dQ at hn ⊢;split
  ·rename_i h1 h2 h3;rw[h1,h2,h3]at hn;exact absurd rfl hn
  ·rfl
theorem TR{a:ActM}(h:a.ops.length<4194304):CRX P 0 35 [g_ a] [] (.int .i64 (dQ a)) []:=by
 rw[KA];exact CRX.of (aF _) au (aU (aU (aO aW (eF kBk WY (s:=a.ops) h)) wo) afv) (acV a)
def Dq:HeadX:=⟨0,44,[0,2,3,4,5],[.val, .val, .val, .val, .val],[],aJ⟩
def Bq:Code:=(bK P 14 0).getD .skip
theorem Vt:bK P 14 0=some Bq:=by kernel_rfl
theorem OJ:Occ P 14 (.block 0 (.loop Bq)):=dA Vt
def ae7(CC:List Value->List Blk->Bool)(r:Int):Ct:=bJ P aJ 0 35 (iL CC (.leaf (.int .i64 r,[]))) ctF
theorem abN(CC:List Value->List Blk->Bool)(r:Int)(n b:Nat)(c:List Value)(i:Int):aQ P E (ae7 CC r) 50 14 Bq Dq [ai 6 n b c, .string ⟨#[]⟩, .int .i64 0, .int .i64 0, .int .i64 i] [] =
 (ag (ltI i (af n))
 (ae (Bool.and (Nat.beq 6 6) (inI i n))
 (ae (Bool.and (Nat.ble (Nat.add (atN i 6) 6) c.length) (jP [.int .i64,.int .i64,.int .i64,.int .i64,.string,.slice 3] c (atN i 6)))
 (ae (CC [.agg ⟨[.int .i64 (asI (ah c (atN i 6))),.int .i64 (asI (ah c (Nat.add (atN i 6) 1))),.int .i64 (asI (ah c (Nat.add (Nat.add (atN i 6) 1) 1))),.int .i64 (asI (ah c (Nat.add (Nat.add (Nat.add (atN i 6) 1) 1) 1))),.string (asS (ah c (Nat.add (Nat.add (Nat.add (Nat.add (atN i 6) 1) 1) 1) 1))),.iface 18446744073709551619 (.agg ⟨(.slice none (zN (ah c (Nat.add (Nat.add (Nat.add (Nat.add (Nat.add (atN i 6) 1) 1) 1) 1) 1))) (zB (ah c (Nat.add (Nat.add (Nat.add (Nat.add (Nat.add (atN i 6) 1) 1) 1) 1) 1))))::(zC (ah c (Nat.add (Nat.add (Nat.add (Nat.add (Nat.add (atN i 6) 1) 1) 1) 1) 1)))⟩)]⟩] [])
 (ag (neI r 0)
 (some ((.tuple ⟨[.int .i64 (-1),.iface 18446744073709551622 (.agg ⟨(.slice none n b)::c⟩),.string ⟨#[]⟩,.int .i64 i,.int .i64 2,.int .i64 i]⟩),(mkSt [])))
 (some ((.tuple ⟨[.int .i64 0,.iface 18446744073709551622 (.agg ⟨(.slice none n b)::c⟩),.string ⟨#[]⟩,.int .i64 0,.int .i64 0,.int .i64 (aB .i64 i 1)]⟩),(mkSt [])))))))
 (some ((.tuple ⟨[.int .i64 1,.iface 18446744073709551622 (.agg ⟨(.slice none n b)::c⟩),.string ⟨#[]⟩,.int .i64 0,.int .i64 0,.int .i64 i]⟩),(mkSt [])))):=by kernel_rfl
def Du:HeadX:=⟨0,44,[0,6,7],[.val, .val, .val],[],aJ⟩
def Bu:Code:=(bK P 14 2).getD .skip
theorem Ls:bK P 14 2=some Bu:=by kernel_rfl
theorem XX:Occ P 14 (.block 2 (.loop Bu)):=dA Ls
def ad3(TC:List Value->List Blk->Bool)(t:ByteArray):Ct:=bJ P aJ 0 36 (iL TC (.leaf (.string t,[]))) ctF
theorem abM(TC:List Value->List Blk->Bool)(t:ByteArray)(n b:Nat)(c:List Value)(s:ByteArray)(i:Int):aQ P E (ad3 TC t) 50 14 Bu Du [ai 6 n b c, .string s, .int .i64 i] [] =
 (ag (ltI i (af n))
 (ae (Bool.and (Nat.beq 6 6) (inI i n))
 (ae (Bool.and (Nat.ble (Nat.add (atN i 6) 6) c.length) (jP [.int .i64,.int .i64,.int .i64,.int .i64,.string,.slice 3] c (atN i 6)))
 (ae (TC [.agg ⟨[.int .i64 (asI (ah c (atN i 6))),.int .i64 (asI (ah c (Nat.add (atN i 6) 1))),.int .i64 (asI (ah c (Nat.add (Nat.add (atN i 6) 1) 1))),.int .i64 (asI (ah c (Nat.add (Nat.add (Nat.add (atN i 6) 1) 1) 1))),.string (asS (ah c (Nat.add (Nat.add (Nat.add (Nat.add (atN i 6) 1) 1) 1) 1))),.iface 18446744073709551619 (.agg ⟨(.slice none (zN (ah c (Nat.add (Nat.add (Nat.add (Nat.add (Nat.add (atN i 6) 1) 1) 1) 1) 1))) (zB (ah c (Nat.add (Nat.add (Nat.add (Nat.add (Nat.add (atN i 6) 1) 1) 1) 1) 1))))::(zC (ah c (Nat.add (Nat.add (Nat.add (Nat.add (Nat.add (atN i 6) 1) 1) 1) 1) 1)))⟩)]⟩] [])
 (ae (bI s t)
 (ae (bI (aj s t) ⟨#[10]⟩)
 (some ((.tuple ⟨[.int .i64 0,.iface 18446744073709551622 (.agg ⟨(.slice none n b)::c⟩),.string (aj (aj s t) ⟨#[10]⟩),.int .i64 (aB .i64 i 1)]⟩),(mkSt []))))))))
 (some ((.tuple ⟨[.int .i64 3,.iface 18446744073709551622 (.agg ⟨(.slice none n b)::c⟩),.string s,.int .i64 i]⟩),(mkSt [])))):=by kernel_rfl
def ab2(QC UC:List Value->List Blk->Bool)(ok:Bool)(n:Nat)(c:List Value)(i:Int)(s:ByteArray):Ct:=
 dR P 14 0 Dq (iD QC (.ite ok (.leaf (.normal,[ai 6 n 0 c, .string ⟨#[]⟩, .int .i64 0, .int .i64 0, .int .i64 (af n)],[])) (.leaf (.ret,[ai 6 n 0 c, .string ⟨#[]⟩, .int .i64 i, .int .i64 2, .int .i64 i],[]))))
  (dR P 14 2 Du (iD UC (.leaf (.normal,[ai 6 n 0 c, .string s, .int .i64 (af n)],[]))) ctF)
theorem aeZ(QC UC:List Value->List Blk->Bool)(ok:Bool)(n:Nat)(c:List Value)(i:Int)(s:ByteArray):bn P E (ab2 QC UC ok n c i s) 50 aJ [] [] 0 14 [ai 6 n 0 c] [] =
 (ag (gtI (af n) 200)
 (some ((.tuple ⟨[.string ⟨#[]⟩,.int .i64 (-1),.int .i64 3]⟩),(mkSt [])))
 (ae (QC [.iface 18446744073709551622 (.agg ⟨(.slice none n 0)::c⟩),.string ⟨#[]⟩,.int .i64 0,.int .i64 0,.int .i64 0] [])
 (ag ok
 (ae (UC [.iface 18446744073709551622 (.agg ⟨(.slice none n 0)::c⟩),.string ⟨#[]⟩,.int .i64 0] [])
 (ag (gtI (af s.size) 65536)
 (some ((.tuple ⟨[.string ⟨#[]⟩,.int .i64 (-1),.int .i64 3]⟩),(mkSt [])))
 (some ((.tuple ⟨[.string s,.int .i64 0,.int .i64 0]⟩),(mkSt [])))))
 (some ((.tuple ⟨[.string ⟨#[]⟩,.int .i64 i,.int .i64 2]⟩),(mkSt [])))))):=by kernel_rfl
def kRk:Con ActM:={ kCk with ok:=fun a=>a.ops.length<4194304 }
theorem afm:CallOkX P 0 35 (jS kRk.C kRk.D fun a=> .leaf (.int .i64 (dQ a),[])):=f_ kRk fun a ho v bs' hev=>by
 simp only[DT.eval,Option.some.injEq,Prod.mk.injEq]at hev;obtain⟨rfl,rfl⟩:=hev;exact TR ho
def rqV(l:List ActM)(at' f i:Int):List Value:=[fzActs l, .string ⟨#[]⟩, .int .i64 at', .int .i64 f, .int .i64 i]
def ctQ(a:ActM):Ct:=ae7 (kRk.at a) (dQ a)
theorem YA{a:ActM}(h:kRk.ok a):CtOk P (ctQ a):=aO aW (eF kRk afm (s:=a) h)
theorem ZN{l:List ActM}{i:Nat}(hi:i<l.length)(hl:l.length<4194304):aQ P E (ctQ l[i]) 50 14 Bq Dq (rqV l 0 0 i) []=match neI (dQ l[i]) 0 with
  |false=>some (.tuple ⟨exV .normal::rqV l 0 0 ((i+1:Nat):Int)⟩,mkSt [])
  |true=>some (.tuple ⟨exV .ret::rqV l i 2 i⟩,mkSt []):=by
 unfold rqV ctQ;have q:=abN (kRk.at l[i]) (dQ l[i]) l.length 0 (aH.all l) i;refine Eq.trans ?_ (q.trans ?_)
 ·rfl
 clear q;have n6:(aH.all l).length=Nat.mul l.length 6:=aH.all_length l;have g1:ltI (i:Int) (af l.length)=true:=by unfold ltI af; exact decide_eq_true (by omega)
 have g2:inI (i:Int) l.length=true:=by unfold inI; exact decide_eq_true (by omega)
 have g3:Nat.ble (Nat.add (atN (i:Int) 6) 6) (Nat.mul l.length 6)=true:=Nat.ble_eq_true_of_le (by
  show(i:Int).toNat*6+6<=l.length*6;have:(i:Int).toNat=i:=by omega
  omega)
 have g4:=sO hi;have a1:aB .i64 (i:Int) 1=((i+1:Nat):Int):=by unfold aB; rw[wrap64 (by omega) (by omega)]; omega
 have aI:∀ k n,asI (.int k n)=n:=fun _ _=>rfl;have aS:∀ b,asS (.string b)=b:=fun _=>rfl;have b6:Nat.beq 6 6=true:=rfl;have zn:zN (aK l[i].ops)=l[i].ops.length:=yN;have zb:zB (aK l[i].ops)=0:=CJ;have zc:zC (aK l[i].ops)=EOp.all l[i].ops:=Dh;simp only[n6,g1,g2,g3,g4,AY hi,Aj hi,Bv hi,BR hi,Ak hi,zh hi,aI,aS,zn,zb,zc,a1,b6,Bool.and_self,az,aA,xX,fzA];refine bu (k:=kRk) (s:=l[i]) rfl rfl ?_;cases neI (dQ l[i]) 0<;>rfl
theorem aew{l:List ActM}:aQ P E (ctQ cZ) 50 14 Bq Dq (rqV l 0 0 l.length) []=some (.tuple ⟨exV (.exit 0)::rqV l 0 0 l.length⟩,mkSt []):=by
 unfold rqV ctQ;have q:=abN (kRk.at cZ) (dQ cZ) l.length 0 (aH.all l) (l.length:Int);refine Eq.trans ?_ (q.trans ?_)
 ·rfl
 clear q;have g1:ltI (l.length:Int) (af l.length)=false:=by unfold ltI af; exact decide_eq_false (by omega)
 rw[g1];refine Eq.trans ax ?_;rw[fzA]; rfl
theorem RQ(l:List ActM)(hl:l.length<4194304)(ha:∀ a∈l,a.ops.length<4194304):∀ (k i:Nat),i+k=l.length->
  LRX P 14 0 Bq Dq.head (rqV l 0 0 i) [] (match cO i (l.drop i)with | none=> .normal | some _=> .ret) (match cO i (l.drop i)with | none=>rqV l 0 0 l.length | some x=>rqV l x.1 2 x.1) []
 |0,i,h=>by
  obtain rfl:i=l.length:=by omega
  rw[List.drop_length];exact LRX.stop (n:=50) (aF (ctQ cZ)) au (YA (show(0:Nat)<_ by decide)) OJ (e:= .exit 0) aew (by intro h; cases h)
 |k+1,i,h=>by
  have hi:i<l.length:=by omega
  have q:=ZN hi hl;have hk:=YA (ha l[i] (List.getElem_mem hi));rw[List.drop_eq_getElem_cons hi];simp only[cO];cases ho:neI (dQ l[i]) 0 with
  |false=>
   rw[ho]at q;exact LRX.again (n:=50) (aF (ctQ l[i])) au hk OJ q (RQ l hl ha k (i+1) (by omega))
  |true=>
   rw[ho]at q;exact LRX.stop (n:=50) (aF (ctQ l[i])) au hk OJ (e:= .ret) q (by intro h; cases h)
def kRq:Con (List ActM) where
 enc l:=(rqV l 0 0 0,[])
 ok l:=l.length<4194304/\∀ a∈l,a.ops.length<4194304
 inj a b h:=by
  unfold rqV at h;simp only[Prod.mk.injEq,List.cons.injEq,true_and,and_true]at h;exact lH h
 dflt:=[]
def Iy(l:List ActM):Int:=((cO 0 l).getD (0,0)).1
def abS(l:List ActM):DT (Ex×List Value×List Blk):= .ite (cO 0 l).isNone (.leaf (.normal,rqV l 0 0 (af l.length),[])) (.leaf (.ret,rqV l (Iy l) 2 (Iy l),[]))
theorem Yb:LoopOkX P 14 0 Bq Dq.head (kP kRq.C kRq.D abS):=
 fQ kRq (bz Vt) fun l ho e vs' bs' hev=>by
  have q:=RQ l ho.1 ho.2 l.length 0 (by omega);rw[List.drop_zero]at q;unfold abS Iy at hev;cases hb:cO 0 l with
  |none=>
   rw[hb]at hev q;simp only[hb,Option.isNone_none,DT.eval,Option.some.injEq,Prod.mk.injEq]at hev;obtain⟨rfl,rfl,rfl⟩:=hev;exact q
  |some j=>
   rw[hb]at hev q;simp only[hb,Option.isNone_some,Option.getD_some,DT.eval,Option.some.injEq,Prod.mk.injEq]at hev;obtain⟨rfl,rfl,rfl⟩:=hev;exact q
def Bj:Con ActM:={ kCk with ok:=fun a=>Wf a }
theorem aei:CallOkX P 0 36 (jS Bj.C Bj.D fun a=> .leaf (.string (aN a),[])):=f_ Bj fun a ho v bs' hev=>by
 simp only[DT.eval,Option.some.injEq,Prod.mk.injEq]at hev;obtain⟨rfl,rfl⟩:=hev;exact VV ho
def ruV(l:List ActM)(s:ByteArray)(i:Int):List Value:=[fzActs l, .string s, .int .i64 i]
def ctU(a:ActM):Ct:=ad3 (Bj.at a) (aN a)
theorem VO{a:ActM}(h:Wf a):CtOk P (ctU a):=aO aW (eF Bj aei (s:=a) h)
theorem aa2(t:List UInt8)(a:ActM):aj (aj (mkT t) (aN a)) ⟨#[10]⟩=mkT (t++kU a):=lZ (by
 rw[jf,jf];show(t++(aN a).data.toList)++[10]=t++kU a;unfold kU;rw[List.append_assoc])
theorem Wf.small{a:ActM}(h:Wf a):(aN a).size<=2000:=xw h.txOk2 (NM (zu (by rw[uH.2 h]; rfl)))
theorem Zy{l:List ActM}{i:Nat}{t:List UInt8}(hi:i<l.length)(hl:l.length<4194304)(hw:Wf l[i])(ht:t.length<=1000000):aQ P E (ctU l[i]) 50 14 Bu Du (ruV l (mkT t) i) []=some (.tuple ⟨exV .normal::ruV l (mkT (t++kU l[i])) ((i+1:Nat):Int)⟩,mkSt []):=by
 unfold ruV ctU;have q:=abM (Bj.at l[i]) (aN l[i]) l.length 0 (aH.all l) (mkT t) i;refine Eq.trans ?_ (q.trans ?_)
 ·rfl
 clear q;have n6:(aH.all l).length=Nat.mul l.length 6:=aH.all_length l;have g1:ltI (i:Int) (af l.length)=true:=by unfold ltI af; exact decide_eq_true (by omega)
 have g2:inI (i:Int) l.length=true:=by unfold inI; exact decide_eq_true (by omega)
 have g3:Nat.ble (Nat.add (atN (i:Int) 6) 6) (Nat.mul l.length 6)=true:=Nat.ble_eq_true_of_le (by
  show(i:Int).toNat*6+6<=l.length*6;have:(i:Int).toNat=i:=by omega
  omega)
 have g4:=sO hi;have a1:aB .i64 (i:Int) 1=((i+1:Nat):Int):=by unfold aB; rw[wrap64 (by omega) (by omega)]; omega
 have aI:∀ k n,asI (.int k n)=n:=fun _ _=>rfl;have aS:∀ b,asS (.string b)=b:=fun _=>rfl;have b6:Nat.beq 6 6=true:=rfl;have zn:zN (aK l[i].ops)=l[i].ops.length:=yN;have zb:zB (aK l[i].ops)=0:=CJ;have zc:zC (aK l[i].ops)=EOp.all l[i].ops:=Dh;have hz:=hw.small;have f1:bI (mkT t) (aN l[i])=true:=bM (by rw[Nat.add_eq,Oi]; omega);have f2:bI (aj (mkT t) (aN l[i])) ⟨#[10]⟩=true:=bM (by rw[Nat.add_eq,a_,Oi]; show _+1<=_; omega);simp only[n6,g1,g2,g3,g4,AY hi,Aj hi,Bv hi,BR hi,Ak hi,zh hi,aI,aS,zn,zb,zc,a1,b6,f1,f2,aa2,Bool.and_self,az,aA,xX,fzA];exact bu (k:=Bj) (s:=l[i]) rfl rfl rfl
def Ug:ActM:=⟨12,0,0,0,⟨#[]⟩,[]⟩
theorem aeo{l:List ActM}{s:ByteArray}:aQ P E (ctU Ug) 50 14 Bu Du (ruV l s l.length) []=some (.tuple ⟨exV (.exit 2)::ruV l s l.length⟩,mkSt []):=by
 unfold ruV ctU;have q:=abM (Bj.at Ug) (aN Ug) l.length 0 (aH.all l) s (l.length:Int);refine Eq.trans ?_ (q.trans ?_)
 ·rfl
 clear q;have g1:ltI (l.length:Int) (af l.length)=false:=by unfold ltI af; exact decide_eq_false (by omega)
 rw[g1];refine Eq.trans ax ?_;rw[fzA]; rfl
theorem QT(l:List ActM)(hl:l.length<=200)(ha:∀ a∈l,Wf a):∀ (k i:Nat) (t:List UInt8),i+k=l.length->t.length<=2001*i->
  LRX P 14 2 Bu Du.head (ruV l (mkT t) i) [] .normal (ruV l (mkT (t++dZ (l.drop i))) l.length) []
 |0,i,t,h,ht=>by
  obtain rfl:i=l.length:=by omega
  rw[List.drop_length];show LRX _ _ _ _ _ _ _ _ (ruV l (mkT (t++[])) _) _;rw[List.append_nil];exact LRX.stop (n:=50) (aF (ctU Ug)) au (VO Wf.round) XX (e:= .exit 2) aeo (by intro h; cases h)
 |k+1,i,t,h,ht=>by
  have hi:i<l.length:=by omega
  have hw:=ha l[i] (List.getElem_mem hi);have q:=Zy (t:=t) hi (by omega) hw (by omega);have hz:=hw.small;rw[List.drop_eq_getElem_cons hi];simp only[dZ];rw[<-List.append_assoc];exact LRX.again (n:=50) (aF (ctU l[i])) au (VO hw) XX q (QT l hl ha k (i+1) _ (by omega) (by rw[List.length_append,uf]; omega))
def kRu:Con (List ActM) where
 enc l:=(ruV l (mkT []) 0,[])
 ok l:=l.length<=200/\∀ a∈l,Wf a
 inj a b h:=by
  unfold ruV at h;simp only[Prod.mk.injEq,List.cons.injEq,true_and,and_true]at h;exact lH h
 dflt:=[]
def abZ(l:List ActM):DT (Ex×List Value×List Blk):= .leaf (.normal,ruV l (mkT (dZ l)) (af l.length),[])
theorem X0:LoopOkX P 14 2 Bu Du.head (kP kRu.C kRu.D abZ):=
 fQ kRu (bz Ls) fun l ho e vs' bs' hev=>by
  have q:=QT l ho.1 ho.2 l.length 0 [] (by omega) (by simp);rw[List.drop_zero]at q;unfold abZ at hev;simp only[DT.eval,Option.some.injEq,Prod.mk.injEq]at hev;obtain⟨rfl,rfl,rfl⟩:=hev;exact q
theorem uX:∀ (l:List ActM) (i:Nat) (x:Nat×Int),cO i l=some x->x.2=2
 |[],i,x,h=>by cases h
 |a::l,i,x,h=>by
  simp only[cO]at h;cases hb:neI (dQ a) 0 with
  |false=>rw[hb]at h; exact uX l (i+1) x h
  |true=>
   rw[hb]at h;obtain rfl:=Option.some.inj h;show dQ a=2;rw[KA]at hb ⊢;cases hr:rcB a with
   |false=>rfl
   |true=>rw[hr]at hb; cases hb
def aad(l:List ActM)(QC UC:List Value->List Blk->Bool):Ct:=ab2 QC UC (cO 0 l).isNone l.length (aH.all l) (Iy l) (mkT (dZ l))
def xx(l:List ActM):ByteArray×Int×Int:=((dL l).1,((dL l).2.getD (0,0)).1,((dL l).2.getD (0,0)).2)
theorem UD{l:List ActM}(h:200<l.length\/∀ a∈l,a.ops.length<4194304):CRX P 0 14 [fzActs l] [] (.tuple ⟨[.string (xx l).1, .int .i64 (xx l).2.1, .int .i64 (xx l).2.2]⟩) []:=by
 have q:=fun QC UC=>aeZ QC UC (cO 0 l).isNone l.length (aH.all l) (Iy l) (mkT (dZ l));unfold xx dL;by_cases hb:200<l.length
 ·have g1:gtI (af l.length) 200=true:=by unfold gtI af; exact decide_eq_true (by omega)
  refine CRX.of (aF (aad l (fun _ _=>false) (fun _ _=>false))) au (bf (bf aW (lD (bz Ls))) (lD (bz Vt))) (n:=50) (pol:=aJ) (fl:=[]) (ts:=[]) (Eq.trans ?_ ((q (fun _ _=>false) (fun _ _=>false)).trans ?_))
  ·rfl
  rw[g1];exact az
 ·have h:=h.resolve_left hb;have g1:gtI (af l.length) 200=false:=by unfold gtI af; exact decide_eq_false (by omega)
  have qOk:=gU kRq Yb (s:=l) ⟨by omega,h⟩;rw[g1];cases hf:cO 0 l with
  |none=>
   have hw:=(Az l 0).1 hf;have uOk:=gU kRu X0 (s:=l) ⟨by omega,hw⟩;refine CRX.of (aF (aad l (kRq.at l) (kRu.at l))) au (bf (bf aW uOk) qOk) (n:=50) (pol:=aJ) (fl:=[]) (ts:=[]) (Eq.trans ?_ ((q (kRq.at l) (kRu.at l)).trans ?_))
   ·rfl
   rw[g1,hf];refine Eq.trans ax ?_;refine bu (k:=kRq) (s:=l) (by show rqV _ _ _ _=_; unfold rqV; rw[<-fzA l]; try rfl) rfl ?_;refine Eq.trans az ?_;refine bu (k:=kRu) (s:=l) (by show ruV _ _ _=_; unfold ruV; rw[<-fzA l]; try rfl) rfl ?_;show ag (gtI (af (dZ l).length) 65536) _ _=_;cases gtI (af (dZ l).length) 65536<;>rfl
  |some x=>
   have hx:=uX l 0 x hf;refine CRX.of (aF (aad l (kRq.at l) (fun _ _=>false))) au (bf (bf aW (lD (bz Ls))) qOk) (n:=50) (pol:=aJ) (fl:=[]) (ts:=[]) (Eq.trans ?_ ((q (kRq.at l) (fun _ _=>false)).trans ?_))
   ·rfl
   rw[g1,hf];refine Eq.trans ax ?_;refine bu (k:=kRq) (s:=l) (by show rqV _ _ _ _=_; unfold rqV; rw[<-fzA l]; try rfl) rfl ?_;refine Eq.trans ax ?_;unfold Iy;rw[hf];show some (Value.tuple ⟨[.string ⟨#[]⟩, .int .i64 x.1, .int .i64 2]⟩,mkSt [])=_;rw[<-hx]; rfl
theorem af8:aG ⟨#[99,111,109,109,105,116,32,48,32,112,117,116,32,97,32,49,32,100,101,108,32,98]⟩=(⟨1,0,0,0,⟨#[]⟩,[⟨true,⟨#[97]⟩,⟨#[49]⟩⟩,⟨false,⟨#[98]⟩,⟨#[]⟩⟩]⟩,true,0):=by kernel_rfl
def xM:List (ByteArray×Value)->ByteArray->Option Value
 |[],_=>none
 |p::l,s=>match eqS p.1 s with
  |true=>some p.2
  |false=>xM l s
def Le(T:List (ByteArray×Value)):iG:=fun args bs=>match args,bs with
 |[.string s],[]=>(xM T s).map fun v=> .leaf (v,[])
 |_,_=>none
theorem JD:∀ {T:List (ByteArray×Value)} {s:ByteArray} {v:Value},xM T s=some v->(s,v)∈T
 |[],_,_,h=>by cases h
 |p::l,s,v,h=>by
  simp only[xM]at h;cases hq:eqS p.1 s with
  |true=>
   rw[hq]at h;obtain rfl:=Option.some.inj h;have:p.1=s:=by rw[p_]at hq; exact ByteArray.ext (Array.toList_inj.1 (eq_of_beq hq))
   rw[<-this];exact List.mem_cons_self ..
  |false=>
   rw[hq]at h;exact List.mem_cons_of_mem _ (JD h)
theorem aeF{g:FuncId}{T:List (ByteArray×Value)}(h:∀ p∈T,CRX P 0 g [.string p.1] [] p.2 []):CallOkX P 0 g (Le T):=⟨fun args bs t hR v bs' hev=>by
 unfold Le at hR;split at hR
 ·rename_i s;cases hl:xM T s with
  |none=>rw[hl]at hR; cases hR
  |some v0=>
   rw[hl]at hR;obtain rfl:=Option.some.inj hR;simp only[DT.eval,Option.some.injEq,Prod.mk.injEq]at hev;obtain⟨rfl,rfl⟩:=hev;exact h _ (JD hl)
 ·cases hR⟩
def agx(C:ByteArray->Int->Bool)(F:ByteArray->Int->ByteArray):fG
 |[.string s, .int .i64 n]=>some (.ite (C s n) (.leaf (.string (F s n),[])) .fail)
 |_=>none
def Dk(C O:ByteArray->Bool)(Nf:ByteArray->Nat)(Cf:ByteArray->List Value)(I Ef:ByteArray->Int):iG:=fun args bs=>match args,bs with
 |[.string s],[]=>some (.ite (C s) (.ite (O s) (.leaf (.tuple ⟨[ai 6 (Nf s) 0 (Cf s), .nilIface]⟩,[])) (.leaf (.tuple ⟨[ai 6 (Nf s) 0 (Cf s),gX (I s) (Ef s)]⟩,[]))) .fail)
 |_,_=>none
def UT(W0:Int->Int->Bool)(W:Int->Int->Int->Int->Bool):iG:=fun args bs=>match args,bs with
 |[.nilIface, .int .i64 l, .int .i64 f],[]=>some (.leaf (.bool (W0 l f),[]))
 |[.iface a (.iface b (.agg ⟨[.slice none 0 0, .int .i64 i, .int .i64 e]⟩)), .int .i64 l, .int .i64 f],[]=>match Nat.beq a 75,Nat.beq b 18446744073709551616 with
  |true,true=>some (.leaf (.bool (W i e l f),[]))
  |_,_=>none
 |_,_=>none
end Go.VS.Tryz
end

noncomputable section
namespace Go.VS.Tryz
open Go.VS Go.RowKit
set_option maxRecDepth 1000000
def Sv(s:ByteArray):Bool:=Nat.ble s.size 4194302
def um(s:ByteArray):Bool:=(dK s).1.isNone
def ut(s:ByteArray):Nat:=(dK s).2.length
def pW(s:ByteArray):List Value:=aH.all (dK s).2
def sG(s:ByteArray):Int:=((dK s).1.getD (0,0)).1
def sQ(s:ByteArray):Int:=((dK s).1.getD (0,0)).2
theorem afk:CallOkX P 0 9 (Dk Sv um ut pW sG sQ):=⟨fun args bs t hR v bs' hev=>by
 unfold Dk at hR;split at hR
 ·rename_i s;obtain rfl:=Option.some.inj hR;cases hc:Sv s with
  |false=>rw[hc]at hev; cases hev
  |true=>
   rw[hc]at hev;have hs:s.size<=4194302:=Nat.le_of_ble_eq_true hc;have q:CRX P 0 9 [.string s] [] (.tuple ⟨[fzActs (dK s).2,paE (dK s).1]⟩) []:=CRX.of (aF (aag s)) au (aO (bf aW (gU A_ KI (s:=s) hs)) uj) (J6 s);unfold um ut pW sG sQ at hev;cases hp:(dK s).1 with
   |none=>
    rw[hp]at hev q;simp only[Option.isNone_none,DT.eval,Option.some.injEq,Prod.mk.injEq]at hev;obtain⟨rfl,rfl⟩:=hev;exact q
   |some p=>
    rw[hp]at hev q;simp only[Option.isNone_some,Option.getD_some,DT.eval,Option.some.injEq,Prod.mk.injEq]at hev;obtain⟨rfl,rfl⟩:=hev;exact q
 ·cases hR⟩
def yZ(l f:Int):Bool:=ql none l f
def wrV(i e l f:Int):Bool:=ql (some (i,e)) l f
theorem Ko(o:Option (Int×Int))(l f:Int):CRX P 0 12 [paE o, .int .i64 l, .int .i64 f] [] (.bool (ql o l f)) []:=by
 rcases o with _ | ⟨i,e⟩
 ·refine CRX.of (aF ctF) au aW ((UA l f).trans ?_);show _=some (Value.bool (eqI f 0),mkSt []);cases eqI f 0<;>rfl
 ·exact CRX.of (aF (ctW i e f)) au (aO (aO aW (eF kIs afG (s:=⟨i,e,f⟩) trivial)) (eF kAs af1 (s:=(i,e)) trivial)) (Xm i e l f)
theorem abw:CallOkX P 0 12 (UT yZ wrV):=⟨fun args bs t hR v bs' hev=>by
 unfold UT at hR;split at hR
 ·obtain rfl:=Option.some.inj hR;simp only[DT.eval,Option.some.injEq,Prod.mk.injEq]at hev;obtain⟨rfl,rfl⟩:=hev;exact Ko none _ _
 ·split at hR
  ·rename_i a b i e l f _ _ h1 h2;obtain rfl:=Option.some.inj hR;simp only[DT.eval,Option.some.injEq,Prod.mk.injEq]at hev;obtain⟨rfl,rfl⟩:=hev;obtain rfl:=Nat.eq_of_beq_eq_true h1;obtain rfl:=Nat.eq_of_beq_eq_true h2;have q:=Ko (some (i,e)) l f;have hq:paE (some (i,e))=gX i e:=rfl;rw[hq,FQ]at q;exact q
  ·cases hR
 ·cases hR⟩
def rnd(n:Nat):ByteArray:=⟨(Lib.repeatL [114,111,117,110,100,10] n).toArray⟩
theorem WB:(dK ⟨#[116,105,99,107,32,48,10,116,111,99,107,32,48]⟩).1=some (1,350):=by kernel_rfl
end Go.VS.Tryz
end

noncomputable section
namespace Go.VS.Tryz
open Go.VS
set_option maxRecDepth 1000000
def ZG:List (ByteArray×Value):=[(⟨#[99,111,109,109,105,116,32,48,32,112,117,116,32,97,32,49,32,100,101,108,32,98]⟩,yM (⟨1,0,0,0,⟨#[]⟩,[⟨true,⟨#[97]⟩,⟨#[49]⟩⟩,⟨false,⟨#[98]⟩,⟨#[]⟩⟩]⟩,true,0))]
theorem ack:CallOkX P 0 6 (Le ZG):=aeF fun p hp=>by
 unfold ZG at hp;simp only[List.mem_cons,List.not_mem_nil,or_false]at hp;subst hp;have q:=Nz ⟨#[99,111,109,109,105,116,32,48,32,112,117,116,32,97,32,49,32,100,101,108,32,98]⟩ (by decide);rw[af8]at q;exact q
def afH(C O:ByteArray->Bool)(Nf:ByteArray->Nat)(Cf:ByteArray->List Value)(I Ef:ByteArray->Int)(W0:Int->Int->Bool)(W:Int->Int->Int->Int->Bool):Ct:=
 bJ P aJ 0 6 (Le ZG) (bJ P aJ 0 9 (Dk C O Nf Cf I Ef) (bJ P aJ 0 12 (UT W0 W) ctF))
theorem Yg(C O:ByteArray->Bool)(Nf:ByteArray->Nat)(Cf:ByteArray->List Value)(I Ef:ByteArray->Int)(W0:Int->Int->Bool)(W:Int->Int->Int->Int->Bool):bn P E (afH C O Nf Cf I Ef W0 W) 50 aJ [] [] 0 11 [] [] =
 (ae (C ⟨#[116,105,99,107,32,48,10,116,111,99,107,32,48]⟩)
 (ag (O ⟨#[116,105,99,107,32,48,10,116,111,99,107,32,48]⟩)
 (some ((.bool (W0 1 350)),(mkSt [])))
 (some ((.bool (W (I ⟨#[116,105,99,107,32,48,10,116,111,99,107,32,48]⟩) (Ef ⟨#[116,105,99,107,32,48,10,116,111,99,107,32,48]⟩) 1 350)),(mkSt []))))):=by kernel_rfl
theorem VE:CRX P 0 11 [] [] (.bool true) []:=by
 refine CRX.of (aF _) au (aO (aO (aO aW abw) afk) ack) (n:=50) (pol:=aJ) (fl:=[]) (ts:=[]) ((Yg Sv um ut pW sG sQ yZ wrV).trans ?_);have oT:um ⟨#[116,105,99,107,32,48,10,116,111,99,107,32,48]⟩=false:=by unfold um; rw[WB]; rfl
 have cT:Sv ⟨#[116,105,99,107,32,48,10,116,111,99,107,32,48]⟩=true:=rfl;have w1:wrV (sG ⟨#[116,105,99,107,32,48,10,116,111,99,107,32,48]⟩) (sQ ⟨#[116,105,99,107,32,48,10,116,111,99,107,32,48]⟩) 1 350=true:=by unfold sG sQ; rw[WB]; rfl
 simp only[oT,cT,w1,az,ax,aA]
def N8:iG:=fun args bs=>match args,bs with
 |[],[]=>some (.leaf (.bool true,[]))
 |_,_=>none
theorem aaj:CallOkX P 0 11 N8:=⟨fun args bs t hR v bs' hev=>by
 unfold N8 at hR;split at hR
 ·obtain rfl:=Option.some.inj hR;simp only[DT.eval,Option.some.injEq,Prod.mk.injEq]at hev;obtain⟨rfl,rfl⟩:=hev;exact VE
 ·cases hR⟩
def Oo(C O:Nat->List Value->Bool)(S:List Value->ByteArray)(I Ef:List Value->Int):iG:=fun args bs=>match args,bs with
 |[.iface t (.agg ⟨.slice none n 0::c⟩)],[]=>match Nat.beq t 18446744073709551622 with
  |true=>some (.ite (C n c) (.ite (O n c) (.leaf (.tuple ⟨[.string (S c), .nilIface]⟩,[])) (.leaf (.tuple ⟨[.string ⟨#[]⟩,gX (I c) (Ef c)]⟩,[]))) .fail)
  |false=>none
 |_,_=>none
def aaB(C:Nat->List Value->Nat->List Value->Bool)(S:List Value->List Value->Bool):iG:=fun args bs=>match args,bs with
 |[.iface t (.agg ⟨.slice none n 0::c⟩), .iface u (.agg ⟨.slice none m 0::d⟩)],[]=>match Nat.beq t 18446744073709551622,Nat.beq u 18446744073709551622 with
  |true,true=>some (.ite (C n c m d) (.leaf (.bool (S c d),[])) .fail)
  |_,_=>none
 |_,_=>none
open Classical in
def unA(c:List Value):List ActM:=if h:∃ l,aH.all l=c then h.choose else []
theorem k_(l:List ActM):unA (aH.all l)=l:=by
 unfold unA;have h:∃ m,aH.all m=aH.all l:=⟨l,rfl⟩
 rw[dif_pos h];exact aH.all_inj _ _ h.choose_spec
open Classical in
def prC(n:Nat)(c:List Value):Bool:=decide (∃ l,aH.all l=c/\n=l.length/\l.length<4194304/\∀ a∈l,kCk.ok a)
def prO(_:Nat)(c:List Value):Bool:=(dL (unA c)).2.isNone
def prS(c:List Value):ByteArray:=(dL (unA c)).1
def prI(c:List Value):Int:=((dL (unA c)).2.getD (0,0)).1
def prE(c:List Value):Int:=((dL (unA c)).2.getD (0,0)).2
theorem uA{l:List ActM}{x:Int×Int}(h:(dL l).2=some x):(dL l).1=⟨#[]⟩:=by
 unfold dL at h ⊢;split at h<;>first | rfl | cases h
theorem yu(n:Nat)(c:List Value){t:Nat}(h:Nat.beq t 18446744073709551622=true):(Value.iface t (.agg ⟨.slice none n 0::c⟩))=ai 6 n 0 c:=by
 obtain rfl:=Nat.eq_of_beq_eq_true h;unfold ai FZ; rfl
open Classical in
theorem agw:CallOkX P 0 8 (Oo prC prO prS prI prE):=⟨fun args bs t hR v bs' hev=>by
 unfold Oo at hR;split at hR
 ·rename_i t0 n c;split at hR
  ·rename_i ht;obtain rfl:=Option.some.inj hR;cases hc:prC n c with
   |false=>rw[hc]at hev; cases hev
   |true=>
    rw[hc]at hev;unfold prC at hc;obtain⟨l,rfl,rfl,h1,h2⟩:=of_decide_eq_true hc;rw[yu _ _ ht];have q:=JC h1 h2;unfold prO prS prI prE at hev;rw[k_]at hev;cases hp:(dL l).2 with
    |none=>
     rw[hp]at hev q;simp only[Option.isNone_none,DT.eval,Option.some.injEq,Prod.mk.injEq]at hev;obtain⟨rfl,rfl⟩:=hev;exact q
    |some x=>
     rw[hp]at hev q;rw[uA hp]at q;simp only[Option.isNone_some,Option.getD_some,DT.eval,Option.some.injEq,Prod.mk.injEq]at hev;obtain⟨rfl,rfl⟩:=hev;exact q
  ·cases hR
 ·cases hR⟩
open Classical in
def ssC(n:Nat)(c:List Value)(m:Nat)(d:List Value):Bool:=decide (∃ k l,aH.all k=c/\aH.all l=d/\n=k.length/\m=l.length/\qh k/\qh l)
def ssS(c d:List Value):Bool:=BV (unA c) (unA d)
open Classical in
theorem afN:CallOkX P 0 15 (aaB ssC ssS):=⟨fun args bs t hR v bs' hev=>by
 unfold aaB at hR;split at hR
 ·rename_i t0 n c u m d;split at hR
  ·rename_i ht hu;obtain rfl:=Option.some.inj hR;cases hc:ssC n c m d with
   |false=>rw[hc]at hev; cases hev
   |true=>
    rw[hc]at hev;unfold ssC at hc;obtain⟨k,l,rfl,rfl,rfl,rfl,h1,h2⟩:=of_decide_eq_true hc;rw[yu _ _ ht,yu _ _ hu];unfold ssS at hev;rw[k_,k_]at hev;simp only[DT.eval,Option.some.injEq,Prod.mk.injEq]at hev;obtain⟨rfl,rfl⟩:=hev;exact X8 h1 h2
  ·cases hR
 ·cases hR⟩
theorem Wf.kck{a:ActM}(h:Wf a):kCk.ok a:=⟨h.txOk2.1.1,h.txOk2.1.2.1,h.txOk2.1.2.2.1,h.txOk2.1.2.2.2.2⟩
def xF(l:List ActM):Prop:=l.length<4194304/\∀ a∈l,kCk.ok a
theorem xF.few{l:List ActM}(h:xF l):qh l:=⟨h.1,fun a ha=>(h.2 a ha).2.2.2⟩
theorem aeu{l:List ActM}(h:∀ a∈l,Wf a)(hl:l.length<=200):xF l:=⟨by omega,fun a ha=>(h a ha).kck⟩
open Classical in
theorem agv{l:List ActM}(h:xF l):prC l.length (aH.all l)=true:=by unfold prC; exact decide_eq_true ⟨l,rfl,rfl,h.1,h.2⟩
open Classical in
theorem agt{k l:List ActM}(h1:xF k)(h2:xF l):ssC k.length (aH.all k) l.length (aH.all l)=true:=by unfold ssC; exact decide_eq_true ⟨k,l,rfl,rfl,rfl,rfl,h1.few,h2.few⟩
theorem afn(l:List ActM):ssS (aH.all l) (aH.all l)=true:=by
 unfold ssS;rw[U_]
def Dst:HeadX:=⟨0,91,[0,1,4,5],[.val, .val, .val, .val],[],aJ⟩
def Bst:Code:=(bK P 4 0).getD .skip
theorem Xo:bK P 4 0=some Bst:=by kernel_rfl
theorem Jf:Occ P 4 (.block 0 (.loop Bst)):=dA Xo
theorem Rw(n b:Nat)(c:List Value)(s:ByteArray)(i:Int):aQ P E ctF 50 4 Bst Dst [.string s,ai 6 n b c, .bool false, .int .i64 i] [] =
 (ag (ltI i (af n))
 (ae (Bool.and (Nat.beq 6 6) (inI i n))
 (ae (Bool.and (Nat.ble (Nat.add (Nat.add (atN i 6) 5) 1) c.length) (dw (.slice 3) (ah c (Nat.add (atN i 6) 5))))
 (ag (gtI (af (zN (ah c (Nat.add (atN i 6) 5)))) 40)
 (some ((.tuple ⟨[.int .i64 (-1),.string s,.iface 18446744073709551622 (.agg ⟨(.slice none n b)::c⟩),.bool true,.int .i64 i]⟩),(mkSt [])))
 (some ((.tuple ⟨[.int .i64 0,.string s,.iface 18446744073709551622 (.agg ⟨(.slice none n b)::c⟩),.bool false,.int .i64 (aB .i64 i 1)]⟩),(mkSt []))))))
 (some ((.tuple ⟨[.int .i64 1,.string s,.iface 18446744073709551622 (.agg ⟨(.slice none n b)::c⟩),.bool false,.int .i64 i]⟩),(mkSt [])))):=by kernel_rfl
def stV(l:List ActM)(s:ByteArray)(b:Bool)(i:Int):List Value:=[.string s,fzActs l, .bool b, .int .i64 i]
theorem aap{l:List ActM}{i:Nat}{s:ByteArray}(hi:i<l.length)(hl:l.length<=9223372036854775807):aQ P E ctF 50 4 Bst Dst (stV l s false i) []=match uU l[i]with
  |true=>some (.tuple ⟨exV .ret::stV l s true i⟩,mkSt [])
  |false=>some (.tuple ⟨exV .normal::stV l s false ((i+1:Nat):Int)⟩,mkSt []):=by
 unfold stV;have q:=Rw l.length 0 (aH.all l) s i;refine Eq.trans ?_ (q.trans ?_)
 ·rfl
 clear q;have n6:∀ l:List ActM,(aH.all l).length=Nat.mul l.length 6:=fun l=>aH.all_length l;have g1:ltI (i:Int) (af l.length)=true:=by unfold ltI af; exact decide_eq_true (by omega)
 have g2:inI (i:Int) l.length=true:=by unfold inI; exact decide_eq_true (by omega)
 have g3:Nat.ble (Nat.add (Nat.add (atN (i:Int) 6) 5) 1) (Nat.mul l.length 6)=true:=Nat.ble_eq_true_of_le (by
  show(i:Int).toNat*6+5+1<=l.length*6;have:(i:Int).toNat=i:=by omega
  omega)
 have c5:ah (aH.all l) (Nat.add (atN (i:Int) 6) 5)=aK l[i].ops:=zh hi;have e5:dw (.slice 3) (aK l[i].ops)=true:=by show isZ 3 (aK l[i].ops)=true; exact X_
 have a1:aB .i64 (i:Int) 1=((i+1:Nat):Int):=by unfold aB; rw[wrap64 (by omega) (by omega)]; omega
 have b6:Nat.beq 6 6=true:=rfl;have zn:∀ o:List OpM,zN (aK o)=o.length:=fun o=>yN;simp only[n6,g1,g2,g3,c5,e5,zn,a1,b6,Bool.and_self,az,aA,fzA];unfold uU;cases gtI (af l[i].ops.length) 40<;>rfl
theorem afo{l:List ActM}{s:ByteArray}:aQ P E ctF 50 4 Bst Dst (stV l s false l.length) []=some (.tuple ⟨exV (.exit 0)::stV l s false l.length⟩,mkSt []):=by
 unfold stV;have q:=Rw l.length 0 (aH.all l) s l.length;refine Eq.trans ?_ (q.trans ?_)
 ·rfl
 clear q;have g1:ltI (l.length:Int) (af l.length)=false:=by unfold ltI af; exact decide_eq_false (by omega)
 rw[g1];refine Eq.trans ax ?_;rw[fzA l]; rfl
theorem RY(l:List ActM)(s:ByteArray)(hl:l.length<=9223372036854775807):∀ (k i:Nat),i+k=l.length->
  LRX P 4 0 Bst Dst.head (stV l s false i) [] (match lF i (l.drop i)with | none=> .normal | some _=> .ret) (match lF i (l.drop i)with | none=>stV l s false l.length | some j=>stV l s true j) []
 |0,i,h=>by
  obtain rfl:i=l.length:=by omega
  rw[List.drop_length];exact LRX.stop (n:=50) (aF ctF) au aW Jf (e:= .exit 0) afo (by intro h; cases h)
 |k+1,i,h=>by
  have hi:i<l.length:=by omega
  have q:=aap (s:=s) hi hl;rw[List.drop_eq_getElem_cons hi];simp only[lF];cases ho:uU l[i]with
  |false=>
   rw[ho]at q;exact LRX.again (n:=50) (aF ctF) au aW Jf q (RY l s hl k (i+1) (by omega))
  |true=>
   rw[ho]at q;exact LRX.stop (n:=50) (aF ctF) au aW Jf (e:= .ret) q (by intro h; cases h)
def yS:Con (List ActM×ByteArray) where
 enc x:=(stV x.1 x.2 false 0,[])
 ok x:=x.1.length<=9223372036854775807
 inj a b h:=by
  obtain⟨a1,a2⟩:=a;obtain⟨b1,b2⟩:=b;unfold stV at h;simp only[Prod.mk.injEq,List.cons.injEq,Value.string.injEq,true_and,and_true]at h;rw[lH h.2,h.1]
 dflt:=([],default)
def abH(x:List ActM×ByteArray):DT (Ex×List Value×List Blk):= .ite (lF 0 x.1).isNone (.leaf (.normal,stV x.1 x.2 false x.1.length,[])) (.leaf (.ret,stV x.1 x.2 true ((lF 0 x.1).getD 0),[]))
theorem Yq:LoopOkX P 4 0 Bst Dst.head (kP yS.C yS.D abH):=
 fQ yS (bz Xo) fun x ho e vs' bs' hev=>by
  obtain⟨l,s⟩:=x;have q:=RY l s ho l.length 0 (by omega);rw[List.drop_zero]at q;unfold abH at hev;cases hb:lF 0 l with
  |none=>
   rw[hb]at q;simp only[hb,Option.isNone_none,DT.eval,Option.some.injEq,Prod.mk.injEq]at hev;obtain⟨rfl,rfl,rfl⟩:=hev;exact q
  |some j=>
   rw[hb]at q;simp only[hb,Option.isNone_some,Option.getD_some,DT.eval,Option.some.injEq,Prod.mk.injEq]at hev;obtain⟨rfl,rfl,rfl⟩:=hev;exact q
def Z7(Nf:ByteArray->Nat)(Cf:ByteArray->List Value)(I Ef:ByteArray->Int):iG:=fun args bs=>match args,bs with
 |[.string s],[]=>some (.leaf (.tuple ⟨[ai 6 (Nf s) 0 (Cf s), .int .i64 (I s), .int .i64 (Ef s)]⟩,[]))
 |_,_=>none
def ZL(C:Nat->List Value->Bool)(S:List Value->ByteArray)(I Ef:List Value->Int):iG:=fun args bs=>match args,bs with
 |[.iface t (.agg ⟨.slice none n 0::c⟩)],[]=>match Nat.beq t 18446744073709551622 with
  |true=>some (.ite (C n c) (.leaf (.tuple ⟨[.string (S c), .int .i64 (I c), .int .i64 (Ef c)]⟩,[])) .fail)
  |false=>none
 |_,_=>none
def aby(O:ByteArray->Bool)(Nf:ByteArray->Nat)(Cf:ByteArray->List Value)(I Ef:ByteArray->Int)(RN:ByteArray->Nat)(RC:ByteArray->List Value)(RI RE:ByteArray->Int)(PC PO:Nat->List Value->Bool)(PS:List Value->ByteArray)(PI PE:List Value->Int)(QC:Nat->List Value->Bool)(QS:List Value->ByteArray)(QI QE:List Value->Int)(SC:Nat->List Value->Nat->List Value->Bool)(SS:List Value->List Value->Bool)(W0:Int->Int->Bool)(W:Int->Int->Int->Int->Bool)(LC:List Value->List Blk->Bool)(ok:Bool)(n:Nat)(c:List Value)(s:ByteArray)(j:Int):Ct:=
 bJ P aJ 0 11 N8 (bJ P aJ 0 9 (Dk (fun _=>true) O Nf Cf I Ef) (bJ P aJ 0 13 (Z7 RN RC RI RE) (bJ P aJ 0 8 (Oo PC PO PS PI PE) (bJ P aJ 0 14 (ZL QC QS QI QE) (bJ P aJ 0 15 (aaB SC SS) (bJ P aJ 0 12 (UT W0 W)
  (dR P 4 0 Dst (iD LC (.ite ok (.leaf (.normal,[.string s,ai 6 n 0 c, .bool false, .int .i64 n],[])) (.leaf (.ret,[.string s,ai 6 n 0 c, .bool true, .int .i64 j],[])))) ctF)))))))
theorem acF(O:ByteArray->Bool)(Nf:ByteArray->Nat)(Cf:ByteArray->List Value)(I Ef:ByteArray->Int)(RN:ByteArray->Nat)(RC:ByteArray->List Value)(RI RE:ByteArray->Int)(PC PO:Nat->List Value->Bool)(PS:List Value->ByteArray)(PI PE:List Value->Int)(QC:Nat->List Value->Bool)(QS:List Value->ByteArray)(QI QE:List Value->Int)(SC:Nat->List Value->Nat->List Value->Bool)(SS:List Value->List Value->Bool)(W0:Int->Int->Bool)(W:Int->Int->Int->Int->Bool)(LC:List Value->List Blk->Bool)(ok:Bool)(n:Nat)(c:List Value)(s:ByteArray)(j:Int):bn P E (aby O Nf Cf I Ef RN RC RI RE PC PO PS PI PE QC QS QI QE SC SS W0 W LC ok n c s j) 50 aJ [] [] 0 4 [.string s,ai 6 n 0 c] [] =
 (ag (gtI (af s.size) 8000)
 (ag (leI (af s.size) 65536)
 (some ((.bool true),(mkSt [])))
 (ag (gtI (af n) 60)
 (ag (leI (af n) 200)
 (some ((.bool true),(mkSt [])))
 (ae (LC [.string s,.iface 18446744073709551622 (.agg ⟨(.slice none n 0)::c⟩),.bool false,.int .i64 0] [])
 (ag ok
 (ag (O s)
 (ae (PC n c)
 (ag (PO n c)
 (ae (QC n c)
 (ae (SC (Nf s) (Cf s) (RN s) (RC s))
 (ag (SS (Cf s) (RC s))
 (ag (W0 (RI s) (RE s))
 (ag (eqS (PS c) (QS c))
 (some ((.bool (W0 (QI c) (QE c))),(mkSt [])))
 (some ((.bool false),(mkSt []))))
 (some ((.bool false),(mkSt []))))
 (some ((.bool false),(mkSt []))))))
 (ae (QC n c)
 (ae (SC (Nf s) (Cf s) (RN s) (RC s))
 (ag (SS (Cf s) (RC s))
 (ag (W0 (RI s) (RE s))
 (ag (eqS ⟨#[]⟩ (QS c))
 (some ((.bool (W (PI c) (PE c) (QI c) (QE c))),(mkSt [])))
 (some ((.bool false),(mkSt []))))
 (some ((.bool false),(mkSt []))))
 (some ((.bool false),(mkSt []))))))))
 (ae (PC n c)
 (ag (PO n c)
 (ae (QC n c)
 (ae (SC (Nf s) (Cf s) (RN s) (RC s))
 (ag (SS (Cf s) (RC s))
 (ag (W (I s) (Ef s) (RI s) (RE s))
 (ag (eqS (PS c) (QS c))
 (some ((.bool (W0 (QI c) (QE c))),(mkSt [])))
 (some ((.bool false),(mkSt []))))
 (some ((.bool false),(mkSt []))))
 (some ((.bool false),(mkSt []))))))
 (ae (QC n c)
 (ae (SC (Nf s) (Cf s) (RN s) (RC s))
 (ag (SS (Cf s) (RC s))
 (ag (W (I s) (Ef s) (RI s) (RE s))
 (ag (eqS ⟨#[]⟩ (QS c))
 (some ((.bool (W (PI c) (PE c) (QI c) (QE c))),(mkSt [])))
 (some ((.bool false),(mkSt []))))
 (some ((.bool false),(mkSt []))))
 (some ((.bool false),(mkSt [])))))))))
 (some ((.bool true),(mkSt []))))))
 (ae (LC [.string s,.iface 18446744073709551622 (.agg ⟨(.slice none n 0)::c⟩),.bool false,.int .i64 0] [])
 (ag ok
 (ag (O s)
 (ae (PC n c)
 (ag (PO n c)
 (ae (QC n c)
 (ae (SC (Nf s) (Cf s) (RN s) (RC s))
 (ag (SS (Cf s) (RC s))
 (ag (W0 (RI s) (RE s))
 (ag (eqS (PS c) (QS c))
 (some ((.bool (W0 (QI c) (QE c))),(mkSt [])))
 (some ((.bool false),(mkSt []))))
 (some ((.bool false),(mkSt []))))
 (some ((.bool false),(mkSt []))))))
 (ae (QC n c)
 (ae (SC (Nf s) (Cf s) (RN s) (RC s))
 (ag (SS (Cf s) (RC s))
 (ag (W0 (RI s) (RE s))
 (ag (eqS ⟨#[]⟩ (QS c))
 (some ((.bool (W (PI c) (PE c) (QI c) (QE c))),(mkSt [])))
 (some ((.bool false),(mkSt []))))
 (some ((.bool false),(mkSt []))))
 (some ((.bool false),(mkSt []))))))))
 (ae (PC n c)
 (ag (PO n c)
 (ae (QC n c)
 (ae (SC (Nf s) (Cf s) (RN s) (RC s))
 (ag (SS (Cf s) (RC s))
 (ag (W (I s) (Ef s) (RI s) (RE s))
 (ag (eqS (PS c) (QS c))
 (some ((.bool (W0 (QI c) (QE c))),(mkSt [])))
 (some ((.bool false),(mkSt []))))
 (some ((.bool false),(mkSt []))))
 (some ((.bool false),(mkSt []))))))
 (ae (QC n c)
 (ae (SC (Nf s) (Cf s) (RN s) (RC s))
 (ag (SS (Cf s) (RC s))
 (ag (W (I s) (Ef s) (RI s) (RE s))
 (ag (eqS ⟨#[]⟩ (QS c))
 (some ((.bool (W (PI c) (PE c) (QI c) (QE c))),(mkSt [])))
 (some ((.bool false),(mkSt []))))
 (some ((.bool false),(mkSt []))))
 (some ((.bool false),(mkSt [])))))))))
 (some ((.bool true),(mkSt [])))))))
 (ag (gtI (af n) 60)
 (ag (leI (af n) 200)
 (some ((.bool true),(mkSt [])))
 (ae (LC [.string s,.iface 18446744073709551622 (.agg ⟨(.slice none n 0)::c⟩),.bool false,.int .i64 0] [])
 (ag ok
 (ag (O s)
 (ae (PC n c)
 (ag (PO n c)
 (ae (QC n c)
 (ae (SC (Nf s) (Cf s) (RN s) (RC s))
 (ag (SS (Cf s) (RC s))
 (ag (W0 (RI s) (RE s))
 (ag (eqS (PS c) (QS c))
 (some ((.bool (W0 (QI c) (QE c))),(mkSt [])))
 (some ((.bool false),(mkSt []))))
 (some ((.bool false),(mkSt []))))
 (some ((.bool false),(mkSt []))))))
 (ae (QC n c)
 (ae (SC (Nf s) (Cf s) (RN s) (RC s))
 (ag (SS (Cf s) (RC s))
 (ag (W0 (RI s) (RE s))
 (ag (eqS ⟨#[]⟩ (QS c))
 (some ((.bool (W (PI c) (PE c) (QI c) (QE c))),(mkSt [])))
 (some ((.bool false),(mkSt []))))
 (some ((.bool false),(mkSt []))))
 (some ((.bool false),(mkSt []))))))))
 (ae (PC n c)
 (ag (PO n c)
 (ae (QC n c)
 (ae (SC (Nf s) (Cf s) (RN s) (RC s))
 (ag (SS (Cf s) (RC s))
 (ag (W (I s) (Ef s) (RI s) (RE s))
 (ag (eqS (PS c) (QS c))
 (some ((.bool (W0 (QI c) (QE c))),(mkSt [])))
 (some ((.bool false),(mkSt []))))
 (some ((.bool false),(mkSt []))))
 (some ((.bool false),(mkSt []))))))
 (ae (QC n c)
 (ae (SC (Nf s) (Cf s) (RN s) (RC s))
 (ag (SS (Cf s) (RC s))
 (ag (W (I s) (Ef s) (RI s) (RE s))
 (ag (eqS ⟨#[]⟩ (QS c))
 (some ((.bool (W (PI c) (PE c) (QI c) (QE c))),(mkSt [])))
 (some ((.bool false),(mkSt []))))
 (some ((.bool false),(mkSt []))))
 (some ((.bool false),(mkSt [])))))))))
 (some ((.bool true),(mkSt []))))))
 (ae (LC [.string s,.iface 18446744073709551622 (.agg ⟨(.slice none n 0)::c⟩),.bool false,.int .i64 0] [])
 (ag ok
 (ag (O s)
 (ae (PC n c)
 (ag (PO n c)
 (ae (QC n c)
 (ae (SC (Nf s) (Cf s) (RN s) (RC s))
 (ag (SS (Cf s) (RC s))
 (ag (W0 (RI s) (RE s))
 (ag (eqS (PS c) (QS c))
 (some ((.bool (W0 (QI c) (QE c))),(mkSt [])))
 (some ((.bool false),(mkSt []))))
 (some ((.bool false),(mkSt []))))
 (some ((.bool false),(mkSt []))))))
 (ae (QC n c)
 (ae (SC (Nf s) (Cf s) (RN s) (RC s))
 (ag (SS (Cf s) (RC s))
 (ag (W0 (RI s) (RE s))
 (ag (eqS ⟨#[]⟩ (QS c))
 (some ((.bool (W (PI c) (PE c) (QI c) (QE c))),(mkSt [])))
 (some ((.bool false),(mkSt []))))
 (some ((.bool false),(mkSt []))))
 (some ((.bool false),(mkSt []))))))))
 (ae (PC n c)
 (ag (PO n c)
 (ae (QC n c)
 (ae (SC (Nf s) (Cf s) (RN s) (RC s))
 (ag (SS (Cf s) (RC s))
 (ag (W (I s) (Ef s) (RI s) (RE s))
 (ag (eqS (PS c) (QS c))
 (some ((.bool (W0 (QI c) (QE c))),(mkSt [])))
 (some ((.bool false),(mkSt []))))
 (some ((.bool false),(mkSt []))))
 (some ((.bool false),(mkSt []))))))
 (ae (QC n c)
 (ae (SC (Nf s) (Cf s) (RN s) (RC s))
 (ag (SS (Cf s) (RC s))
 (ag (W (I s) (Ef s) (RI s) (RE s))
 (ag (eqS ⟨#[]⟩ (QS c))
 (some ((.bool (W (PI c) (PE c) (QI c) (QE c))),(mkSt [])))
 (some ((.bool false),(mkSt []))))
 (some ((.bool false),(mkSt []))))
 (some ((.bool false),(mkSt [])))))))))
 (some ((.bool true),(mkSt []))))))):=by kernel_rfl
end Go.VS.Tryz
end
