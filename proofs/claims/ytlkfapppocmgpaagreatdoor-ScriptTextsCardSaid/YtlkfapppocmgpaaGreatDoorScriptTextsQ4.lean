/- Texts of the proof, merged: Sc6, VsPick, Sc7, Sc8, Sc9, Sc10, ScW, Sc11, ScC, Sc12, Sc13, Sc14, Se0, Se1, Se2, Se3, Se4, St1, St2, St3, St4, St5, St6, St7, St8, St9, Su0, Op7, Op8. No conditions. -/
import Derived.Test.YtlkfapppocmgpaaGreatDoorScriptTextsQ1
import Derived.Test.YtlkfapppocmgpaaGreatDoorScriptTextsQ3
import Derived.Lib.FieldsP
import Derived.Lib.DecodeN
import Derived.Lib.MapLaws
import Derived.Test.YtlkfapppocmgpaaGreatDoorProg
import Derived.WalkKit
import Derived.LaidEql
import Derived.Stop.Asserts
import Derived.RowKitTokens
import Derived.Test.YtlkfapppocmgpaaGreatDoorShelf
import Derived.Lib.ItoaLen
set_option linter.unusedSimpArgs false
set_option linter.unusedVariables false
noncomputable section
namespace Go.VS.Tryz
open Go.VS
set_option maxRecDepth 1000000
def agi(C C2:List Value->List Blk->Bool)(ok:Bool)(e:Value)(n1 n2:Nat)(z1 z2:Value)(c1 c2:List Value)(r:Int):Ct:=
 bH P 43 (fun args=>iL C2 (.leaf (.int .i64 r,[])) args []) (dR P 42 0 Dop (iD C (.ite ok (.leaf (.normal,[z1,e, .bool false, .slice (some ⟨0,0,none⟩) n1 unk],[.cells c1 74 false])) (.leaf (.ret,[z2,e, .bool false, .slice (some ⟨0,0,none⟩) n2 unk],[.cells c2 74 false])))) ctF)
theorem acd(C C2:List Value->List Blk->Bool)(ok:Bool)(n1 n2:Nat)(z1 z2:Value)(c1 c2:List Value)(r:Int)(n b:Nat)(c:List Value):bn P E (agi C C2 ok (ai 3 0 0 []) n1 n2 z1 z2 c1 c2 r) 50 aJ [.val, .val] [22,4] 0 42 [ai 1 n b c] [] =
 (ae (C [.iface 18446744073709551617 (.agg ⟨(.slice none n b)::c⟩),.iface 18446744073709551619 (.agg ⟨[.slice none 0 0]⟩),.bool false,.slice (Option.some (Addr.mk 0 0 none)) 0 18446744073709551616] [Blk.cells [] 74 false])
 (ag ok
 (ae (Bool.and (Nat.ble (Nat.add 0 (Nat.mul n1 3)) (List.length (renL true (bZ [] 1) c1))) (Nat.ble 1 3))
 (ae (bT (takeC (Nat.mul n1 3) (ak 0 (renL true (bZ [] 1) c1))))
 (ae (C2 [.iface 18446744073709551619 (.agg ⟨(.slice none n1 0)::(takeC (Nat.mul n1 3) (ak 0 (renL true (bZ [] 1) c1)))⟩)] [])
 (ae (ny P 0 n1 18446744073709551616 (renL true (bZ [] 1) c1) 74)
 (some ((.tuple ⟨[.iface 18446744073709551619 (.agg ⟨(.slice none n1 0)::(takeC (Nat.mul n1 3) (ak 0 (renL true (bZ [] 1) c1)))⟩),.bool (eqI r 0)]⟩),(mkSt [])))))))
 (some ((.tuple ⟨[.iface 18446744073709551619 (.agg ⟨[.slice none 0 0]⟩),.bool false]⟩),(mkSt []))))):=by kernel_rfl
theorem Iu:∀ l:List OpM,bT (EOp.all l)=true
 |[]=>rfl
 |a::l=>by
  rw[EOp.all_cons];show bT (.bool a.p:: .string a.k:: .string a.v::EOp.all l)=true;simp only[bT,Iu l]
  rfl
theorem Yn{l:List OpM}:ny P 0 l.length 18446744073709551616 (EOp.all l) 74=true:=by
 have he:esz P 74=3:=by kernel_rfl
 unfold ny;rw[he,EOp.all_nr,pG];have h2:Nat.ble (Nat.add 0 (Nat.mul l.length 3)) (Nat.mul l.length 3)=true:=by rw[iP]; exact Nat.ble_eq_true_of_le (Nat.le_refl _)
 rw[h2]; rfl
def yT(ws:List ByteArray):Prop:=(∀ w∈ws,w.size<=4194304)/\ws.length<=4194304
def EK:Con (List ByteArray) where
 enc ws:=(opV ws 0,gq [])
 ok:=yT
 inj a b h:=by
  unfold opV at h;simp only[Prod.mk.injEq,List.cons.injEq,true_and,and_true]at h;exact uS h
 dflt:=[]
def LX(ws:List ByteArray):DT (Ex×List Value×List Blk):= .ite (opE ws []).1 (.leaf (.normal,opV (opE ws []).2.1 (opE ws []).2.2.length,gq (opE ws []).2.2)) (.leaf (.ret,opV (opE ws []).2.1 (opE ws []).2.2.length,gq (opE ws []).2.2))
theorem WV:LoopOkX P 42 0 Bop Dop.head (kP EK.C EK.D LX):=
 fQ EK (bz Ye) fun ws ho e vs' bs' hev=>by
  have q:=IG ws.length ws [] (Nat.le_refl _) ho.1 (by have:=ho.2; simp only[List.length_nil]; omega);unfold LX at hev;cases hb:(opE ws []).1 with
  |true=>
   rw[hb]at hev q;simp only[DT.eval,Option.some.injEq,Prod.mk.injEq]at hev;obtain⟨rfl,rfl,rfl⟩:=hev;exact q
  |false=>
   rw[hb]at hev q;simp only[DT.eval,Option.some.injEq,Prod.mk.injEq]at hev;obtain⟨rfl,rfl,rfl⟩:=hev;exact q
def opsV(ws:List ByteArray):List OpM:=match(opE ws []).1 with
 |true=>(opE ws []).2.2
 |false=>[]
def pV(ws:List ByteArray):Bool:=match(opE ws []).1 with
 |true=>eqI (dO (opE ws []).2.2) 0
 |false=>false
theorem IE:∀ (k:Nat) (ws:List ByteArray) (out:List OpM),ws.length<=k->(opE ws out).2.2.length<=out.length+ws.length
 |_,[],out,_=>by simp[opE]
 |_,[w0],out,_=>by simp[opE]
 |0,_::_::_,_,h=>by simp at h
 |k+1,w0::w1::tl,out,hl=>by
  rw[opE.eq_def];simp only[List.length_cons]at hl ⊢;cases eqS w0 kX with
  |true=>
   cases tl with
   |nil=>simp
   |cons w2 r=>
    simp only[List.length_cons]at hl ⊢;cases eY w1 with
    |false=>simp
    |true=>
     cases eqI (byE w2) 0 with
     |false=>simp
     |true=>
      have:=IE k r (out++[(⟨true,byS w1,byS w2⟩:OpM)]) (by omega);rw[List.length_append]at this;simp only[List.length_cons,List.length_nil]at this;simp only;omega
  |false=>
   cases eqS w0 mP with
   |false=>simp
   |true=>
    cases eY w1 with
    |false=>simp
    |true=>
     have:=IE k tl (out++[(⟨false,byS w1,⟨#[]⟩⟩:OpM)]) (by omega);rw[List.length_append]at this;simp only[List.length_cons,List.length_nil]at this;simp only;omega
def zq:Con (List ByteArray) where
 enc ws:=([fzS ws],[])
 ok ws:=yT ws/\ws.length<4194304
 inj a b h:=by
  simp only[Prod.mk.injEq,List.cons.injEq,and_true]at h;exact uS h
 dflt:=[]
def ctP(ws:List ByteArray):Ct:=
 bH P 43 (fun args=>iL (kBk.at (opE ws []).2.2) (.leaf (.int .i64 (dO (opE ws []).2.2),[])) args []) (dR P 42 0 Dop (iD (EK.at ws) (LX ws)) ctF)
theorem acI(ws:List ByteArray):bn P E (ctP ws) 50 aJ [.val, .val] [22,4] 0 42 (zq.enc ws).1 (zq.enc ws).2=some (.tuple ⟨[aK (opsV ws), .bool (pV ws)]⟩,mkSt []):=by
 have q:=acd (EK.at ws) (kBk.at (opE ws []).2.2) (opE ws []).1 (opE ws []).2.2.length (opE ws []).2.2.length (fzS (opE ws []).2.1) (fzS (opE ws []).2.1) (EOp.all (opE ws []).2.2) (EOp.all (opE ws []).2.2) (dO (opE ws []).2.2) ws.length 0 (ws.map Value.string);refine Eq.trans ?_ (q.trans ?_)
 ·rfl
 clear q;refine bu (k:=EK) (s:=ws) (by show opV ws 0=_; unfold opV fzS aK ai; rw[fzU,ja]; rfl) rfl ?_;unfold opsV pV;cases (opE ws []).1 with
 |false=>
  simp only[ax];unfold aK ai;rw[ja]
  rfl
 |true=>
  have b2:∀ n,Nat.ble n n=true:=fun n=>Nat.ble_eq_true_of_le (Nat.le_refl n);have b13:Nat.ble 1 3=true:=rfl;simp only[az,Enc.all_ren,pG,iP,b2,b13,Bool.and_self,aA,mD rfl,Iu,Yn];refine bu (k:=kBk) (s:=(opE ws []).2.2) (by show [aK _]=_; unfold aK ai; rw[ja]) rfl ?_;unfold aK ai;rw[ja]
theorem adS:CallOkX P 0 42 (jS zq.C zq.D fun ws=> .leaf (.tuple ⟨[aK (opsV ws), .bool (pV ws)]⟩,[])):=f_ zq fun ws ho v bs' hev=>by
 simp only[DT.eval,Option.some.injEq,Prod.mk.injEq]at hev;obtain⟨rfl,rfl⟩:=hev;have hl:=IE ws.length ws [] (Nat.le_refl _);simp only[List.length_nil]at hl;exact CRX.of (aF (ctP ws)) au (aU (bf aW (gU EK WV (s:=ws) ho.1)) (CallOkR.ofX (eF kBk V6 (s:=(opE ws []).2.2) (by show _<_; have:=ho.2; omega)))) (acI ws)
end Go.VS.Tryz
end

noncomputable section
namespace Go.VS
open Go.RowKit
section
variable{P:Program}{ct:Ct}
theorem Ql{n:Nat}(hn:0<n)(w:World):∃ (j:Nat) (w1:World),j<n/\(w1=w\/w1=w.drew)/\(choose (Question.mapNext n)).run P w = .ok j w1:=by
 by_cases hf:n<=1
 ·exact⟨0,w,hn,Or.inl rfl,by simp[choose,Sem.run,Question.forced,hf]⟩
 ·exact⟨_,w.drew,Nat.mod_lt _ (by omega),Or.inr rfl,by
   simp only[choose,Sem.run,Question.forced,decide_eq_true_eq,hf,if_false,Question.cut]
   rfl⟩
theorem ERL.get:∀ {Y:Env} {a b:List MapEntry},ERL Y a b->∀ {j:Nat} {y:MapEntry},b[j]? = some y->∃ x,a[j]? = some x/\x.born=y.born/\VR Y x.key y.key/\VR Y x.val y.val
 |_,[],_,h,j,y,hy=>by have h:_=[]:=h; subst h; simp at hy
 |_,x::xs,_,⟨z,ys,e,h1,h2,h3,h4⟩,0,y,hy=>by
  subst e;simp only[List.getElem?_cons_zero,Option.some.injEq]at hy;subst hy;exact⟨x,rfl,h1,h2,h3⟩
 |_,x::xs,_,⟨z,ys,e,h1,h2,h3,h4⟩,j+1,y,hy=>by
  subst e;simp only[List.getElem?_cons_succ]at hy ⊢;exact h4.get hy
theorem ERL.length':∀ {Y:Env} {a b:List MapEntry},ERL Y a b->a.length=b.length
 |_,[],_,h=>by have h:_=[]:=h; subst h; rfl
 |_,x::xs,_,⟨z,ys,e,h1,h2,h3,h4⟩=>by subst e; simp only[List.length_cons]; rw[h4.length']
def iW(seen:List Nat)(es:List MapEntry):List MapEntry:=es.filter fun e=>!seen.contains e.born
theorem YV{K:Prot}{Y:Env}{st:St}{w:World}(hr:Rel P K Y st w){Z Z':Operand->Value}(hZ:∀ x,VR Y (Z x) (Z' x)){o:Oper}{it:Operand}(ho:o.op = .next it false){r m since last clock:Nat}{seen:List Nat}{es:List MapEntry}
  (hv:Z it = .pointer (some ⟨r,0,none⟩)) (hg:st.heap.get r=some (.miter (some m) since seen last)) (hgm:st.heap.get m=some (.map es clock)) (hguard:es.all (fun e=>decide (e.born>=last))=false\/seen=[])
  (hold:∀ e∈es,e.born<since) (hne:iW seen es≠[]) :
  ∃ e,e∈iW seen es/\∃ v' w',(execOp Z' o).run P w = .ok (.value v') w'/\Rel P K Y { st with heap:=st.heap.set r (.miter (some m) since (e.born::seen) clock) } w'/\VR Y (.tuple #[.bool true,e.key,e.val]) v'/\Bel K w w':=by
 have hx:=hZ it;rw[hv]at hx;obtain⟨hs,l,hl,hx⟩:=hx.ptr';obtain⟨l',g1,g2,g3⟩:=hr.blk _ _ hg rfl;obtain rfl:l'=l:=by rw[g1]at hl; exact Option.some.inj hl
 obtain⟨hvt,hbase,m',hm,g3⟩:=g3;obtain⟨lm,hlm,hm⟩:=hm;have hm:m'=some lm.blk:=by simpa using hm
 subst hm;obtain⟨lm',es',k1,k2,k3,k4⟩:=hr.get_map hgm;obtain rfl:lm'=lm:=by rw[k1]at hlm; exact Option.some.inj hlm
 have hguard':(!seen.isEmpty&&!es'.isEmpty&&es'.all (fun e=>decide (e.born>=last)))=false:=by
  have e2:=IP (fun b=>decide (b>=last)) k4;have e4:es'.all (fun e=>decide (e.born>=last))=es'.toList.all (fun e=>decide (e.born>=last)):=by simp
  rw[e4,<-e2];rcases hguard with h | h
  ·rw[h,Bool.and_false]
  ·rw[h]; rfl
 have hleft:=lw (fun b=>!seen.contains b) k4;have hold2:(iW seen es).filter (fun e=>decide (e.born<since))=iW seen es:=by
  apply List.filter_eq_self.2;intro e he;exact decide_eq_true (hold e (List.mem_filter.1 he).1)
 have hnew2:(iW seen es).filter (fun e=>decide (e.born>=since))=[]:=by
  apply List.filter_eq_nil_iff.2;intro e he;have:=hold e (List.mem_filter.1 he).1;simp only[decide_eq_true_eq]; omega
 have hold3:=lw (fun b=>decide (b<since)) hleft;have hnew3:=lw (fun b=>decide (b>=since)) hleft;have hL':(es'.filter fun e=>!(⟨seen.reverse⟩:Array Nat).contains e.born)=⟨es'.toList.filter fun e=>!seen.contains e.born⟩:=by
  apply Array.ext'; simp
 generalize hLc:es'.toList.filter (fun e=>!seen.contains e.born)=left' at *;change ERL Y ((iW seen es).filter _) _ at hold3;change ERL Y ((iW seen es).filter _) _ at hnew3;change ERL Y (iW seen es) _ at hleft;rw[hold2]at hold3;rw[hnew2]at hnew3;have hnew3:left'.filter (fun e=>decide (e.born>=since))=[]:=hnew3;generalize hO:left'.filter (fun e=>decide (e.born<since))=old' at *;have hlen:=hold3.length';have hpos:0<old'.length:=by
  rw[<-hlen];exact List.length_pos_iff.2 hne
 obtain⟨j,w1,hj,hw1,hch⟩:=Ql (P:=P) hpos w;have hje:old'[j]? = some old'[j]:=List.getElem?_eq_getElem hj;obtain⟨e,q1,q2,q3,q4⟩:=hold3.get hje;have hemp:old'.isEmpty=false:=by cases old' with
  |nil=>simp at hpos
  |cons _ _=>rfl
 have hr1:Rel P K Y st w1:=by rcases hw1 with rfl | rfl; exact hr; exact hr.drew
 have hb1:Bel K w w1:=by rcases hw1 with rfl | rfl; exact Bel.refl _ _; exact(Bel.refl _ _).drew
 have hh1:w1.heap=w.heap:=by rcases hw1 with rfl | rfl<;>rfl
 have hbk:fH P Y l' (.miter (some m) since (e.born::seen) clock) (some (.mapIter (some lm'.blk) since ((⟨seen.reverse⟩:Array Nat).push old'[j].born) clock)):=
  ⟨hvt,hbase,some lm'.blk,⟨lm',k1,rfl⟩,by simp[q2]⟩
 obtain⟨p1,p2⟩:=hr1.putObj hg rfl g1 hbk;refine⟨e,List.mem_of_getElem? q1, .tuple #[.bool true,old'[j].key,old'[j].val],_,?_,p1,⟨_,rfl,VRL.cons rfl (VRL.cons q3 (VRL.cons q4 VRL.nil))⟩,hb1.trans p2⟩;simp only[execOp,ho];refine b_ ?_;simp only[Instr.next,hx,hbase,Nat.zero_add];simp only[Sem.run_bind,fE g3 (by intros; simp),Result.andThen,MapKept.run_getObj_map k3];have hg2:(!(⟨seen.reverse⟩:Array Nat).isEmpty&&!es'.isEmpty&&es'.all (fun e=>decide (e.born>=last)))=false:=by simpa using hguard'
 simp only[hg2,Bool.false_eq_true,if_false,hL'];simp only[List.filter_toArray,hO,hnew3,List.append_toArray,List.append_nil,List.map_toArray,List.map_nil,List.isEmpty_toArray,hemp,List.nil_append,if_false,Bool.false_eq_true];have hsz:(⟨old'.map some⟩:Array (Option MapEntry)).size=old'.length:=by simp
 rw[hsz];rw[Sem.run_bind,hch];simp only[Result.andThen,List.getElem?_toArray,List.getElem?_map,hje,Option.map_some];rw[<-hh1]at g3;simp[jY g3 (by intros; simp)]
theorem zA{K:Prot}{Y:Env}{w:World}{st st':St}(hg:∀ i,st'.heap.get i=st.heap.get i)(hn:st'.next=st.next)(h:Rel P K Y st w):Rel P K Y st' w:=by
 refine⟨h.base,fun i l hi=>by rw[hn]; exact h.dom i l hi,fun i b hi=>h.blk i b (by rw[<-hg]; exact hi),fun i j bi bj li lj hi hbi hj=>h.inj i j bi bj li lj (by rw[<-hg]; exact hi) hbi (by rw[<-hg]; exact hj),fun i hi=>by rw[hn]; exact h.res i hi,h.nofz,fun k l hk=>?_,?_⟩
 ·obtain⟨f1,f2,f3⟩:=h.frz k l hk;exact⟨f1,f2,fun j bj lj hj=>f3 j bj lj (by rw[<-hg]; exact hj)⟩
 ·exact h.objs.step rfl (Env.le.refl _) (Nat.le_refl _) (fun _ _ _=>rfl) (fun i o=>by rw[hg]) (fun i k o l _ _ hk hK hf hj=>⟨rfl,hK,hf,fun j bj lj hj1=>hj j bj lj (by rw[<-hg]; exact hj1)⟩)
def iw(P:Program)(E:Eng)(ct:Ct)(n fid:Nat)(B:Code)(H:Head)(vs:List Value)(bs:List Blk)(k v:Value):Res:=
 match B with
 | .seq (.region _ ops false) rest=>match ops.toList with
  |o::os=>match o.dst with
   |some d=>xf P E ct (oI P E ct n n) H.nt none ops os (bW (path d) (mkS H.nt H.L vs) (.tuple ⟨[.bool true,k,v]⟩)) [] (mkSt bs) fun s d st=>oC P E ct n (oI P E ct n n) fid H.nt none rest s d st (CY H)
   |none=>none
  |[]=>none
 |_=>none
/-- A loop's first operation. -/
structure FirstNext(B:Code)(H:Head)(it:Operand):Prop where
 first:∃ id ops rest o os d,B = .seq (.region id ops false) rest/\ops.toList=o::os/\o.op = .next it false/\o.guard=none/\o.dst=some d/\d<H.nt
def Ci(B:Code)(H:Head):Option Tmp:=match B with
 | .seq (.region _ ops false) _=>match ops.toList with
  |o::_=>match o.op,o.guard,o.dst with
   | .next (.tmp t) false,none,some d=>match Nat.ble (d+1) H.nt with
    |true=>some t
    |false=>none
   |_,_,_=>none
  |[]=>none
 |_=>none
theorem FirstNext.of{B:Code}{H:Head}{t:Tmp}(h:Ci B H=some t):FirstNext B H (.tmp t):=by
 unfold Ci at h;split at h
 ·rename_i id ops rest;split at h
  ·rename_i o os hos;split at h
   ·rename_i t' d h1 h2 h3;split at h
    ·rename_i hb;obtain rfl:=Option.some.inj h;exact⟨id,ops,rest,o,os,d,rfl,hos,h1,h2,h3,Nat.le_of_ble_eq_true hb⟩
    ·cases h
   ·cases h
  ·cases h
 ·cases h
/-- What a map's iterator has in a memory. -/
structure IterAt(bs:List Blk)(r m since last clock:Nat)(seen:List Nat)(es:List MapEntry):Prop where
 it:bs[r]? = some (.miter (some m) since seen last)
 map:bs[m]? = some (.map es clock)
 new:es.all (fun e=>decide (e.born>=last))=false\/seen=[]
 old:∀ e∈es,e.born<since
 some:iW seen es≠[]
theorem Vb{E:Eng}(hE:EngOk P ct E)(hN:noNum P=true)(hct:CtOk P ct){n fid id:Nat}{B:Code}{H:Head}(hocc:Occ P fid (.block id (.loop B)))(hL:okL H=true){it:Operand}(hB:FirstNext B H it){vs:List Value}{bs:List Blk}{r m since last clock:Nat}{seen:List Nat}{es:List MapEntry}
  (hit:(H.fr vs).eval it = .pointer (some ⟨r,0,none⟩)) (hI:IterAt bs r m since last clock seen es) {ex:MapEntry->Ex} {vs1:MapEntry->List Value} {bs1:MapEntry->List Blk}
  (h:∀ e∈iW seen es,iw P E ct n fid B H vs (bs.set r (.miter (some m) since (e.born::seen) clock)) e.key e.val=some (.tuple ⟨exV (ex e)::vs1 e⟩,mkSt (bs1 e)))
  (K:Prot) (Y:Env) (w:World) (fr:Frame) (cs:List Frame) (k:List Item) (hid:∀ i,K.id i->i<H.N) (ht:fr.todo = .code B::k) (hfid:fr.fn=fid) (hf:FrR Y (H.fr vs) fr) (hr:Rel P K Y (mkSt bs) w) :
  ∃ e∈iW seen es,yC H.N P K Y fr cs w (ex e) k (H.fr (vs1 e)) (mkSt (bs1 e)):=by
 obtain⟨⟨rid,ops,rest,o,os,d,rfl,hops,ho,hg,hd,hdn⟩⟩:=hB;have g1:(mkSt bs).heap.get r=some (.miter (some m) since seen last):=by rw[dS]; exact hI.it
 have g2:(mkSt bs).heap.get m=some (.map es clock):=by rw[dS]; exact hI.map
 have s1:=Ua (P:=P) (cs:=cs) (w:=w) hf.mode ht;have s2:=FH (P:=P) (fr:={ fr with todo:= .code (.region rid ops false):: .code rest::k }) (cs:=cs) (w:=w) hf.mode rfl;have hsz:ops.size=os.length+1:=by have:=congrArg List.length hops; simpa using this
 have hrg:List.range ops.size=0::List.range' 1 os.length:=by rw[hsz,EH,List.range'_succ]
 have ho0:ops[0]? = some o:=by
  have:ops.toList[0]? = some o:=by rw[hops]; rfl
  simpa using this
 obtain⟨e,he,v',w1,a1,a2,a3,a4⟩:=YV (Z:=(H.fr vs).eval) (Z':=fr.eval) hr hf.eval ho hit g1 g2 hI.new hI.old hI.some;refine⟨e,he,?_⟩;have hq:=h e he;unfold iw at hq;simp only[hops,hd]at hq;have hw:Region.wanted o (yielded ops ({ fr with todo:= .inRegion ops (List.range ops.size):: .code rest::k }:Frame).tmps)=true:=
  uM (f:=H.fr vs) (Y:=Y) (fr:={ fr with todo:= .inRegion ops (List.range ops.size):: .code rest::k }) ⟨hf.slots,hf.defers,hf.round,hf.mode⟩ ops (by unfold jy; rw[hg])
 have s3:=nG (P:=P) (fr:={ fr with todo:= .inRegion ops (List.range ops.size):: .code rest::k }) (cs:=cs) (w:=w) (ops:=ops) (i:=0) (rest:=List.range' 1 os.length) (o:=o) (k:= .code rest::k) hf.mode (by rw[hrg]) ho0 hw (Or.inl (by have:=hf.round; exact this)) a1;have hput:(H.fr vs).put o.dst (.tuple #[.bool true,e.key,e.val])=some { H.fr vs with slots:=(H.fr vs).slots.set d (.tuple #[.bool true,e.key,e.val]) }:=by
  unfold Fr.put;rw[hd];exact if_pos hdn
 have hf3:=(FrR.put (o:=o) ⟨hf.slots,hf.defers,hf.round,hf.mode⟩ hput a3 (.inRegion ops (List.range' 1 os.length):: .code rest::k):FrR Y _ (kD fr o v' _))
 obtain⟨n1,s',d',st',b1,b2⟩:=wU hE (jc hE n n) os 1 _ _ _ _ _ (by
  intro j;have:ops.toList[j+1]? = os[j]?:=by rw[hops]; rfl
  rw[<-this,Nat.add_comm 1 j]; simp) hq
 obtain⟨n2,e2,s2',d2',st2',c1,c2⟩:=iY hE (jc hE n n) n fid H.nt none rest _ _ _ _ _ b2;have a2:Rel P K Y (mkSt (bs.set r (.miter (some m) since (e.born::seen) clock))) w1:=by
  have hlt:r<bs.length:=by
   have:=hI.it;rw[List.getElem?_eq_some_iff]at this;exact this.1
  refine zA (fun i=>?_) ?_ a2
  ·rw[dS,List.getElem?_set];simp only[Trie.get_set,dS];by_cases hi:r=i
   ·subst hi;rw[if_pos rfl,if_pos rfl,if_pos hlt]
   ·rw[if_neg hi,if_neg (fun e=>hi e.symm)]
  ·show(bs.set r _).length=bs.length;simp
 have hsp:bW (path d) (mkS H.nt H.L vs) (.tuple ⟨[.bool true,e.key,e.val]⟩)=(H.fr vs).slots.set d (.tuple #[.bool true,e.key,e.val]):=bU _ _ _;rw[hsp]at b1;have r1:=(eX hN hct n1 K).ops ops _ _ _ _ _ b1 Y w1 (kD fr o v' (.inRegion ops (List.range' 1 os.length):: .code rest::k)) cs (.code rest::k) rfl hf3 a2;have r2:=r1.andThen (e:=e2) (k2:=k) (f2:=⟨s2',H.nt,d2',none⟩) (st2:=st2') fun Y2 fr2 w2 t2 f2 q2 q3=>
  (eX hN hct n2 K).code fid rest _ _ _ _ _ c1 (hocc.sub (.block (.loop (.seqr (.refl _))))) Y2 w2 fr2 cs k t2 (f2.trans hfid) q2 q3
 obtain⟨Y1,fr1,w2,p1,p2,p3,p4,p5,p6,p7,p8,p9⟩:=r2;unfold CY at c2;split at c2
 ·split at c2
  ·rename_i rr hc;obtain⟨vs2,bs2⟩:=rr;simp only[Option.some.injEq,Prod.mk.injEq,Value.tuple.injEq,Array.mk.injEq,List.cons.injEq]at c2;obtain⟨⟨hee,rfl⟩,hst⟩:=c2;obtain rfl:=Df hee;obtain⟨Y2,z1,z2,z3⟩:=v_ hc p3 p5.slots hid (fun t ht=>by
    unfold okL at hL;exact Nat.le_of_ble_eq_true (List.all_eq_true.1 hL t ht))
   refine⟨Y2,fr1,w2, .head s1 (.head s2 (.head s3 p1)),(p2.leN _).trans z1,by rw[<-hst]; exact z2,a4.trans p4,⟨z3,by have:=p5.defers; unfold oH at this; rw[this]; rfl,by have:=p5.round; exact this,p5.mode⟩,p6,p7,p8,p9⟩
  ·cases c2
 ·cases c2
theorem LR.pick{E:Eng}(hE:EngOk P ct E)(hN:noNum P=true)(hct:CtOk P ct){n fid id:Nat}{B:Code}{H:Head}(hocc:Occ P fid (.block id (.loop B)))(hL:okL H=true){it:Operand}(hB:FirstNext B H it){vs:List Value}{bs:List Blk}{r m since last clock:Nat}{seen:List Nat}{es:List MapEntry}
  (hit:(H.fr vs).eval it = .pointer (some ⟨r,0,none⟩)) (hI:IterAt bs r m since last clock seen es) {ex:MapEntry->Ex} {vs1:MapEntry->List Value} {bs1:MapEntry->List Blk}
  (h:∀ e∈iW seen es,iw P E ct n fid B H vs (bs.set r (.miter (some m) since (e.born::seen) clock)) e.key e.val=some (.tuple ⟨exV (ex e)::vs1 e⟩,mkSt (bs1 e))) {x:Ex} {vs':List Value} {bs':List Blk}
  (hend:∀ e∈iW seen es,(ex e = .normal/\LR P fid id B H (vs1 e) (bs1 e) x vs' bs')\/(ex e≠ .normal/\lX id (ex e)=x/\vs1 e=vs'/\∀ K Y w,Rel P K Y (mkSt (bs1 e)) w->Rel P K Y (mkSt bs') w)):LR P fid id B H vs bs x vs' bs':=by
 intro K Y w fr cs k hid ht hfid hf hr;obtain⟨e,he,Y1,fr1,w1,a1,a2,a3,a4,a5,a6,a7,a8,a9⟩:=Vb hE hN hct hocc hL hB hit hI h K Y w fr cs _ hid ht hfid hf hr;rcases hend e he with⟨hx,hl⟩ | ⟨hx,rfl,rfl,hb⟩
 ·rw[hx]at a9;have a9:fr1.todo = .inLoop B:: .inBlock id::k:=a9;have hs:=yO (P:=P) (cs:=cs) (w:=w1) a5.mode a9;obtain⟨Y2,fr2,w2,b1,b2,b3,b4,b5,b6,b7,b8,b9⟩:=hl K Y1 w1 { fr1 with todo:= .code B:: .inLoop B:: .inBlock id::k } cs k hid rfl (a7.trans hfid) ⟨a5.slots,a5.defers,a5.round,a5.mode⟩ a3;exact⟨Y2,fr2,w2,a1.trans (.head hs b1),a2.trans b2,b3,a4.trans b4,b5,b6.trans a6,b7.trans a7,b8.trans a8,b9⟩
 ·have a3:=hb _ _ _ a3;have a9:=a9.under hx (fun i e=>by cases e);cases hex:ex e with
  |normal=>exact absurd hex hx
  |ret=>rw[hex]at a9; exact⟨Y1,fr1,w1,a1,a2,a3,a4,a5,a6,a7,a8,a9⟩
  |exit i=>
   rw[hex]at a9;obtain⟨k2,h1,h2⟩:=a9;cases hbq:Nat.beq i id with
   |true=>
    have hx2:lX id (.exit i) = .normal:=by simp only[lX,hbq]
    rw[hx2];have:=Nat.eq_of_beq_eq_true hbq;subst this;have hx:exitTo i k2=some k:=by rw[h2]; simp[exitTo]
    exact⟨Y1,{ fr1 with todo:=k },w1,a1.trans (.one (s_exit a5.mode h1 hx)),a2,a3,a4,a5.todo k,a6,a7,a8,rfl⟩
   |false=>
    have hx2:lX id (.exit i) = .exit i:=by simp only[lX,hbq]
    rw[hx2];have:=Nat.ne_of_beq_eq_false hbq;refine⟨Y1,fr1,w1,a1,a2,a3,a4,a5,a6,a7,a8,k2,h1,?_⟩;rw[h2];have:(id == i)=false:=by simp; exact fun ee=>this ee.symm
    simp[exitTo,this]
theorem N_{K:Prot}{Y:Env}{w:World}{bs:List Blk}(r:Nat)(hb:∀ b,bs[r]? = some b->b.isObj=false)(hr:Rel P K Y (mkSt bs) w):Rel P K Y (mkSt (bs.set r .dead)) w:=by
 have hget:∀ (i:Nat) b,(mkSt (bs.set r .dead)).heap.get i=some b->b.live=true->(mkSt bs).heap.get i=some b:=by
  intro i b hi hl;rw[dS]at hi ⊢;rw[List.getElem?_set]at hi;split at hi
  ·split at hi
   ·cases hi; cases hl
   ·cases hi
  ·exact hi
 refine⟨hr.base,fun i l hi=>?_,fun i b hi hl=>hr.blk i b (hget i b hi hl) hl,fun i j bi bj li lj hi hbi hj hbj=>hr.inj i j bi bj li lj (hget i bi hi hbi) hbi (hget j bj hj hbj) hbj,fun i hi=>?_,hr.nofz,fun k l hk=>?_,?_⟩
 ·have:=hr.dom i l hi;have e:(mkSt (bs.set r .dead)).next=(mkSt bs).next:=by show(bs.set r .dead).length=bs.length; simp
  rw[e]; exact this
 ·have:=hr.res i hi;have e:(mkSt (bs.set r .dead)).next=(mkSt bs).next:=by show(bs.set r .dead).length=bs.length; simp
  rw[e]; exact this
 ·obtain⟨f1,f2,f3⟩:=hr.frz k l hk;exact⟨f1,f2,fun j bj lj hj hbj=>f3 j bj lj (hget j bj hj hbj) hbj⟩
 ·refine hr.objs.step rfl (Env.le.refl _) (Nat.le_refl _) (fun _ _ _=>rfl) (fun i o=>⟨fun hi=>hget i _ hi rfl,fun hi=>?_⟩) (fun i k o l _ _ hk hK hf hj=>⟨rfl,hK,hf,fun j bj lj hj1 hj2=>hj j bj lj (hget j bj hj1 hj2) hj2⟩);rw[dS]at hi ⊢;rw[List.getElem?_set];split
  ·rename_i e;subst e;have:=hb _ hi;cases this
  ·exact hi
theorem aaZ{K:Prot}{Y:Env}{w:World}{bs:List Blk}{r:Nat}{c c':List Value}{e:TypeId}{x:Bool}(hb:bs[r]? = some (.cells c e x))(hl':c'.length=c.length)(hv:∀ Y l,VRL Y c l->VRL Y c' l)(hr:Rel P K Y (mkSt bs) w):Rel P K Y (mkSt (bs.set r (.cells c' e x))) w:=by
 have hlt:r<bs.length:=(List.getElem?_eq_some_iff.1 hb).1;have hget:∀ (i:Nat) b,(mkSt (bs.set r (.cells c' e x))).heap.get i=some b->∃ b0,(mkSt bs).heap.get i=some b0/\(b0=b\/(i=r/\b0 = .cells c e x/\b = .cells c' e x)):=by
  intro i b hi;rw[dS,List.getElem?_set]at hi;split at hi
  ·rename_i hir;subst hir;exact⟨_,by rw[dS]; exact hb,Or.inr ⟨rfl,rfl,(Option.some.inj hi).symm⟩⟩
  ·exact⟨b,by rw[dS]; exact hi,Or.inl rfl⟩
 have hlive:∀ (i:Nat) b,(mkSt (bs.set r (.cells c' e x))).heap.get i=some b->b.live=true->∃ b0,(mkSt bs).heap.get i=some b0/\b0.live=true/\(b0=b\/(b0 = .cells c e x/\b = .cells c' e x)):=by
  intro i b hi hl;obtain⟨b0,h1,h2 | ⟨_,h2,h3⟩⟩:=hget i b hi
  ·exact⟨b0,h1,by rw[h2]; exact hl,Or.inl h2⟩
  ·exact⟨b0,h1,by rw[h2]; rfl,Or.inr ⟨h2,h3⟩⟩
 have hnx:(mkSt (bs.set r (.cells c' e x))).next=(mkSt bs).next:=by show(bs.set r _).length=bs.length; simp
 refine⟨hr.base,fun i l hi=>by rw[hnx]; exact hr.dom i l hi,fun i b hi hl=>?_,fun i j bi bj li lj hi hbi hj hbj=>?_,fun i hi=>by rw[hnx]; exact hr.res i hi,hr.nofz,fun k l hk=>?_,?_⟩
 ·obtain⟨b0,h1,h2,h3⟩:=hlive i b hi hl;obtain⟨l,a1,a2,a3⟩:=hr.blk i b0 h1 h2;refine⟨l,a1,a2,?_⟩;rcases h3 with rfl | ⟨rfl,rfl⟩
  ·exact a3
  ·rcases a3 with⟨q1,q2,q3⟩ | ⟨q0,cc,f,q1,q2,q3,q4,q5,q6,q7⟩
   ·subst q2;exact Or.inl ⟨q1,List.length_eq_zero_iff.1 (by simpa using hl'),q3⟩
   ·exact Or.inr ⟨q0,cc,f,q1,q2,q3,by rw[hl']; exact q4,fun hx=>by rw[hl']; exact q5 hx,by rw[hl']; exact hv _ _ q6,q7⟩
 ·obtain⟨b0,h1,h2,_⟩:=hlive i bi hi hbi;obtain⟨b1,k1,k2,_⟩:=hlive j bj hj hbj;exact hr.inj i j b0 b1 li lj h1 h2 k1 k2
 ·obtain⟨f1,f2,f3⟩:=hr.frz k l hk;refine⟨f1,f2,fun j bj lj hj hbj=>?_⟩;obtain⟨b1,k1,k2,_⟩:=hlive j bj hj hbj;exact f3 j b1 lj k1 k2
 ·refine hr.objs.step rfl (Env.le.refl _) (Nat.le_refl _) (fun _ _ _=>rfl) (fun i o=>⟨fun hi=>?_,fun hi=>?_⟩) (fun i k o l _ _ hk hK hf hj=>⟨rfl,hK,hf,fun j bj lj hj1 hj2=>?_⟩)
  ·obtain⟨b0,h1,h2 | ⟨_,_,h3⟩⟩:=hget i _ hi
   ·rw[h2]at h1; exact h1
   ·cases h3
  ·rw[dS]at hi ⊢;rw[List.getElem?_set];split
   ·rename_i hir;subst hir;rw[hb]at hi; cases hi
   ·exact hi
  ·obtain⟨b1,k1,k2,_⟩:=hlive j bj hj1 hj2;exact hj j b1 lj k1 k2
def Lj(P:Program)(E:Eng)(ct:Ct)(n fid:Nat)(B:Code)(H:Head)(vs:List Value)(bs:List Blk):Res:=
 match B with
 | .seq (.region _ ops false) rest=>match ops.toList with
  |o::os=>match o.dst with
   |some d=>xf P E ct (oI P E ct n n) H.nt none ops os (bW (path d) (mkS H.nt H.L vs) (.tuple ⟨[.bool false]⟩)) [] (mkSt bs) fun s d st=>oC P E ct n (oI P E ct n n) fid H.nt none rest s d st (CY H)
   |none=>none
  |[]=>none
 |_=>none
theorem Vs{E:Eng}(hE:EngOk P ct E)(hN:noNum P=true)(hct:CtOk P ct){n fid id:Nat}{B:Code}{H:Head}(hocc:Occ P fid (.block id (.loop B)))(hL:okL H=true){it:Operand}(hB:FirstNext B H it){vs vs1:List Value}{bs bs1:List Blk}{r m since last clock:Nat}{seen:List Nat}{es:List MapEntry}{ex:Ex}
  (hit:(H.fr vs).eval it = .pointer (some ⟨r,0,none⟩)) (h1:bs[r]? = some (.miter (some m) since seen last)) (h2:bs[m]? = some (.map es clock)) (hnew:es.all (fun e=>decide (e.born>=last))=false\/seen=[]) (hleft:iW seen es=[])
  (h:Lj P E ct n fid B H vs bs=some (.tuple ⟨exV ex::vs1⟩,mkSt bs1))
  (K:Prot) (Y:Env) (w:World) (fr:Frame) (cs:List Frame) (k:List Item) (hid:∀ i,K.id i->i<H.N) (ht:fr.todo = .code B::k) (hfid:fr.fn=fid) (hf:FrR Y (H.fr vs) fr) (hr:Rel P K Y (mkSt bs) w) :
  yC H.N P K Y fr cs w ex k (H.fr vs1) (mkSt bs1):=by
 obtain⟨⟨rid,ops,rest,o,os,d,rfl,hops,ho,hg,hd,hdn⟩⟩:=hB;have g1:(mkSt bs).heap.get r=some (.miter (some m) since seen last):=by rw[dS]; exact h1
 have g2:(mkSt bs).heap.get m=some (.map es clock):=by rw[dS]; exact h2
 have s1:=Ua (P:=P) (cs:=cs) (w:=w) hf.mode ht;have s2:=FH (P:=P) (fr:={ fr with todo:= .code (.region rid ops false):: .code rest::k }) (cs:=cs) (w:=w) hf.mode rfl;have hsz:ops.size=os.length+1:=by have:=congrArg List.length hops; simpa using this
 have hrg:List.range ops.size=0::List.range' 1 os.length:=by rw[hsz,EH,List.range'_succ]
 have ho0:ops[0]? = some o:=by
  have:ops.toList[0]? = some o:=by rw[hops]; rfl
  simpa using this
 have hev:ay P (H.fr vs).eval o (mkSt bs)=some (.val (.tuple #[.bool false]) (mkSt bs)):=by
  have hgd:(!seen.isEmpty&&!es.isEmpty&&es.all (fun e=>decide (e.born>=last)))=false:=by
   rcases hnew with h | h
   ·rw[h,Bool.and_false]
   ·rw[h]; rfl
  simp only[ay,ho,hit,g1,g2];have hl:es.filter (fun e=>!seen.contains e.born)=[]:=hleft;rw[hgd,hl]
  rfl
 obtain⟨Y1,w1,v',a1,a2,a3,a4,a5⟩:=yf (Z:=(H.fr vs).eval) (Z':=fr.eval) hr hf.eval ho hev;unfold Lj at h;simp only[hops,hd]at h;have hw:Region.wanted o (yielded ops ({ fr with todo:= .inRegion ops (List.range ops.size):: .code rest::k }:Frame).tmps)=true:=
  uM (f:=H.fr vs) (Y:=Y) (fr:={ fr with todo:= .inRegion ops (List.range ops.size):: .code rest::k }) ⟨hf.slots,hf.defers,hf.round,hf.mode⟩ ops (by unfold jy; rw[hg])
 have s3:=nG (P:=P) (fr:={ fr with todo:= .inRegion ops (List.range ops.size):: .code rest::k }) (cs:=cs) (w:=w) (ops:=ops) (i:=0) (rest:=List.range' 1 os.length) (o:=o) (k:= .code rest::k) hf.mode (by rw[hrg]) ho0 hw (Or.inl (by have:=hf.round; exact this)) a1;have hput:(H.fr vs).put o.dst (.tuple #[.bool false])=some { H.fr vs with slots:=(H.fr vs).slots.set d (.tuple #[.bool false]) }:=by
  unfold Fr.put;rw[hd];exact if_pos hdn
 have hf3:=(FrR.put (o:=o) (FrR.mono a2 ⟨hf.slots,hf.defers,hf.round,hf.mode⟩) hput a4 (.inRegion ops (List.range' 1 os.length):: .code rest::k):FrR Y1 _ (kD fr o v' _))
 obtain⟨n1,s',d',st',b1,b2⟩:=wU hE (jc hE n n) os 1 _ _ _ _ _ (by
  intro j;have:ops.toList[j+1]? = os[j]?:=by rw[hops]; rfl
  rw[<-this,Nat.add_comm 1 j]; simp) h
 obtain⟨n2,e2,s2',d2',st2',c1,c2⟩:=iY hE (jc hE n n) n fid H.nt none rest _ _ _ _ _ b2;have hsp:bW (path d) (mkS H.nt H.L vs) (.tuple ⟨[.bool false]⟩)=(H.fr vs).slots.set d (.tuple #[.bool false]):=bU _ _ _;rw[hsp]at b1;have r1:=(eX hN hct n1 K).ops ops _ _ _ _ _ b1 Y1 w1 (kD fr o v' (.inRegion ops (List.range' 1 os.length):: .code rest::k)) cs (.code rest::k) rfl hf3 a3;have r2:=r1.andThen (e:=e2) (k2:=k) (f2:=⟨s2',H.nt,d2',none⟩) (st2:=st2') fun Y2 fr2 w2 t2 f2 q2 q3=>
  (eX hN hct n2 K).code fid rest _ _ _ _ _ c1 (hocc.sub (.block (.loop (.seqr (.refl _))))) Y2 w2 fr2 cs k t2 (f2.trans hfid) q2 q3
 obtain⟨Y2,fr1,w2,p1,p2,p3,p4,p5,p6,p7,p8,p9⟩:=r2;unfold CY at c2;split at c2
 ·split at c2
  ·rename_i rr hc;obtain⟨vs2,bs2⟩:=rr;simp only[Option.some.injEq,Prod.mk.injEq,Value.tuple.injEq,Array.mk.injEq,List.cons.injEq]at c2;obtain⟨⟨hee,rfl⟩,hst⟩:=c2;obtain rfl:=Df hee;obtain⟨Y3,z1,z2,z3⟩:=v_ hc p3 p5.slots hid (fun t ht=>by
    unfold okL at hL;exact Nat.le_of_ble_eq_true (List.all_eq_true.1 hL t ht))
   refine⟨Y3,fr1,w2, .head s1 (.head s2 (.head s3 p1)),((a2.trans p2).leN _).trans z1,by rw[<-hst]; exact z2,a5.trans p4,⟨z3,by have:=p5.defers; unfold oH at this; rw[this]; rfl,by have:=p5.round; exact this,p5.mode⟩,p6,p7,p8,p9⟩
  ·cases c2
 ·cases c2
theorem LR.over{E:Eng}(hE:EngOk P ct E)(hN:noNum P=true)(hct:CtOk P ct){n fid id:Nat}{B:Code}{H:Head}(hocc:Occ P fid (.block id (.loop B)))(hL:okL H=true){it:Operand}(hB:FirstNext B H it){vs vs1:List Value}{bs bs1 bs':List Blk}{r m since last clock:Nat}{seen:List Nat}{es:List MapEntry}{j:Nat}
  (hit:(H.fr vs).eval it = .pointer (some ⟨r,0,none⟩)) (h1:bs[r]? = some (.miter (some m) since seen last)) (h2:bs[m]? = some (.map es clock)) (hnew:es.all (fun e=>decide (e.born>=last))=false\/seen=[]) (hleft:iW seen es=[])
  (h:Lj P E ct n fid B H vs bs=some (.tuple ⟨exV (.exit j)::vs1⟩,mkSt bs1)) (hj:Nat.beq j id=true) (hb:∀ K Y w,Rel P K Y (mkSt bs1) w->Rel P K Y (mkSt bs') w):LR P fid id B H vs bs .normal vs1 bs':=by
 intro K Y w fr cs k hid ht hfid hf hr;obtain⟨Y1,fr1,w1,a1,a2,a3,a4,a5,a6,a7,a8,a9⟩:=Vs hE hN hct hocc hL hB hit h1 h2 hnew hleft h K Y w fr cs _ hid ht hfid hf hr;have a9:=a9.under (by intro h; cases h) (fun i e=>by cases e);obtain⟨k2,q1,q2⟩:=a9;obtain rfl:=Nat.eq_of_beq_eq_true hj;have hx:exitTo j k2=some k:=by rw[q2]; simp[exitTo]
 exact⟨Y1,{ fr1 with todo:=k },w1,a1.trans (.one (s_exit a5.mode q1 hx)),a2,hb _ _ _ a3,a4,a5.todo k,a6,a7,a8,rfl⟩
theorem Mc{U:Type}(k:Con U){fid id:Nat}{B:Code}{H:Head}(hocc:∀ c,Occ P fid (.block id c)->c = .loop B)(hL:okL H=true){s:U}{t:DT (Ex×List Value×List Blk)}
  (h:∀ e vs' bs',t.eval=some (e,vs',bs')->LR P fid id B H (k.enc s).1 (k.enc s).2 e vs' bs'):LoopOk P fid id B H (iD (k.at s) t) where
 occ:=hocc
 ok:=hL
 run:=by
  intro vs bs t' hR e vs' bs' hev;unfold iD at hR;obtain rfl:=Option.some.inj hR;cases hc:k.at s vs bs with
  |false=>rw[hc]at hev; cases hev
  |true=>
   rw[hc]at hev;have hev:t.eval=some (e,vs',bs'):=hev;have:=h e vs' bs' hev;rwa [k.at_of hc]at this
end
end Go.VS
end

noncomputable section
namespace Go.VS.Tryz
open Go.VS
set_option maxRecDepth 1000000
def j_(NC NO:ByteArray->Int->Bool)(NV:ByteArray->Int)(KC KO:ByteArray->Bool)(KV:ByteArray->ByteArray)(OC:List Value->List Blk->Bool)(ov:Value)(ob:Bool):Ct:=
 bJ P aJ 0 42 (iL OC (.leaf (.tuple ⟨[ov, .bool ob]⟩,[]))) (bH P 41 (Lt KC KO KV) (bH P 40 (U0 NC NO NV) ctF))
def Hli:Head:=⟨3,53,[0,2,3,4,5,30],[]⟩
def Bli:Code:=(bK P 6 0).getD .skip
theorem Ws:bK P 6 0=some Bli:=by kernel_rfl
theorem Q4:Occ P 6 (.block 0 (.loop Bli)):=dA Ws
theorem JR:Ci Bli Hli=some 30:=by kernel_rfl
def fC(w s:ByteArray):Value:= .agg ⟨[.string w, .string s]⟩
def liV(s:ByteArray)(n b:Nat)(c:List Value):List Value:=[.string s, .pointer (some ⟨0,0,none⟩), .bool false, .int .i64 0,ai 1 n b c, .pointer (some ⟨2,0,none⟩)]
def liB(a:List Value)(m i:Blk):List Blk:=[.cells a 24 true,m,i]
def dI:List Value:=[.int .i64 0, .int .i64 0, .int .i64 0, .int .i64 0, .string ⟨#[]⟩, .slice none 0 0]
def aC:List MapEntry:=[⟨.int .i64 1,fC ⟨#[99,111,109,109,105,116]⟩ ⟨#[110,111]⟩,0⟩,⟨.int .i64 2,fC ⟨#[114,101,97,100]⟩ ⟨#[110,107]⟩,1⟩,⟨.int .i64 3,fC ⟨#[116,105,99,107]⟩ ⟨#[110]⟩,2⟩,⟨.int .i64 4,fC ⟨#[112,114,111,109,111,116,101]⟩ ⟨#[110]⟩,3⟩,⟨.int .i64 5,fC ⟨#[102,108,117,115,104]⟩ ⟨#[110]⟩,4⟩,⟨.int .i64 6,fC ⟨#[100,101,108,105,118,101,114]⟩ ⟨#[97]⟩,5⟩,⟨.int .i64 7,fC ⟨#[116,119,105,99,101]⟩ ⟨#[97]⟩,6⟩,⟨.int .i64 8,fC ⟨#[100,114,111,112]⟩ ⟨#[97]⟩,7⟩,⟨.int .i64 9,fC ⟨#[102,117,115,101]⟩ ⟨#[110,97]⟩,8⟩,⟨.int .i64 10,fC ⟨#[112,117,108,108]⟩ ⟨#[110]⟩,9⟩,⟨.int .i64 11,fC ⟨#[115,116,97,114,116]⟩ ⟨#[110,97,116]⟩,10⟩,⟨.int .i64 12,fC ⟨#[114,111,117,110,100]⟩ ⟨#[]⟩,11⟩]
theorem acJ(NC NO:ByteArray->Int->Bool)(NV:ByteArray->Int)(KC KO:ByteArray->Bool)(KV:ByteArray->ByteArray)(OC:List Value->List Blk->Bool)(on:Nat)(oc:List Value)(ob:Bool)(s:ByteArray)(n b:Nat)(c:List Value)(se:List Nat):iw P E (j_ NC NO NV KC KO KV OC (ai 3 on 0 oc) ob) 50 6 Bli Hli (liV s n b c) (liB dI (.map aC 12) (.miter (some 1) 12 (0::se) 12)) (.int .i64 1) (fC ⟨#[99,111,109,109,105,116]⟩ ⟨#[110,111]⟩) =
 (ae (Bool.and (Nat.beq 1 1) (inI 0 n))
 (ae (Bool.and (Nat.ble 1 c.length) (dw .string (ah c 0)))
 (ag (eqS ⟨#[99,111,109,109,105,116]⟩ (asS (ah c 0)))
 (ae (Bool.and (Nat.beq 1 1) (eP 1 (af n) n))
 (ag (dN (ltI 0 (af (aX 1 (af n)))))
 (some ((.tuple ⟨[.int .i64 0,.string s,.pointer (Option.some (Addr.mk 0 0 none)),.bool false,.int .i64 0,.iface 18446744073709551617 (.agg ⟨(.slice none n b)::c⟩),.pointer (Option.some (Addr.mk 2 0 none))]⟩),(mkSt [Blk.cells [.int .i64 0,.int .i64 0,.int .i64 0,.int .i64 0,.string ⟨#[]⟩,.slice none 0 0] 24 true,Blk.map aC 12,Blk.miter (Option.some 1) 12 (0::se) 12])))
 (ae (Bool.and (Nat.beq 1 1) (inI 0 (aX 1 (af n))))
 (ae (Bool.and (Nat.ble 1 (List.length (takeC (Nat.mul (aX 1 (af n)) 1) (ak 1 c)))) (dw .string (ah (takeC (Nat.mul (aX 1 (af n)) 1) (ak 1 c)) 0)))
 (ae (NC (asS (ah (takeC (Nat.mul (aX 1 (af n)) 1) (ak 1 c)) 0)) 1)
 (ag (NO (asS (ah (takeC (Nat.mul (aX 1 (af n)) 1) (ak 1 c)) 0)) 1)
 (ag (dN (ltI 1 (af (aX 1 (af n)))))
 (some ((.tuple ⟨[.int .i64 0,.string s,.pointer (Option.some (Addr.mk 0 0 none)),.bool false,.int .i64 0,.iface 18446744073709551617 (.agg ⟨(.slice none n b)::c⟩),.pointer (Option.some (Addr.mk 2 0 none))]⟩),(mkSt [Blk.cells [.int .i64 0,.int .i64 0,.int .i64 0,.int .i64 0,.string ⟨#[]⟩,.slice none 0 0] 24 true,Blk.map aC 12,Blk.miter (Option.some 1) 12 (0::se) 12])))
 (ae (Bool.and (Nat.beq 1 1) (eP 1 (af (aX 1 (af n))) (aX 1 (af n))))
 (ae (OC [.iface 18446744073709551617 (.agg ⟨(.slice none (aX 1 (af (aX 1 (af n)))) (ul (ul b 1) 1))::(takeC (Nat.mul (aX 1 (af (aX 1 (af n)))) 1) (ak 1 (takeC (Nat.mul (aX 1 (af n)) 1) (ak 1 c))))⟩)] [])
 (ae (Bool.and (Nat.beq 1 1) (eP 0 2 (aX 1 (af n))))
 (ag (dN ob)
 (some ((.tuple ⟨[.int .i64 0,.string s,.pointer (Option.some (Addr.mk 0 0 none)),.bool false,.int .i64 0,.iface 18446744073709551617 (.agg ⟨(.slice none n b)::c⟩),.pointer (Option.some (Addr.mk 2 0 none))]⟩),(mkSt [Blk.cells [.int .i64 0,.int .i64 0,.int .i64 0,.int .i64 0,.string ⟨#[]⟩,.slice none 0 0] 24 true,Blk.map aC 12,Blk.miter (Option.some 1) 12 (0::se) 12])))
 (some ((.tuple ⟨[.int .i64 (-1),.string s,.pointer (Option.some (Addr.mk 0 0 none)),.bool true,.int .i64 0,.iface 18446744073709551617 (.agg ⟨(.slice none n b)::c⟩),.pointer (Option.some (Addr.mk 2 0 none))]⟩),(mkSt [Blk.cells [.int .i64 1,.int .i64 (NV (asS (ah (takeC (Nat.mul (aX 1 (af n)) 1) (ak 1 c)) 0))),.int .i64 0,.int .i64 0,.string ⟨#[]⟩,.iface 18446744073709551619 (.agg ⟨(.slice none on 0)::oc⟩)] 24 true,Blk.map aC 12,Blk.miter (Option.some 1) 12 (0::se) 12]))))))))
 (some ((.tuple ⟨[.int .i64 0,.string s,.pointer (Option.some (Addr.mk 0 0 none)),.bool false,.int .i64 0,.iface 18446744073709551617 (.agg ⟨(.slice none n b)::c⟩),.pointer (Option.some (Addr.mk 2 0 none))]⟩),(mkSt [Blk.cells [.int .i64 0,.int .i64 0,.int .i64 0,.int .i64 0,.string ⟨#[]⟩,.slice none 0 0] 24 true,Blk.map aC 12,Blk.miter (Option.some 1) 12 (0::se) 12])))))))))
 (some ((.tuple ⟨[.int .i64 0,.string s,.pointer (Option.some (Addr.mk 0 0 none)),.bool false,.int .i64 0,.iface 18446744073709551617 (.agg ⟨(.slice none n b)::c⟩),.pointer (Option.some (Addr.mk 2 0 none))]⟩),(mkSt [Blk.cells [.int .i64 0,.int .i64 0,.int .i64 0,.int .i64 0,.string ⟨#[]⟩,.slice none 0 0] 24 true,Blk.map aC 12,Blk.miter (Option.some 1) 12 (0::se) 12])))))):=by kernel_rfl
theorem adm(NC NO:ByteArray->Int->Bool)(NV:ByteArray->Int)(KC KO:ByteArray->Bool)(KV:ByteArray->ByteArray)(OC:List Value->List Blk->Bool)(on:Nat)(oc:List Value)(ob:Bool)(s:ByteArray)(n b:Nat)(c:List Value)(se:List Nat):iw P E (j_ NC NO NV KC KO KV OC (ai 3 on 0 oc) ob) 50 6 Bli Hli (liV s n b c) (liB dI (.map aC 12) (.miter (some 1) 12 (1::se) 12)) (.int .i64 2) (fC ⟨#[114,101,97,100]⟩ ⟨#[110,107]⟩) =
 (ae (Bool.and (Nat.beq 1 1) (inI 0 n))
 (ae (Bool.and (Nat.ble 1 c.length) (dw .string (ah c 0)))
 (ag (eqS ⟨#[114,101,97,100]⟩ (asS (ah c 0)))
 (ae (Bool.and (Nat.beq 1 1) (eP 1 (af n) n))
 (ag (dN (ltI 0 (af (aX 1 (af n)))))
 (some ((.tuple ⟨[.int .i64 0,.string s,.pointer (Option.some (Addr.mk 0 0 none)),.bool false,.int .i64 0,.iface 18446744073709551617 (.agg ⟨(.slice none n b)::c⟩),.pointer (Option.some (Addr.mk 2 0 none))]⟩),(mkSt [Blk.cells [.int .i64 0,.int .i64 0,.int .i64 0,.int .i64 0,.string ⟨#[]⟩,.slice none 0 0] 24 true,Blk.map aC 12,Blk.miter (Option.some 1) 12 (1::se) 12])))
 (ae (Bool.and (Nat.beq 1 1) (inI 0 (aX 1 (af n))))
 (ae (Bool.and (Nat.ble 1 (List.length (takeC (Nat.mul (aX 1 (af n)) 1) (ak 1 c)))) (dw .string (ah (takeC (Nat.mul (aX 1 (af n)) 1) (ak 1 c)) 0)))
 (ae (NC (asS (ah (takeC (Nat.mul (aX 1 (af n)) 1) (ak 1 c)) 0)) 1)
 (ag (NO (asS (ah (takeC (Nat.mul (aX 1 (af n)) 1) (ak 1 c)) 0)) 1)
 (ag (dN (ltI 1 (af (aX 1 (af n)))))
 (some ((.tuple ⟨[.int .i64 0,.string s,.pointer (Option.some (Addr.mk 0 0 none)),.bool false,.int .i64 0,.iface 18446744073709551617 (.agg ⟨(.slice none n b)::c⟩),.pointer (Option.some (Addr.mk 2 0 none))]⟩),(mkSt [Blk.cells [.int .i64 0,.int .i64 0,.int .i64 0,.int .i64 0,.string ⟨#[]⟩,.slice none 0 0] 24 true,Blk.map aC 12,Blk.miter (Option.some 1) 12 (1::se) 12])))
 (ae (Bool.and (Nat.beq 1 1) (inI 1 (aX 1 (af n))))
 (ae (Bool.and (Nat.ble 2 (List.length (takeC (Nat.mul (aX 1 (af n)) 1) (ak 1 c)))) (dw .string (ah (takeC (Nat.mul (aX 1 (af n)) 1) (ak 1 c)) 1)))
 (ae (KC (asS (ah (takeC (Nat.mul (aX 1 (af n)) 1) (ak 1 c)) 1)))
 (ag (dN (KO (asS (ah (takeC (Nat.mul (aX 1 (af n)) 1) (ak 1 c)) 1))))
 (some ((.tuple ⟨[.int .i64 0,.string s,.pointer (Option.some (Addr.mk 0 0 none)),.bool false,.int .i64 0,.iface 18446744073709551617 (.agg ⟨(.slice none n b)::c⟩),.pointer (Option.some (Addr.mk 2 0 none))]⟩),(mkSt [Blk.cells [.int .i64 0,.int .i64 0,.int .i64 0,.int .i64 0,.string ⟨#[]⟩,.slice none 0 0] 24 true,Blk.map aC 12,Blk.miter (Option.some 1) 12 (1::se) 12])))
 (ag (eqI (af (aX 1 (af n))) 2)
 (some ((.tuple ⟨[.int .i64 (-1),.string s,.pointer (Option.some (Addr.mk 0 0 none)),.bool true,.int .i64 0,.iface 18446744073709551617 (.agg ⟨(.slice none n b)::c⟩),.pointer (Option.some (Addr.mk 2 0 none))]⟩),(mkSt [Blk.cells [.int .i64 2,.int .i64 (NV (asS (ah (takeC (Nat.mul (aX 1 (af n)) 1) (ak 1 c)) 0))),.int .i64 0,.int .i64 0,.string (KV (asS (ah (takeC (Nat.mul (aX 1 (af n)) 1) (ak 1 c)) 1))),.slice none 0 0] 24 true,Blk.map aC 12,Blk.miter (Option.some 1) 12 (1::se) 12])))
 (some ((.tuple ⟨[.int .i64 0,.string s,.pointer (Option.some (Addr.mk 0 0 none)),.bool false,.int .i64 0,.iface 18446744073709551617 (.agg ⟨(.slice none n b)::c⟩),.pointer (Option.some (Addr.mk 2 0 none))]⟩),(mkSt [Blk.cells [.int .i64 0,.int .i64 0,.int .i64 0,.int .i64 0,.string ⟨#[]⟩,.slice none 0 0] 24 true,Blk.map aC 12,Blk.miter (Option.some 1) 12 (1::se) 12])))))))))
 (some ((.tuple ⟨[.int .i64 0,.string s,.pointer (Option.some (Addr.mk 0 0 none)),.bool false,.int .i64 0,.iface 18446744073709551617 (.agg ⟨(.slice none n b)::c⟩),.pointer (Option.some (Addr.mk 2 0 none))]⟩),(mkSt [Blk.cells [.int .i64 0,.int .i64 0,.int .i64 0,.int .i64 0,.string ⟨#[]⟩,.slice none 0 0] 24 true,Blk.map aC 12,Blk.miter (Option.some 1) 12 (1::se) 12])))))))))
 (some ((.tuple ⟨[.int .i64 0,.string s,.pointer (Option.some (Addr.mk 0 0 none)),.bool false,.int .i64 0,.iface 18446744073709551617 (.agg ⟨(.slice none n b)::c⟩),.pointer (Option.some (Addr.mk 2 0 none))]⟩),(mkSt [Blk.cells [.int .i64 0,.int .i64 0,.int .i64 0,.int .i64 0,.string ⟨#[]⟩,.slice none 0 0] 24 true,Blk.map aC 12,Blk.miter (Option.some 1) 12 (1::se) 12])))))):=by kernel_rfl
def Dj(NC NO:ByteArray->Int->Bool)(NV:ByteArray->Int)(KC KO:ByteArray->Bool)(KV:ByteArray->ByteArray)(OC:List Value->List Blk->Bool)(on:Nat)(oc:List Value)(ob:Bool)(s:ByteArray)(n b:Nat)(c:List Value)(se:List Nat)(W:ByteArray)(kd:Int)(sq:List Nat):Res:=
 (ae (Bool.and (Nat.beq 1 1) (inI (0:Int) n))
 (ae (Bool.and (Nat.ble 1 (List.length c)) (dw Eta.string (ah c 0)))
 (ag (eqS W (asS (ah c 0)))
 (ae (Bool.and (Nat.beq 1 1) (eP (1:Int) (af n) n))
 (ag (dN (ltI (0:Int) (af (aX (1:Int) (af n)))))
 (some ((Value.tuple (Array.mk [(Value.int IntKind.i64 (0:Int)),(Value.string s),(Value.pointer (Option.some (Addr.mk 0 0 none))),(Value.bool Bool.false),(Value.int IntKind.i64 (0:Int)),(Value.iface 18446744073709551617 (Value.agg (Array.mk ((Value.slice none n b)::c)))),(Value.pointer (Option.some (Addr.mk 2 0 none)))])),(mkSt [(Blk.cells [(Value.int IntKind.i64 (0:Int)),(Value.int IntKind.i64 (0:Int)),(Value.int IntKind.i64 (0:Int)),(Value.int IntKind.i64 (0:Int)),(Value.string (ByteArray.mk #[])),(Value.slice none 0 0)] 24 Bool.true),(Blk.map aC 12),(Blk.miter (Option.some 1) 12 sq 12)])))
 (ae (Bool.and (Nat.beq 1 1) (inI (0:Int) (aX (1:Int) (af n))))
 (ae (Bool.and (Nat.ble 1 (List.length (takeC (Nat.mul (aX (1:Int) (af n)) 1) (ak 1 c)))) (dw Eta.string (ah (takeC (Nat.mul (aX (1:Int) (af n)) 1) (ak 1 c)) 0)))
 (ae (NC (asS (ah (takeC (Nat.mul (aX (1:Int) (af n)) 1) (ak 1 c)) 0)) (1:Int))
 (ag (NO (asS (ah (takeC (Nat.mul (aX (1:Int) (af n)) 1) (ak 1 c)) 0)) (1:Int))
 (ag (eqI (af (aX (1:Int) (af n))) (1:Int))
 (some ((Value.tuple (Array.mk [(Value.int IntKind.i64 (-1:Int)),(Value.string s),(Value.pointer (Option.some (Addr.mk 0 0 none))),(Value.bool Bool.true),(Value.int IntKind.i64 (0:Int)),(Value.iface 18446744073709551617 (Value.agg (Array.mk ((Value.slice none n b)::c)))),(Value.pointer (Option.some (Addr.mk 2 0 none)))])),(mkSt [(Blk.cells [(Value.int IntKind.i64 kd),(Value.int IntKind.i64 (NV (asS (ah (takeC (Nat.mul (aX (1:Int) (af n)) 1) (ak 1 c)) 0)))),(Value.int IntKind.i64 (0:Int)),(Value.int IntKind.i64 (0:Int)),(Value.string (ByteArray.mk #[])),(Value.slice none 0 0)] 24 Bool.true),(Blk.map aC 12),(Blk.miter (Option.some 1) 12 sq 12)])))
 (some ((Value.tuple (Array.mk [(Value.int IntKind.i64 (0:Int)),(Value.string s),(Value.pointer (Option.some (Addr.mk 0 0 none))),(Value.bool Bool.false),(Value.int IntKind.i64 (0:Int)),(Value.iface 18446744073709551617 (Value.agg (Array.mk ((Value.slice none n b)::c)))),(Value.pointer (Option.some (Addr.mk 2 0 none)))])),(mkSt [(Blk.cells [(Value.int IntKind.i64 (0:Int)),(Value.int IntKind.i64 (0:Int)),(Value.int IntKind.i64 (0:Int)),(Value.int IntKind.i64 (0:Int)),(Value.string (ByteArray.mk #[])),(Value.slice none 0 0)] 24 Bool.true),(Blk.map aC 12),(Blk.miter (Option.some 1) 12 sq 12)]))))
 (some ((Value.tuple (Array.mk [(Value.int IntKind.i64 (0:Int)),(Value.string s),(Value.pointer (Option.some (Addr.mk 0 0 none))),(Value.bool Bool.false),(Value.int IntKind.i64 (0:Int)),(Value.iface 18446744073709551617 (Value.agg (Array.mk ((Value.slice none n b)::c)))),(Value.pointer (Option.some (Addr.mk 2 0 none)))])),(mkSt [(Blk.cells [(Value.int IntKind.i64 (0:Int)),(Value.int IntKind.i64 (0:Int)),(Value.int IntKind.i64 (0:Int)),(Value.int IntKind.i64 (0:Int)),(Value.string (ByteArray.mk #[])),(Value.slice none 0 0)] 24 Bool.true),(Blk.map aC 12),(Blk.miter (Option.some 1) 12 sq 12)])))))))))
 (some ((Value.tuple (Array.mk [(Value.int IntKind.i64 (0:Int)),(Value.string s),(Value.pointer (Option.some (Addr.mk 0 0 none))),(Value.bool Bool.false),(Value.int IntKind.i64 (0:Int)),(Value.iface 18446744073709551617 (Value.agg (Array.mk ((Value.slice none n b)::c)))),(Value.pointer (Option.some (Addr.mk 2 0 none)))])),(mkSt [(Blk.cells [(Value.int IntKind.i64 (0:Int)),(Value.int IntKind.i64 (0:Int)),(Value.int IntKind.i64 (0:Int)),(Value.int IntKind.i64 (0:Int)),(Value.string (ByteArray.mk #[])),(Value.slice none 0 0)] 24 Bool.true),(Blk.map aC 12),(Blk.miter (Option.some 1) 12 sq 12)]))))))
theorem acN(NC NO:ByteArray->Int->Bool)(NV:ByteArray->Int)(KC KO:ByteArray->Bool)(KV:ByteArray->ByteArray)(OC:List Value->List Blk->Bool)(on:Nat)(oc:List Value)(ob:Bool)(s:ByteArray)(n b:Nat)(c:List Value)(se:List Nat):iw P E (j_ NC NO NV KC KO KV OC (ai 3 on 0 oc) ob) 50 6 Bli Hli (liV s n b c) (liB dI (.map aC 12) (.miter (some 1) 12 (2::se) 12)) (.int .i64 3) (fC ⟨#[116,105,99,107]⟩ ⟨#[110]⟩)=Dj NC NO NV KC KO KV OC on oc ob s n b c se (ByteArray.mk #[116,105,99,107]) (3:Int) (2::se):=by kernel_rfl
theorem acf(NC NO:ByteArray->Int->Bool)(NV:ByteArray->Int)(KC KO:ByteArray->Bool)(KV:ByteArray->ByteArray)(OC:List Value->List Blk->Bool)(on:Nat)(oc:List Value)(ob:Bool)(s:ByteArray)(n b:Nat)(c:List Value)(se:List Nat):iw P E (j_ NC NO NV KC KO KV OC (ai 3 on 0 oc) ob) 50 6 Bli Hli (liV s n b c) (liB dI (.map aC 12) (.miter (some 1) 12 (3::se) 12)) (.int .i64 4) (fC ⟨#[112,114,111,109,111,116,101]⟩ ⟨#[110]⟩)=Dj NC NO NV KC KO KV OC on oc ob s n b c se (ByteArray.mk #[112,114,111,109,111,116,101]) 4 (3::se):=by kernel_rfl
theorem ace(NC NO:ByteArray->Int->Bool)(NV:ByteArray->Int)(KC KO:ByteArray->Bool)(KV:ByteArray->ByteArray)(OC:List Value->List Blk->Bool)(on:Nat)(oc:List Value)(ob:Bool)(s:ByteArray)(n b:Nat)(c:List Value)(se:List Nat):iw P E (j_ NC NO NV KC KO KV OC (ai 3 on 0 oc) ob) 50 6 Bli Hli (liV s n b c) (liB dI (.map aC 12) (.miter (some 1) 12 (4::se) 12)) (.int .i64 5) (fC ⟨#[102,108,117,115,104]⟩ ⟨#[110]⟩)=Dj NC NO NV KC KO KV OC on oc ob s n b c se (ByteArray.mk #[102,108,117,115,104]) 5 (4::se):=by kernel_rfl
def Gt(NC NO:ByteArray->Int->Bool)(NV:ByteArray->Int)(KC KO:ByteArray->Bool)(KV:ByteArray->ByteArray)(OC:List Value->List Blk->Bool)(on:Nat)(oc:List Value)(ob:Bool)(s:ByteArray)(n b:Nat)(c:List Value)(se:List Nat)(W:ByteArray)(kd:Int)(sq:List Nat):Res:=
 (ae (Bool.and (Nat.beq 1 1) (inI (0:Int) n))
 (ae (Bool.and (Nat.ble 1 (List.length c)) (dw Eta.string (ah c 0)))
 (ag (eqS W (asS (ah c 0)))
 (ae (Bool.and (Nat.beq 1 1) (eP (1:Int) (af n) n))
 (ag (dN (ltI (0:Int) (af (aX (1:Int) (af n)))))
 (some ((Value.tuple (Array.mk [(Value.int IntKind.i64 (0:Int)),(Value.string s),(Value.pointer (Option.some (Addr.mk 0 0 none))),(Value.bool Bool.false),(Value.int IntKind.i64 (0:Int)),(Value.iface 18446744073709551617 (Value.agg (Array.mk ((Value.slice none n b)::c)))),(Value.pointer (Option.some (Addr.mk 2 0 none)))])),(mkSt [(Blk.cells [(Value.int IntKind.i64 (0:Int)),(Value.int IntKind.i64 (0:Int)),(Value.int IntKind.i64 (0:Int)),(Value.int IntKind.i64 (0:Int)),(Value.string (ByteArray.mk #[])),(Value.slice none 0 0)] 24 Bool.true),(Blk.map aC 12),(Blk.miter (Option.some 1) 12 sq 12)])))
 (ae (Bool.and (Nat.beq 1 1) (inI (0:Int) (aX (1:Int) (af n))))
 (ae (Bool.and (Nat.ble 1 (List.length (takeC (Nat.mul (aX (1:Int) (af n)) 1) (ak 1 c)))) (dw Eta.string (ah (takeC (Nat.mul (aX (1:Int) (af n)) 1) (ak 1 c)) 0)))
 (ae (NC (asS (ah (takeC (Nat.mul (aX (1:Int) (af n)) 1) (ak 1 c)) 0)) (999999999:Int))
 (ag (NO (asS (ah (takeC (Nat.mul (aX (1:Int) (af n)) 1) (ak 1 c)) 0)) (999999999:Int))
 (ag (eqI (af (aX (1:Int) (af n))) (1:Int))
 (some ((Value.tuple (Array.mk [(Value.int IntKind.i64 (-1:Int)),(Value.string s),(Value.pointer (Option.some (Addr.mk 0 0 none))),(Value.bool Bool.true),(Value.int IntKind.i64 (0:Int)),(Value.iface 18446744073709551617 (Value.agg (Array.mk ((Value.slice none n b)::c)))),(Value.pointer (Option.some (Addr.mk 2 0 none)))])),(mkSt [(Blk.cells [(Value.int IntKind.i64 kd),(Value.int IntKind.i64 (0:Int)),(Value.int IntKind.i64 (NV (asS (ah (takeC (Nat.mul (aX (1:Int) (af n)) 1) (ak 1 c)) 0)))),(Value.int IntKind.i64 (0:Int)),(Value.string (ByteArray.mk #[])),(Value.slice none 0 0)] 24 Bool.true),(Blk.map aC 12),(Blk.miter (Option.some 1) 12 sq 12)])))
 (some ((Value.tuple (Array.mk [(Value.int IntKind.i64 (0:Int)),(Value.string s),(Value.pointer (Option.some (Addr.mk 0 0 none))),(Value.bool Bool.false),(Value.int IntKind.i64 (0:Int)),(Value.iface 18446744073709551617 (Value.agg (Array.mk ((Value.slice none n b)::c)))),(Value.pointer (Option.some (Addr.mk 2 0 none)))])),(mkSt [(Blk.cells [(Value.int IntKind.i64 (0:Int)),(Value.int IntKind.i64 (0:Int)),(Value.int IntKind.i64 (0:Int)),(Value.int IntKind.i64 (0:Int)),(Value.string (ByteArray.mk #[])),(Value.slice none 0 0)] 24 Bool.true),(Blk.map aC 12),(Blk.miter (Option.some 1) 12 sq 12)]))))
 (some ((Value.tuple (Array.mk [(Value.int IntKind.i64 (0:Int)),(Value.string s),(Value.pointer (Option.some (Addr.mk 0 0 none))),(Value.bool Bool.false),(Value.int IntKind.i64 (0:Int)),(Value.iface 18446744073709551617 (Value.agg (Array.mk ((Value.slice none n b)::c)))),(Value.pointer (Option.some (Addr.mk 2 0 none)))])),(mkSt [(Blk.cells [(Value.int IntKind.i64 (0:Int)),(Value.int IntKind.i64 (0:Int)),(Value.int IntKind.i64 (0:Int)),(Value.int IntKind.i64 (0:Int)),(Value.string (ByteArray.mk #[])),(Value.slice none 0 0)] 24 Bool.true),(Blk.map aC 12),(Blk.miter (Option.some 1) 12 sq 12)])))))))))
 (some ((Value.tuple (Array.mk [(Value.int IntKind.i64 (0:Int)),(Value.string s),(Value.pointer (Option.some (Addr.mk 0 0 none))),(Value.bool Bool.false),(Value.int IntKind.i64 (0:Int)),(Value.iface 18446744073709551617 (Value.agg (Array.mk ((Value.slice none n b)::c)))),(Value.pointer (Option.some (Addr.mk 2 0 none)))])),(mkSt [(Blk.cells [(Value.int IntKind.i64 (0:Int)),(Value.int IntKind.i64 (0:Int)),(Value.int IntKind.i64 (0:Int)),(Value.int IntKind.i64 (0:Int)),(Value.string (ByteArray.mk #[])),(Value.slice none 0 0)] 24 Bool.true),(Blk.map aC 12),(Blk.miter (Option.some 1) 12 sq 12)]))))))
theorem acD(NC NO:ByteArray->Int->Bool)(NV:ByteArray->Int)(KC KO:ByteArray->Bool)(KV:ByteArray->ByteArray)(OC:List Value->List Blk->Bool)(on:Nat)(oc:List Value)(ob:Bool)(s:ByteArray)(n b:Nat)(c:List Value)(se:List Nat):iw P E (j_ NC NO NV KC KO KV OC (ai 3 on 0 oc) ob) 50 6 Bli Hli (liV s n b c) (liB dI (.map aC 12) (.miter (some 1) 12 (5::se) 12)) (.int .i64 6) (fC ⟨#[100,101,108,105,118,101,114]⟩ ⟨#[97]⟩)=Gt NC NO NV KC KO KV OC on oc ob s n b c se (ByteArray.mk #[100,101,108,105,118,101,114]) (6:Int) (5::se):=by kernel_rfl
theorem adb(NC NO:ByteArray->Int->Bool)(NV:ByteArray->Int)(KC KO:ByteArray->Bool)(KV:ByteArray->ByteArray)(OC:List Value->List Blk->Bool)(on:Nat)(oc:List Value)(ob:Bool)(s:ByteArray)(n b:Nat)(c:List Value)(se:List Nat):iw P E (j_ NC NO NV KC KO KV OC (ai 3 on 0 oc) ob) 50 6 Bli Hli (liV s n b c) (liB dI (.map aC 12) (.miter (some 1) 12 (6::se) 12)) (.int .i64 7) (fC ⟨#[116,119,105,99,101]⟩ ⟨#[97]⟩)=Gt NC NO NV KC KO KV OC on oc ob s n b c se (ByteArray.mk #[116,119,105,99,101]) 7 (6::se):=by kernel_rfl
theorem acg(NC NO:ByteArray->Int->Bool)(NV:ByteArray->Int)(KC KO:ByteArray->Bool)(KV:ByteArray->ByteArray)(OC:List Value->List Blk->Bool)(on:Nat)(oc:List Value)(ob:Bool)(s:ByteArray)(n b:Nat)(c:List Value)(se:List Nat):iw P E (j_ NC NO NV KC KO KV OC (ai 3 on 0 oc) ob) 50 6 Bli Hli (liV s n b c) (liB dI (.map aC 12) (.miter (some 1) 12 (7::se) 12)) (.int .i64 8) (fC ⟨#[100,114,111,112]⟩ ⟨#[97]⟩)=Gt NC NO NV KC KO KV OC on oc ob s n b c se (ByteArray.mk #[100,114,111,112]) 8 (7::se):=by kernel_rfl
theorem acL(NC NO:ByteArray->Int->Bool)(NV:ByteArray->Int)(KC KO:ByteArray->Bool)(KV:ByteArray->ByteArray)(OC:List Value->List Blk->Bool)(on:Nat)(oc:List Value)(ob:Bool)(s:ByteArray)(n b:Nat)(c:List Value)(se:List Nat):iw P E (j_ NC NO NV KC KO KV OC (ai 3 on 0 oc) ob) 50 6 Bli Hli (liV s n b c) (liB dI (.map aC 12) (.miter (some 1) 12 (8::se) 12)) (.int .i64 9) (fC ⟨#[102,117,115,101]⟩ ⟨#[110,97]⟩) =
 (ae (Bool.and (Nat.beq 1 1) (inI 0 n))
 (ae (Bool.and (Nat.ble 1 c.length) (dw .string (ah c 0)))
 (ag (eqS ⟨#[102,117,115,101]⟩ (asS (ah c 0)))
 (ae (Bool.and (Nat.beq 1 1) (eP 1 (af n) n))
 (ag (dN (ltI 0 (af (aX 1 (af n)))))
 (some ((.tuple ⟨[.int .i64 0,.string s,.pointer (Option.some (Addr.mk 0 0 none)),.bool false,.int .i64 0,.iface 18446744073709551617 (.agg ⟨(.slice none n b)::c⟩),.pointer (Option.some (Addr.mk 2 0 none))]⟩),(mkSt [Blk.cells [.int .i64 0,.int .i64 0,.int .i64 0,.int .i64 0,.string ⟨#[]⟩,.slice none 0 0] 24 true,Blk.map aC 12,Blk.miter (Option.some 1) 12 (8::se) 12])))
 (ae (Bool.and (Nat.beq 1 1) (inI 0 (aX 1 (af n))))
 (ae (Bool.and (Nat.ble 1 (List.length (takeC (Nat.mul (aX 1 (af n)) 1) (ak 1 c)))) (dw .string (ah (takeC (Nat.mul (aX 1 (af n)) 1) (ak 1 c)) 0)))
 (ae (NC (asS (ah (takeC (Nat.mul (aX 1 (af n)) 1) (ak 1 c)) 0)) 1)
 (ag (NO (asS (ah (takeC (Nat.mul (aX 1 (af n)) 1) (ak 1 c)) 0)) 1)
 (ag (dN (ltI 1 (af (aX 1 (af n)))))
 (some ((.tuple ⟨[.int .i64 0,.string s,.pointer (Option.some (Addr.mk 0 0 none)),.bool false,.int .i64 0,.iface 18446744073709551617 (.agg ⟨(.slice none n b)::c⟩),.pointer (Option.some (Addr.mk 2 0 none))]⟩),(mkSt [Blk.cells [.int .i64 0,.int .i64 0,.int .i64 0,.int .i64 0,.string ⟨#[]⟩,.slice none 0 0] 24 true,Blk.map aC 12,Blk.miter (Option.some 1) 12 (8::se) 12])))
 (ae (Bool.and (Nat.beq 1 1) (inI 1 (aX 1 (af n))))
 (ae (Bool.and (Nat.ble 2 (List.length (takeC (Nat.mul (aX 1 (af n)) 1) (ak 1 c)))) (dw .string (ah (takeC (Nat.mul (aX 1 (af n)) 1) (ak 1 c)) 1)))
 (ae (NC (asS (ah (takeC (Nat.mul (aX 1 (af n)) 1) (ak 1 c)) 1)) 999999999)
 (ag (NO (asS (ah (takeC (Nat.mul (aX 1 (af n)) 1) (ak 1 c)) 1)) 999999999)
 (ag (eqI (af (aX 1 (af n))) 2)
 (some ((.tuple ⟨[.int .i64 (-1),.string s,.pointer (Option.some (Addr.mk 0 0 none)),.bool true,.int .i64 0,.iface 18446744073709551617 (.agg ⟨(.slice none n b)::c⟩),.pointer (Option.some (Addr.mk 2 0 none))]⟩),(mkSt [Blk.cells [.int .i64 9,.int .i64 (NV (asS (ah (takeC (Nat.mul (aX 1 (af n)) 1) (ak 1 c)) 0))),.int .i64 (NV (asS (ah (takeC (Nat.mul (aX 1 (af n)) 1) (ak 1 c)) 1))),.int .i64 0,.string ⟨#[]⟩,.slice none 0 0] 24 true,Blk.map aC 12,Blk.miter (Option.some 1) 12 (8::se) 12])))
 (some ((.tuple ⟨[.int .i64 0,.string s,.pointer (Option.some (Addr.mk 0 0 none)),.bool false,.int .i64 0,.iface 18446744073709551617 (.agg ⟨(.slice none n b)::c⟩),.pointer (Option.some (Addr.mk 2 0 none))]⟩),(mkSt [Blk.cells [.int .i64 0,.int .i64 0,.int .i64 0,.int .i64 0,.string ⟨#[]⟩,.slice none 0 0] 24 true,Blk.map aC 12,Blk.miter (Option.some 1) 12 (8::se) 12]))))
 (some ((.tuple ⟨[.int .i64 0,.string s,.pointer (Option.some (Addr.mk 0 0 none)),.bool false,.int .i64 0,.iface 18446744073709551617 (.agg ⟨(.slice none n b)::c⟩),.pointer (Option.some (Addr.mk 2 0 none))]⟩),(mkSt [Blk.cells [.int .i64 0,.int .i64 0,.int .i64 0,.int .i64 0,.string ⟨#[]⟩,.slice none 0 0] 24 true,Blk.map aC 12,Blk.miter (Option.some 1) 12 (8::se) 12]))))))))
 (some ((.tuple ⟨[.int .i64 0,.string s,.pointer (Option.some (Addr.mk 0 0 none)),.bool false,.int .i64 0,.iface 18446744073709551617 (.agg ⟨(.slice none n b)::c⟩),.pointer (Option.some (Addr.mk 2 0 none))]⟩),(mkSt [Blk.cells [.int .i64 0,.int .i64 0,.int .i64 0,.int .i64 0,.string ⟨#[]⟩,.slice none 0 0] 24 true,Blk.map aC 12,Blk.miter (Option.some 1) 12 (8::se) 12])))))))))
 (some ((.tuple ⟨[.int .i64 0,.string s,.pointer (Option.some (Addr.mk 0 0 none)),.bool false,.int .i64 0,.iface 18446744073709551617 (.agg ⟨(.slice none n b)::c⟩),.pointer (Option.some (Addr.mk 2 0 none))]⟩),(mkSt [Blk.cells [.int .i64 0,.int .i64 0,.int .i64 0,.int .i64 0,.string ⟨#[]⟩,.slice none 0 0] 24 true,Blk.map aC 12,Blk.miter (Option.some 1) 12 (8::se) 12])))))):=by kernel_rfl
theorem ZK(NC NO:ByteArray->Int->Bool)(NV:ByteArray->Int)(KC KO:ByteArray->Bool)(KV:ByteArray->ByteArray)(OC:List Value->List Blk->Bool)(on:Nat)(oc:List Value)(ob:Bool)(s:ByteArray)(n b:Nat)(c:List Value)(se:List Nat):iw P E (j_ NC NO NV KC KO KV OC (ai 3 on 0 oc) ob) 50 6 Bli Hli (liV s n b c) (liB dI (.map aC 12) (.miter (some 1) 12 (9::se) 12)) (.int .i64 10) (fC ⟨#[112,117,108,108]⟩ ⟨#[110]⟩)=Dj NC NO NV KC KO KV OC on oc ob s n b c se (ByteArray.mk #[112,117,108,108]) 10 (9::se):=by kernel_rfl
theorem ZV(NC NO:ByteArray->Int->Bool)(NV:ByteArray->Int)(KC KO:ByteArray->Bool)(KV:ByteArray->ByteArray)(OC:List Value->List Blk->Bool)(on:Nat)(oc:List Value)(ob:Bool)(s:ByteArray)(n b:Nat)(c:List Value)(se:List Nat):iw P E (j_ NC NO NV KC KO KV OC (ai 3 on 0 oc) ob) 50 6 Bli Hli (liV s n b c) (liB dI (.map aC 12) (.miter (some 1) 12 (10::se) 12)) (.int .i64 11) (fC ⟨#[115,116,97,114,116]⟩ ⟨#[110,97,116]⟩) =
 (ae (Bool.and (Nat.beq 1 1) (inI 0 n))
 (ae (Bool.and (Nat.ble 1 c.length) (dw .string (ah c 0)))
 (ag (eqS ⟨#[115,116,97,114,116]⟩ (asS (ah c 0)))
 (ae (Bool.and (Nat.beq 1 1) (eP 1 (af n) n))
 (ag (dN (ltI 0 (af (aX 1 (af n)))))
 (some ((.tuple ⟨[.int .i64 0,.string s,.pointer (Option.some (Addr.mk 0 0 none)),.bool false,.int .i64 0,.iface 18446744073709551617 (.agg ⟨(.slice none n b)::c⟩),.pointer (Option.some (Addr.mk 2 0 none))]⟩),(mkSt [Blk.cells [.int .i64 0,.int .i64 0,.int .i64 0,.int .i64 0,.string ⟨#[]⟩,.slice none 0 0] 24 true,Blk.map aC 12,Blk.miter (Option.some 1) 12 (10::se) 12])))
 (ae (Bool.and (Nat.beq 1 1) (inI 0 (aX 1 (af n))))
 (ae (Bool.and (Nat.ble 1 (List.length (takeC (Nat.mul (aX 1 (af n)) 1) (ak 1 c)))) (dw .string (ah (takeC (Nat.mul (aX 1 (af n)) 1) (ak 1 c)) 0)))
 (ae (NC (asS (ah (takeC (Nat.mul (aX 1 (af n)) 1) (ak 1 c)) 0)) 1)
 (ag (NO (asS (ah (takeC (Nat.mul (aX 1 (af n)) 1) (ak 1 c)) 0)) 1)
 (ag (dN (ltI 1 (af (aX 1 (af n)))))
 (some ((.tuple ⟨[.int .i64 0,.string s,.pointer (Option.some (Addr.mk 0 0 none)),.bool false,.int .i64 0,.iface 18446744073709551617 (.agg ⟨(.slice none n b)::c⟩),.pointer (Option.some (Addr.mk 2 0 none))]⟩),(mkSt [Blk.cells [.int .i64 0,.int .i64 0,.int .i64 0,.int .i64 0,.string ⟨#[]⟩,.slice none 0 0] 24 true,Blk.map aC 12,Blk.miter (Option.some 1) 12 (10::se) 12])))
 (ae (Bool.and (Nat.beq 1 1) (inI 1 (aX 1 (af n))))
 (ae (Bool.and (Nat.ble 2 (List.length (takeC (Nat.mul (aX 1 (af n)) 1) (ak 1 c)))) (dw .string (ah (takeC (Nat.mul (aX 1 (af n)) 1) (ak 1 c)) 1)))
 (ae (NC (asS (ah (takeC (Nat.mul (aX 1 (af n)) 1) (ak 1 c)) 1)) 999999999)
 (ag (NO (asS (ah (takeC (Nat.mul (aX 1 (af n)) 1) (ak 1 c)) 1)) 999999999)
 (ag (dN (ltI 2 (af (aX 1 (af n)))))
 (some ((.tuple ⟨[.int .i64 0,.string s,.pointer (Option.some (Addr.mk 0 0 none)),.bool false,.int .i64 0,.iface 18446744073709551617 (.agg ⟨(.slice none n b)::c⟩),.pointer (Option.some (Addr.mk 2 0 none))]⟩),(mkSt [Blk.cells [.int .i64 0,.int .i64 0,.int .i64 0,.int .i64 0,.string ⟨#[]⟩,.slice none 0 0] 24 true,Blk.map aC 12,Blk.miter (Option.some 1) 12 (10::se) 12])))
 (ae (Bool.and (Nat.beq 1 1) (inI 2 (aX 1 (af n))))
 (ae (Bool.and (Nat.ble 3 (List.length (takeC (Nat.mul (aX 1 (af n)) 1) (ak 1 c)))) (dw .string (ah (takeC (Nat.mul (aX 1 (af n)) 1) (ak 1 c)) 2)))
 (ae (NC (asS (ah (takeC (Nat.mul (aX 1 (af n)) 1) (ak 1 c)) 2)) 999999999)
 (ag (NO (asS (ah (takeC (Nat.mul (aX 1 (af n)) 1) (ak 1 c)) 2)) 999999999)
 (ag (eqI (af (aX 1 (af n))) 3)
 (some ((.tuple ⟨[.int .i64 (-1),.string s,.pointer (Option.some (Addr.mk 0 0 none)),.bool true,.int .i64 0,.iface 18446744073709551617 (.agg ⟨(.slice none n b)::c⟩),.pointer (Option.some (Addr.mk 2 0 none))]⟩),(mkSt [Blk.cells [.int .i64 11,.int .i64 (NV (asS (ah (takeC (Nat.mul (aX 1 (af n)) 1) (ak 1 c)) 0))),.int .i64 (NV (asS (ah (takeC (Nat.mul (aX 1 (af n)) 1) (ak 1 c)) 1))),.int .i64 (NV (asS (ah (takeC (Nat.mul (aX 1 (af n)) 1) (ak 1 c)) 2))),.string ⟨#[]⟩,.slice none 0 0] 24 true,Blk.map aC 12,Blk.miter (Option.some 1) 12 (10::se) 12])))
 (some ((.tuple ⟨[.int .i64 0,.string s,.pointer (Option.some (Addr.mk 0 0 none)),.bool false,.int .i64 0,.iface 18446744073709551617 (.agg ⟨(.slice none n b)::c⟩),.pointer (Option.some (Addr.mk 2 0 none))]⟩),(mkSt [Blk.cells [.int .i64 0,.int .i64 0,.int .i64 0,.int .i64 0,.string ⟨#[]⟩,.slice none 0 0] 24 true,Blk.map aC 12,Blk.miter (Option.some 1) 12 (10::se) 12]))))
 (some ((.tuple ⟨[.int .i64 0,.string s,.pointer (Option.some (Addr.mk 0 0 none)),.bool false,.int .i64 0,.iface 18446744073709551617 (.agg ⟨(.slice none n b)::c⟩),.pointer (Option.some (Addr.mk 2 0 none))]⟩),(mkSt [Blk.cells [.int .i64 0,.int .i64 0,.int .i64 0,.int .i64 0,.string ⟨#[]⟩,.slice none 0 0] 24 true,Blk.map aC 12,Blk.miter (Option.some 1) 12 (10::se) 12]))))))))
 (some ((.tuple ⟨[.int .i64 0,.string s,.pointer (Option.some (Addr.mk 0 0 none)),.bool false,.int .i64 0,.iface 18446744073709551617 (.agg ⟨(.slice none n b)::c⟩),.pointer (Option.some (Addr.mk 2 0 none))]⟩),(mkSt [Blk.cells [.int .i64 0,.int .i64 0,.int .i64 0,.int .i64 0,.string ⟨#[]⟩,.slice none 0 0] 24 true,Blk.map aC 12,Blk.miter (Option.some 1) 12 (10::se) 12]))))))))
 (some ((.tuple ⟨[.int .i64 0,.string s,.pointer (Option.some (Addr.mk 0 0 none)),.bool false,.int .i64 0,.iface 18446744073709551617 (.agg ⟨(.slice none n b)::c⟩),.pointer (Option.some (Addr.mk 2 0 none))]⟩),(mkSt [Blk.cells [.int .i64 0,.int .i64 0,.int .i64 0,.int .i64 0,.string ⟨#[]⟩,.slice none 0 0] 24 true,Blk.map aC 12,Blk.miter (Option.some 1) 12 (10::se) 12])))))))))
 (some ((.tuple ⟨[.int .i64 0,.string s,.pointer (Option.some (Addr.mk 0 0 none)),.bool false,.int .i64 0,.iface 18446744073709551617 (.agg ⟨(.slice none n b)::c⟩),.pointer (Option.some (Addr.mk 2 0 none))]⟩),(mkSt [Blk.cells [.int .i64 0,.int .i64 0,.int .i64 0,.int .i64 0,.string ⟨#[]⟩,.slice none 0 0] 24 true,Blk.map aC 12,Blk.miter (Option.some 1) 12 (10::se) 12])))))):=by kernel_rfl
theorem aai(NC NO:ByteArray->Int->Bool)(NV:ByteArray->Int)(KC KO:ByteArray->Bool)(KV:ByteArray->ByteArray)(OC:List Value->List Blk->Bool)(on:Nat)(oc:List Value)(ob:Bool)(s:ByteArray)(n b:Nat)(c:List Value)(se:List Nat):iw P E (j_ NC NO NV KC KO KV OC (ai 3 on 0 oc) ob) 50 6 Bli Hli (liV s n b c) (liB dI (.map aC 12) (.miter (some 1) 12 (11::se) 12)) (.int .i64 12) (fC ⟨#[114,111,117,110,100]⟩ ⟨#[]⟩) =
 (ae (Bool.and (Nat.beq 1 1) (inI 0 n))
 (ae (Bool.and (Nat.ble 1 c.length) (dw .string (ah c 0)))
 (ag (eqS ⟨#[114,111,117,110,100]⟩ (asS (ah c 0)))
 (ae (Bool.and (Nat.beq 1 1) (eP 1 (af n) n))
 (ag (eqI (af (aX 1 (af n))) 0)
 (some ((.tuple ⟨[.int .i64 (-1),.string s,.pointer (Option.some (Addr.mk 0 0 none)),.bool true,.int .i64 0,.iface 18446744073709551617 (.agg ⟨(.slice none n b)::c⟩),.pointer (Option.some (Addr.mk 2 0 none))]⟩),(mkSt [Blk.cells [.int .i64 12,.int .i64 0,.int .i64 0,.int .i64 0,.string ⟨#[]⟩,.slice none 0 0] 24 true,Blk.map aC 12,Blk.miter (Option.some 1) 12 (11::se) 12])))
 (some ((.tuple ⟨[.int .i64 0,.string s,.pointer (Option.some (Addr.mk 0 0 none)),.bool false,.int .i64 0,.iface 18446744073709551617 (.agg ⟨(.slice none n b)::c⟩),.pointer (Option.some (Addr.mk 2 0 none))]⟩),(mkSt [Blk.cells [.int .i64 0,.int .i64 0,.int .i64 0,.int .i64 0,.string ⟨#[]⟩,.slice none 0 0] 24 true,Blk.map aC 12,Blk.miter (Option.some 1) 12 (11::se) 12])))))
 (some ((.tuple ⟨[.int .i64 0,.string s,.pointer (Option.some (Addr.mk 0 0 none)),.bool false,.int .i64 0,.iface 18446744073709551617 (.agg ⟨(.slice none n b)::c⟩),.pointer (Option.some (Addr.mk 2 0 none))]⟩),(mkSt [Blk.cells [.int .i64 0,.int .i64 0,.int .i64 0,.int .i64 0,.string ⟨#[]⟩,.slice none 0 0] 24 true,Blk.map aC 12,Blk.miter (Option.some 1) 12 (11::se) 12])))))):=by kernel_rfl
theorem acX(s:ByteArray)(n b:Nat)(c:List Value)(se:List Nat):Lj P E ctF 50 6 Bli Hli (liV s n b c) (liB dI (.map aC 12) (.miter (some 1) 12 se 12)) =
 (some ((.tuple ⟨[.int .i64 1,.string s,.pointer (Option.some (Addr.mk 0 0 none)),.bool false,.int .i64 0,.iface 18446744073709551617 (.agg ⟨(.slice none n b)::c⟩),.pointer (Option.some (Addr.mk 2 0 none))]⟩),(mkSt [Blk.cells [.int .i64 0,.int .i64 0,.int .i64 0,.int .i64 0,.string ⟨#[]⟩,.slice none 0 0] 24 true,Blk.map aC 12,Blk.miter (Option.some 1) 12 se 12]))):=by kernel_rfl
structure ActM where
 kind:Int
 node:Int
 n:Int
 t:Int
 key:ByteArray
 ops:List OpM
def kF(a:ActM)(o:Value):List Value:=[.int .i64 a.kind, .int .i64 a.node, .int .i64 a.n, .int .i64 a.t, .string a.key,o]
def mG:Value:= .slice none 0 0
def liR(ex:Ex)(s:ByteArray)(ws:List ByteArray)(a:List Value)(th:Bool)(se:List Nat):Res:=
 some (.tuple ⟨exV ex::[.string s, .pointer (some ⟨0,0,none⟩), .bool th, .int .i64 0,fzS ws, .pointer (some ⟨2,0,none⟩)]⟩,mkSt (liB a (.map aC 12) (.miter (some 1) 12 se 12)))
def again(s:ByteArray)(ws:List ByteArray)(se:List Nat):Res:=liR .normal s ws dI false se
def found(s:ByteArray)(ws:List ByteArray)(se:List Nat)(a:ActM)(o:Value):Res:=liR .ret s ws (kF a o) true se
theorem fZ{a:ByteArray}{m:Int}(h:a.size<=4194304)(hm:m<=1000000000):lM a m=true:=by
 unfold lM leI;rw[xA h,decide_eq_true hm]; rfl
section
variable{w0:ByteArray}{r:List ByteArray}
theorem l_in:inI 0 (w0::r).length=true:=bD (i:=0) (by simp)
theorem kC(l:List ByteArray):(l.map Value.string).length=l.length:=List.length_map ..
theorem BZ:Nat.ble 1 (w0::r).length=true:=Nat.ble_eq_true_of_le (by simp)
theorem Ap:ah ((w0::r).map Value.string) 0 = .string w0:=rfl
theorem fV(b:ByteArray):asS (.string b)=b:=rfl
theorem fU(b:ByteArray):dw .string (.string b)=true:=rfl
theorem uG:eP 1 (af (w0::r).length) (w0::r).length=true:=mi (by omega) (by unfold af; simp only[List.length_cons]; omega) (by unfold af; omega)
theorem uN:aX 1 (af (w0::r).length)=r.length:=by simp only[aX,af,List.length_cons]; omega
theorem yR:takeC r.length (ak 1 ((w0::r).map Value.string))=r.map Value.string:=qY (by simp)
theorem oz(n:Nat):Nat.beq n n=true:=Nat.beq_refl n
end
theorem fO{i:Nat}{l:List ByteArray}(h:i<l.length):ltI (i:Int) (af l.length)=true:=by unfold ltI af; exact decide_eq_true (by omega)
theorem vN{k:Nat}{l:List ByteArray}(h:l.length≠k):eqI (af l.length) (k:Int)=false:=by unfold eqI af; exact decide_eq_false (by omega)
theorem fF{k:Nat}{l:List ByteArray}(h:k<=l.length):Nat.ble k l.length=true:=Nat.ble_eq_true_of_le h
def SzW(ws:List ByteArray):Prop:=∀ w∈ws,w.size<=4194304
theorem jq:dN true=false:=rfl
def kV(s:ByteArray)(ws:List ByteArray)(se:List Nat):Option (ActM×Value)->Res
 |some p=>found s ws se p.1 p.2
 |none=>again s ws se
def gZ(W:ByteArray)(kd:Int)(w0:ByteArray)(r:List ByteArray):Option (ActM×Value):=match eqS W w0,r with
   |true,[a]=>(match bG a 1 with
    |true=>some (⟨kd,dE a,0,0,⟨#[]⟩,[]⟩,mG)
    |_=>none)
   |_,_=>none
def jg(W:ByteArray)(kd:Int)(w0:ByteArray)(r:List ByteArray):Option (ActM×Value):=match eqS W w0,r with
   |true,[a]=>(match bG a 999999999 with
    |true=>some (⟨kd,0,dE a,0,⟨#[]⟩,[]⟩,mG)
    |_=>none)
   |_,_=>none
def nP(W:ByteArray)(kd:Int)(w0:ByteArray)(r:List ByteArray):Option (ActM×Value):=match eqS W w0,r with
   |true,[a,b]=>(match bG a 1,eY b with
    |true,true=>some (⟨kd,dE a,0,0,byS b,[]⟩,mG)
    |_,_=>none)
   |_,_=>none
def nN(W:ByteArray)(kd:Int)(w0:ByteArray)(r:List ByteArray):Option (ActM×Value):=match eqS W w0,r with
   |true,[a,b]=>(match bG a 1,bG b 999999999 with
    |true,true=>some (⟨kd,dE a,dE b,0,⟨#[]⟩,[]⟩,mG)
    |_,_=>none)
   |_,_=>none
def kZ(W:ByteArray)(kd:Int)(w0:ByteArray)(r:List ByteArray):Option (ActM×Value):=match eqS W w0,r with
   |true,[a,b,c]=>(match bG a 1,bG b 999999999,bG c 999999999 with
    |true,true,true=>some (⟨kd,dE a,dE b,dE c,⟨#[]⟩,[]⟩,mG)
    |_,_,_=>none)
   |_,_=>none
def qm(W:ByteArray)(kd:Int)(w0:ByteArray)(r:List ByteArray):Option (ActM×Value):=match eqS W w0,r with
   |true,[]=>some (⟨kd,0,0,0,⟨#[]⟩,[]⟩,mG)
   |_,_=>none
theorem yV{OC:List Value->List Blk->Bool}{on:Nat}{oc:List Value}{ob:Bool}{s w0:ByteArray}{r:List ByteArray}{se:List Nat}(hs:SzW r){W:ByteArray}{kd:Int}{sq:List Nat}:Dj lM bG dE szS eY byS OC on oc ob s (w0::r).length 0 ((w0::r).map Value.string) se W kd sq=kV s (w0::r) sq (gZ W kd w0 r):=by
 unfold Dj;unfold kV again found liR gZ fzS ai;rw[fzU];simp only[l_in,kC,BZ,Ap,fV,fU,uG,uN,lq,yR,oz,Bool.and_self,aA];cases eqS _ w0 with
 |false=>rfl
 |true=>
  match r,hs with
  |[],hs=>
   rfl
  |[a],hs=>
   have h0:=fZ (m:=1) (hs a (by simp)) (by omega);have n0:ah ([a].map Value.string) 0 = .string a:=rfl;have i0:inI 0 [a].length=true:=bD (i:=0) (by simp);have g0:ltI 0 (af [a].length)=true:=fO (i:=0) (by simp);have b0:Nat.ble 1 [a].length=true:=fF (by simp);simp only[fV,fU,jq,h0,n0,i0,g0,b0,Bool.and_self,aA,az,ax];cases bG a 1<;>rfl
  |a::b::t,hs=>
   have h0:=fZ (m:=1) (hs a (by simp)) (by omega);have n0:ah ((a::b::t).map Value.string) 0 = .string a:=rfl;have i0:inI 0 (a::b::t).length=true:=bD (i:=0) (by simp);have g0:ltI 0 (af (a::b::t).length)=true:=fO (i:=0) (by simp);have b0:Nat.ble 1 (a::b::t).length=true:=fF (by simp);have e:eqI (af (a::b::t).length) 1=false:=vN (k:=1) (by simp);simp only[fV,fU,jq,h0,n0,i0,g0,b0,e,Bool.and_self,aA,az,ax];cases bG a 1<;>rfl
theorem E8{OC:List Value->List Blk->Bool}{on:Nat}{oc:List Value}{ob:Bool}{s w0:ByteArray}{r:List ByteArray}{se:List Nat}(hs:SzW r){W:ByteArray}{kd:Int}{sq:List Nat}:Gt lM bG dE szS eY byS OC on oc ob s (w0::r).length 0 ((w0::r).map Value.string) se W kd sq=kV s (w0::r) sq (jg W kd w0 r):=by
 unfold Gt;unfold kV again found liR jg fzS ai;rw[fzU];simp only[l_in,kC,BZ,Ap,fV,fU,uG,uN,lq,yR,oz,Bool.and_self,aA];cases eqS _ w0 with
 |false=>rfl
 |true=>
  match r,hs with
  |[],hs=>
   rfl
  |[a],hs=>
   have h0:=fZ (m:=999999999) (hs a (by simp)) (by omega);have n0:ah ([a].map Value.string) 0 = .string a:=rfl;have i0:inI 0 [a].length=true:=bD (i:=0) (by simp);have g0:ltI 0 (af [a].length)=true:=fO (i:=0) (by simp);have b0:Nat.ble 1 [a].length=true:=fF (by simp);simp only[fV,fU,jq,h0,n0,i0,g0,b0,Bool.and_self,aA,az,ax];cases bG a 999999999<;>rfl
  |a::b::t,hs=>
   have h0:=fZ (m:=999999999) (hs a (by simp)) (by omega);have n0:ah ((a::b::t).map Value.string) 0 = .string a:=rfl;have i0:inI 0 (a::b::t).length=true:=bD (i:=0) (by simp);have g0:ltI 0 (af (a::b::t).length)=true:=fO (i:=0) (by simp);have b0:Nat.ble 1 (a::b::t).length=true:=fF (by simp);have e:eqI (af (a::b::t).length) 1=false:=vN (k:=1) (by simp);simp only[fV,fU,jq,h0,n0,i0,g0,b0,e,Bool.and_self,aA,az,ax];cases bG a 999999999<;>rfl
theorem af6{OC:List Value->List Blk->Bool}{on:Nat}{oc:List Value}{ob:Bool}{s w0:ByteArray}{r:List ByteArray}{se:List Nat}(hs:SzW r):iw P E (j_ lM bG dE szS eY byS OC (ai 3 on 0 oc) ob) 50 6 Bli Hli (liV s (w0::r).length 0 ((w0::r).map Value.string)) (liB dI (.map aC 12) (.miter (some 1) 12 (1::se) 12)) (.int .i64 2) (fC ⟨#[114,101,97,100]⟩ ⟨#[110,107]⟩)=kV s (w0::r) (1::se) (nP ⟨#[114,101,97,100]⟩ 2 w0 r):=by
 rw[adm];unfold kV again found liR nP fzS ai;rw[fzU];simp only[l_in,kC,BZ,Ap,fV,fU,uG,uN,lq,yR,oz,Bool.and_self,aA];cases eqS _ w0 with
 |false=>rfl
 |true=>
  match r,hs with
  |[],hs=>
   rfl
  |[a],hs=>
   have h0:=fZ (m:=1) (hs a (by simp)) (by omega);have n0:ah ([a].map Value.string) 0 = .string a:=rfl;have i0:inI 0 [a].length=true:=bD (i:=0) (by simp);have g0:ltI 0 (af [a].length)=true:=fO (i:=0) (by simp);have b0:Nat.ble 1 [a].length=true:=fF (by simp);simp only[fV,fU,jq,h0,n0,i0,g0,b0,Bool.and_self,aA,az,ax];cases bG a 1<;>rfl
  |[a,b],hs=>
   have h0:=fZ (m:=1) (hs a (by simp)) (by omega);have n0:ah ([a,b].map Value.string) 0 = .string a:=rfl;have i0:inI 0 [a,b].length=true:=bD (i:=0) (by simp);have g0:ltI 0 (af [a,b].length)=true:=fO (i:=0) (by simp);have b0:Nat.ble 1 [a,b].length=true:=fF (by simp);have h1:=xA (hs b (by simp));have n1:ah ([a,b].map Value.string) 1 = .string b:=rfl;have i1:inI 1 [a,b].length=true:=bD (i:=1) (by simp);have g1:ltI 1 (af [a,b].length)=true:=fO (i:=1) (by simp);have b1:Nat.ble 2 [a,b].length=true:=fF (by simp);simp only[fV,fU,jq,h0,n0,i0,g0,b0,h1,n1,i1,g1,b1,Bool.and_self,aA,az,ax];cases bG a 1<;>cases eY b<;>rfl
  |a::b::c::t,hs=>
   have h0:=fZ (m:=1) (hs a (by simp)) (by omega);have n0:ah ((a::b::c::t).map Value.string) 0 = .string a:=rfl;have i0:inI 0 (a::b::c::t).length=true:=bD (i:=0) (by simp);have g0:ltI 0 (af (a::b::c::t).length)=true:=fO (i:=0) (by simp);have b0:Nat.ble 1 (a::b::c::t).length=true:=fF (by simp);have h1:=xA (hs b (by simp));have n1:ah ((a::b::c::t).map Value.string) 1 = .string b:=rfl;have i1:inI 1 (a::b::c::t).length=true:=bD (i:=1) (by simp);have g1:ltI 1 (af (a::b::c::t).length)=true:=fO (i:=1) (by simp);have b1:Nat.ble 2 (a::b::c::t).length=true:=fF (by simp);have e:eqI (af (a::b::c::t).length) 2=false:=vN (k:=2) (by simp);simp only[fV,fU,jq,h0,n0,i0,g0,b0,h1,n1,i1,g1,b1,e,Bool.and_self,aA,az,ax];cases bG a 1<;>cases eY b<;>rfl
theorem agl{OC:List Value->List Blk->Bool}{on:Nat}{oc:List Value}{ob:Bool}{s w0:ByteArray}{r:List ByteArray}{se:List Nat}(hs:SzW r):iw P E (j_ lM bG dE szS eY byS OC (ai 3 on 0 oc) ob) 50 6 Bli Hli (liV s (w0::r).length 0 ((w0::r).map Value.string)) (liB dI (.map aC 12) (.miter (some 1) 12 (2::se) 12)) (.int .i64 3) (fC ⟨#[116,105,99,107]⟩ ⟨#[110]⟩)=kV s (w0::r) (2::se) (gZ ⟨#[116,105,99,107]⟩ 3 w0 r):=by
 rw[acN];exact yV hs
theorem af7{OC:List Value->List Blk->Bool}{on:Nat}{oc:List Value}{ob:Bool}{s w0:ByteArray}{r:List ByteArray}{se:List Nat}(hs:SzW r):iw P E (j_ lM bG dE szS eY byS OC (ai 3 on 0 oc) ob) 50 6 Bli Hli (liV s (w0::r).length 0 ((w0::r).map Value.string)) (liB dI (.map aC 12) (.miter (some 1) 12 (3::se) 12)) (.int .i64 4) (fC ⟨#[112,114,111,109,111,116,101]⟩ ⟨#[110]⟩)=kV s (w0::r) (3::se) (gZ ⟨#[112,114,111,109,111,116,101]⟩ 4 w0 r):=by
 rw[acf];exact yV hs
theorem af9{OC:List Value->List Blk->Bool}{on:Nat}{oc:List Value}{ob:Bool}{s w0:ByteArray}{r:List ByteArray}{se:List Nat}(hs:SzW r):iw P E (j_ lM bG dE szS eY byS OC (ai 3 on 0 oc) ob) 50 6 Bli Hli (liV s (w0::r).length 0 ((w0::r).map Value.string)) (liB dI (.map aC 12) (.miter (some 1) 12 (4::se) 12)) (.int .i64 5) (fC ⟨#[102,108,117,115,104]⟩ ⟨#[110]⟩)=kV s (w0::r) (4::se) (gZ ⟨#[102,108,117,115,104]⟩ 5 w0 r):=by
 rw[ace];exact yV hs
theorem agn{OC:List Value->List Blk->Bool}{on:Nat}{oc:List Value}{ob:Bool}{s w0:ByteArray}{r:List ByteArray}{se:List Nat}(hs:SzW r):iw P E (j_ lM bG dE szS eY byS OC (ai 3 on 0 oc) ob) 50 6 Bli Hli (liV s (w0::r).length 0 ((w0::r).map Value.string)) (liB dI (.map aC 12) (.miter (some 1) 12 (5::se) 12)) (.int .i64 6) (fC ⟨#[100,101,108,105,118,101,114]⟩ ⟨#[97]⟩)=kV s (w0::r) (5::se) (jg ⟨#[100,101,108,105,118,101,114]⟩ 6 w0 r):=by
 rw[acD];exact E8 hs
theorem agc{OC:List Value->List Blk->Bool}{on:Nat}{oc:List Value}{ob:Bool}{s w0:ByteArray}{r:List ByteArray}{se:List Nat}(hs:SzW r):iw P E (j_ lM bG dE szS eY byS OC (ai 3 on 0 oc) ob) 50 6 Bli Hli (liV s (w0::r).length 0 ((w0::r).map Value.string)) (liB dI (.map aC 12) (.miter (some 1) 12 (6::se) 12)) (.int .i64 7) (fC ⟨#[116,119,105,99,101]⟩ ⟨#[97]⟩)=kV s (w0::r) (6::se) (jg ⟨#[116,119,105,99,101]⟩ 7 w0 r):=by
 rw[adb];exact E8 hs
theorem agh{OC:List Value->List Blk->Bool}{on:Nat}{oc:List Value}{ob:Bool}{s w0:ByteArray}{r:List ByteArray}{se:List Nat}(hs:SzW r):iw P E (j_ lM bG dE szS eY byS OC (ai 3 on 0 oc) ob) 50 6 Bli Hli (liV s (w0::r).length 0 ((w0::r).map Value.string)) (liB dI (.map aC 12) (.miter (some 1) 12 (7::se) 12)) (.int .i64 8) (fC ⟨#[100,114,111,112]⟩ ⟨#[97]⟩)=kV s (w0::r) (7::se) (jg ⟨#[100,114,111,112]⟩ 8 w0 r):=by
 rw[acg];exact E8 hs
theorem agk{OC:List Value->List Blk->Bool}{on:Nat}{oc:List Value}{ob:Bool}{s w0:ByteArray}{r:List ByteArray}{se:List Nat}(hs:SzW r):iw P E (j_ lM bG dE szS eY byS OC (ai 3 on 0 oc) ob) 50 6 Bli Hli (liV s (w0::r).length 0 ((w0::r).map Value.string)) (liB dI (.map aC 12) (.miter (some 1) 12 (8::se) 12)) (.int .i64 9) (fC ⟨#[102,117,115,101]⟩ ⟨#[110,97]⟩)=kV s (w0::r) (8::se) (nN ⟨#[102,117,115,101]⟩ 9 w0 r):=by
 rw[acL];unfold kV again found liR nN fzS ai;rw[fzU];simp only[l_in,kC,BZ,Ap,fV,fU,uG,uN,lq,yR,oz,Bool.and_self,aA];cases eqS _ w0 with
 |false=>rfl
 |true=>
  match r,hs with
  |[],hs=>
   rfl
  |[a],hs=>
   have h0:=fZ (m:=1) (hs a (by simp)) (by omega);have n0:ah ([a].map Value.string) 0 = .string a:=rfl;have i0:inI 0 [a].length=true:=bD (i:=0) (by simp);have g0:ltI 0 (af [a].length)=true:=fO (i:=0) (by simp);have b0:Nat.ble 1 [a].length=true:=fF (by simp);simp only[fV,fU,jq,h0,n0,i0,g0,b0,Bool.and_self,aA,az,ax];cases bG a 1<;>rfl
  |[a,b],hs=>
   have h0:=fZ (m:=1) (hs a (by simp)) (by omega);have n0:ah ([a,b].map Value.string) 0 = .string a:=rfl;have i0:inI 0 [a,b].length=true:=bD (i:=0) (by simp);have g0:ltI 0 (af [a,b].length)=true:=fO (i:=0) (by simp);have b0:Nat.ble 1 [a,b].length=true:=fF (by simp);have h1:=fZ (m:=999999999) (hs b (by simp)) (by omega);have n1:ah ([a,b].map Value.string) 1 = .string b:=rfl;have i1:inI 1 [a,b].length=true:=bD (i:=1) (by simp);have g1:ltI 1 (af [a,b].length)=true:=fO (i:=1) (by simp);have b1:Nat.ble 2 [a,b].length=true:=fF (by simp);simp only[fV,fU,jq,h0,n0,i0,g0,b0,h1,n1,i1,g1,b1,Bool.and_self,aA,az,ax];cases bG a 1<;>cases bG b 999999999<;>rfl
  |a::b::c::t,hs=>
   have h0:=fZ (m:=1) (hs a (by simp)) (by omega);have n0:ah ((a::b::c::t).map Value.string) 0 = .string a:=rfl;have i0:inI 0 (a::b::c::t).length=true:=bD (i:=0) (by simp);have g0:ltI 0 (af (a::b::c::t).length)=true:=fO (i:=0) (by simp);have b0:Nat.ble 1 (a::b::c::t).length=true:=fF (by simp);have h1:=fZ (m:=999999999) (hs b (by simp)) (by omega);have n1:ah ((a::b::c::t).map Value.string) 1 = .string b:=rfl;have i1:inI 1 (a::b::c::t).length=true:=bD (i:=1) (by simp);have g1:ltI 1 (af (a::b::c::t).length)=true:=fO (i:=1) (by simp);have b1:Nat.ble 2 (a::b::c::t).length=true:=fF (by simp);have e:eqI (af (a::b::c::t).length) 2=false:=vN (k:=2) (by simp);simp only[fV,fU,jq,h0,n0,i0,g0,b0,h1,n1,i1,g1,b1,e,Bool.and_self,aA,az,ax];cases bG a 1<;>cases bG b 999999999<;>rfl
theorem agq{OC:List Value->List Blk->Bool}{on:Nat}{oc:List Value}{ob:Bool}{s w0:ByteArray}{r:List ByteArray}{se:List Nat}(hs:SzW r):iw P E (j_ lM bG dE szS eY byS OC (ai 3 on 0 oc) ob) 50 6 Bli Hli (liV s (w0::r).length 0 ((w0::r).map Value.string)) (liB dI (.map aC 12) (.miter (some 1) 12 (9::se) 12)) (.int .i64 10) (fC ⟨#[112,117,108,108]⟩ ⟨#[110]⟩)=kV s (w0::r) (9::se) (gZ ⟨#[112,117,108,108]⟩ 10 w0 r):=by
 rw[ZK];exact yV hs
theorem afV{OC:List Value->List Blk->Bool}{on:Nat}{oc:List Value}{ob:Bool}{s w0:ByteArray}{r:List ByteArray}{se:List Nat}(hs:SzW r):iw P E (j_ lM bG dE szS eY byS OC (ai 3 on 0 oc) ob) 50 6 Bli Hli (liV s (w0::r).length 0 ((w0::r).map Value.string)) (liB dI (.map aC 12) (.miter (some 1) 12 (10::se) 12)) (.int .i64 11) (fC ⟨#[115,116,97,114,116]⟩ ⟨#[110,97,116]⟩)=kV s (w0::r) (10::se) (kZ ⟨#[115,116,97,114,116]⟩ 11 w0 r):=by
 rw[ZV];unfold kV again found liR kZ fzS ai;rw[fzU];simp only[l_in,kC,BZ,Ap,fV,fU,uG,uN,lq,yR,oz,Bool.and_self,aA];cases eqS _ w0 with
 |false=>rfl
 |true=>
  match r,hs with
  |[],hs=>
   rfl
  |[a],hs=>
   have h0:=fZ (m:=1) (hs a (by simp)) (by omega);have n0:ah ([a].map Value.string) 0 = .string a:=rfl;have i0:inI 0 [a].length=true:=bD (i:=0) (by simp);have g0:ltI 0 (af [a].length)=true:=fO (i:=0) (by simp);have b0:Nat.ble 1 [a].length=true:=fF (by simp);simp only[fV,fU,jq,h0,n0,i0,g0,b0,Bool.and_self,aA,az,ax];cases bG a 1<;>rfl
  |[a,b],hs=>
   have h0:=fZ (m:=1) (hs a (by simp)) (by omega);have n0:ah ([a,b].map Value.string) 0 = .string a:=rfl;have i0:inI 0 [a,b].length=true:=bD (i:=0) (by simp);have g0:ltI 0 (af [a,b].length)=true:=fO (i:=0) (by simp);have b0:Nat.ble 1 [a,b].length=true:=fF (by simp);have h1:=fZ (m:=999999999) (hs b (by simp)) (by omega);have n1:ah ([a,b].map Value.string) 1 = .string b:=rfl;have i1:inI 1 [a,b].length=true:=bD (i:=1) (by simp);have g1:ltI 1 (af [a,b].length)=true:=fO (i:=1) (by simp);have b1:Nat.ble 2 [a,b].length=true:=fF (by simp);simp only[fV,fU,jq,h0,n0,i0,g0,b0,h1,n1,i1,g1,b1,Bool.and_self,aA,az,ax];cases bG a 1<;>cases bG b 999999999<;>rfl
  |[a,b,c],hs=>
   have h0:=fZ (m:=1) (hs a (by simp)) (by omega);have n0:ah ([a,b,c].map Value.string) 0 = .string a:=rfl;have i0:inI 0 [a,b,c].length=true:=bD (i:=0) (by simp);have g0:ltI 0 (af [a,b,c].length)=true:=fO (i:=0) (by simp);have b0:Nat.ble 1 [a,b,c].length=true:=fF (by simp);have h1:=fZ (m:=999999999) (hs b (by simp)) (by omega);have n1:ah ([a,b,c].map Value.string) 1 = .string b:=rfl;have i1:inI 1 [a,b,c].length=true:=bD (i:=1) (by simp);have g1:ltI 1 (af [a,b,c].length)=true:=fO (i:=1) (by simp);have b1:Nat.ble 2 [a,b,c].length=true:=fF (by simp);have h2:=fZ (m:=999999999) (hs c (by simp)) (by omega);have n2:ah ([a,b,c].map Value.string) 2 = .string c:=rfl;have i2:inI 2 [a,b,c].length=true:=bD (i:=2) (by simp);have g2:ltI 2 (af [a,b,c].length)=true:=fO (i:=2) (by simp);have b2:Nat.ble 3 [a,b,c].length=true:=fF (by simp);simp only[fV,fU,jq,h0,n0,i0,g0,b0,h1,n1,i1,g1,b1,h2,n2,i2,g2,b2,Bool.and_self,aA,az,ax];cases bG a 1<;>cases bG b 999999999<;>cases bG c 999999999<;>rfl
  |a::b::c::d::t,hs=>
   have h0:=fZ (m:=1) (hs a (by simp)) (by omega);have n0:ah ((a::b::c::d::t).map Value.string) 0 = .string a:=rfl;have i0:inI 0 (a::b::c::d::t).length=true:=bD (i:=0) (by simp);have g0:ltI 0 (af (a::b::c::d::t).length)=true:=fO (i:=0) (by simp);have b0:Nat.ble 1 (a::b::c::d::t).length=true:=fF (by simp);have h1:=fZ (m:=999999999) (hs b (by simp)) (by omega);have n1:ah ((a::b::c::d::t).map Value.string) 1 = .string b:=rfl;have i1:inI 1 (a::b::c::d::t).length=true:=bD (i:=1) (by simp);have g1:ltI 1 (af (a::b::c::d::t).length)=true:=fO (i:=1) (by simp);have b1:Nat.ble 2 (a::b::c::d::t).length=true:=fF (by simp);have h2:=fZ (m:=999999999) (hs c (by simp)) (by omega);have n2:ah ((a::b::c::d::t).map Value.string) 2 = .string c:=rfl;have i2:inI 2 (a::b::c::d::t).length=true:=bD (i:=2) (by simp);have g2:ltI 2 (af (a::b::c::d::t).length)=true:=fO (i:=2) (by simp);have b2:Nat.ble 3 (a::b::c::d::t).length=true:=fF (by simp);have e:eqI (af (a::b::c::d::t).length) 3=false:=vN (k:=3) (by simp);simp only[fV,fU,jq,h0,n0,i0,g0,b0,h1,n1,i1,g1,b1,h2,n2,i2,g2,b2,e,Bool.and_self,aA,az,ax];cases bG a 1<;>cases bG b 999999999<;>cases bG c 999999999<;>rfl
theorem afC{OC:List Value->List Blk->Bool}{on:Nat}{oc:List Value}{ob:Bool}{s w0:ByteArray}{r:List ByteArray}{se:List Nat}(hs:SzW r):iw P E (j_ lM bG dE szS eY byS OC (ai 3 on 0 oc) ob) 50 6 Bli Hli (liV s (w0::r).length 0 ((w0::r).map Value.string)) (liB dI (.map aC 12) (.miter (some 1) 12 (11::se) 12)) (.int .i64 12) (fC ⟨#[114,111,117,110,100]⟩ ⟨#[]⟩)=kV s (w0::r) (11::se) (qm ⟨#[114,111,117,110,100]⟩ 12 w0 r):=by
 rw[aai];unfold kV again found liR qm fzS ai;rw[fzU];simp only[l_in,kC,BZ,Ap,fV,fU,uG,uN,lq,yR,oz,Bool.and_self,aA];cases eqS _ w0 with
 |false=>rfl
 |true=>
  match r,hs with
  |[],hs=>
   rfl
  |a::t,hs=>
   have e:eqI (af (a::t).length) 0=false:=vN (k:=0) (by simp);simp only[fV,fU,jq,e,Bool.and_self,aA,az,ax]
   rfl
def n_:ByteArray:=⟨#[99,111,109,109,105,116]⟩
def nM(w0:ByteArray)(r:List ByteArray):Option (ActM×Value):=match eqS n_ w0,r with
 |true,a::b::t=>(match bG a 1,pV (b::t)with
  |true,true=>some (⟨1,dE a,0,0,⟨#[]⟩,opsV (b::t)⟩,aK (opsV (b::t)))
  |_,_=>none)
 |_,_=>none
theorem agp{s w0:ByteArray}{r:List ByteArray}{se:List Nat}(hs:SzW r):iw P E (j_ lM bG dE szS eY byS (zq.at (r.drop 1)) (ai 3 (opsV (r.drop 1)).length 0 (EOp.all (opsV (r.drop 1)))) (pV (r.drop 1))) 50 6 Bli Hli (liV s (w0::r).length 0 ((w0::r).map Value.string)) (liB dI (.map aC 12) (.miter (some 1) 12 (0::se) 12)) (.int .i64 1) (fC ⟨#[99,111,109,109,105,116]⟩ ⟨#[110,111]⟩)=kV s (w0::r) (0::se) (nM w0 r):=by
 rw[acJ];unfold kV again found liR nM fzS;rw[show n_=⟨#[99,111,109,109,105,116]⟩ from rfl];simp only[l_in,kC,BZ,Ap,fV,fU,uG,uN,lq,yR,oz,Bool.and_self,aA];cases eqS _ w0 with
 |false=>unfold ai; rw[fzU]; rfl
 |true=>
  match r,hs with
  |[],hs=>unfold ai; rw[fzU]; rfl
  |[a],hs=>
   have h0:=fZ (m:=1) (hs a (by simp)) (by omega);have n0:ah ([a].map Value.string) 0 = .string a:=rfl;have i0:inI 0 [a].length=true:=bD (i:=0) (by simp);have g0:ltI 0 (af [a].length)=true:=fO (i:=0) (by simp);have b0:Nat.ble 1 [a].length=true:=fF (by simp);simp only[fV,fU,jq,h0,n0,i0,g0,b0,Bool.and_self,aA,az,ax];unfold ai; rw[fzU];cases bG a 1<;>rfl
  |a::b::t,hs=>
   have h0:=fZ (m:=1) (hs a (by simp)) (by omega);have n0:ah ((a::b::t).map Value.string) 0 = .string a:=rfl;have i0:inI 0 (a::b::t).length=true:=bD (i:=0) (by simp);have g0:ltI 0 (af (a::b::t).length)=true:=fO (i:=0) (by simp);have g1:ltI 1 (af (a::b::t).length)=true:=fO (i:=1) (by simp);have b0:Nat.ble 1 (a::b::t).length=true:=fF (by simp);have c2:eP 0 2 (a::b::t).length=true:=mi (by omega) (by omega) (by simp only[List.length_cons]; omega);have d1:(a::b::t).drop 1=b::t:=rfl;simp only[fV,fU,jq,h0,n0,i0,g0,g1,b0,c2,d1,uG,uN,lq,yR,cap0,Bool.and_self,aA,az,ax];cases bG a 1 with
   |false=>unfold ai; rw[fzU]; rfl
   |true=>
    simp only[az];refine bu (k:=zq) (s:=b::t) (by show [fzS _]=_; unfold fzS ai; rw[fzU]) rfl ?_;unfold aK ai;rw[fzU,ja];cases pV (b::t)<;>rfl
def ctL(ws:List ByteArray):Ct:=j_ lM bG dE szS eY byS (zq.at (ws.drop 2)) (aK (opsV (ws.drop 2))) (pV (ws.drop 2))
theorem aeK{ws:List ByteArray}(h:yT ws)(hl:ws.length<4194304):CtOk P (ctL ws):=
 aO (aU (aU aW aeR) key_ok) (eF zq adS (s:=ws.drop 2) ⟨⟨fun w hw=>h.1 w (List.mem_of_mem_drop hw),by rw[List.length_drop]; omega⟩,by rw[List.length_drop]; omega⟩)
def dX(k:Nat)(w0:ByteArray)(r:List ByteArray):Option (ActM×Value):=match k with
 |0=>nM w0 r
 |1=>nP ⟨#[114,101,97,100]⟩ 2 w0 r
 |2=>gZ ⟨#[116,105,99,107]⟩ 3 w0 r
 |3=>gZ ⟨#[112,114,111,109,111,116,101]⟩ 4 w0 r
 |4=>gZ ⟨#[102,108,117,115,104]⟩ 5 w0 r
 |5=>jg ⟨#[100,101,108,105,118,101,114]⟩ 6 w0 r
 |6=>jg ⟨#[116,119,105,99,101]⟩ 7 w0 r
 |7=>jg ⟨#[100,114,111,112]⟩ 8 w0 r
 |8=>nN ⟨#[102,117,115,101]⟩ 9 w0 r
 |9=>gZ ⟨#[112,117,108,108]⟩ 10 w0 r
 |10=>kZ ⟨#[115,116,97,114,116]⟩ 11 w0 r
 |11=>qm ⟨#[114,111,117,110,100]⟩ 12 w0 r
 |_=>none
theorem aeH{s w0:ByteArray}{r:List ByteArray}{se:List Nat}(hs:SzW r){e:MapEntry}(he:e∈aC):iw P E (ctL (w0::r)) 50 6 Bli Hli (liV s (w0::r).length 0 ((w0::r).map Value.string)) (liB dI (.map aC 12) (.miter (some 1) 12 (e.born::se) 12)) e.key e.val=kV s (w0::r) (e.born::se) (dX e.born w0 r):=by
 unfold aC at he;simp only[List.mem_cons,List.not_mem_nil,or_false]at he;rcases he with rfl | rfl | rfl | rfl | rfl | rfl | rfl | rfl | rfl | rfl | rfl | rfl
 ·exact agp hs
 ·exact af6 hs
 ·exact agl hs
 ·exact af7 hs
 ·exact af9 hs
 ·exact agn hs
 ·exact agc hs
 ·exact agh hs
 ·exact agk hs
 ·exact agq hs
 ·exact afV hs
 ·exact afC hs
def CZ(k:Nat):List UInt8:=([[99,111,109,109,105,116],[114,101,97,100],[116,105,99,107],[112,114,111,109,111,116,101],[102,108,117,115,104],[100,101,108,105,118,101,114],[116,119,105,99,101],[100,114,111,112],[102,117,115,101],[112,117,108,108],[115,116,97,114,116],[114,111,117,110,100]]:List (List UInt8)).getD k []
theorem oJ{W w0:ByteArray}(h:eqS W w0=true):w0.data.toList=W.data.toList:=by
 rw[p_]at h;exact(beq_iff_eq.1 h).symm
theorem aaO{w0:ByteArray}{r:List ByteArray}{p:ActM×Value}(h:nM w0 r=some p):w0.data.toList=n_.data.toList:=by
 unfold nM at h;cases hq:eqS n_ w0 with
 |true=>exact oJ hq
 |false=>rw[hq]at h; cases h
theorem CU{W:ByteArray}{kd:Int}{w0:ByteArray}{r:List ByteArray}{p:ActM×Value}(h:gZ W kd w0 r=some p):w0.data.toList=W.data.toList:=by
 unfold gZ at h;cases hq:eqS W w0 with
 |true=>exact oJ hq
 |false=>rw[hq]at h; cases h
theorem Jl{W:ByteArray}{kd:Int}{w0:ByteArray}{r:List ByteArray}{p:ActM×Value}(h:jg W kd w0 r=some p):w0.data.toList=W.data.toList:=by
 unfold jg at h;cases hq:eqS W w0 with
 |true=>exact oJ hq
 |false=>rw[hq]at h; cases h
theorem Zz{W:ByteArray}{kd:Int}{w0:ByteArray}{r:List ByteArray}{p:ActM×Value}(h:nP W kd w0 r=some p):w0.data.toList=W.data.toList:=by
 unfold nP at h;cases hq:eqS W w0 with
 |true=>exact oJ hq
 |false=>rw[hq]at h; cases h
theorem aam{W:ByteArray}{kd:Int}{w0:ByteArray}{r:List ByteArray}{p:ActM×Value}(h:nN W kd w0 r=some p):w0.data.toList=W.data.toList:=by
 unfold nN at h;cases hq:eqS W w0 with
 |true=>exact oJ hq
 |false=>rw[hq]at h; cases h
theorem YC{W:ByteArray}{kd:Int}{w0:ByteArray}{r:List ByteArray}{p:ActM×Value}(h:kZ W kd w0 r=some p):w0.data.toList=W.data.toList:=by
 unfold kZ at h;cases hq:eqS W w0 with
 |true=>exact oJ hq
 |false=>rw[hq]at h; cases h
theorem acz{W:ByteArray}{kd:Int}{w0:ByteArray}{r:List ByteArray}{p:ActM×Value}(h:qm W kd w0 r=some p):w0.data.toList=W.data.toList:=by
 unfold qm at h;cases hq:eqS W w0 with
 |true=>exact oJ hq
 |false=>rw[hq]at h; cases h
theorem yz:∀ {k:Nat} {w0:ByteArray} {r:List ByteArray} {p:ActM×Value},dX k w0 r=some p->k<12/\w0.data.toList=CZ k
 |0,_,_,_,h=>⟨by omega,aaO h⟩
 |1,_,_,_,h=>⟨by omega,Zz h⟩
 |2,_,_,_,h=>⟨by omega,CU h⟩
 |3,_,_,_,h=>⟨by omega,CU h⟩
 |4,_,_,_,h=>⟨by omega,CU h⟩
 |5,_,_,_,h=>⟨by omega,Jl h⟩
 |6,_,_,_,h=>⟨by omega,Jl h⟩
 |7,_,_,_,h=>⟨by omega,Jl h⟩
 |8,_,_,_,h=>⟨by omega,aam h⟩
 |9,_,_,_,h=>⟨by omega,CU h⟩
 |10,_,_,_,h=>⟨by omega,YC h⟩
 |11,_,_,_,h=>⟨by omega,acz h⟩
 |_+12,_,_,_,h=>by cases h
theorem Y5:∀ i j:Fin 12,CZ i.val=CZ j.val->i=j:=by decide
theorem YT{i j:Nat}{w0:ByteArray}{r:List ByteArray}{p q:ActM×Value}(h:dX i w0 r=some p)(k:dX j w0 r=some q):i=j:=by
 obtain⟨h1,h2⟩:=yz h;obtain⟨k1,k2⟩:=yz k;have:=Y5 ⟨i,h1⟩ ⟨j,k1⟩ (h2.symm.trans k2);exact congrArg Fin.val this
def gm(w0:ByteArray)(r:List ByteArray):Option (ActM×Value):=(List.range 12).findSome? fun k=>dX k w0 r
theorem FW{k:Nat}{w0:ByteArray}{r:List ByteArray}{p:ActM×Value}(h:dX k w0 r=some p):gm w0 r=some p:=by
 cases hq:gm w0 r with
 |none=>
  unfold gm at hq;rw[List.findSome?_eq_none_iff]at hq;have:=hq k (List.mem_range.2 (yz h).1);rw[this]at h; cases h
 |some q=>
  unfold gm at hq;obtain⟨j,hj,hf⟩:=List.exists_of_findSome?_eq_some hq;obtain rfl:=YT h hf;rw[h]at hf; exact hf.symm
theorem UE{w0:ByteArray}{r:List ByteArray}(h:∀ k,k<12->dX k w0 r=none):gm w0 r=none:=by
 unfold gm;rw[List.findSome?_eq_none_iff];intro k hk;exact h k (List.mem_range.1 hk)
def EJ(s:ByteArray)(ws:List ByteArray)(th:Bool):List Value:=[.string s, .pointer (some ⟨0,0,none⟩), .bool th, .int .i64 0,fzS ws, .pointer (some ⟨2,0,none⟩)]
def aay:Option (ActM×Value)->Ex
 |some _=> .ret
 |none=> .normal
def xW:Option (ActM×Value)->List Value
 |some p=>kF p.1 (aK p.1.ops)
 |none=>dI
def GR:Option (ActM×Value)->List Value
 |some p=>kF p.1 p.2
 |none=>dI
theorem NT{Y:Env}{v:Value}(h:VR Y mG v):VR Y (aK []) v:=by
 have h:v = .slice none 0 0:=h;subst h;unfold aK ai;simp only[VR];rw[if_neg (Nat.not_lt_of_le (Nat.le_add_right FZ 3))];simp only[VZ,VZA,VZL];refine⟨0,0,rfl,?_⟩;have e1:FZ+3-FZ=3:=by omega
 rw[e1];unfold gW;rw[if_neg (by decide)];exact⟨rfl,Or.inl ⟨rfl,by decide,rfl⟩⟩
theorem Rt{k:Nat}{w0:ByteArray}{r:List ByteArray}{p:ActM×Value}(h:dX k w0 r=some p):(p.2=mG/\p.1.ops=[])\/p.2=aK p.1.ops:=by
 unfold dX at h;split at h
 ·right;unfold nM at h;split at h
  ·split at h
   ·obtain rfl:=Option.some.inj h; rfl
   ·cases h
  ·cases h
 all_goals first
  |(cases h; done)
  |(left
    first | unfold nP at h | unfold kZ at h | unfold nN at h | unfold gZ at h | unfold jg at h | unfold qm at h
    split at h
    ·first
     |(split at h<;>first | (obtain rfl:=Option.some.inj h; exact⟨rfl,rfl⟩) | (cases h; done))
     |(obtain rfl:=Option.some.inj h; exact⟨rfl,rfl⟩)
    ·cases h)
theorem aaC{k:Nat}{w0:ByteArray}{r:List ByteArray}{Y:Env}{l:List Value}(h:VRL Y (GR (dX k w0 r)) l):VRL Y (xW (dX k w0 r)) l:=by
 cases hf:dX k w0 r with
 |none=>rw[hf]at h; exact h
 |some p=>
  rw[hf]at h;rcases Rt hf with⟨h1,h2⟩ | h1
  ·unfold GR kF at h;unfold xW kF;simp only at h ⊢;rw[h1]at h;rw[h2];simp only[VRL]at h ⊢;obtain⟨y1,l1,rfl,q1,y2,l2,rfl,q2,y3,l3,rfl,q3,y4,l4,rfl,q4,y5,l5,rfl,q5,y6,l6,rfl,q6,q7⟩:=h;exact⟨y1,_,rfl,q1,y2,_,rfl,q2,y3,_,rfl,q3,y4,_,rfl,q4,y5,_,rfl,q5,y6,_,rfl,NT q6,q7⟩
  ·unfold GR at h;unfold xW;simp only at h ⊢;rw[<-h1]; exact h
def EX(a:List Value):List Blk:=[.cells a 24 true, .dead, .dead]
theorem YB{K:Prot}{Y:Env}{w:World}{a:List Value}{es:List MapEntry}{c s l:Nat}{m:Option Nat}{se:List Nat}(h:Rel P K Y (mkSt [.cells a 24 true, .map es c, .miter m s se l]) w):Rel P K Y (mkSt (EX a)) w:=by
 have h1:=N_ 2 (fun b hb=>by cases hb; rfl) h;exact N_ 1 (fun b hb=>by cases hb; rfl) h1
theorem MO:okL Hli=true:=by kernel_rfl
theorem WM:∀ e∈aC,e.born<12:=by
 intro e he;unfold aC at he;simp only[List.mem_cons,List.not_mem_nil,or_false]at he;rcases he with rfl | rfl | rfl | rfl | rfl | rfl | rfl | rfl | rfl | rfl | rfl | rfl<;>decide
theorem J4:aC.all (fun e=>decide (e.born>=12))=false:=rfl
theorem VF:∀ k,k<12->∃ e∈aC,e.born=k:=by
 intro k hk;have:∀ j:Fin 12,((aC.map (·.born))[j.val]?)=some j.val:=by decide
 have hm:=List.mem_of_getElem? (this ⟨k,hk⟩);obtain⟨e,he,h⟩:=List.mem_map.1 hm;exact⟨e,he,h⟩
theorem WP{se:List Nat}{e:MapEntry}(he:e∈iW se aC):(iW (e.born::se) aC).length<(iW se aC).length:=by
 have h1:iW (e.born::se) aC=(iW se aC).filter fun x=>!(x.born == e.born):=by
  unfold iW;rw[List.filter_filter];apply List.filter_congr;intro x _;rw[List.contains_cons,Bool.not_or]
 rw[h1];exact List.length_filter_lt_length_iff_exists.2 ⟨e,he,by simp⟩
theorem ads{s w0:ByteArray}{r:List ByteArray}(hw:yT (w0::r))(hl:(w0::r).length<4194304):∀ (m:Nat) (se:List Nat),(iW se aC).length<=m->(∀ k∈se,dX k w0 r=none)->
  LR P 6 0 Bli Hli (liV s (w0::r).length 0 ((w0::r).map Value.string)) (liB dI (.map aC 12) (.miter (some 1) 12 se 12)) (aay (gm w0 r)) (EJ s (w0::r) (gm w0 r).isSome) (EX (xW (gm w0 r))):=by
 have hs:SzW r:=fun w h=>hw.1 w (List.mem_cons_of_mem _ h);have hit:(Hli.fr (liV s (w0::r).length 0 ((w0::r).map Value.string))).eval (.tmp 30) = .pointer (some ⟨2,0,none⟩):=rfl;have stop:∀ se,iW se aC=[]->(∀ k∈se,dX k w0 r=none)->LR P 6 0 Bli Hli (liV s (w0::r).length 0 ((w0::r).map Value.string)) (liB dI (.map aC 12) (.miter (some 1) 12 se 12)) (aay (gm w0 r)) (EJ s (w0::r) (gm w0 r).isSome) (EX (xW (gm w0 r))):=by
  intro se hleft hse;have hn:gm w0 r=none:=UE fun k hk=>by
   obtain⟨e,he,rfl⟩:=VF k hk;by_cases hc:e.born∈se
   ·exact hse _ hc
   ·exfalso;have:e∈iW se aC:=List.mem_filter.2 ⟨he,by simpa using hc⟩;rw[hleft]at this;cases this
  rw[hn];have q:=acX s (w0::r).length 0 ((w0::r).map Value.string) se;refine LR.over (n:=50) (j:=0) (aF ctF) au aW Q4 MO (FirstNext.of JR) hit rfl rfl (Or.inl J4) hleft (vs1:=EJ s (w0::r) false) (bs1:=liB dI (.map aC 12) (.miter (some 1) 12 se 12)) (q.trans ?_) rfl fun K Y w h=>YB h;unfold EJ fzS ai;rw[fzU]
  rfl
 intro m
 induction m with
 |zero=>
  intro se hm hse;exact stop se (List.length_eq_zero_iff.1 (by omega)) hse
 |succ m ih=>
  intro se hm hse;by_cases hne:iW se aC=[]
  ·exact stop se hne hse
  ·refine LR.pick (n:=50) (aF (ctL (w0::r))) au (aeK hw hl) Q4 MO (FirstNext.of JR) hit ⟨rfl,rfl,Or.inl J4,WM,hne⟩
    (ex:=fun e=>aay (dX e.born w0 r)) (vs1:=fun e=>EJ s (w0::r) (dX e.born w0 r).isSome) (bs1:=fun e=>liB (GR (dX e.born w0 r)) (.map aC 12) (.miter (some 1) 12 (e.born::se) 12)) (fun e he=>?_) (fun e he=>?_)
   ·have q:=aeH (s:=s) (w0:=w0) (r:=r) (se:=se) hs (List.mem_filter.1 he).1;refine Eq.trans ?_ (q.trans ?_)
    ·rfl
    cases dX e.born w0 r<;>rfl
   ·cases hf:dX e.born w0 r with
    |none=>
     refine Or.inl ⟨rfl,?_⟩;exact ih (e.born::se) (by have:=WP he; omega) (fun k hk=>by
      rcases List.mem_cons.1 hk with rfl | hk
      ·exact hf
      ·exact hse k hk)
    |some p=>
     rw[FW hf];refine Or.inr ⟨(by intro h; cases h),rfl,rfl,fun K Y w h=>?_⟩;have hw2:∀ Y l,VRL Y (GR (some p)) l->VRL Y (xW (some p)) l:=fun Y l h=>by
      have:=aaC (k:=e.born) (w0:=w0) (r:=r) (Y:=Y) (l:=l);rw[hf]at this;exact this h
     exact YB (aaZ (r:=0) rfl (by rfl) hw2 h)
end Go.VS.Tryz
end

noncomputable section
namespace Go.VS.Pl

def wordsB:List UInt8->List UInt8->List (List UInt8)
 |cur,[]=>match cur with
  |[]=>[]
  |c::t=>[c::t]
 |cur,b::l=>match b == 32 with
  |true=>match cur with
   |[]=>wordsB [] l
   |c::t=>(c::t)::wordsB [] l
  |false=>wordsB (cur++[b]) l
theorem D6:∀ (k:Nat) (cur l:List UInt8),k<=l.length->(∀ j,j<k->l.getD j 0≠32)->wordsB cur l=wordsB (cur++l.take k) (l.drop k)
 |0,cur,l,_,_=>by simp
 |k+1,cur,[],h,_=>by simp at h
 |k+1,cur,b::l,h,hz=>by
  have h0:(b == 32)=false:=by
   have:=hz 0 (by omega);simpa using this
  show(match b == 32 with | true=>_ | false=>_)=_;rw[h0];simp only;rw[D6 k (cur++[b]) l (by simpa using h) (fun j hj=>by have:=hz (j+1) (by omega); simpa using this)];simp
theorem ZU(s:ByteArray)(i:Nat):s.get! i=s.data.toList.getD i 0:=by
 show s.data[i]! = _;by_cases h:i<s.data.size
 ·rw[getElem!_pos s.data i h,List.getD_eq_getElem?_getD,List.getElem?_eq_getElem (by simpa using h)];simp
 ·rw[getElem!_neg s.data i h,List.getD_eq_getElem?_getD,List.getElem?_eq_none (by simpa using h)]
  rfl
theorem Ut(s:ByteArray)(i:Nat)(hi:i<s.size):((Utf8.decode s i).1=32↔s.data.toList.getD i 0=32)/\(s.data.toList.getD i 0=32->(Utf8.decode s i).2=1)/\1<=(Utf8.decode s i).2/\i+(Utf8.decode s i).2<=s.size/\
  (s.data.toList.getD i 0≠32->∀ j,j<(Utf8.decode s i).2->s.data.toList.getD (i+j) 0≠32):=by
 rw[Lib.decode_at];simp only[ZU];generalize hb0:s.data.toList.getD i 0=b0;generalize hb1:s.data.toList.getD (i+1) 0=b1;generalize hb2:s.data.toList.getD (i+2) 0=b2;generalize hb3:s.data.toList.getD (i+3) 0=b3;have q0:b0=32↔b0.toNat=32:=⟨fun h=>by rw[h]; rfl,fun h=>UInt8.toNat_inj.1 h⟩
 have n1:b1.toNat / 64=2->b1≠32:=fun h e=>by rw[e]at h; exact absurd h (by decide)
 have n2:b2.toNat / 64=2->b2≠32:=fun h e=>by rw[e]at h; exact absurd h (by decide)
 have n3:b3.toNat / 64=2->b3≠32:=fun h e=>by rw[e]at h; exact absurd h (by decide)
 have j0:s.data.toList.getD (i+0) 0=b0:=hb0;rw[q0];by_cases hlt:b0.toNat<128
 ·have e:Lib.decodeN (s.size-i) b0.toNat b1.toNat b2.toNat b3.toNat=(b0.toNat,1):=by unfold Lib.decodeN; rw[if_pos hlt]
  rw[e];refine⟨Iff.rfl,fun _=>rfl,Nat.le_refl _,by simp only; omega,fun h j hj=>?_⟩;obtain rfl:j=0:=by simp only at hj; omega
  rw[j0]; exact h
 ·have h32:b0.toNat≠32:=by omega
  rcases Lib.decodeN_shape (s.size-i) b0.toNat b1.toNat b2.toNat b3.toNat with⟨c,_⟩ | ⟨c1,c2,c3,cv,e⟩ | ⟨c1,c2,c3,c4,cv,_,e⟩ | ⟨c1,c2,c3,c4,c5,cv,_,e⟩ | e
  ·exact absurd c hlt
  ·rw[e];refine⟨⟨fun h=>by simp only at h; omega,fun h=>absurd h h32⟩,fun h=>absurd h h32,by simp only; omega,by simp only; omega,fun h j hj=>?_⟩;simp only at hj
   match j,hj with
   |0,_=>rw[j0]; exact h
   |1,_=>rw[hb1]; exact n1 c3
  ·rw[e];refine⟨⟨fun h=>by simp only at h; omega,fun h=>absurd h h32⟩,fun h=>absurd h h32,by simp only; omega,by simp only; omega,fun h j hj=>?_⟩;simp only at hj
   match j,hj with
   |0,_=>rw[j0]; exact h
   |1,_=>rw[hb1]; exact n1 c3
   |2,_=>rw[hb2]; exact n2 c4
  ·rw[e];refine⟨⟨fun h=>by simp only at h; omega,fun h=>absurd h h32⟩,fun h=>absurd h h32,by simp only; omega,by simp only; omega,fun h j hj=>?_⟩;simp only at hj
   match j,hj with
   |0,_=>rw[j0]; exact h
   |1,_=>rw[hb1]; exact n1 c3
   |2,_=>rw[hb2]; exact n2 c4
   |3,_=>rw[hb3]; exact n3 c5
  ·rw[e];refine⟨⟨fun h=>by simp only at h; omega,fun h=>absurd h h32⟩,fun h=>absurd h h32,by simp only; omega,by simp only; omega,fun h j hj=>?_⟩;obtain rfl:j=0:=by simp only at hj; omega
   rw[j0]; exact h
def curB(s:ByteArray)(pos:Nat):Option Nat->List UInt8
 |some a=>(s.data.toList.drop a).take (pos-a)
 |none=>[]
def ext(s:ByteArray)(x:Nat×Nat):List UInt8:=(s.data.toList.drop x.1).take (x.2-x.1)
theorem getD_drop(l:List UInt8)(i j:Nat):(l.drop i).getD j 0=l.getD (i+j) 0:=by
 rw[List.getD_eq_getElem?_getD,List.getD_eq_getElem?_getD,List.getElem?_drop]
theorem Qc(s:ByteArray)(p:Nat->Bool)(hp:∀ x,p x=true↔x=32):∀ (f pos:Nat) (st:Option Nat) (acc:List (Nat×Nat)),s.size<=pos+f->pos<=s.size->(∀ a,st=some a->a<pos)->
  (Lib.closeSpans s (Lib.spansFromP p s f pos st acc)).map (ext s)=acc.map (ext s)++wordsB (curB s pos st) (s.data.toList.drop pos):=by
 have hlen:s.data.toList.length=s.size:=by simp
 have fin:∀ (pos:Nat) (st:Option Nat) (acc:List (Nat×Nat)),pos=s.size->(∀ a,st=some a->a<pos)->(Lib.closeSpans s (acc,st)).map (ext s)=acc.map (ext s)++wordsB (curB s pos st) (s.data.toList.drop pos):=by
  intro pos st acc hpos hst;subst hpos;rw[List.drop_of_length_le (by rw[hlen]; exact Nat.le_refl _)];cases st with
  |none=>simp[Lib.closeSpans,curB,wordsB]
  |some a=>
   have ha:=hst a rfl;have hne:curB s s.size (some a)≠[]:=by
    unfold curB;intro h;have:=congrArg List.length h;rw[List.length_take,List.length_drop,hlen]at this;simp only[List.length_nil]at this;omega
   have hw:wordsB (curB s s.size (some a)) []=[curB s s.size (some a)]:=by
    cases hc:curB s s.size (some a)with
    |nil=>exact absurd hc hne
    |cons c t=>rfl
   rw[hw];simp[Lib.closeSpans,ext,curB]
 intro f
 induction f with
 |zero=>
  intro pos st acc h1 h2 hst;exact fin pos st acc (by omega) hst
 |succ f ih=>
  intro pos st acc h1 h2 hst;unfold Lib.spansFromP;by_cases hlt:pos<s.size
  ·rw[if_pos hlt];obtain⟨r1,r2,r3,r4,r5⟩:=Ut s pos hlt;have hd0:s.data.toList.drop pos=s.data.toList.getD pos 0::s.data.toList.drop (pos+1):=by
    rw[List.drop_eq_getElem_cons (by rw[hlen]; exact hlt),List.getD_eq_getElem?_getD,List.getElem?_eq_getElem (by rw[hlen]; exact hlt)]
    rfl
   by_cases hb:s.data.toList.getD pos 0=32
   ·have hpt:p (Utf8.decode s pos).1=true:=(hp _).2 (r1.2 hb);rw[if_pos hpt,r2 hb];have hw:∀ cur,wordsB cur (s.data.toList.drop pos)=match cur with | []=>wordsB [] (s.data.toList.drop (pos+1)) | c::t=>(c::t)::wordsB [] (s.data.toList.drop (pos+1)):=by
     intro cur;rw[hd0,hb]
     rfl
    cases st with
    |none=>
     simp only;rw[ih _ _ _ (by omega) (by omega) (by intro a h; cases h),hw]
     rfl
    |some a=>
     have ha:=hst a rfl;simp only;rw[ih _ _ _ (by omega) (by omega) (by intro a h; cases h),hw];cases hc:curB s pos (some a)with
     |nil=>
      exfalso;have:=congrArg List.length hc;unfold curB at this;rw[List.length_take,List.length_drop,hlen]at this;simp only[List.length_nil]at this;omega
     |cons c t=>
      have:ext s (a,pos)=c::t:=hc;simp[this,curB]
   ·have hpf:¬(p (Utf8.decode s pos).1=true):=fun h=>hb (r1.1 ((hp _).1 h));rw[if_neg hpf];have hskip:=fun cur=>D6 (Utf8.decode s pos).2 cur (s.data.toList.drop pos) (by rw[List.length_drop,hlen]; omega) (fun j hj=>by rw[getD_drop]; exact r5 hb j hj);have hcur:∀ a,a<=pos->(s.data.toList.drop a).take (pos+(Utf8.decode s pos).2-a)=(s.data.toList.drop a).take (pos-a)++(s.data.toList.drop pos).take (Utf8.decode s pos).2:=by
     intro a ha;rw[show pos+(Utf8.decode s pos).2-a=(pos-a)+(Utf8.decode s pos).2 by omega,List.take_add,List.drop_drop,show a+(pos-a)=pos by omega]
    cases st with
    |none=>
     simp only;rw[ih _ _ _ (by omega) r4 (by intro a h; cases h; omega),hskip,List.drop_drop];unfold curB;simp only;rw[show pos+(Utf8.decode s pos).2-pos=(Utf8.decode s pos).2 by omega]
     rfl
    |some a=>
     have ha:=hst a rfl;simp only;rw[ih _ _ _ (by omega) r4 (by intro b h; cases h; omega),hskip,List.drop_drop];unfold curB;simp only;rw[hcur a (by omega)]
  ·rw[if_neg hlt];exact fin pos st acc (by omega) hst
theorem fields_words(s:ByteArray)(p:Nat->Bool)(hp:∀ x,p x=true↔x=32):(Lib.goFieldsP p s).map (fun w=>w.data.toList)=wordsB [] s.data.toList:=by
 have h:=Qc s p hp s.size 0 none [] (by omega) (Nat.zero_le _) (by intro a h; cases h);simp only[List.map_nil,List.nil_append,List.drop_zero,curB]at h;rw[<-h];unfold Lib.goFieldsP Lib.spansOfP;rw[List.map_map];apply List.map_congr_left;intro x _;show(s.extract x.1 x.2).data.toList=_;unfold ext;simp[ByteArray.extract,ByteArray.copySlice,List.extract_eq_take_drop]
theorem wordsB_facts:∀ (l cur:List UInt8),(∀ w∈wordsB cur l,w≠[]/\w.length<=cur.length+l.length)/\(wordsB cur l).length<=l.length+1
 |[],cur=>by
  cases cur with
  |nil=>simp[wordsB]
  |cons c t=>simp[wordsB]
 |b::l,cur=>by
  unfold wordsB;cases b == 32 with
  |true=>
   obtain⟨h1,h2⟩:=wordsB_facts l [];cases cur with
   |nil=>
    refine⟨fun w hw=>?_,?_⟩
    ·obtain⟨q1,q2⟩:=h1 w hw;exact⟨q1,by simp only[List.length_cons,List.length_nil]at q2 ⊢; omega⟩
    ·simp only[List.length_cons]; omega
   |cons c t=>
    refine⟨fun w hw=>?_,?_⟩
    ·rcases List.mem_cons.1 hw with rfl | hw
     ·exact⟨by simp,by simp only[List.length_cons]; omega⟩
     ·obtain⟨q1,q2⟩:=h1 w hw;exact⟨q1,by simp only[List.length_cons,List.length_nil]at q2 ⊢; omega⟩
    ·simp only[List.length_cons]; omega
  |false=>
   obtain⟨h1,h2⟩:=wordsB_facts l (cur++[b]);refine⟨fun w hw=>?_,?_⟩
   ·obtain⟨q1,q2⟩:=h1 w hw;exact⟨q1,by simp only[List.length_append,List.length_cons,List.length_nil]at q2 ⊢; omega⟩
   ·simp only[List.length_cons]; omega
end Go.VS.Pl
end

noncomputable section
namespace Go.VS.Tryz
open Go.VS
set_option maxRecDepth 1000000
def afS(I:ByteArray->UInt8->Bool)(WC:List Value->List Blk->Bool)(wn:Nat)(wc:List Value)(LC:List Value->List Blk->Bool)(ok:Bool)(s:ByteArray)(z:Value)(k nd n t:Int)(key:ByteArray)(on:Nat)(oc:List Value):Ct:=
 o9 6 0 Hli (iD LC (.ite ok (.leaf (.ret,[.string s, .pointer (some ⟨0,0,none⟩), .bool true, .int .i64 0,z, .pointer (some ⟨2,0,none⟩)],EX [.int .i64 k, .int .i64 nd, .int .i64 n, .int .i64 t, .string key,ai 3 on 0 oc])) (.leaf (.normal,[.string s, .pointer (some ⟨0,0,none⟩), .bool false, .int .i64 0,z, .pointer (some ⟨2,0,none⟩)],EX dI))))
  (bJ P aJ 0 38 (iL WC (.leaf (ai 1 wn 0 wc,[]))) (bH P 16 (UI I) ctF))
theorem aaQ(I:ByteArray->UInt8->Bool)(WC:List Value->List Blk->Bool)(wn:Nat)(wc:List Value)(LC:List Value->List Blk->Bool)(ok:Bool)(z:Value)(k nd n t:Int)(key:ByteArray)(on:Nat)(oc:List Value)(s:ByteArray):bn P E (afS I WC wn wc LC ok s z k nd n t key on oc) 50 aJ [.keep, .val, .val] [24,4,25] 0 6 [.string s] [] =
 (ag (gtI (af s.size) 65536)
 (some ((.tuple ⟨[.agg ⟨[.int .i64 0,.int .i64 0,.int .i64 0,.int .i64 0,.string ⟨#[]⟩,.slice none 0 0]⟩,.bool false,.int .i64 3]⟩),(mkSt [])))
 (ag (I s (OfNat.ofNat 10))
 (some ((.tuple ⟨[.agg ⟨[.int .i64 0,.int .i64 0,.int .i64 0,.int .i64 0,.string ⟨#[]⟩,.slice none 0 0]⟩,.bool false,.int .i64 350]⟩),(mkSt [])))
 (ae (WC [.string s,.func (Go.Fn.func 39) ⟨[]⟩ ⟨[]⟩] [])
 (ag (eqI (af wn) 0)
 (some ((.tuple ⟨[.agg ⟨[.int .i64 0,.int .i64 0,.int .i64 0,.int .i64 0,.string ⟨#[]⟩,.slice none 0 0]⟩,.bool false,.int .i64 0]⟩),(mkSt [])))
 (ae (Bool.and (Nat.beq 1 1) (inI 0 wn))
 (ae (Bool.and (Nat.ble 1 wc.length) (dw .string (ah wc 0)))
 (ae (inI 0 (ByteArray.size (asS (ah wc 0))))
 (ag (eqI (bAt (asS (ah wc 0)) 0) 35)
 (some ((.tuple ⟨[.agg ⟨[.int .i64 0,.int .i64 0,.int .i64 0,.int .i64 0,.string ⟨#[]⟩,.slice none 0 0]⟩,.bool false,.int .i64 0]⟩),(mkSt [])))
 (ae (LC [.string s,.pointer (Option.some (Addr.mk 0 0 none)),.bool false,.int .i64 0,.iface 18446744073709551617 (.agg ⟨(.slice none wn 0)::wc⟩),.pointer (Option.some (Addr.mk 2 0 none))] [Blk.cells [.int .i64 0,.int .i64 0,.int .i64 0,.int .i64 0,.string ⟨#[]⟩,.slice none 0 0] 24 true,Blk.map [Go.MapEntry.mk (.int .i64 1) (.agg ⟨[.string ⟨#[99,111,109,109,105,116]⟩,.string ⟨#[110,111]⟩]⟩) 0,Go.MapEntry.mk (.int .i64 2) (.agg ⟨[.string ⟨#[114,101,97,100]⟩,.string ⟨#[110,107]⟩]⟩) 1,Go.MapEntry.mk (.int .i64 3) (.agg ⟨[.string ⟨#[116,105,99,107]⟩,.string ⟨#[110]⟩]⟩) 2,Go.MapEntry.mk (.int .i64 4) (.agg ⟨[.string ⟨#[112,114,111,109,111,116,101]⟩,.string ⟨#[110]⟩]⟩) 3,Go.MapEntry.mk (.int .i64 5) (.agg ⟨[.string ⟨#[102,108,117,115,104]⟩,.string ⟨#[110]⟩]⟩) 4,Go.MapEntry.mk (.int .i64 6) (.agg ⟨[.string ⟨#[100,101,108,105,118,101,114]⟩,.string ⟨#[97]⟩]⟩) 5,Go.MapEntry.mk (.int .i64 7) (.agg ⟨[.string ⟨#[116,119,105,99,101]⟩,.string ⟨#[97]⟩]⟩) 6,Go.MapEntry.mk (.int .i64 8) (.agg ⟨[.string ⟨#[100,114,111,112]⟩,.string ⟨#[97]⟩]⟩) 7,Go.MapEntry.mk (.int .i64 9) (.agg ⟨[.string ⟨#[102,117,115,101]⟩,.string ⟨#[110,97]⟩]⟩) 8,Go.MapEntry.mk (.int .i64 10) (.agg ⟨[.string ⟨#[112,117,108,108]⟩,.string ⟨#[110]⟩]⟩) 9,Go.MapEntry.mk (.int .i64 11) (.agg ⟨[.string ⟨#[115,116,97,114,116]⟩,.string ⟨#[110,97,116]⟩]⟩) 10,Go.MapEntry.mk (.int .i64 12) (.agg ⟨[.string ⟨#[114,111,117,110,100]⟩,.string ⟨#[]⟩]⟩) 11] 12,Blk.miter (Option.some 1) 12 [] 12])
 (ag ok
 (some ((.tuple ⟨[.agg ⟨[.int .i64 k,.int .i64 nd,.int .i64 n,.int .i64 t,.string key,.iface 18446744073709551619 (.agg ⟨(.slice none on 0)::oc⟩)]⟩,.bool true,.int .i64 0]⟩),(mkSt [])))
 (some ((.tuple ⟨[.agg ⟨[.int .i64 0,.int .i64 0,.int .i64 0,.int .i64 0,.string ⟨#[]⟩,.slice none 0 0]⟩,.bool false,.int .i64 350]⟩),(mkSt []))))))))))))):=by kernel_rfl
theorem o6(s:ByteArray):(ed s).map (fun w=>w.data.toList)=Pl.wordsB [] s.data.toList:=Pl.fields_words s _ fun x=>by
 show decide ((x:Int)=32)=true↔x=32;rw[decide_eq_true_iff]; omega
theorem nR(s:ByteArray):s.data.toList.length=s.size:=by simp
theorem JG{s:ByteArray}(h:s.size<=4194302):yT (ed s)/\(ed s).length<4194304/\∀ w∈ed s,0<w.size:=by
 obtain⟨h1,h2⟩:=Pl.wordsB_facts s.data.toList [];have hl:(ed s).length=(Pl.wordsB [] s.data.toList).length:=by rw[<-o6,List.length_map]
 rw[nR]at h2;have hm:∀ w∈ed s,w.data.toList∈Pl.wordsB [] s.data.toList:=fun w hw=>by rw[<-o6]; exact List.mem_map.2 ⟨w,hw,rfl⟩
 refine⟨⟨fun w hw=>?_,by omega⟩,by omega,fun w hw=>?_⟩
 ·have:=(h1 _ (hm w hw)).2;rw[nR,nR]at this;simp only[List.length_nil]at this;omega
 ·have:=(h1 _ (hm w hw)).1;rw[<-nR];exact List.length_pos_iff.2 this
def cZ:ActM:=⟨0,0,0,0,⟨#[]⟩,[]⟩
def wB(w0:ByteArray):Bool:=eqI (bAt w0 0) 35
def aG(s:ByteArray):ActM×Bool×Int:=match gtI (af s.size) 65536,inB s 10,ed s with
 |true,_,_=>(cZ,false,3)
 |false,true,_=>(cZ,false,350)
 |false,false,[]=>(cZ,false,0)
 |false,false,w0::r=>match wB w0,gm w0 r with
  |true,_=>(cZ,false,0)
  |false,some p=>(p.1,true,0)
  |false,none=>(cZ,false,350)
def g_(a:ActM):Value:= .agg ⟨kF a (aK a.ops)⟩
def yM(x:ActM×Bool×Int):Value:= .tuple ⟨[g_ x.1, .bool x.2.1, .int .i64 x.2.2]⟩
def kLi:Con (ByteArray×List ByteArray) where
 enc x:=(liV x.1 x.2.length 0 (x.2.map Value.string),liB dI (.map aC 12) (.miter (some 1) 12 [] 12))
 ok _:=True
 inj a b h:=by
  unfold liV at h;simp only[Prod.mk.injEq,List.cons.injEq,Value.string.injEq,true_and,and_true]at h;obtain⟨a1,a2⟩:=a;obtain⟨b1,b2⟩:=b;obtain⟨h1,h2⟩:=h;simp only at h1 h2;rw[h1,FT (ry h2)]
 dflt:=(default,[])
def Zx(s:ByteArray)(ws:List ByteArray)(o:Option (ActM×Value)):DT (Ex×List Value×List Blk):=
 .ite o.isSome (.leaf (.ret,EJ s ws true,EX (kF ((o.map (·.1)).getD cZ) (aK ((o.map (·.1)).getD cZ).ops)))) (.leaf (.normal,EJ s ws false,EX dI))
theorem Wp{s w0:ByteArray}{r:List ByteArray}(hw:yT (w0::r))(hl:(w0::r).length<4194304):LoopOk P 6 0 Bli Hli (iD (kLi.at (s,w0::r)) (Zx s (w0::r) (gm w0 r))):=
 Mc kLi (bz Ws) MO fun e vs' bs' hev=>by
  have q:=ads (s:=s) hw hl 12 [] (by decide) (fun k hk=>by cases hk);unfold Zx at hev;cases hf:gm w0 r with
  |none=>
   rw[hf]at hev q;simp only[Option.isSome_none,DT.eval,Option.some.injEq,Prod.mk.injEq]at hev;obtain⟨rfl,rfl,rfl⟩:=hev;exact q
  |some p=>
   rw[hf]at hev q;simp only[Option.isSome_some,Option.map_some,Option.getD_some,DT.eval,Option.some.injEq,Prod.mk.injEq]at hev;obtain⟨rfl,rfl,rfl⟩:=hev;exact q
theorem QL{Y:Env}{b i x:Value}(h:VR Y (.tuple ⟨[.agg ⟨dI⟩,b,i]⟩) x):VR Y (.tuple ⟨[g_ cZ,b,i]⟩) x:=by
 simp only[VR,VRA,VRL]at h;obtain⟨a',rfl,y,ys,e,⟨c,rfl,hc⟩,hrest⟩:=h;unfold dI at hc;simp only[VRL]at hc;obtain⟨y1,l1,e1,q1,y2,l2,rfl,q2,y3,l3,rfl,q3,y4,l4,rfl,q4,y5,l5,rfl,q5,y6,l6,rfl,q6,q7⟩:=hc;refine⟨a',rfl,?_⟩;simp only[VRA,VRL];refine⟨_,ys,e,⟨c,rfl,?_⟩,hrest⟩;simp only[VRA,VRL,kF,cZ];exact⟨y1,_,e1,q1,y2,_,rfl,q2,y3,_,rfl,q3,y4,_,rfl,q4,y5,_,rfl,q5,y6,_,rfl,NT q6,q7⟩
def kLn:Con ByteArray where
 enc s:=([.string s],[])
 ok s:=s.size<=4194302
 inj a b h:=by simp only[Prod.mk.injEq,List.cons.injEq,Value.string.injEq,and_true]at h; exact h
 dflt:=default
def aaD(s:ByteArray)(w0:ByteArray)(r:List ByteArray):Ct:=
 o9 6 0 Hli (iD (kLi.at (s,w0::r)) (Zx s (w0::r) (gm w0 r))) (bJ P aJ 0 38 (iL (kWo.at s) (.leaf (fzS (ed s),[]))) (bH P 16 (UI inB) ctF))
theorem aca{s w0:ByteArray}{r:List ByteArray}(hs:s.size<=4194302)(hw:yT (w0::r))(hl:(w0::r).length<4194304):CtOk P (aaD s w0 r):=
 pK (aO (aU aW afK) (eF kWo XH (s:=s) (by show s.size<=4194304; omega))) (Wp hw hl)
theorem Nz(s:ByteArray)(hs:s.size<=4194302):CRX P 0 6 [.string s] [] (yM (aG s)) []:=by
 obtain⟨hw,hl,hp⟩:=JG hs;have z:∀ {e:Int},CRX P 0 6 [.string s] [] (.tuple ⟨[.agg ⟨dI⟩, .bool false, .int .i64 e]⟩) []->CRX P 0 6 [.string s] [] (yM (cZ,false,e)) []:=fun h=>h.weak fun Y x hx=>QL hx;have hqs:∀ (w0:ByteArray) (r:List ByteArray),yT (w0::r)->(w0::r).length<4194304->∀ v,bn P E (aaD s w0 r) 50 aJ [.keep, .val, .val] [24,4,25] 0 6 [.string s] []=some (v,mkSt [])->CRX P 0 6 [.string s] [] v []:=
  fun w0 r h1 h2 v h=>CRX.of (aF (aaD s w0 r)) au (aca hs h1 h2) h
 have q:=fun(w0:ByteArray) (r:List ByteArray)=>aaQ inB (kWo.at s) (ed s).length ((ed s).map Value.string) (kLi.at (s,w0::r)) (gm w0 r).isSome (fzS (w0::r)) (((gm w0 r).map (·.1)).getD cZ).kind (((gm w0 r).map (·.1)).getD cZ).node (((gm w0 r).map (·.1)).getD cZ).n (((gm w0 r).map (·.1)).getD cZ).t (((gm w0 r).map (·.1)).getD cZ).key (((gm w0 r).map (·.1)).getD cZ).ops.length (EOp.all (((gm w0 r).map (·.1)).getD cZ).ops) s;have e0:yT [(default:ByteArray)]:=⟨fun w hw=>by simp at hw; subst hw; decide,by decide⟩
 unfold aG;cases h1:gtI (af s.size) 65536 with
 |true=>
  refine z (hqs default [] e0 (by decide) _ ((q default []).trans ?_));rw[h1]; rfl
 |false=>
 cases h2:inB s 10 with
 |true=>
  refine z (hqs default [] e0 (by decide) _ ((q default []).trans ?_));rw[h1];refine Eq.trans ax ?_;have h2:inB s (OfNat.ofNat 10)=true:=h2;rw[h2]; rfl
 |false=>
 have h2:inB s (OfNat.ofNat 10)=false:=h2;cases h3:ed s with
 |nil=>
  refine z (hqs default [] e0 (by decide) _ ((q default []).trans ?_));rw[h1];refine Eq.trans ax ?_;rw[h2];refine Eq.trans ax ?_;refine bu (k:=kWo) (s:=s) rfl rfl ?_;rw[h3]
  rfl
 |cons w0 r=>
  rw[h3]at hw hl hp;have a1:eqI (af (w0::r).length) 0=false:=by unfold eqI af; exact decide_eq_false (by simp only[List.length_cons]; omega)
  have a2:inI 0 w0.size=true:=bD (i:=0) (hp w0 (by simp));have key:∀ v,(ag (wB w0) (some (.tuple ⟨[.agg ⟨dI⟩, .bool false, .int .i64 0]⟩,mkSt [])) (ag (gm w0 r).isSome (some (.tuple ⟨[g_ (((gm w0 r).map (·.1)).getD cZ), .bool true, .int .i64 0]⟩,mkSt [])) (some (.tuple ⟨[.agg ⟨dI⟩, .bool false, .int .i64 350]⟩,mkSt []))):Res)=some (v,mkSt [])->
    CRX P 0 6 [.string s] [] v []:=fun v hv=>by
   refine hqs w0 r hw hl v ((q w0 r).trans ?_);rw[h1];refine Eq.trans ax ?_;rw[h2];refine Eq.trans ax ?_;refine bu (k:=kWo) (s:=s) rfl rfl ?_;rw[h3];simp only[a1,l_in,kC,BZ,Ap,fV,fU,oz,a2,Bool.and_self,aA,ax];refine Eq.trans ?_ hv;have hk:∀ x:Res,ae (kLi.at (s,w0::r) (liV s (w0::r).length 0 ((w0::r).map Value.string)) (liB dI (.map aC 12) (.miter (some 1) 12 [] 12))) x=x:=fun x=>bu (k:=kLi) (s:=(s,w0::r)) rfl rfl rfl;unfold wB;cases eqI (bAt w0 0) 35 with
   |true=>rfl
   |false=>
    simp only[ax];refine Eq.trans ?_ (hk _);unfold g_ kF aK liV ai;rw[fzU,ja]
    rfl
  simp only;cases h4:wB w0 with
  |true=>exact z (key _ (by rw[h4]; rfl))
  |false=>
   cases h5:gm w0 r with
   |none=>exact z (key _ (by rw[h4,h5]; rfl))
   |some p=>exact key _ (by rw[h4,h5]; rfl)
theorem QJ:CallOkX P 0 6 (jS kLn.C kLn.D fun s=> .leaf (yM (aG s),[])):=f_ kLn fun s ho v bs' hev=>by
 simp only[DT.eval,Option.some.injEq,Prod.mk.injEq]at hev;obtain⟨rfl,rfl⟩:=hev;exact Nz s ho
def adT(IX:ByteArray->Int->Int):Ct:=bH P 85 (Zb IX) jR
theorem acG(IX:ByteArray->Int->Int)(s:ByteArray):iU P E (adT IX) 50 27 [.string s, .string ⟨#[10]⟩] =
 (ag (eqS ⟨#[10]⟩ s)
 (ae (eP 1 (af s.size) s.size)
 (some ((.tuple ⟨[.string (iC s 0 0),.string (iC s 1 (af s.size)),.bool true]⟩),(mkSt []))))
 (ag (geI (IX s 10) 0)
 (ae (eP 0 (IX s 10) s.size)
 (ae (eP (aB .i64 (IX s 10) 1) (af s.size) s.size)
 (some ((.tuple ⟨[.string (iC s 0 (IX s 10)),.string (iC s (aB .i64 (IX s 10) 1) (af s.size)),.bool true]⟩),(mkSt [])))))
 (some ((.tuple ⟨[.string s,.string ⟨#[]⟩,.bool false]⟩),(mkSt []))))):=by kernel_rfl
theorem adk(i e:Int):MJ P E jR 50 21 [.int .i64 i, .int .i64 e] =
 (some ((.iface 75 (.pointer (Option.some (Addr.mk 0 0 none)))),(mkSt [Blk.cells [.int .i64 i,.int .i64 e] 79 true]))):=by kernel_rfl
def brk:List UInt8->List UInt8×List UInt8×Bool
 |[]=>([],[],false)
 |b::l=>match b == 10 with
  |true=>([],l,true)
  |false=>(b::(brk l).1,(brk l).2.1,(brk l).2.2)
theorem NH:∀ {l:List UInt8},Lib.indexByte l 10=-1->brk l=(l,[],false)
 |[],_=>rfl
 |b::l,h=>by
  unfold Lib.indexByte at h;unfold brk;cases hb:b == 10 with
  |true=>rw[hb]at h; simp at h
  |false=>
   rw[hb]at h;have hg:=Lib.indexByte_ge l 10;have h1:Lib.indexByte l 10=-1:=by
    by_cases hq:Lib.indexByte l 10=-1
    ·exact hq
    ·simp only[Bool.false_eq_true,if_false,beq_iff_eq,hq]at h; omega
   rw[NH h1]
theorem LK:∀ {l:List UInt8} {o:Nat},Lib.indexByte l 10=o->o<l.length/\brk l=(l.take o,l.drop (o+1),true)
 |[],o,h=>by simp[Lib.indexByte]at h
 |b::l,o,h=>by
  unfold Lib.indexByte at h;unfold brk;cases hb:b == 10 with
  |true=>
   rw[hb]at h;simp only[if_true]at h;obtain rfl:o=0:=by omega
   exact⟨by simp,rfl⟩
  |false=>
   rw[hb]at h;have hg:=Lib.indexByte_ge l 10;by_cases hq:Lib.indexByte l 10=-1
   ·simp only[Bool.false_eq_true,if_false,hq]at h;have:(-1:Int)=o:=h;omega
   ·simp only[Bool.false_eq_true,if_false,beq_iff_eq,hq]at h;obtain⟨k,rfl⟩:∃ k,o=k+1:=⟨o-1,by omega⟩
    obtain⟨h1,h2⟩:=LK (l:=l) (o:=k) (by omega);rw[h2];exact⟨by simp only[List.length_cons]; omega,rfl⟩
theorem F_(l:List UInt8):(brk l).1.length+(brk l).2.1.length<=l.length/\(l≠[]->(brk l).2.1.length<l.length):=by
 induction l with
 |nil=>simp[brk]
 |cons b l ih=>
  unfold brk;cases b == 10 with
  |true=>simp
  |false=>
   simp only[List.length_cons];exact⟨by omega,fun _=>by omega⟩
theorem OU{a b:ByteArray}(h:a.data.toList=b.data.toList):a=b:=by
 obtain⟨⟨a⟩⟩:=a;obtain⟨⟨b⟩⟩:=b;simp only at h;rw[h]
theorem JH(s:ByteArray)(a b:Nat):(iC s (a:Int) (b:Int)).data.toList=(s.data.toList.drop a).take (b-a):=by
 unfold iC;simp[ByteArray.extract,ByteArray.copySlice,List.extract_eq_take_drop]
def lnA(s:ByteArray):ByteArray:=⟨⟨(brk s.data.toList).1⟩⟩
def lnB(s:ByteArray):ByteArray:=⟨⟨(brk s.data.toList).2.1⟩⟩
def lnF(s:ByteArray):Bool:=(brk s.data.toList).2.2
def TS(A B:ByteArray->ByteArray)(F:ByteArray->Bool):fG
 |[.string s, .string ⟨⟨[10]⟩⟩]=>some (.ite (szS s) (.leaf (.tuple ⟨[.string (A s), .string (B s), .bool (F s)]⟩,[])) .fail)
 |_=>none
theorem adg{s:ByteArray}(h:s.size<=4194304):iU P E (adT ixB) 50 27 [.string s, .string ⟨#[10]⟩]=some (.tuple ⟨[.string (lnA s), .string (lnB s), .bool (lnF s)]⟩,mkSt []):=by
 rw[acG];have hlen:=nR s;cases h1:eqS ⟨#[10]⟩ s with
 |true=>
  have hs:s=⟨⟨[10]⟩⟩:=OU (oJ h1);subst hs
  rfl
 |false=>
  refine Eq.trans ax ?_;have hix:ixB s 10=Lib.indexByte s.data.toList 10:=rfl;have hge:=Lib.indexByte_ge s.data.toList 10;by_cases hq:Lib.indexByte s.data.toList 10=-1
  ·have g:geI (ixB s 10) 0=false:=by rw[hix,hq]; rfl
   rw[g];refine Eq.trans ax ?_;unfold lnA lnB lnF;rw[NH hq]
  ·obtain⟨o,ho⟩:∃ o:Nat,Lib.indexByte s.data.toList 10=o:=⟨(Lib.indexByte s.data.toList 10).toNat,by omega⟩
   obtain⟨b1,b2⟩:=LK ho;rw[hlen]at b1;rw[hix,ho];have g:geI (o:Int) 0=true:=by unfold geI; exact decide_eq_true (by omega)
   have a1:aB .i64 (o:Int) 1=((o+1:Nat):Int):=by unfold aB; rw[wrap64 (by omega) (by omega)]; omega
   have c1:eP 0 (o:Int) s.size=true:=mi (by omega) (by omega) (by omega);have c2:eP ((o+1:Nat):Int) (af s.size) s.size=true:=mi (by omega) (by unfold af; omega) (by unfold af; omega);rw[g,a1,c1,c2];have e1:iC s 0 (o:Int)=lnA s:=by
    refine OU ((JH s 0 o).trans ?_);unfold lnA;rw[b2,List.drop_zero,Nat.sub_zero]
   have e2:iC s ((o+1:Nat):Int) (af s.size)=lnB s:=by
    refine OU ((JH s (o+1) s.size).trans ?_);unfold lnB;rw[b2,List.take_of_length_le (by rw[List.length_drop,hlen]; omega)]
   rw[e1,e2];have e3:lnF s=true:=by unfold lnF; rw[b2]
   rw[e3]
   rfl
theorem afr:CallOkR P 27 (TS lnA lnB lnF):=by
 refine mY (aU (je P) afE) (n:=50) fun args t hR v bs hev=>?_;unfold TS at hR;split at hR
 ·rename_i s;obtain rfl:=Option.some.inj hR;cases hc:szS s with
  |false=>rw[hc]at hev; cases hev
  |true=>
   rw[hc]at hev;simp only[DT.eval,Option.some.injEq,Prod.mk.injEq]at hev;obtain⟨rfl,rfl⟩:=hev;exact adg (Nat.le_of_ble_eq_true hc)
 ·cases hR
def gX(i e:Int):Value:= .iface 75 (jl 0 [.int .i64 i, .int .i64 e])
def zD:iG:=fun args bs=>match args,bs with
 |[.int .i64 i, .int .i64 e],[]=>some (.leaf (gX i e,[]))
 |_,_=>none
theorem uj:CallOkX P 0 21 zD:=by
 refine⟨fun args bs t hR v bs' hev=>?_⟩;unfold zD at hR;split at hR
 ·rename_i i e;obtain rfl:=Option.some.inj hR;simp only[DT.eval,Option.some.injEq,Prod.mk.injEq]at hev;obtain⟨rfl,rfl⟩:=hev;exact CRX.ofNew (by decide) rfl rfl (CR.ofN (aF jR) au (je P) (adk i e))
 ·cases hR
def abf(A B:ByteArray->ByteArray)(F:ByteArray->Bool)(LC:List Value->List Blk->Bool)(k nd n t:Int)(key:ByteArray)(on:Nat)(oc:List Value)(th:Bool)(er:Int):Ct:=
 bH P 27 (TS A B F) (bJ P aJ 0 21 zD (bJ P aJ 0 6 (iL LC (.leaf (.tuple ⟨[.agg ⟨[.int .i64 k, .int .i64 nd, .int .i64 n, .int .i64 t, .string key,ai 3 on 0 oc]⟩, .bool th, .int .i64 er]⟩,[]))) ctF))
def Dpa:HeadX:=⟨0,49,[0,2,3,4,5],[.val, .val, .val, .own, .val],[9,34,9,34,2],aJ⟩
def Bpa:Code:=(bK P 9 0).getD .skip
theorem NL:bK P 9 0=some Bpa:=by kernel_rfl
theorem xP:Occ P 9 (.block 0 (.loop Bpa)):=dA NL
theorem YD(A B:ByteArray->ByteArray)(F:ByteArray->Bool)(LC:List Value->List Blk->Bool)(k nd n t:Int)(key:ByteArray)(on:Nat)(oc:List Value)(th:Bool)(er:Int)(s:ByteArray)(m:Nat)(d:List Value)(c:Int):aQ P E (abf A B F LC k nd n t key on oc th er) 50 9 Bpa Dpa [.string s,ai 6 0 0 [], .nilIface, .slice (some ⟨0,0,none⟩) m unk, .int .i64 c] [.cells d 24 false] =
 (ag (neS s ⟨#[]⟩)
 (ae (szS s)
 (ae (LC [.string (A s)] [])
 (ag (neI er 0)
 (ae (Nat.ble (Nat.add 0 (Nat.mul m 6)) d.length)
 (some ((.tuple ⟨[.int .i64 (-1),.string (B s),.iface 18446744073709551622 (.agg ⟨[.slice none 0 0]⟩),.iface 75 (.iface 18446744073709551616 (.agg ⟨[.slice none 0 0,.int .i64 c,.int .i64 er]⟩)),.slice (Option.some (Addr.mk 0 0 none)) m 18446744073709551616,.int .i64 c]⟩),(mkSt [Blk.cells (renL true (rhoO 0 [2]) (takeC (Nat.mul m 6) (ak 0 d))) 24 false]))))
 (ag th
 (ag (eqI (af m) 200)
 (ae (Nat.ble (Nat.add 0 (Nat.mul m 6)) d.length)
 (some ((.tuple ⟨[.int .i64 (-1),.string (B s),.iface 18446744073709551622 (.agg ⟨[.slice none 0 0]⟩),.iface 75 (.iface 18446744073709551616 (.agg ⟨[.slice none 0 0,.int .i64 c,.int .i64 3]⟩)),.slice (Option.some (Addr.mk 0 0 none)) m 18446744073709551616,.int .i64 c]⟩),(mkSt [Blk.cells (renL true (rhoO 0 [2]) (takeC (Nat.mul m 6) (ak 0 d))) 24 false]))))
 (ag th
 (ae (Nat.ble (Nat.add m 1) 4194304)
 (ae (Nat.beq (Nat.add 0 (Nat.mul m 6)) d.length)
 (ae (Nat.ble (Nat.add 0 (Nat.mul (Nat.add m 1) 6)) (List.length (List.append (gI 0 d) [.int .i64 k,.int .i64 nd,.int .i64 n,.int .i64 t,.string key,.iface 18446744073709551619 (.agg ⟨(.slice none on 0)::oc⟩)])))
 (some ((.tuple ⟨[.int .i64 0,.string (B s),.iface 18446744073709551622 (.agg ⟨[.slice none 0 0]⟩),.nilIface,.slice (Option.some (Addr.mk 0 0 none)) (Nat.add m 1) 18446744073709551616,.int .i64 (aB .i64 c 1)]⟩),(mkSt [Blk.cells (renL true (rhoO 0 [4]) (takeC (Nat.mul (Nat.add m 1) 6) (ak 0 (List.append (gI 0 d) [.int .i64 k,.int .i64 nd,.int .i64 n,.int .i64 t,.string key,.iface 18446744073709551619 (.agg ⟨(.slice none on 0)::oc⟩)])))) 24 false]))))))
 (ae (Nat.ble (Nat.add 0 (Nat.mul m 6)) d.length)
 (some ((.tuple ⟨[.int .i64 0,.string (B s),.iface 18446744073709551622 (.agg ⟨[.slice none 0 0]⟩),.nilIface,.slice (Option.some (Addr.mk 0 0 none)) m 18446744073709551616,.int .i64 (aB .i64 c 1)]⟩),(mkSt [Blk.cells (renL true (rhoO 0 [2]) (takeC (Nat.mul m 6) (ak 0 d))) 24 false]))))))
 (ag th
 (ae (Nat.ble (Nat.add m 1) 4194304)
 (ae (Nat.beq (Nat.add 0 (Nat.mul m 6)) d.length)
 (ae (Nat.ble (Nat.add 0 (Nat.mul (Nat.add m 1) 6)) (List.length (List.append (gI 0 d) [.int .i64 k,.int .i64 nd,.int .i64 n,.int .i64 t,.string key,.iface 18446744073709551619 (.agg ⟨(.slice none on 0)::oc⟩)])))
 (some ((.tuple ⟨[.int .i64 0,.string (B s),.iface 18446744073709551622 (.agg ⟨[.slice none 0 0]⟩),.nilIface,.slice (Option.some (Addr.mk 0 0 none)) (Nat.add m 1) 18446744073709551616,.int .i64 (aB .i64 c 1)]⟩),(mkSt [Blk.cells (renL true (rhoO 0 [4]) (takeC (Nat.mul (Nat.add m 1) 6) (ak 0 (List.append (gI 0 d) [.int .i64 k,.int .i64 nd,.int .i64 n,.int .i64 t,.string key,.iface 18446744073709551619 (.agg ⟨(.slice none on 0)::oc⟩)])))) 24 false]))))))
 (ae (Nat.ble (Nat.add 0 (Nat.mul m 6)) d.length)
 (some ((.tuple ⟨[.int .i64 0,.string (B s),.iface 18446744073709551622 (.agg ⟨[.slice none 0 0]⟩),.nilIface,.slice (Option.some (Addr.mk 0 0 none)) m 18446744073709551616,.int .i64 (aB .i64 c 1)]⟩),(mkSt [Blk.cells (renL true (rhoO 0 [2]) (takeC (Nat.mul m 6) (ak 0 d))) 24 false])))))))))
 (ae (Nat.ble (Nat.add 0 (Nat.mul m 6)) d.length)
 (some ((.tuple ⟨[.int .i64 1,.string s,.iface 18446744073709551622 (.agg ⟨[.slice none 0 0]⟩),.nilIface,.slice (Option.some (Addr.mk 0 0 none)) m 18446744073709551616,.int .i64 c]⟩),(mkSt [Blk.cells (renL true (rhoO 0 [1]) (takeC (Nat.mul m 6) (ak 0 d))) 24 false]))))):=by kernel_rfl
def aH:Enc ActM where
 sz:=6
 f a:=kF a (aK a.ops)
 len _:=rfl
 pos:=by decide
 inj a b h:=by
  obtain⟨a1,a2,a3,a4,a5,a6⟩:=a;obtain⟨b1,b2,b3,b4,b5,b6⟩:=b;unfold kF aK at h;simp only[List.cons.injEq,Value.int.injEq,Value.string.injEq,true_and,and_true]at h;obtain⟨rfl,rfl,rfl,rfl,rfl,h⟩:=h;obtain rfl:=EOp.all_inj _ _ (ry h)
  rfl
 nr c:=by
  unfold kF aK;simp only[fA,jH,aaM,Bool.and_self]
theorem AX(l:List ActM):(aH.all l).length=Nat.mul l.length 6:=aH.all_length l
theorem qP{l:List ActM}{n:Nat}(h:n=l.length):takeC (Nat.mul n 6) (ak 0 (aH.all l))=aH.all l:=by
 subst h; exact aH.all_self l
theorem Xn(out:List ActM)(a:ActM):List.append (gI 0 (aH.all out)) [.int .i64 a.kind, .int .i64 a.node, .int .i64 a.n, .int .i64 a.t, .string a.key,ai 3 a.ops.length 0 (EOp.all a.ops)]=aH.all (out++[a]):=by
 rw[ug,aH.all_append,aH.all_one]; rfl
def paV(s:ByteArray)(e:Value)(m:Nat)(c:Int):List Value:=[.string s,ai 6 0 0 [],e, .slice (some ⟨0,0,none⟩) m unk, .int .i64 c]
def paB(out:List ActM):List Blk:=[.cells (aH.all out) 24 false]
def xm(s:ByteArray):Ct:=abf lnA lnB lnF (kLn.at (lnA s)) (aG (lnA s)).1.kind (aG (lnA s)).1.node (aG (lnA s)).1.n (aG (lnA s)).1.t (aG (lnA s)).1.key (aG (lnA s)).1.ops.length (EOp.all (aG (lnA s)).1.ops) (aG (lnA s)).2.1 (aG (lnA s)).2.2
theorem FD(s:ByteArray):(lnA s).size<=s.size/\(s.size≠0->(lnB s).size<s.size):=by
 have h:=F_ s.data.toList;have hl:=nR s;have h1:(lnA s).size=(brk s.data.toList).1.length:=by unfold lnA; simp[ByteArray.size]
 have h2:(lnB s).size=(brk s.data.toList).2.1.length:=by unfold lnB; simp[ByteArray.size]
 rw[h1,h2,<-hl];refine⟨by have:=h.1; omega,fun hne=>h.2 (fun e=>hne (by rw[e]; rfl))⟩
theorem xI{s:ByteArray}(h:s.size<=4194302):CtOk P (xm s):=
 aU (aO (aO aW (eF kLn QJ (s:=lnA s) (Nat.le_trans (FD s).1 h))) uj) afr
theorem adK{s:ByteArray}(h:s.size≠0):neS s ⟨#[]⟩=true:=by
 rw[nJ];cases hq:s.data.toList with
 |nil=>exact absurd (by rw[<-nR,hq]; rfl) h
 |cons a l=>rfl
theorem aaF{s:ByteArray}{out:List ActM}{c:Nat}(hs:s.size<=4194302)(h0:s.size≠0)(ho:out.length<=200)(hc:c<=4194304):aQ P E (xm s) 50 9 Bpa Dpa (paV s .nilIface out.length c) (paB out) =
  match neI (aG (lnA s)).2.2 0,(aG (lnA s)).2.1,eqI (af out.length) 200 with
  |true,_,_=>some (.tuple ⟨exV .ret::paV (lnB s) (gX c (aG (lnA s)).2.2) out.length c⟩,mkSt (paB out))
  |false,true,true=>some (.tuple ⟨exV .ret::paV (lnB s) (gX c 3) out.length c⟩,mkSt (paB out))
  |false,true,false=>some (.tuple ⟨exV .normal::paV (lnB s) .nilIface (out++[(aG (lnA s)).1]).length ((c+1:Nat):Int)⟩,mkSt (paB (out++[(aG (lnA s)).1])))
  |false,false,_=>some (.tuple ⟨exV .normal::paV (lnB s) .nilIface out.length ((c+1:Nat):Int)⟩,mkSt (paB out)):=by
 unfold paV paB xm;rw[YD];have g0:=adK h0;have g1:szS s=true:=xA (by omega);have b3:∀ n,Nat.beq n n=true:=Nat.beq_refl;have b2:∀ n,Nat.ble n n=true:=fun n=>Nat.ble_eq_true_of_le (Nat.le_refl n);have t1:Nat.ble (Nat.add out.length 1) 4194304=true:=Nat.ble_eq_true_of_le (by show out.length+1<=_; omega);have ol:∀ a:ActM,(out++[a]).length=Nat.add out.length 1:=fun a=>by simp
 have os:∀ a:ActM,takeC (Nat.mul (Nat.add out.length 1) 6) (ak 0 (aH.all (out++[a])))=aH.all (out++[a]):=fun a=>qP (ol a).symm;have hadd:aB .i64 (c:Int) 1=((c+1:Nat):Int):=by unfold aB; rw[wrap64 (by omega) (by omega)]; omega
 simp only[g0,g1,az,aA];refine bu (k:=kLn) (s:=lnA s) rfl rfl ?_;have hfz3:∀ l:List OpM,(Value.iface 18446744073709551619 (.agg ⟨.slice none l.length 0::EOp.all l⟩))=ai 3 l.length 0 (EOp.all l):=fun l=>by unfold ai; rw[ja]
 generalize aG (lnA s)=x;obtain⟨a,th,er⟩:=x;simp only;simp only[hfz3,Xn,AX,b2,b3,t1,ol,os,qP rfl,iP,Enc.all_ren,hadd,aA];have hfz0:ai 6 0 0 [] = .iface 18446744073709551622 (.agg ⟨[.slice none 0 0]⟩):=by unfold ai FZ; rfl
 have hfp:∀ i e:Int,gX i e = .iface 75 (.iface 18446744073709551616 (.agg ⟨[.slice none 0 0, .int .i64 i, .int .i64 e]⟩)):=fun i e=>by unfold gX jl FZ; rfl
 rw[hfz0];simp only[hfp];cases neI er 0 with
 |true=>rfl
 |false=>
  cases th with
  |false=>rfl
  |true=>
   cases eqI (af out.length) 200<;>rfl
theorem ae_{s:ByteArray}{out:List ActM}{c:Nat}(h0:s.size=0):aQ P E (xm s) 50 9 Bpa Dpa (paV s .nilIface out.length c) (paB out)=some (.tuple ⟨exV (.exit 0)::paV s .nilIface out.length c⟩,mkSt (paB out)):=by
 unfold paV paB xm;rw[YD];have g0:neS s ⟨#[]⟩=false:=by
  rw[nJ];have:s.data.toList=[]:=List.length_eq_zero_iff.1 (by rw[nR]; exact h0);rw[this]; rfl
 have b2:∀ n,Nat.ble n n=true:=fun n=>Nat.ble_eq_true_of_le (Nat.le_refl n);simp only[g0,ax,AX,b2,qP rfl,iP,Enc.all_ren,aA];have hfz0:ai 6 0 0 [] = .iface 18446744073709551622 (.agg ⟨[.slice none 0 0]⟩):=by unfold ai FZ; rfl
 rw[hfz0]
 rfl
def paM:Nat->ByteArray->List ActM->Nat->Option (Int×Int)×ByteArray×List ActM×Nat
 |0,s,out,c=>(none,s,out,c)
 |f+1,s,out,c=>match Nat.beq s.size 0 with
  |true=>(none,s,out,c)
  |false=>match neI (aG (lnA s)).2.2 0,(aG (lnA s)).2.1,eqI (af out.length) 200 with
   |true,_,_=>(some (c,(aG (lnA s)).2.2),lnB s,out,c)
   |false,true,true=>(some (c,3),lnB s,out,c)
   |false,true,false=>paM f (lnB s) (out++[(aG (lnA s)).1]) (c+1)
   |false,false,_=>paM f (lnB s) out (c+1)
def paX:Option (Int×Int)->Ex
 |none=> .normal
 |some _=> .ret
def paE:Option (Int×Int)->Value
 |none=> .nilIface
 |some (i,e)=>gX i e
theorem Ja:∀ (f:Nat) (s:ByteArray) (out:List ActM) (c:Nat),s.size<f->s.size<=4194302->out.length<=200->c+s.size<=4194304->
  LRX P 9 0 Bpa Dpa.head (paV s .nilIface out.length c) (paB out) (paX (paM f s out c).1) (paV (paM f s out c).2.1 (paE (paM f s out c).1) (paM f s out c).2.2.1.length (paM f s out c).2.2.2) (paB (paM f s out c).2.2.1)
 |0,s,_,_,h,_,_,_=>by omega
 |f+1,s,out,c,hf,hs,ho,hc=>by
  unfold paM;cases hb:Nat.beq s.size 0 with
  |true=>exact LRX.stop (n:=50) (aF (xm s)) au (xI hs) xP (e:= .exit 0) (ae_ (Nat.eq_of_beq_eq_true hb)) (by intro h; cases h)
  |false=>
   have h0:s.size≠0:=Nat.ne_of_beq_eq_false hb;have hlt:=(FD s).2 h0;have q:=aaF (out:=out) (c:=c) hs h0 ho (by omega);cases h1:neI (aG (lnA s)).2.2 0 with
   |true=>
    rw[h1]at q;exact LRX.stop (n:=50) (aF (xm s)) au (xI hs) xP (e:= .ret) q (by intro h; cases h)
   |false=>
    cases h2:(aG (lnA s)).2.1 with
    |false=>
     rw[h1,h2]at q;exact LRX.again (n:=50) (aF (xm s)) au (xI hs) xP q (Ja f (lnB s) out (c+1) (by omega) (by omega) ho (by omega))
    |true=>
     cases h3:eqI (af out.length) 200 with
     |true=>
      rw[h1,h2,h3]at q;exact LRX.stop (n:=50) (aF (xm s)) au (xI hs) xP (e:= .ret) q (by intro h; cases h)
     |false=>
      rw[h1,h2,h3]at q;have hne:out.length≠200:=by
       intro e;unfold eqI af at h3;have:=of_decide_eq_false h3;omega
      exact LRX.again (n:=50) (aF (xm s)) au (xI hs) xP q (Ja f (lnB s) (out++[(aG (lnA s)).1]) (c+1) (by omega) (by omega) (by rw[List.length_append]; simp only[List.length_cons,List.length_nil]; omega) (by omega))
def af2(LC:List Value->List Blk->Bool)(ok:Bool)(s2:ByteArray)(z:Value)(m:Nat)(d:List Value)(c li le:Int):Ct:=
 bJ P aJ 0 21 zD (dR P 9 0 Dpa (iD LC (.ite ok (.leaf (.normal,[.string s2,z, .nilIface, .slice (some ⟨0,0,none⟩) m unk, .int .i64 c],[.cells d 24 false])) (.leaf (.ret,[.string s2,z,gX li le, .slice (some ⟨0,0,none⟩) m unk, .int .i64 c],[.cells d 24 false])))) ctF)
theorem Kw(LC:List Value->List Blk->Bool)(ok:Bool)(s2:ByteArray)(m:Nat)(d:List Value)(c li le:Int)(s:ByteArray):bn P E (af2 LC ok s2 (ai 6 0 0 []) m d c li le) 50 aJ [.val, .keep] [34,31] 0 9 [.string s] [] =
 (ag (gtI (af s.size) 65536)
 (some ((.tuple ⟨[.iface 18446744073709551622 (.agg ⟨[.slice none 0 0]⟩),.iface 75 (.iface 18446744073709551616 (.agg ⟨[.slice none 0 0,.int .i64 (-1),.int .i64 3]⟩))]⟩),(mkSt [])))
 (ae (LC [.string s,.iface 18446744073709551622 (.agg ⟨[.slice none 0 0]⟩),.nilIface,.slice (Option.some (Addr.mk 0 0 none)) 0 18446744073709551616,.int .i64 0] [Blk.cells [] 24 false])
 (ag ok
 (ae (ny P 0 m 18446744073709551616 (renL true (bZ [] 1) d) 24)
 (some ((.tuple ⟨[.iface 18446744073709551622 (.agg ⟨(.slice none m 0)::(takeC (Nat.mul m 6) (ak 0 (renL true (bZ [] 1) d)))⟩),.nilIface]⟩),(mkSt []))))
 (some ((.tuple ⟨[.iface 18446744073709551622 (.agg ⟨[.slice none 0 0]⟩),.iface 75 (.iface 18446744073709551616 (.agg ⟨[.slice none 0 0,.int .i64 li,.int .i64 le]⟩))]⟩),(mkSt [])))))):=by kernel_rfl
def A_:Con ByteArray where
 enc s:=(paV s .nilIface 0 0,paB [])
 ok s:=s.size<=4194302
 inj a b h:=by
  unfold paV at h;simp only[Prod.mk.injEq,List.cons.injEq,Value.string.injEq,and_true]at h;exact h
 dflt:=default
def kY(s:ByteArray):Option (Int×Int)×ByteArray×List ActM×Nat:=paM (s.size+1) s [] 0
def ZT(x:Option (Int×Int)×ByteArray×List ActM×Nat):DT (Ex×List Value×List Blk):=
 .ite x.1.isNone (.leaf (.normal,paV x.2.1 .nilIface x.2.2.1.length x.2.2.2,paB x.2.2.1)) (.leaf (.ret,paV x.2.1 (gX (x.1.getD (0,0)).1 (x.1.getD (0,0)).2) x.2.2.1.length x.2.2.2,paB x.2.2.1))
theorem KI:LoopOkX P 9 0 Bpa Dpa.head (kP A_.C A_.D fun s=>ZT (kY s)):=
 fQ A_ (bz NL) fun s ho e vs' bs' hev=>by
  have ho:s.size<=4194302:=ho;have q:=Ja (s.size+1) s [] 0 (by omega) ho (by decide) (by omega);unfold ZT kY at hev;generalize paM (s.size+1) s [] 0=x at hev q;obtain⟨o,s2,out,c⟩:=x;cases o with
  |none=>
   simp only[Option.isNone_none,DT.eval,Option.some.injEq,Prod.mk.injEq]at hev;obtain⟨rfl,rfl,rfl⟩:=hev;exact q
  |some p=>
   simp only[Option.isNone_some,DT.eval,Option.getD_some,Option.some.injEq,Prod.mk.injEq]at hev;obtain⟨rfl,rfl,rfl⟩:=hev;exact q
def dK(s:ByteArray):Option (Int×Int)×List ActM:=match gtI (af s.size) 65536,(kY s).1 with
 |true,_=>(some (-1,3),[])
 |false,some p=>(some p,[])
 |false,none=>(none,(kY s).2.2.1)
def fzActs(l:List ActM):Value:=ai 6 l.length 0 (aH.all l)
theorem RV{l:List ActM}:ny P 0 l.length 18446744073709551616 (aH.all l) 24=true:=by
 have he:esz P 24=6:=by kernel_rfl
 unfold ny;rw[he,aH.all_nr,AX];have h2:Nat.ble (Nat.add 0 (Nat.mul l.length 6)) (Nat.mul l.length 6)=true:=by rw[iP]; exact Nat.ble_eq_true_of_le (Nat.le_refl _)
 rw[h2]; rfl
def aag(s:ByteArray):Ct:=bJ P aJ 0 21 zD (dR P 9 0 Dpa (iD (A_.at s) (ZT (kY s))) ctF)
theorem J6(s:ByteArray):bn P E (aag s) 50 aJ [.val, .keep] [34,31] 0 9 [.string s] []=some (.tuple ⟨[fzActs (dK s).2,paE (dK s).1]⟩,mkSt []):=by
 have q:=Kw (A_.at s) (kY s).1.isNone (kY s).2.1 (kY s).2.2.1.length (aH.all (kY s).2.2.1) (kY s).2.2.2 ((kY s).1.getD (0,0)).1 ((kY s).1.getD (0,0)).2 s;refine Eq.trans ?_ (q.trans ?_)
 ·rfl
 clear q;have hfz0:∀ l:List ActM,fzActs l = .iface 18446744073709551622 (.agg ⟨.slice none l.length 0::aH.all l⟩):=fun l=>by unfold fzActs ai FZ; rfl
 have hfp:∀ i e:Int,gX i e = .iface 75 (.iface 18446744073709551616 (.agg ⟨[.slice none 0 0, .int .i64 i, .int .i64 e]⟩)):=fun i e=>by unfold gX jl FZ; rfl
 unfold dK;cases gtI (af s.size) 65536 with
 |true=>
  simp only[az];unfold paE;simp only[hfz0,hfp]
  rfl
 |false=>
  simp only[ax];refine bu (k:=A_) (s:=s) (by show paV s .nilIface 0 0=_; unfold paV ai FZ; rfl) rfl ?_;generalize kY s=x;obtain⟨o,s2,out,c⟩:=x;cases o with
  |none=>
   simp only[Option.isNone_none,az,Enc.all_ren,qP rfl,RV,aA];simp only[hfz0]
   rfl
  |some p=>
   simp only[Option.isNone_some,ax,Option.getD_some];unfold paE;simp only[hfz0,hfp]
   rfl
end Go.VS.Tryz
end

noncomputable section
namespace Go.Proofs.YtlkfapppocmgpaaGreatDoor
open Go.RowKit Go.Extern.Stop Go.Stop Go.Extern
theorem Tryz.valueOf27(t:Addr)(w:World):(ReflectliteValue.unpack (.iface 77 (.pointer (some t)))).run Tryz.prog w
  = .ok (.agg #[.pointer (some ⟨7,77,none⟩), .pointer (some ⟨w.heap.size,0,none⟩), .int .u64 150]) (w.alloc (.cells #[.pointer (some t)] 77)):=by kernel_rfl
theorem Tryz.type27(a:Addr)(w:World):(ReflectliteValue.methodAny (ReflectliteValue.valueError "reflectlite.Value.Type" 0) (fun t _ _ _=>ReflectliteType.toType t) #[.agg #[.pointer (some ⟨7,77,none⟩), .pointer (some a), .int .u64 150]]).run Tryz.prog w
  = .ok (.iface 129 (.agg #[.pointer (some ⟨7,77,none⟩)])) w:=by kernel_rfl
theorem Tryz.methodKind(h:Value)(w:World):(Go.method 308 129 (.agg #[h]) "Kind").run Tryz.prog w = .ok (133,h) w:=by kernel_rfl
theorem Tryz.kind27(w:World):((ReflectliteType.abiMethod fun t=>(fun a:Nat=>Value.int IntKind.u8 (a:Int)) <$> Rtype.kind t) #[.pointer (some ⟨7,77,none⟩)]).run Tryz.prog w = .ok (.int .u8 22) w:=by kernel_rfl
theorem Tryz.kind25(w:World):((ReflectliteType.abiMethod fun t=>(fun a:Nat=>Value.int IntKind.u8 (a:Int)) <$> Rtype.kind t) #[.pointer (some ⟨7,75,none⟩)]).run Tryz.prog w = .ok (.int .u8 22) w:=by kernel_rfl
theorem rlm(z:Sem Value)(f:TypeId->Addr->Nat->Nat->Sem Value)(v:Value) :
  ReflectliteValue.method z f #[v]=(do match <-ReflectliteValue.parts v with | none=>z | some (t,a,fl)=>f t a fl (fl % 32)):=rfl
theorem Tryz.parts27(a:Addr)(w:World):(ReflectliteValue.parts (.agg #[.pointer (some ⟨7,77,none⟩), .pointer (some a), .int .u64 150])).run Tryz.prog w = .ok (some (77,a,150)) w:=by kernel_rfl
theorem Tryz.isNil27(a p:Addr)(W:World)(ha:W.cell? a=some (.pointer (some p))) :
  (ReflectliteValue.method (ReflectliteValue.valueError "reflectlite.Value.IsNil" 0) ReflectliteValue.isNil #[.agg #[.pointer (some ⟨7,77,none⟩), .pointer (some a), .int .u64 150]]).run Tryz.prog W = .ok (.bool false) W:=by
 rw[rlm];simp only[Sem.run_bind,Tryz.parts27,Result.andThen];simp[ReflectliteValue.isNil,loadVar,isAgg,underlying,Tryz.underlying77,ha,Result.andThen]
theorem Tryz.methodElem(h:Value)(w:World):(Go.method 308 129 (.agg #[h]) "Elem").run Tryz.prog w = .ok (146, .agg #[h]) w:=by kernel_rfl
theorem Tryz.methodImplements(h:Value)(w:World):(Go.method 308 129 (.agg #[h]) "Implements").run Tryz.prog w = .ok (147, .agg #[h]) w:=by kernel_rfl
theorem Tryz.methodAssignableTo(h:Value)(w:World):(Go.method 308 129 (.agg #[h]) "AssignableTo").run Tryz.prog w = .ok (144, .agg #[h]) w:=by kernel_rfl
theorem Tryz.elem27(w:World):(ReflectliteType.method ReflectliteType.elem #[.agg #[.pointer (some ⟨7,77,none⟩)]]).run Tryz.prog w = .ok (.iface 129 (.agg #[.pointer (some ⟨7,75,none⟩)])) w:=by kernel_rfl
theorem Tryz.implements25(w:World):(ReflectliteType.relation "Implements" ReflectliteType.implements_ #[.agg #[.pointer (some ⟨7,75,none⟩)], .iface 129 (.agg #[.pointer (some ⟨7,31,none⟩)])]).run Tryz.prog w = .ok (.bool true) w:=by kernel_rfl
theorem Tryz.typeOf25(v:Value)(w:World):(ReflectliteType.typeOf #[.iface 75 v]).run Tryz.prog w = .ok (.iface 129 (.agg #[.pointer (some ⟨7,75,none⟩)])) w:=by kernel_rfl
theorem Tryz.assignable25(w:World):(ReflectliteType.relation "AssignableTo" ReflectliteType.assignableTo #[.agg #[.pointer (some ⟨7,75,none⟩)], .iface 129 (.agg #[.pointer (some ⟨7,75,none⟩)])]).run Tryz.prog w = .ok (.bool true) w:=by kernel_rfl
theorem Tryz.valueOf25(e:Addr)(w:World):(ReflectliteValue.unpack (.iface 75 (.pointer (some e)))).run Tryz.prog w
  = .ok (.agg #[.pointer (some ⟨7,75,none⟩), .pointer (some ⟨w.heap.size,0,none⟩), .int .u64 150]) (w.alloc (.cells #[.pointer (some e)] 75)):=by kernel_rfl
theorem Tryz.elemOf27(w:World):(Rtype.elem? 77).run Tryz.prog w = .ok (some 75) w:=by kernel_rfl
theorem Tryz.mk25(p:Addr)(w:World):(ReflectliteValue.mk 75 p ReflectliteValue.flagAddr).run Tryz.prog w = .ok (.agg #[.pointer (some ⟨7,75,none⟩), .pointer (some p), .int .u64 406]) w:=by kernel_rfl
theorem Tryz.elemV27(a p:Addr)(W:World)(ha:W.cell? a=some (.pointer (some p))) :
  (ReflectliteValue.method (ReflectliteValue.valueError "reflectlite.Value.Elem" 0) ReflectliteValue.elem #[.agg #[.pointer (some ⟨7,77,none⟩), .pointer (some a), .int .u64 150]]).run Tryz.prog W
   = .ok (.agg #[.pointer (some ⟨7,75,none⟩), .pointer (some p), .int .u64 406]) W:=by
 rw[rlm];simp only[Sem.run_bind,Tryz.parts27,Result.andThen];simp[ReflectliteValue.elem,loadVar,isAgg,underlying,Tryz.underlying77,ha,Result.andThen,Tryz.elemOf27,Tryz.mk25]
theorem rls(v x:Value):ReflectliteValue.set #[v,x]=(do
  let(some (dst,a,fl),some (src,b,_)):=(<-ReflectliteValue.parts v,<-ReflectliteValue.parts x)
   |unsupported (.noEntry "extern/(internal/reflectlite.Value).Set.zeroValue")
  if fl / ReflectliteValue.flagAddr % 2 == 0 then unsupported (.noEntry "extern/(internal/reflectlite.Value).Set.unaddressable")
  let val <-loadVar src b
  if <-Rtype.directlyAssignable dst src then storeVar dst a val
  else if <-Rtype.implements dst src then
   if(<-Rtype.kind src) == 20 then
    match val with
    | .nilIface=>unsupported (.noEntry "extern/reflectlite: a nil value of one interface type handed on as a value of another")
    |_=>storeVar dst a val
   else storeVar dst a (.iface src val)
  else panicString ("reflectlite.Set: value of type " ++(<-Rtype.spelt src)++ " is not assignable to type " ++(<-Rtype.spelt dst))
  pure (.tuple #[])):=rfl
theorem Tryz.parts25a(a:Addr)(w:World):(ReflectliteValue.parts (.agg #[.pointer (some ⟨7,75,none⟩), .pointer (some a), .int .u64 406])).run Tryz.prog w = .ok (some (75,a,406)) w:=by kernel_rfl
theorem Tryz.parts25(a:Addr)(w:World):(ReflectliteValue.parts (.agg #[.pointer (some ⟨7,75,none⟩), .pointer (some a), .int .u64 150])).run Tryz.prog w = .ok (some (75,a,150)) w:=by kernel_rfl
theorem Tryz.direct25(w:World):(Rtype.directlyAssignable 75 75).run Tryz.prog w = .ok true w:=by kernel_rfl
theorem Tryz.set25(ta b e:Addr)(old:Value)(W:World)(hb:W.cell? b=some (.pointer (some e)))(ht:W.cell? ta=some old)(hf:W.frozen? ta=false) :
  (ReflectliteValue.set #[.agg #[.pointer (some ⟨7,75,none⟩), .pointer (some ta), .int .u64 406], .agg #[.pointer (some ⟨7,75,none⟩), .pointer (some b), .int .u64 150]]).run Tryz.prog W
   = .ok (.tuple #[]) (W.setCell ta (.pointer (some e))):=by
 rw[rls];simp only[Sem.run_bind,Tryz.parts25a,Tryz.parts25,Result.andThen];simp[ReflectliteValue.flagAddr,loadVar,isAgg,underlying,Tryz.underlying75,hb,Result.andThen,Tryz.direct25,storeVar,Value.cells,storeCells,Addr.add];rw[run_store Tryz.prog W ta _ _ (by rfl)];simp[ht,hf]
set_option maxHeartbeats 4000000 in
theorem as_hit(e t:Addr)(old:Value)(w:World)(hg:w.cell? ⟨0,0,none⟩=some (.iface 129 (.agg #[.pointer (some ⟨7,31,none⟩)])))(ht0:w.cell? t=some old)(hf0:w.frozen? t=false) :
  Calls Tryz.prog 31 #[.iface 75 (.pointer (some e)), .iface 77 (.pointer (some t))] w fun ev w'=>ev = .returned (.bool true)/\w'=((((w.alloc (.cells #[.pointer (some t)] 77)).alloc (.cells #[.pointer (some ⟨7,77,none⟩), .pointer (some ⟨w.heap.size,0,none⟩), .int .u64 150] 107)).alloc (.cells #[.pointer (some ⟨7,77,none⟩), .pointer (some ⟨w.heap.size,0,none⟩), .int .u64 150] 107)).alloc (.cells #[.pointer (some e)] 75)).setCell t (.pointer (some e)):=by
 have h6:=@run_callFunc_extern Tryz.prog 55 _ (fun args=>ReflectliteValue.unpack (args.getD 0 (.tuple #[]))) Tryz.func55 (by kernel_rfl) (by kernel_rfl) (by kernel_rfl) (by kernel_rfl);have h7:=@run_callFunc_extern Tryz.prog 56 _ (ReflectliteValue.methodAny (ReflectliteValue.valueError "reflectlite.Value.Type" 0) (fun t _ _ _=>ReflectliteType.toType t)) Tryz.func56 (by kernel_rfl) (by kernel_rfl) (by kernel_rfl) (by kernel_rfl);have h8:=@run_callFunc_extern Tryz.prog 57 _ (ReflectliteValue.method (ReflectliteValue.valueError "reflectlite.Value.IsNil" 0) ReflectliteValue.isNil) Tryz.func57 (by kernel_rfl) (by kernel_rfl) (by kernel_rfl) (by kernel_rfl);have h27:=@run_callFunc_extern Tryz.prog 133 _ (ReflectliteType.abiMethod fun t=>do pure (.int .u8 (<-Rtype.kind t))) Tryz.func133 (by kernel_rfl) (by kernel_rfl) (by kernel_rfl) (by kernel_rfl);have h37:=@run_callFunc_extern Tryz.prog 146 _ (ReflectliteType.method ReflectliteType.elem) Tryz.func146 (by kernel_rfl) (by kernel_rfl) (by kernel_rfl) (by kernel_rfl);have h38:=@run_callFunc_extern Tryz.prog 147 _ (ReflectliteType.relation "Implements" ReflectliteType.implements_) Tryz.func147 (by kernel_rfl) (by kernel_rfl) (by kernel_rfl) (by kernel_rfl);have h10:=@run_callFunc_extern Tryz.prog 59 _ ReflectliteType.typeOf Tryz.func59 (by kernel_rfl) (by kernel_rfl) (by kernel_rfl) (by kernel_rfl);have h35:=@run_callFunc_extern Tryz.prog 144 _ (ReflectliteType.relation "AssignableTo" ReflectliteType.assignableTo) Tryz.func144 (by kernel_rfl) (by kernel_rfl) (by kernel_rfl) (by kernel_rfl);have h11:=@run_callFunc_extern Tryz.prog 79 _ (ReflectliteValue.method (ReflectliteValue.valueError "reflectlite.Value.Elem" 0) ReflectliteValue.elem) Tryz.func79 (by kernel_rfl) (by kernel_rfl) (by kernel_rfl) (by kernel_rfl);have h12:=@run_callFunc_extern Tryz.prog 80 _ ReflectliteValue.set Tryz.func80 (by kernel_rfl) (by kernel_rfl) (by kernel_rfl) (by kernel_rfl);have tO:=Tryz.typeOf25;have mA:=Tryz.methodAssignableTo;have a25:=Tryz.assignable25;have v25:=Tryz.valueOf25;have f6:=Tryz.valueOf27;have f7:=Tryz.type27;have mK:=Tryz.methodKind;have mE:=Tryz.methodElem;have mI:=Tryz.methodImplements;have k27:=Tryz.kind27;have k25:=Tryz.kind25;have e27:=Tryz.elem27;have i25:=Tryz.implements25;have n8:=Tryz.isNil27 ⟨w.heap.size,0,none⟩ t ((w.alloc (.cells #[.pointer (some t)] 77)).alloc (.cells #[.pointer (some ⟨7,77,none⟩), .pointer (some ⟨w.heap.size,0,none⟩), .int .u64 150] 107)) (by simp);have hlt:0<w.heap.size:=by
  rcases Nat.eq_zero_or_pos w.heap.size with h0 | h
  ·simp[World.cell?,h0]at hg
  ·exact h
 have hg2:((w.alloc (.cells #[.pointer (some t)] 77)).alloc (.cells #[.pointer (some ⟨7,77,none⟩), .pointer (some ⟨w.heap.size,0,none⟩), .int .u64 150] 107)).cell? ⟨0,0,none⟩=some (.iface 129 (.agg #[.pointer (some ⟨7,31,none⟩)])):=by
  rw[World.cell?_alloc_lt _ _ ⟨0,0,none⟩ (by simp),World.cell?_alloc_lt _ _ ⟨0,0,none⟩ hlt]; exact hg
 have htl:t.block<w.heap.size:=by
  rcases Nat.lt_or_ge t.block w.heap.size with h | h
  ·exact h
  ·simp[World.cell?,Array.getElem?_eq_none h]at ht0
 have el:=Tryz.elemV27 ⟨w.heap.size,0,none⟩ t (((w.alloc (.cells #[.pointer (some t)] 77)).alloc (.cells #[.pointer (some ⟨7,77,none⟩), .pointer (some ⟨w.heap.size,0,none⟩), .int .u64 150] 107)).alloc (.cells #[.pointer (some ⟨7,77,none⟩), .pointer (some ⟨w.heap.size,0,none⟩), .int .u64 150] 107)) (by rw[World.cell?_alloc_lt _ _ ⟨w.heap.size,0,none⟩ (by simp; omega)]; simp);have st:=Tryz.set25 t ⟨w.heap.size+1+1+1,0,none⟩ e old ((((w.alloc (.cells #[.pointer (some t)] 77)).alloc (.cells #[.pointer (some ⟨7,77,none⟩), .pointer (some ⟨w.heap.size,0,none⟩), .int .u64 150] 107)).alloc (.cells #[.pointer (some ⟨7,77,none⟩), .pointer (some ⟨w.heap.size,0,none⟩), .int .u64 150] 107)).alloc (.cells #[.pointer (some e)] 75))
  (by rw[World.cell?_alloc_at _ _ _ _ (by simp)]; rfl)
  (by rw[World.cell?_alloc_lt _ _ t (by simp; omega),World.cell?_alloc_lt _ _ t (by simp; omega),World.cell?_alloc_lt _ _ t (by simp; omega),World.cell?_alloc_lt _ _ t htl]; exact ht0)
  (by rw[World.frozen?_alloc_old _ _ t (by simp; omega),World.frozen?_alloc_old _ _ t (by simp; omega),World.frozen?_alloc_old _ _ t (by simp; omega),World.frozen?_alloc_old _ _ t (Nat.ne_of_lt htl)]; exact hf0)
 go_enter Tryz.func31,Tryz.ntmps31
 go_wp2
 refine wp_loop_rounds 1 ?_;rw[rounds_succ]
 go_wp2
 go_ret
 exact⟨rfl,rfl⟩
theorem Tryz.isTypeOf(v:Value)(w:World):(Extern.ReflectliteType.typeOf #[.iface 25 v]).run Tryz.prog w = .ok (.iface 129 (.agg #[.pointer (some ⟨7,25,none⟩)])) w:=by kernel_rfl
theorem Tryz.isComparable(w:World):((Extern.ReflectliteType.method fun t=>do Extern.Rtype.noPackHeld "Comparable" t; (fun a=>Value.bool a.comparable) <$> typeInfo t) #[.agg #[.pointer (some ⟨7,25,none⟩)]]).run Tryz.prog w = .ok (.bool true) w:=by kernel_rfl
theorem Tryz.isMethodComparable(v:Value)(w:World):(Go.method 308 129 v "Comparable").run Tryz.prog w = .ok (145,v) w:=by kernel_rfl
theorem Tryz.noIsE(v:Value)(xT:TypeId)(w:World):(Instr.typeAssert (.iface 25 v) xT 141 true).run Tryz.prog w = .ok (.tuple #[.nilIface, .bool false]) w:=run_typeAssert_lacksB Tryz.underlying141 (by kernel_rfl) (by kernel_rfl) v xT w
theorem Tryz.noUnwrapE(v:Value)(xT:TypeId)(w:World):(Instr.typeAssert (.iface 25 v) xT 136 true).run Tryz.prog w = .ok (.tuple #[.nilIface, .bool false]) w:=run_typeAssert_lacksB Tryz.underlying136 (by kernel_rfl) (by kernel_rfl) v xT w
theorem Tryz.noUnwrapsE(v:Value)(xT:TypeId)(w:World):(Instr.typeAssert (.iface 25 v) xT 138 true).run Tryz.prog w = .ok (.tuple #[.nilIface, .bool false]) w:=run_typeAssert_lacksB Tryz.underlying138 (by kernel_rfl) (by kernel_rfl) v xT w
theorem Tryz.noIsW(v:Value)(xT:TypeId)(w:World):(Instr.typeAssert (.iface 75 v) xT 141 true).run Tryz.prog w = .ok (.tuple #[.nilIface, .bool false]) w:=run_typeAssert_lacksB Tryz.underlying141 (by kernel_rfl) (by kernel_rfl) v xT w
theorem Tryz.hasUnwrapW(v:Value)(xT:TypeId)(w:World):(Instr.typeAssert (.iface 75 v) xT 136 true).run Tryz.prog w = .ok (.tuple #[.iface 75 v, .bool true]) w:=run_typeAssert_hasB Tryz.underlying136 (by kernel_rfl) v xT w
theorem Tryz.methodUnwrap(v:Value)(w:World):(Go.method 308 75 v "Unwrap").run Tryz.prog w = .ok (139,v) w:=by kernel_rfl
theorem Tryz.isComp:(Tryz.prog.info? 25).map (·.comparable)=some true:=by kernel_rfl
set_option maxHeartbeats 4000000 in
theorem Tryz.eqErrD(d:Nat)(n m:Int)(w:World):(Op.equalIn (d+2) 31 (.iface 25 (.int .i64 n)) (.iface 25 (.int .i64 m))).run Tryz.prog w = .ok (n == m) w:=by
 obtain⟨i,hi,hcmp⟩:=Option.map_eq_some_iff.1 Tryz.isComp;simp[Op.equalIn,run_underlying Tryz.underlying31,run_underlying Tryz.underlying25,typeInfo,hi,hcmp]
theorem Tryz.eqErr(n m:Int)(w:World):(binOp .eql 31 (.iface 25 (.int .i64 n)) (.iface 25 (.int .i64 m))).run Tryz.prog w = .ok (.bool (n == m)) w:=by
 simp only[binOp];simp[Op.equal,Op.maxDepth,Tryz.eqErrD 9998]
set_option maxHeartbeats 4000000 in
set_option maxRecDepth 100000 in
theorem is_err(pb po:Nat)(n m:Int)(w:World)(h1:w.cell? ⟨pb,po+1,none⟩=some (.int .i64 n)) :
  Calls Tryz.prog 32 #[.iface 75 (.pointer (some ⟨pb,po,none⟩)), .iface 25 (.int .i64 m)] w fun e w'=>e = .returned (.bool (n == m))/\w'=w:=by
 obtain⟨i,hi,hcmp⟩:=Option.map_eq_some_iff.1 Tryz.isComp;have h8:=@run_callFunc_extern Tryz.prog 59 _ Extern.ReflectliteType.typeOf Tryz.func59 (by kernel_rfl) (by kernel_rfl) (by kernel_rfl) (by kernel_rfl);have h32:=@run_callFunc_extern Tryz.prog 145 _ (Extern.ReflectliteType.method fun t=>do Extern.Rtype.noPackHeld "Comparable" t; pure (.bool (<-typeInfo t).comparable)) Tryz.func145 (by kernel_rfl) (by kernel_rfl) (by kernel_rfl) (by kernel_rfl);have tT:=Tryz.isTypeOf;have cT:=Tryz.isComparable;have mR:=Tryz.isMethodComparable;have nE:=Tryz.noIsE;have uE:=Tryz.noUnwrapE;have vE:=Tryz.noUnwrapsE;have nW:=Tryz.noIsW;have uW:=Tryz.hasUnwrapW;have mU:=Tryz.methodUnwrap;have hty:=run_eql_iface_types (P:=Tryz.prog) 75 25 (.pointer (some ⟨pb,po,none⟩)) (.int .i64 m) Tryz.underlying31 (by decide) w;have hq:=Tryz.eqErr n m w;cases hnm:n == m with
 |true=>
  rw[hnm]at hq
  go_enter Tryz.func32,Tryz.ntmps32
  go_wp2
  refine wp_loop_rounds 2 ?_;rw[rounds_succ]
  go_wp2
  rw[rounds_succ]
  go_wp2
  go_ret
  exact⟨rfl,rfl⟩
 |false=>
  rw[hnm]at hq
  go_enter Tryz.func32,Tryz.ntmps32
  go_wp2
  refine wp_loop_rounds 2 ?_;rw[rounds_succ]
  go_wp2
  rw[rounds_succ]
  go_wp2
  go_ret
  exact⟨rfl,rfl⟩
end Go.Proofs.YtlkfapppocmgpaaGreatDoor
end

noncomputable section
namespace Go.VS.Tryz
open Go.VS Go.RowKit
set_option maxRecDepth 1000000
theorem Ox{K:Prot}{Y:Env}{st:St}{w:World}(hr:Rel P K Y st w){c:List Value}(hc:bT c=true){v:Value}(h:VR Y (jl 0 c) v):∃ k o,v = .pointer (some ⟨k,o,none⟩)/\∀ (j:Nat) y,c[j]? = some y->w.cell? ⟨k,o+j,none⟩=some y:=by
 unfold jl at h;simp only[VR]at h;rw[if_neg (Nat.lt_irrefl FZ)]at h;simp only[VZ,VZA,VZL]at h;obtain⟨a,b,e,h⟩:=h;cases e;rw[Nat.sub_self]at h;unfold gW at h;rw[if_pos rfl]at h;obtain⟨k,o,cs,e',f,l,rfl,h2,h3,h4,h5⟩:=h;have hq:=rY hc h5;obtain⟨⟨f1,f0⟩,f2,_⟩:=hr.frz k l h2;refine⟨k,o,rfl,fun j y hj=>?_⟩;rw[h3]at f2;have hlt:j<c.length:=(List.getElem?_eq_some_iff.1 hj).1;rw[<-hq,List.getElem?_take_of_lt hlt,List.getElem?_drop]at hj;unfold World.cell?;simp only[f2];simpa using hj
theorem O6{Y:Env}{i e:Int}{b v:Value}{args':Array Value}(h:VRL Y [gX i e,b] args'.toList):∃ x y,args'=#[.iface 75 x,y]/\VR Y (jl 0 [.int .i64 i, .int .i64 e]) x/\VR Y b y:=by
 obtain⟨l⟩:=args';simp only[VRL]at h;obtain⟨y,ys,e1,hy,z,zs,rfl,hz,rfl⟩:=h;unfold gX at hy;simp only[VR]at hy;rw[if_pos (by unfold FZ; decide)]at hy;obtain⟨x,rfl,hx⟩:=hy;have e1:l=[.iface 75 x,z]:=e1;subst e1;exact⟨x,z,rfl,hx,hz⟩
structure IsS where
 i:Int
 e:Int
 f:Int
def kIs:Con IsS where
 enc s:=([gX s.i s.e, .iface 25 (.int .i64 s.f)],[])
 ok _:=True
 inj a b h:=by
  obtain⟨a1,a2,a3⟩:=a;obtain⟨b1,b2,b3⟩:=b;unfold gX jl at h;simp only[Prod.mk.injEq,List.cons.injEq,Value.iface.injEq,Value.agg.injEq,Array.mk.injEq,Value.int.injEq,true_and,and_true]at h;obtain⟨⟨h1,h2⟩,h3⟩:=h;subst h1 h2 h3
  rfl
 dflt:=⟨0,0,0⟩
theorem afG:CallOkX P 0 32 (jS kIs.C kIs.D fun s=> .leaf (.bool (s.e == s.f),[])):=f_ kIs fun s ho v bs' hev=>by
 simp only[DT.eval,Option.some.injEq,Prod.mk.injEq]at hev;obtain⟨rfl,rfl⟩:=hev;obtain⟨i,e,f⟩:=s;intro K Y w args' cs hid ha hr;obtain⟨x,y,rfl,hx,hy⟩:=O6 (v:= .nilFunc) ha;have hy:VR Y (.iface 25 (.int .i64 f)) y:=hy;simp only[VR]at hy;rw[if_pos (by unfold FZ; decide)]at hy;obtain⟨y',rfl,rfl⟩:=hy;obtain⟨k,o,rfl,hcell⟩:=Ox hr rfl hx;obtain⟨e1,w',fr,⟨rfl,rfl⟩,hc,h1,l1,l2,l3,fn,l4,l5⟩:=Go.Proofs.YtlkfapppocmgpaaGreatDoor.is_err k o e f w (hcell 1 _ rfl) cs;exact⟨⟨Y,fr,w',_,hc,(Env.le.refl Y).leN _,hr,Bel.refl _ _,rfl,l1,l2,l3,h1,fn,by rw[<-h1]; exact l4,l5⟩,Nat.zero_le _⟩
def kAs:Con (Int×Int) where
 enc s:=([gX s.1 s.2, .iface 77 (.pointer (some ⟨0,0,none⟩))],[.cells [.pointer none] 75 true])
 ok _:=True
 inj a b h:=by
  obtain⟨a1,a2⟩:=a;obtain⟨b1,b2⟩:=b;unfold gX jl at h;simp only[Prod.mk.injEq,List.cons.injEq,Value.iface.injEq,Value.agg.injEq,Array.mk.injEq,Value.int.injEq,true_and,and_true]at h;obtain⟨h1,h2⟩:=h;subst h1 h2
  rfl
 dflt:=(0,0)
theorem W9{w:World}(h:GW w):w.cell? ⟨0,0,none⟩=some (.iface 129 (.agg #[.pointer (some ⟨7,31,none⟩)])):=by
 obtain⟨o,h1,e,f,rfl⟩:=h (0,_) (by simp only[globs]; exact List.mem_cons_self ..);unfold World.cell?;simp only[h1]
 rfl
theorem cell_of{K:Prot}{Y:Env}{w:World}{l:Loc}(hr0:Rel P K Y (mkSt [.cells [.pointer none] 75 true]) w)(hl:Y ((0:Nat):Int)=some l):w.cell? ⟨l.blk,l.base,none⟩=some (.pointer none)/\w.frozen? ⟨l.blk,l.base,none⟩=false:=by
 obtain⟨l0,a1,a2,a3⟩:=hr0.blk 0 (.cells [.pointer none] 75 true) rfl rfl;obtain rfl:l0=l:=by rw[a1]at hl; exact Option.some.inj hl
 rcases a3 with⟨q1,q2,q3⟩ | ⟨q0,cc,f,q1,q2,q3,q4,q5,q6,q7⟩
 ·cases q3
 ·have q8:=(q5 rfl).1;have q6:(cc.toList.drop l0.base).take 1=[.pointer none]:=rY rfl q6;have hlt:l0.base<cc.size:=by
   have hlen:l0.total=1:=q8.symm;omega
  refine⟨?_,?_⟩
  ·unfold World.cell?;simp only[q1];have:((cc.toList.drop l0.base).take 1)[0]? = some (.pointer none):=by rw[q6]; rfl
   rw[List.getElem?_take_of_lt (by decide),List.getElem?_drop]at this;simpa using this
  ·unfold World.frozen?;obtain⟨lo,hi⟩:=f;simp only[q1];have:=q7.1;simp only at this;rw[Bool.and_eq_false_iff];rcases this with h | h
   ·by_cases hq:lo<=l0.base
    ·right; exact decide_eq_false (by omega)
    ·left; exact decide_eq_false hq
   ·left; exact decide_eq_false (by omega)
theorem af1:CallOkX P 1 31 (jS kAs.C kAs.D fun s=> .leaf (.bool true,[.cells [jl 0 [.int .i64 s.1, .int .i64 s.2]] 75 true])):=f_ kAs fun s ho v bs' hev=>by
 simp only[DT.eval,Option.some.injEq,Prod.mk.injEq]at hev;obtain⟨rfl,rfl⟩:=hev;obtain⟨i,e⟩:=s;intro K Y w args' cs hid ha hr;obtain⟨x,y,rfl,hx,hy⟩:=O6 (v:= .nilFunc) ha;have hy:VR Y (.iface 77 (.pointer (some ⟨0,0,none⟩))) y:=hy;simp only[VR]at hy;rw[if_pos (by unfold FZ; decide)]at hy;obtain⟨y',rfl,_,l,hl,rfl⟩:=hy;obtain⟨k,o,rfl,hcell⟩:=Ox hr rfl hx;have hr0:Rel P K Y (mkSt [.cells [.pointer none] 75 true]) w:=hr;obtain⟨ht,hfz⟩:=cell_of hr0 hl;obtain⟨e1,w',fr,⟨rfl,hw'⟩,hc,h1,l1,l2,l3,fn,l4,l5⟩:=Go.Proofs.YtlkfapppocmgpaaGreatDoor.as_hit ⟨k,o,none⟩ ⟨l.blk,l.base,none⟩ (.pointer none) w (W9 hr.gw) ht hfz cs;generalize hW:(((w.alloc _).alloc _).alloc _).alloc _=W at hw';have hb:Below w.heap.size w W:=by
  rw[<-hW];exact((((Below.refl _ _).alloc (Nat.le_refl _) _).alloc (by simp) _).alloc (by simp; omega) _).alloc (by simp; omega) _
 obtain⟨r1,r2⟩:=hr0.below hb;obtain⟨ht1,hf1⟩:=cell_of r1 hl;have hst:setCells (mkSt [.cells [.pointer none] 75 true]) ⟨0,0,none⟩ [jl 0 [.int .i64 i, .int .i64 e]]=some { (mkSt [.cells [.pointer none] 75 true])with heap:=(mkSt [.cells [.pointer none] 75 true]).heap.set 0 (.cells [jl 0 [.int .i64 i, .int .i64 e]] 75 true) }:=rfl;obtain⟨w2,s1,s2,s3,s4⟩:=r1.setCells hst (VRL.cons hx VRL.nil) hl;have hrun:(storeCells ⟨l.blk,l.base+0,none⟩ [.pointer (some ⟨k,o,none⟩)]).run P W = .ok () (W.setCell ⟨l.blk,l.base,none⟩ (.pointer (some ⟨k,o,none⟩))):=by
  simp only[storeCells,Sem.run_bind];rw[show((⟨l.blk,l.base+0,none⟩:Addr).add 0)=⟨l.blk,l.base,none⟩ from rfl,run_store P W ⟨l.blk,l.base,none⟩ _ _ (by rfl)];simp[ht1,hf1,Result.andThen]
 rw[hrun]at s1;have hw2:W.setCell ⟨l.blk,l.base,none⟩ (.pointer (some ⟨k,o,none⟩))=w2:=by
  injection s1
 have hfin:Rel P K Y (mkSt [.cells [jl 0 [.int .i64 i, .int .i64 e]] 75 true]) w2:=zA (fun j=>by
  rw[dS]) rfl s2
 rw[hw2]at hw';subst hw';exact⟨⟨Y,fr,w',_,hc,(Env.le.refl Y).leN _,hfin,r2.trans s3,rfl,l1,l2,l3,h1,fn,by rw[<-h1]; exact l4,l5⟩,Nat.le_refl 1⟩
end Go.VS.Tryz
end

noncomputable section
namespace Go.VS.Tryz
open Go.VS
set_option maxRecDepth 1000000
def aeh(AC IC:List Value->List Blk->Bool)(i e:Int)(b:Bool):Ct:=bJ P aJ 1 31 (iL AC (.leaf (.bool true,[.cells [jl 0 [.int .i64 i, .int .i64 e]] 75 true]))) (bJ P aJ 0 32 (iL IC (.leaf (.bool b,[]))) ctF)
theorem Xr(AC IC:List Value->List Blk->Bool)(i e:Int)(b:Bool)(l f:Int):bn P E (aeh AC IC i e b) 50 aJ [] [] 0 12 [gX i e, .int .i64 l, .int .i64 f] [] =
 (ag (eqI f 0)
 (some ((.bool false),(mkSt [])))
 (ae (AC [.iface 75 (.iface 18446744073709551616 (.agg ⟨[.slice none 0 0,.int .i64 i,.int .i64 e]⟩)),.iface 77 (.pointer (Option.some (Addr.mk 0 0 none)))] [Blk.cells [.pointer none] 75 true])
 (ag (eqI i l)
 (ag (eqI e f)
 (ae (IC [.iface 75 (.iface 18446744073709551616 (.agg ⟨[.slice none 0 0,.int .i64 i,.int .i64 e]⟩)),.iface 25 (.int .i64 f)] [])
 (some ((.bool b),(mkSt []))))
 (some ((.bool false),(mkSt []))))
 (some ((.bool false),(mkSt [])))))):=by kernel_rfl
theorem UA(l f:Int):bn P E ctF 50 aJ [] [] 0 12 [.nilIface, .int .i64 l, .int .i64 f] [] =
 (ag (eqI f 0)
 (some ((.bool true),(mkSt [])))
 (some ((.bool false),(mkSt [])))):=by kernel_rfl
def ql(o:Option (Int×Int))(l f:Int):Bool:=match o with
 |none=>eqI f 0
 |some p=>if eqI f 0 then false else eqI p.1 l&&eqI p.2 f
theorem FQ(i e:Int):gX i e = .iface 75 (.iface 18446744073709551616 (.agg ⟨[.slice none 0 0, .int .i64 i, .int .i64 e]⟩)):=by unfold gX jl FZ; rfl
def ctW(i e f:Int):Ct:=aeh (kAs.at (i,e)) (kIs.at ⟨i,e,f⟩) i e (e == f)
theorem Xm(i e l f:Int):bn P E (ctW i e f) 50 aJ [] [] 0 12 [gX i e, .int .i64 l, .int .i64 f] []=some (.bool (ql (some (i,e)) l f),mkSt []):=by
 refine(Xr (kAs.at (i,e)) (kIs.at ⟨i,e,f⟩) i e (e == f) l f).trans ?_;unfold ql;cases h0:eqI f 0 with
 |true=>simp only[az]; rfl
 |false=>
  simp only[ax];refine bu (k:=kAs) (s:=(i,e)) (by show [gX i e,_]=_; rw[FQ]) rfl ?_;cases h1:eqI i l with
  |false=>simp only[ax]; rfl
  |true=>
   simp only[az];cases h2:eqI e f with
   |false=>simp only[ax]; rfl
   |true=>
    simp only[az];refine bu (k:=kIs) (s:=⟨i,e,f⟩) (by show [gX i e,_]=_; rw[FQ]) rfl ?_;have h3:(e == f)=true:=h2;rw[h3]; rfl
structure WrS where
 o:Option (Int×Int)
 l:Int
 f:Int
end Go.VS.Tryz
end

noncomputable section
namespace Go.Proofs
open Go.RowKit Go.Shelf
section
theorem Tryz.bld_fresh(b:Nat)(w:World)(h0:w.cell? ⟨b,0,none⟩=some (.pointer none))(hsh:w.shape? b=some (61,2))(hfz:w.frozen? ⟨b,0,none⟩=false) :
  Calls Tryz.prog 46 #[.pointer (some ⟨b,0,none⟩)] w fun e w'=>e = .returned (.tuple #[])/\w'=w.setCell ⟨b,0,none⟩ (.pointer (some ⟨b,0,none⟩)):=
 Any.Builder_copyCheck_fresh { Tryz.lays105 with } Tryz.Builder_Extra_105.toX72 b w h0 hsh hfz
theorem Tryz.bld_used(b:Nat)(w:World)(h0:w.cell? ⟨b,0,none⟩=some (.pointer (some ⟨b,0,none⟩))) :
  Calls Tryz.prog 46 #[.pointer (some ⟨b,0,none⟩)] w fun e w'=>e = .returned (.tuple #[])/\w'=w:=
 Any.Builder_copyCheck_used { Tryz.lays105 with } Tryz.Builder_Extra_105.toX72 b w h0
variable{P:Program}(w:World)
theorem XV{e:TypeId}(hc:P.cellsOf e=1)(count o n:Nat)(hn:o+n<=count):liesAt P P.depth e count o e n=true:=by
 have hd:P.depth=(2*(P.types.size+Made.depth)+1)+1:=rfl;rw[hd];simp only[liesAt,Bool.or_eq_true];left;rw[hd];simp[rowAt,hc,hn,sameLayout,Nat.mod_one]
theorem Hz(pt it ty e:TypeId)(hp:P.underlying pt=some (.pointer e))(hc:P.cellsOf e=1)(g o cells:Nat)(hsh:w.shape? g=some (e,cells))(l:List UInt8)(h0:l≠[])(hn:o+l.length<=cells)(h63:l.length<=9223372036854775807)
  (hcell:∀ j x,l[j]? = some x->w.cell? ((⟨g,o,none⟩:Addr).add j)=some (.int .u8 x.toNat)) :
  (Builtin.unsafeString_ #[pt,it] ty #[.pointer (some ⟨g,o,none⟩), .int .i64 l.length]).run P w = .ok (.string ⟨l.toArray⟩) (w.freeze ⟨g,o,none⟩ l.length):=by
 have hl:l.length≠0:=by simpa using h0
 have hlb:=Lib.run_loadBytes (P:=P) w l ⟨g,o,none⟩ .empty hcell;have hlies:=XV (P:=P) hc (cells / P.cellsOf e) o l.length (by rw[hc]; simpa using hn);have h63':¬(9223372036854775807:Int)<(l.length:Int):=by omega
 have hdef:Builtin.unsafeString_ #[pt,it] ty #[.pointer (some ⟨g,o,none⟩), .int .i64 l.length] =
   (do
    let n <-asInt (.int .i64 l.length)
    if n<0 then runtimePanic (.error "unsafe.String: len out of range")
    if n>IntKind.i64.max then unsupported (.unsafePointer "String: a length above the largest int")
    if n=0 then pure (.string .empty)
    else if <-variablesAt ⟨g,o,none⟩ (<-elemOf pt) n.toNat then do
     let s <-loadBytes ⟨g,o,none⟩ .empty n.toNat
     freeze ⟨g,o,none⟩ n.toNat
     pure (.string s)
    else unsupported (.unsafePointer "String: not so many bytes at ptr")):=rfl
 rw[hdef];have hmax:IntKind.i64.max=9223372036854775807:=rfl;have hneg:¬(l.length:Int)<0:=by omega
 simp[asInt,asIntOf,hmax,h63',hneg,hl,variablesAt,hsh,elemOf,run_underlying hp,hlies,hlb]
set_option maxHeartbeats 2000000 in
set_option maxRecDepth 100000 in
theorem Tryz.bld_at(b g o cap:Nat)(l:List UInt8)(w:World)(h0:l≠[])(hcap:l.length<=cap)(h63:l.length<=9223372036854775807)(hb:w.cell? ⟨b,1,none⟩=some (.slice (some ⟨g,o,none⟩) l.length cap))(cells:Nat)(hsh:w.shape? g=some (5,cells))(hn:o+l.length<=cells)
  (hcell:∀ j x,l[j]? = some x->w.cell? ((⟨g,o,none⟩:Addr).add j)=some (.int .u8 x.toNat)) :
  Calls Tryz.prog 26 #[.pointer (some ⟨b,0,none⟩)] w fun e w'=>e = .returned (.string ⟨l.toArray⟩)/\w'=w.drew.freeze ⟨g,o,none⟩ l.length:=by
 have L:Lays.n169 Tryz.prog Tryz.lays105_ren:={ Tryz.lays105 with }
 have X:=Tryz.Builder_Extra_105;have hl0:l.length≠0:=by simpa using h0
 have c1:w.drew.cell? ⟨b,1,none⟩=some (.slice (some ⟨g,o,none⟩) l.length cap):=hb;have hSD:(Builtin.unsafeSliceData_ #[(Tryz.lays105_ren.t 37)] (Tryz.lays105_ren.t 127) #[.slice (some ⟨g,o,none⟩) l.length cap]).run Tryz.prog w.drew = .ok (.pointer (some ⟨g,o,none⟩)) w.drew:=
  Lib.run_unsafeSliceData_row _ _ _ _ _ _ (by omega)
 have hUS:(Builtin.unsafeString_ #[(Tryz.lays105_ren.t 127),(Tryz.lays105_ren.t 3)] (Tryz.lays105_ren.t 9) #[.pointer (some ⟨g,o,none⟩), .int .i64 l.length]).run Tryz.prog w.drew = .ok (.string ⟨l.toArray⟩) (w.drew.freeze ⟨g,o,none⟩ l.length):=
  Hz w.drew _ _ _ (Tryz.lays105_ren.t 5) L.t127 X.cellsByte g o cells hsh l h0 hn h63 hcell
 have mixed:=L.mixed;have t72:=L.t72; have a72:=L.a72; have z72:=L.z72; have v72:=L.v72; have u72:=run_underlying L.t72;have t70:=L.t70; have a70:=L.a70; have z70:=L.z70; have v70:=L.v70; have u70:=run_underlying L.t70;have t37:=L.t37; have a37:=L.a37; have z37:=L.z37; have v37:=L.v37; have u37:=run_underlying L.t37;have t127:=L.t127; have a127:=L.a127; have z127:=L.z127; have v127:=L.v127; have u127:=run_underlying L.t127;have t3:=L.t3; have a3:=L.a3; have z3:=L.z3; have v3:=L.v3; have u3:=run_underlying L.t3;have t9:=L.t9; have a9:=L.a9; have z9:=L.z9; have v9:=L.v9; have u9:=run_underlying L.t9;have t5:=X.t5; have a5:=X.a5; have z5:=X.z5; have v5:=X.v5; have u5:=run_underlying X.t5;clear hcap hsh hn hcell;revert L;intro L
 go_enter L.f169,Body.n169_ntmps Tryz.lays105_ren
 go_wp2
 go_region_o
 all_goals (go_wp2; go_ret; exact⟨rfl,rfl⟩)
end
end Go.Proofs
end

noncomputable section
namespace Go.VS.Tryz
open Go.VS Go.RowKit
set_option maxRecDepth 1000000
def dP:Value:= .pointer (some ⟨0,0,none⟩)
theorem Fj{Y:Env}{args':Array Value}(h:VRL Y [dP] args'.toList):∃ l,Y ((0:Nat):Int)=some l/\args'=#[.pointer (some ⟨l.blk,l.base+0,none⟩)]:=by
 obtain⟨l⟩:=args';unfold dP at h;simp only[VRL]at h;obtain⟨y,ys,e1,hy,rfl⟩:=h;simp only[VR]at hy;obtain⟨_,l0,hl,rfl⟩:=hy;have e1:l=[.pointer (some ⟨l0.blk,l0.base+0,none⟩)]:=e1;subst e1;exact⟨l0,hl,rfl⟩
theorem BM{K:Prot}{Y:Env}{w:World}{p v:Value}{rest:List Blk}{l:Loc}(hr:Rel P K Y (mkSt (.cells [p,v] 61 true::rest)) w)(hl:Y ((0:Nat):Int)=some l) :
  l.virt=false/\l.base=0/\¬K l.blk/\∃ y0 y1 f,w.heap[l.blk]? = some (.cells #[y0,y1] 61 f)/\VR Y p y0/\VR Y v y1/\(f.2<=f.1\/2<=f.1):=by
 obtain⟨l1,a1,a2,a3⟩:=hr.blk 0 (.cells [p,v] 61 true) (by rw[dS]; rfl) rfl;obtain rfl:l1=l:=by rw[a1]at hl; exact Option.some.inj hl
 rcases a3 with⟨q1,q2,q3⟩ | ⟨q0,cc,f,q1,q2,q3,q4,q5,q6,q7⟩
 ·cases q3
 obtain⟨q8,q9,q10⟩:=q5 rfl;have hsz:cc.size=2:=by rw[q10,<-q8]; rfl
 obtain⟨cc⟩:=cc;have hq:VRL Y [p,v] cc:=by
  rw[q9,List.drop_zero,List.take_of_length_le (by simpa using Nat.le_of_eq hsz)]at q6;exact q6
 simp only[VRL]at hq;obtain⟨y0,ys,rfl,h0,y1,ys1,rfl,h1,rfl⟩:=hq;exact⟨q0,q9,a2 q0,y0,y1,f,q1,h0,h1,by simpa using q7.1⟩
theorem VB{p v:Value}{rest:List Blk}(hp:p = .pointer none\/p=dP):CRX P 1 46 [dP] (.cells [p,v] 61 true::rest) (.tuple ⟨[]⟩) (.cells [dP,v] 61 true::rest):=by
 intro K Y w args' cs hid ha hr;obtain⟨l,hl,rfl⟩:=Fj ha;obtain⟨hv,hb,hK,y0,y1,f,hh,h0,h1,hf⟩:=BM hr hl;rw[hb];have hc0:w.cell? ⟨l.blk,0,none⟩=some y0:=by unfold World.cell?; simp only[hh]; rfl
 have hsh:w.shape? l.blk=some (61,2):=by unfold World.shape?; simp only[hh]; rfl
 have hfz:w.frozen? ⟨l.blk,0,none⟩=false:=by
  unfold World.frozen?;obtain⟨lo,hi⟩:=f;simp only[hh];rw[Bool.and_eq_false_iff];rcases hf with h | h
  ·by_cases hq:lo<=0
   ·right; exact decide_eq_false (by simp only at h; omega)
   ·left; exact decide_eq_false hq
  ·left; exact decide_eq_false (by simp only at h; omega)
 rcases hp with rfl | rfl
 ·have h0:y0 = .pointer none:=h0;subst h0;obtain⟨e1,w',fr,⟨rfl,hw'⟩,hc,h1',l1,l2,l3,fn,l4,l5⟩:=Go.Proofs.Tryz.bld_fresh l.blk w hc0 hsh hfz cs;have hx:VR Y dP (.pointer (some ⟨l.blk,l.base+0,none⟩)):=by
   unfold dP;simp only[VR];exact⟨trivial,l,hl,rfl⟩
  obtain⟨w2,s1,s2,s3,s4⟩:=hr.setCells (a:=⟨0,0,none⟩) (vs:=[dP]) (st':={ (mkSt (.cells [.pointer none,v] 61 true::rest))with heap:=(mkSt (.cells [.pointer none,v] 61 true::rest)).heap.set 0 (.cells [dP,v] 61 true) }) (by unfold setCells; rw[if_neg (by decide)]; simp only[dS]; rfl) (VRL.cons hx VRL.nil) hl;have hrun:(storeCells ⟨l.blk,l.base+0,none⟩ [.pointer (some ⟨l.blk,l.base+0,none⟩)]).run P w = .ok () (w.setCell ⟨l.blk,0,none⟩ (.pointer (some ⟨l.blk,0,none⟩))):=by
   rw[hb];simp only[storeCells,Sem.run_bind];rw[show((⟨l.blk,0+0,none⟩:Addr).add 0)=⟨l.blk,0,none⟩ from rfl,run_store P w ⟨l.blk,0,none⟩ _ _ (by rfl)];simp[hc0,hfz,Result.andThen]
  rw[hrun]at s1;have hw2:w.setCell ⟨l.blk,0,none⟩ (.pointer (some ⟨l.blk,0,none⟩))=w2:=by
   injection s1
  have hfin:Rel P K Y (mkSt (.cells [dP,v] 61 true::rest)) w2:=by
   refine zA (st:={ (mkSt (.cells [.pointer none,v] 61 true::rest))with heap:=(mkSt (.cells [.pointer none,v] 61 true::rest)).heap.set 0 (.cells [dP,v] 61 true) }) (fun j=>?_) rfl s2;show(mkSt (.cells [dP,v] 61 true::rest)).heap.get j=((mkSt (.cells [.pointer none,v] 61 true::rest)).heap.set 0 (.cells [dP,v] 61 true)).get j;rw[dS,Trie.get_set,dS];cases j<;>rfl
  rw[hw2]at hw';subst hw';exact⟨⟨Y,fr,w',_,hc,(Env.le.refl Y).leN _,hfin,s3,⟨#[],rfl,rfl⟩,l1,l2,l3,h1',fn,by rw[<-h1']; exact l4,l5⟩,by simp⟩
 ·have h0:y0 = .pointer (some ⟨l.blk,0,none⟩):=by
   unfold dP at h0;simp only[VR]at h0;obtain⟨_,l',hl',rfl⟩:=h0;obtain rfl:l'=l:=by rw[hl]at hl'; exact(Option.some.inj hl').symm
   rw[hb]
  subst h0;obtain⟨e1,w',fr,⟨rfl,rfl⟩,hc,h1',l1,l2,l3,fn,l4,l5⟩:=Go.Proofs.Tryz.bld_used l.blk w hc0 cs;exact⟨⟨Y,fr,w',_,hc,(Env.le.refl Y).leN _,hr,Bel.refl _ _,⟨#[],rfl,rfl⟩,l1,l2,l3,h1',fn,by rw[<-h1']; exact l4,l5⟩,by simp⟩
theorem aaI:esz P 5=1:=by kernel_rfl
theorem J7:∀ l:List UInt8,bT (bc l)=true
 |[]=>rfl
 |x::l=>by
  have:=J7 l;unfold bc at this ⊢;simp only[List.map_cons,bT,flat,this,Bool.and_self]
theorem Tu{w:World}{g o n:Nat}:(w.drew.freeze ⟨g,o,none⟩ n).os=w.os/\(w.drew.freeze ⟨g,o,none⟩ n).tape=w.tape/\(w.drew.freeze ⟨g,o,none⟩ n).output=w.output/\(w.drew.freeze ⟨g,o,none⟩ n).heap.size=w.heap.size/\∀ k,k≠g->(w.drew.freeze ⟨g,o,none⟩ n).heap[k]? = w.heap[k]?:=by
 unfold World.freeze;split
 ·exact⟨rfl,rfl,rfl,rfl,fun _ _=>rfl⟩
 ·refine⟨rfl,rfl,rfl,by simp only[Array.size_modify]; rfl,fun k hk=>?_⟩;simp only[Array.getElem?_modify];rw[if_neg (fun e=>hk e.symm)]
  rfl
theorem adh{p:Value}{l:List UInt8}(h0:l≠[])(h63:l.length<=9223372036854775807):CRX P 1 26 [dP] [.cells [p, .slice (some ⟨1,0,none⟩) l.length unk] 61 true, .cells (bc l) 5 false] (.string ⟨l.toArray⟩) [.cells [p, .slice (some ⟨1,0,none⟩) l.length unk] 61 true, .dead]:=by
 intro K Y w args' cs hid ha hr;obtain⟨l0,hl,rfl⟩:=Fj ha;obtain⟨hv,hb,hK,y0,y1,f,hh,hy0,hy1,hf⟩:=BM hr hl;rw[hb];have hl0:l.length≠0:=by simpa using h0
 simp only[VR]at hy1;obtain⟨_,l1,hl1,hs⟩:=hy1;obtain⟨l1',a1,a2,a3⟩:=hr.blk 1 (.cells (bc l) 5 false) (by rw[dS]; rfl) rfl;obtain rfl:l1'=l1:=by
  have hl1:Y ((1:Nat):Int)=some l1:=hl1;rw[a1]at hl1; exact Option.some.inj hl1
 rcases a3 with⟨q1,q2,q3⟩ | ⟨q0,cc,f1,q1,q2,q3,q4,q5,q6,q7⟩
 ·cases l with
  |nil=>exact absurd rfl h0
  |cons _ _=>cases q2
 have hlen:(bc l).length=l.length:=by unfold bc; rw[List.length_map]
 rw[hlen]at q4 q6;have q6:=rY (J7 l) q6;unfold bP at hs;rw[if_neg (by rw[q0]; decide),if_neg (by decide),if_pos rfl]at hs;obtain⟨rfl,_⟩:=hs;rw[q2,aaI,Nat.div_one,Nat.sub_zero]at hh;have hc1:w.cell? ⟨l0.blk,1,none⟩=some (.slice (some ⟨l1'.blk,l1'.base+0,none⟩) l.length l1'.total):=by unfold World.cell?; simp only[hh]; rfl
 have hcell:∀ j x,l[j]? = some x->w.cell? ((⟨l1'.blk,l1'.base+0,none⟩:Addr).add j)=some (.int .u8 x.toNat):=fun j x hj=>by
  have hlt:j<l.length:=(List.getElem?_eq_some_iff.1 hj).1;have e:((cc.toList.drop l1'.base).take l.length)[j]? = some (.int .u8 x.toNat):=by
   rw[q6]; unfold bc; rw[List.getElem?_map,hj]; rfl
  rw[List.getElem?_take_of_lt hlt,List.getElem?_drop]at e;have e2:(⟨l1'.blk,l1'.base+0,none⟩:Addr).add j=⟨l1'.blk,l1'.base+j,none⟩:=by
   unfold Addr.add;by_cases hj0:j=0
   ·subst hj0; simp
   ·simp[hj0]
  rw[e2];unfold World.cell?;simp only[q1];simpa using e
 obtain⟨e1,w',fr,⟨rfl,rfl⟩,hc,h1',k1,k2,k3,fn,k4,k5⟩:=Go.Proofs.Tryz.bld_at l0.blk l1'.blk (l1'.base+0) l1'.total l w h0 q4 h63 hc1 cc.size (by unfold World.shape?; simp only[q1]) (by omega) hcell cs;obtain⟨z1,z2,z3,z4,z5⟩:=Tu (w:=w) (g:=l1'.blk) (o:=l1'.base+0) (n:=l.length);generalize w.drew.freeze ⟨l1'.blk,l1'.base+0,none⟩ l.length=W at *;have hupd:=hr.update (i:=1) (b':= .dead) (w':=W) (by rw[dS]; rfl) rfl rfl rfl a1 z4 (fun k hk=>z5 k (hk.resolve_left (by simp[q0]))) trivial;have hfin:Rel P K Y (mkSt [.cells [p, .slice (some ⟨1,0,none⟩) l.length unk] 61 true, .dead]) W:=by
  refine zA (st:={ (mkSt [.cells [p, .slice (some ⟨1,0,none⟩) l.length unk] 61 true, .cells (bc l) 5 false])with heap:=(mkSt [.cells [p, .slice (some ⟨1,0,none⟩) l.length unk] 61 true, .cells (bc l) 5 false]).heap.set 1 .dead }) (fun j=>?_) rfl hupd;show(mkSt [.cells [p, .slice (some ⟨1,0,none⟩) l.length unk] 61 true, .dead]).heap.get j=((mkSt [.cells [p, .slice (some ⟨1,0,none⟩) l.length unk] 61 true, .cells (bc l) 5 false]).heap.set 1 .dead).get j;rw[dS,Trie.get_set,dS]
  match j with
  |0=>rfl
  |1=>rfl
  |_+2=>rfl
 have hbel:Bel K w W:=⟨z1,z2,z3,by rw[z4]; exact Nat.le_refl _,fun k hk=>z5 k (fun e=>a2 q0 (e▸hk))⟩
 exact⟨⟨Y,fr,W,_,hc,(Env.le.refl Y).leN _,hfin,hbel,rfl,k1,k2,k3,h1',fn,by rw[<-h1']; exact k4,k5⟩,by simp⟩
end Go.VS.Tryz
end

noncomputable section
namespace Go.VS.Tryz
open Go.VS
set_option maxRecDepth 1000000
def RwV(C:ByteArray->Bool)(W:ByteArray->ByteArray):fG
 |[.string s]=>some (.ite (C s) (.leaf (.string (W s),[])) .fail)
 |_=>none
def wdS(s:ByteArray):ByteArray:=⟨⟨kR s.data.toList⟩⟩
def wdC(s:ByteArray):Bool:=Nat.ble (3*s.size) 4194304
theorem abd:CallOkR P 48 (RwV wdC wdS):=⟨fun args t hR v bs hev=>by
 unfold RwV at hR;split at hR
 ·rename_i s;exact QV.run [.string s] t (by rw[<-hR]; rfl) v bs hev
 ·cases hR⟩
def ad8(O:Bool->ByteArray->ByteArray->Bool)(C:ByteArray->Bool)(W:ByteArray->ByteArray):Ct:=bH P 48 (RwV C W) (bH P 44 (mJ O) jR)
theorem Zg(O:Bool->ByteArray->ByteArray->Bool)(C:ByteArray->Bool)(W:ByteArray->ByteArray)(p:Bool)(k v:ByteArray):iU P E (ad8 O C W) 50 49 [.agg ⟨[.bool p, .string k, .string v]⟩] =
 (ag (O p k v)
 (ag (dN p)
 (ae (C k)
 (ae (bI ⟨#[100,101,108,32]⟩ (W k))
 (some ((.tuple ⟨[.string (aj ⟨#[100,101,108,32]⟩ (W k)),.int .i64 0]⟩),(mkSt [])))))
 (ae (C k)
 (ae (bI ⟨#[112,117,116,32]⟩ (W k))
 (ae (bI (aj ⟨#[112,117,116,32]⟩ (W k)) ⟨#[32]⟩)
 (ae (C v)
 (ae (bI (aj (aj ⟨#[112,117,116,32]⟩ (W k)) ⟨#[32]⟩) (W v))
 (ae (dn (.string v) (.string v))
 (some ((.tuple ⟨[.string (aj (aj (aj ⟨#[112,117,116,32]⟩ (W k)) ⟨#[32]⟩) (W v)),.int .i64 0]⟩),(mkSt []))))))))))
 (some ((.tuple ⟨[.string ⟨#[]⟩,.int .i64 2]⟩),(mkSt [])))):=by kernel_rfl
theorem l9{p:Bool}{k v:ByteArray}(h:bQ p k v=true):1<=k.size/\k.size<=16/\v.size<=32/\(p=true\/v.data.toList=[]):=by
 unfold bQ at h;simp only[Bool.and_eq_true,decide_eq_true_eq,Bool.or_eq_true,beq_iff_eq]at h;exact⟨h.1.1.1,h.1.1.2,h.1.2,h.2⟩
def oD(s:ByteArray):List UInt8:=kR s.data.toList
def yF(p:Bool)(k v:ByteArray):List UInt8:=bif p then [112,117,116]++32::(oD k++32::oD v)else [100,101,108]++32::oD k
def pg(p:Bool)(k v:ByteArray):ByteArray:=⟨⟨yF p k v⟩⟩
theorem Jv(a b:List UInt8):aj ⟨⟨a⟩⟩ ⟨⟨b⟩⟩=⟨⟨a++b⟩⟩:=by
 unfold aj;apply ByteArray.ext;rw[ByteArray.data_append];simp
theorem LH:∀ l:List UInt8,(fD l).length<=3*l.length
 |[]=>Nat.le_refl _
 |b::l=>by
  have:=LH l;have:=zt b;rw[mV,List.length_append,List.length_cons]; omega
theorem qJ(s:ByteArray):(oD s).length<=3*s.size+2:=by
 show(kR s.data.toList).length<=_;rw[size_eq s];cases s.data.toList with
 |nil=>show([34,34]:List UInt8).length<=_; simp
 |cons x l=>have:=LH (x::l); show(fD (x::l)).length<=_; omega
def xC(O:Bool->ByteArray->ByteArray->Bool)(T:Bool->ByteArray->ByteArray->ByteArray):fG
 |[.agg ⟨[.bool p, .string k, .string v]⟩]=>some (.ite (O p k v) (.leaf (.tuple ⟨[.string (T p k v), .int .i64 0]⟩,[])) (.leaf (.tuple ⟨[.string ⟨#[]⟩, .int .i64 2]⟩,[])))
 |_=>none
def ctT:Ct:=ad8 bQ wdC wdS
theorem afi:CtOk P ctT:=aU (aU (je P) yX) abd
theorem Zl(p:Bool)(k v:ByteArray):iU P E ctT 50 49 [.agg ⟨[.bool p, .string k, .string v]⟩]=some (match bQ p k v with | true=> .tuple ⟨[.string (pg p k v), .int .i64 0]⟩ | false=> .tuple ⟨[.string ⟨#[]⟩, .int .i64 2]⟩,mkSt []):=by
 unfold ctT;rw[Zg];cases ho:bQ p k v with
 |false=>exact dD rfl rfl
 |true=>
  refine dY rfl ?_;obtain⟨h1,h2,h3,h4⟩:=l9 ho;have wk:=qJ k;have wv:=qJ v;have ek:wdS k=⟨⟨oD k⟩⟩:=rfl;have ev:wdS v=⟨⟨oD v⟩⟩:=rfl;have ck:wdC k=true:=bM (by omega);have cv:wdC v=true:=bM (by omega);have fit:∀ a b:List UInt8,a.length+b.length<=1000->bI ⟨⟨a⟩⟩ ⟨⟨b⟩⟩=true:=fun a b h=>bM (by show a.length+b.length<=_; omega);rw[ek,ev];simp only[Jv,show(ByteArray.mk #[112,117,116,32])=⟨⟨[112,117,116,32]⟩⟩ from rfl,show(ByteArray.mk #[100,101,108,32])=⟨⟨[100,101,108,32]⟩⟩ from rfl,show(ByteArray.mk #[32])=⟨⟨[32]⟩⟩ from rfl,ck,cv];cases p<;>simp only[az,ax,WS,XK,Y8]
  ·simp (disch:=first | rfl | (refine fit _ _ ?_; simp only[List.length_append,List.length_cons,List.length_nil]<;>omega) | (refine bM ?_; omega)) only[wC]
   rfl
  ·simp (disch:=first | rfl | (refine fit _ _ ?_; simp only[List.length_append,List.length_cons,List.length_nil]<;>omega) | (refine bM ?_; omega)) only[wC];refine gz ?_ rfl;simp[pg,yF]
theorem ab_:CallOkR P 49 (xC bQ pg):=by
 refine mY afi (n:=50) fun args t hR v bs hev=>?_;unfold xC at hR;split at hR
 ·rename_i p k w;obtain rfl:=Option.some.inj hR;rw[Zl];cases ho:bQ p k w with
  |true=>
   rw[ho]at hev;simp only[DT.eval,Option.some.injEq,Prod.mk.injEq]at hev;obtain⟨rfl,rfl⟩:=hev; rfl
  |false=>
   rw[ho]at hev;simp only[DT.eval,Option.some.injEq,Prod.mk.injEq]at hev;obtain⟨rfl,rfl⟩:=hev; rfl
 ·cases hR
def aft(O:Bool->ByteArray->ByteArray->Bool)(T:Bool->ByteArray->ByteArray->ByteArray):Ct:=bH P 49 (xC O T) ctF
def Htx:Head:=⟨9,76,[4,19,59,60,61],[]⟩
theorem Oq:okL Htx=true:=by kernel_rfl
def Btx:Code:=(bK P 24 3).getD .skip
theorem Yo:bK P 24 3=some Btx:=by kernel_rfl
theorem Rk:Occ P 24 (.block 3 (.loop Btx)):=dA Yo
def txB(a:List Value):List Blk:=[.cells a 24 true, .dead, .dead, .dead, .dead, .cells [.string ⟨#[99,111,109,109,105,116]⟩, .string ⟨#[110,111]⟩] 52 true, .dead, .map aC 12, .siter ⟨#[110,111]⟩ 2]
theorem XE(O:Bool->ByteArray->ByteArray->Bool)(T:Bool->ByteArray->ByteArray->ByteArray)(s:ByteArray)(n b:Nat)(c:List Value)(ln i:Int)(k nd nn t:Int)(key:ByteArray):gJ P E (aft O T) 50 24 Btx Htx [.string s, .pointer (some ⟨8,0,none⟩),ai 3 n b c, .int .i64 ln, .int .i64 i] (txB [.int .i64 k, .int .i64 nd, .int .i64 nn, .int .i64 t, .string key,ai 3 n b c]) =
 (ag (ltI i ln)
 (ae (Bool.and (Nat.beq 3 3) (inI i n))
 (ae (Bool.and (Nat.ble (Nat.add (atN i 3) 3) c.length) (jP [.bool,.string,.string] c (atN i 3)))
 (ag (O (asB (ah c (atN i 3))) (asS (ah c (Nat.add (atN i 3) 1))) (asS (ah c (Nat.add (Nat.add (atN i 3) 1) 1))))
 (ae (bI ⟨#[32]⟩ (T (asB (ah c (atN i 3))) (asS (ah c (Nat.add (atN i 3) 1))) (asS (ah c (Nat.add (Nat.add (atN i 3) 1) 1)))))
 (ae (bI s (aj ⟨#[32]⟩ (T (asB (ah c (atN i 3))) (asS (ah c (Nat.add (atN i 3) 1))) (asS (ah c (Nat.add (Nat.add (atN i 3) 1) 1))))))
 (some ((.tuple ⟨[.int .i64 0,.string (aj s (aj ⟨#[32]⟩ (T (asB (ah c (atN i 3))) (asS (ah c (Nat.add (atN i 3) 1))) (asS (ah c (Nat.add (Nat.add (atN i 3) 1) 1)))))),.pointer (Option.some (Addr.mk 8 0 none)),.iface 18446744073709551619 (.agg ⟨(.slice none n b)::c⟩),.int .i64 ln,.int .i64 (aB .i64 i 1)]⟩),(mkSt [Blk.cells [.int .i64 k,.int .i64 nd,.int .i64 nn,.int .i64 t,.string key,.iface 18446744073709551619 (.agg ⟨(.slice none n b)::c⟩)] 24 true,Blk.dead,Blk.dead,Blk.dead,Blk.dead,Blk.cells [.string ⟨#[99,111,109,109,105,116]⟩,.string ⟨#[110,111]⟩] 52 true,Blk.dead,Blk.map aC 12,Blk.siter ⟨#[110,111]⟩ 2])))))
 (ae (bI s ⟨#[32]⟩)
 (some ((.tuple ⟨[.int .i64 0,.string (aj s ⟨#[32]⟩),.pointer (Option.some (Addr.mk 8 0 none)),.iface 18446744073709551619 (.agg ⟨(.slice none n b)::c⟩),.int .i64 ln,.int .i64 (aB .i64 i 1)]⟩),(mkSt [Blk.cells [.int .i64 k,.int .i64 nd,.int .i64 nn,.int .i64 t,.string key,.iface 18446744073709551619 (.agg ⟨(.slice none n b)::c⟩)] 24 true,Blk.dead,Blk.dead,Blk.dead,Blk.dead,Blk.cells [.string ⟨#[99,111,109,109,105,116]⟩,.string ⟨#[110,111]⟩] 52 true,Blk.dead,Blk.map aC 12,Blk.siter ⟨#[110,111]⟩ 2])))))))
 (some ((.tuple ⟨[.int .i64 4,.string s,.pointer (Option.some (Addr.mk 8 0 none)),.iface 18446744073709551619 (.agg ⟨(.slice none n b)::c⟩),.int .i64 ln,.int .i64 i]⟩),(mkSt [Blk.cells [.int .i64 k,.int .i64 nd,.int .i64 nn,.int .i64 t,.string key,.iface 18446744073709551619 (.agg ⟨(.slice none n b)::c⟩)] 24 true,Blk.dead,Blk.dead,Blk.dead,Blk.dead,Blk.cells [.string ⟨#[99,111,109,109,105,116]⟩,.string ⟨#[110,111]⟩] 52 true,Blk.dead,Blk.map aC 12,Blk.siter ⟨#[110,111]⟩ 2])))):=by kernel_rfl
theorem zl{p:Bool}{k v:ByteArray}(h:bQ p k v=true):(pg p k v).size<=200:=by
 obtain⟨h1,h2,h3,h4⟩:=l9 h;have wk:=qJ k;have wv:=qJ v;show(yF p k v).length<=200;unfold yF;cases p<;>simp only[cond_true,cond_false,List.length_append,List.length_cons,List.length_nil]<;>omega
theorem a_(a b:ByteArray):(aj a b).size=a.size+b.size:=ByteArray.size_append
def opS(o:OpM):ByteArray:=match jo o with
 |true=>aj ⟨#[32]⟩ (pg o.p o.k o.v)
 |false=>⟨#[32]⟩
theorem FP(o:OpM):(opS o).size<=201:=by
 unfold opS;cases h:jo o with
 |true=>
  have:=zl (p:=o.p) (k:=o.k) (v:=o.v) h;show(aj _ _).size<=201;rw[a_];have:(ByteArray.mk #[32]).size=1:=rfl;omega
 |false=>show(1:Nat)<=201; decide
def txV(s:ByteArray)(l:List OpM)(i:Int):List Value:=[.string s, .pointer (some ⟨8,0,none⟩),aK l, .int .i64 (af l.length), .int .i64 i]
def qK(k nd n t:Int)(key:ByteArray)(l:List OpM):List Value:=[.int .i64 k, .int .i64 nd, .int .i64 n, .int .i64 t, .string key,aK l]
def ctX:Ct:=aft bQ pg
theorem X4:CtOk P ctX:=aU aW ab_
theorem aa0{l:List OpM}{i:Nat}{s:ByteArray}{k nd nn t:Int}{key:ByteArray}(hi:i<l.length)(hl:l.length<4194304)(hs:s.size<=1000000000000):gJ P E ctX 50 24 Btx Htx (txV s l i) (txB (qK k nd nn t key l))=some (.tuple ⟨exV .normal::txV (aj s (opS l[i])) l ((i+1:Nat):Int)⟩,mkSt (txB (qK k nd nn t key l))):=by
 unfold qK txV aK ctX;rw[XE];have n3:∀ l:List OpM,(EOp.all l).length=Nat.mul l.length 3:=fun l=>EOp.all_length l;have g1:ltI (i:Int) (af l.length)=true:=by unfold ltI af; exact decide_eq_true (by omega)
 have g2:inI (i:Int) l.length=true:=by unfold inI; exact decide_eq_true (by omega)
 have g3:Nat.ble (Nat.add (atN (i:Int) 3) 3) (Nat.mul l.length 3)=true:=Nat.ble_eq_true_of_le (by
  show(i:Int).toNat*3+3<=l.length*3;have:(i:Int).toNat=i:=by omega
  omega)
 have g4:=qU hi;have a1:aB .i64 (i:Int) 1=((i+1:Nat):Int):=by unfold aB; rw[wrap64 (by omega) (by omega)]; omega
 have ab:∀ b,asB (.bool b)=b:=fun _=>rfl;have aS:∀ b,asS (.string b)=b:=fun _=>rfl;have b3:∀ n,Nat.beq n n=true:=Nat.beq_refl;simp only[n3,g1,g2,g3,g4,zi hi,yI hi,zy hi,ab,aS,a1,b3,Bool.and_self,az,aA];unfold ai opS jo;rw[ja];have s1:(ByteArray.mk #[32]).size=1:=rfl;cases ho:bQ l[i].p l[i].k l[i].v with
 |true=>
  have ht:=zl ho;simp only[az];refine aT (bM (by rw[Nat.add_eq,s1]; omega)) ?_;refine aT (bM (by rw[Nat.add_eq,a_,s1]; omega)) ?_
  rfl
 |false=>
  simp only[ax];refine aT (bM (by rw[Nat.add_eq,s1]; omega)) ?_
  rfl
theorem ae5{l:List OpM}{s:ByteArray}{k nd nn t:Int}{key:ByteArray}:gJ P E ctX 50 24 Btx Htx (txV s l l.length) (txB (qK k nd nn t key l))=some (.tuple ⟨exV (.exit 3)::txV s l l.length⟩,mkSt (txB (qK k nd nn t key l))):=by
 unfold qK txV aK ctX;rw[XE];have g1:ltI (l.length:Int) (af l.length)=false:=by unfold ltI af; exact decide_eq_false (by omega)
 simp only[g1,ax];unfold ai;rw[ja]
 rfl
def nC:ByteArray->List OpM->ByteArray
 |s,[]=>s
 |s,o::l=>nC (aj s (opS o)) l
theorem Be:∀ (l:List OpM) (s:ByteArray),(nC s l).size<=s.size+201*l.length
 |[],s=>Nat.le_refl _
 |o::l,s=>by
  have:=Be l (aj s (opS o));rw[a_]at this;have:=FP o;show(nC (aj s (opS o)) l).size<=_;rw[List.length_cons]; omega
theorem QG(kd nd nn t:Int)(key:ByteArray)(l:List OpM)(hl:l.length<4194304):∀ (k i:Nat) (s:ByteArray),i+k=l.length->s.size<=1000+201*i->
  LR P 24 3 Btx Htx (txV s l i) (txB (qK kd nd nn t key l)) .normal (txV (nC s (l.drop i)) l l.length) (txB (qK kd nd nn t key l))
 |0,i,s,h,hs=>by
  obtain rfl:i=l.length:=by omega
  rw[List.drop_length];exact LR.stop (n:=50) (aF ctX) au X4 Rk Oq (e:= .exit 3) ae5 (by intro h; cases h)
 |k+1,i,s,h,hs=>by
  have hi:i<l.length:=by omega
  have q:=aa0 (s:=s) (k:=kd) (nd:=nd) (nn:=nn) (t:=t) (key:=key) hi hl (by omega);rw[List.drop_eq_getElem_cons hi];simp only[nC];have:=FP l[i];exact LR.again (n:=50) (aF ctX) au X4 Rk Oq q (QG kd nd nn t key l hl k (i+1) _ (by omega) (by rw[a_]; omega))
structure TxS where
 s:ByteArray
 k:Int
 nd:Int
 n:Int
 t:Int
 key:ByteArray
 l:List OpM
def kTx:Con TxS where
 enc x:=(txV x.s x.l 0,txB (qK x.k x.nd x.n x.t x.key x.l))
 ok x:=x.s.size<=1000/\x.l.length<4194304
 inj a b h:=by
  obtain⟨a1,a2,a3,a4,a5,a6,a7⟩:=a;obtain⟨b1,b2,b3,b4,b5,b6,b7⟩:=b;unfold txV aK txB qK at h;simp only[Prod.mk.injEq,List.cons.injEq,Value.string.injEq,Blk.cells.injEq,Value.int.injEq,true_and,and_true]at h;obtain⟨⟨rfl,h2,_⟩,rfl,rfl,rfl,rfl,rfl,_⟩:=h;have:=EOp.all_inj _ _ (ry h2);rw[this]
 dflt:=⟨default,0,0,0,0,default,[]⟩
def ab1(x:TxS):DT (Ex×List Value×List Blk):= .leaf (.normal,txV (nC x.s x.l) x.l x.l.length,txB (qK x.k x.nd x.n x.t x.key x.l))
theorem XF{x:TxS}(ho:kTx.ok x):LoopOk P 24 3 Btx Htx (iD (kTx.at x) (ab1 x)):=
 Mc kTx (bz Yo) Oq fun e vs' bs' hev=>by
  unfold ab1 at hev;simp only[DT.eval,Option.some.injEq,Prod.mk.injEq]at hev;obtain⟨rfl,rfl,rfl⟩:=hev;exact QG _ _ _ _ _ x.l ho.2 x.l.length 0 x.s (by omega) (by have:=ho.1; omega)
def adO(R:Int->Bool)(F:Int->ByteArray)(C:ByteArray->Bool)(W:ByteArray->ByteArray)(LC:List Value->List Blk->Bool)(s2:ByteArray)(n b:Nat)(c:List Value)(k nd nn t:Int)(key:ByteArray):Ct:=
 o9 24 3 Htx (iD LC (.leaf (.normal,[.string s2, .pointer (some ⟨8,0,none⟩),ai 3 n b c, .int .i64 (af n), .int .i64 (af n)],txB [.int .i64 k, .int .i64 nd, .int .i64 nn, .int .i64 t, .string key,ai 3 n b c]))) (bH P 47 (nI R F) (bH P 48 (RwV C W) ctF))
theorem aaP(R:Int->Bool)(F:Int->ByteArray)(C:ByteArray->Bool)(W:ByteArray->ByteArray)(LC:List Value->List Blk->Bool)(s2:ByteArray)(n b:Nat)(c:List Value)(k nd nn t:Int)(key:ByteArray):bn P E (adO R F C W LC s2 n b c k nd nn t key) 50 aJ [] [] 0 24 [.agg ⟨[.int .i64 k, .int .i64 nd, .int .i64 nn, .int .i64 t, .string key,ai 3 n b c]⟩] [] =
 (ag (eqI k 1)
 (ae (dn (.int .i64 k) (.int .i64 k))
 (ae (R nd)
 (ae (bI ⟨#[32]⟩ (F nd))
 (ae (bI ⟨#[99,111,109,109,105,116]⟩ (aj ⟨#[32]⟩ (F nd)))
 (ae (LC [.string (aj ⟨#[99,111,109,109,105,116]⟩ (aj ⟨#[32]⟩ (F nd))),.pointer (Option.some (Addr.mk 8 0 none)),.iface 18446744073709551619 (.agg ⟨(.slice none n b)::c⟩),.int .i64 (af n),.int .i64 0] [Blk.cells [.int .i64 k,.int .i64 nd,.int .i64 nn,.int .i64 t,.string key,.iface 18446744073709551619 (.agg ⟨(.slice none n b)::c⟩)] 24 true,Blk.dead,Blk.dead,Blk.dead,Blk.dead,Blk.cells [.string ⟨#[99,111,109,109,105,116]⟩,.string ⟨#[110,111]⟩] 52 true,Blk.dead,Blk.map aC 12,Blk.siter ⟨#[110,111]⟩ 2])
 (some ((.string s2),(mkSt []))))))))
 (ag (eqI k 2)
 (ae (dn (.int .i64 k) (.int .i64 k))
 (ae (R nd)
 (ae (bI ⟨#[32]⟩ (F nd))
 (ae (bI ⟨#[114,101,97,100]⟩ (aj ⟨#[32]⟩ (F nd)))
 (ae (C key)
 (ae (bI ⟨#[32]⟩ (W key))
 (ae (bI (aj ⟨#[114,101,97,100]⟩ (aj ⟨#[32]⟩ (F nd))) (aj ⟨#[32]⟩ (W key)))
 (some ((.string (aj (aj ⟨#[114,101,97,100]⟩ (aj ⟨#[32]⟩ (F nd))) (aj ⟨#[32]⟩ (W key)))),(mkSt []))))))))))
 (ag (eqI k 3)
 (ae (dn (.int .i64 k) (.int .i64 k))
 (ae (R nd)
 (ae (bI ⟨#[32]⟩ (F nd))
 (ae (bI ⟨#[116,105,99,107]⟩ (aj ⟨#[32]⟩ (F nd)))
 (some ((.string (aj ⟨#[116,105,99,107]⟩ (aj ⟨#[32]⟩ (F nd)))),(mkSt [])))))))
 (ag (eqI k 4)
 (ae (dn (.int .i64 k) (.int .i64 k))
 (ae (R nd)
 (ae (bI ⟨#[32]⟩ (F nd))
 (ae (bI ⟨#[112,114,111,109,111,116,101]⟩ (aj ⟨#[32]⟩ (F nd)))
 (some ((.string (aj ⟨#[112,114,111,109,111,116,101]⟩ (aj ⟨#[32]⟩ (F nd)))),(mkSt [])))))))
 (ag (eqI k 5)
 (ae (dn (.int .i64 k) (.int .i64 k))
 (ae (R nd)
 (ae (bI ⟨#[32]⟩ (F nd))
 (ae (bI ⟨#[102,108,117,115,104]⟩ (aj ⟨#[32]⟩ (F nd)))
 (some ((.string (aj ⟨#[102,108,117,115,104]⟩ (aj ⟨#[32]⟩ (F nd)))),(mkSt [])))))))
 (ag (eqI k 6)
 (ae (dn (.int .i64 k) (.int .i64 k))
 (ae (R nn)
 (ae (bI ⟨#[32]⟩ (F nn))
 (ae (bI ⟨#[100,101,108,105,118,101,114]⟩ (aj ⟨#[32]⟩ (F nn)))
 (some ((.string (aj ⟨#[100,101,108,105,118,101,114]⟩ (aj ⟨#[32]⟩ (F nn)))),(mkSt [])))))))
 (ag (eqI k 7)
 (ae (dn (.int .i64 k) (.int .i64 k))
 (ae (R nn)
 (ae (bI ⟨#[32]⟩ (F nn))
 (ae (bI ⟨#[116,119,105,99,101]⟩ (aj ⟨#[32]⟩ (F nn)))
 (some ((.string (aj ⟨#[116,119,105,99,101]⟩ (aj ⟨#[32]⟩ (F nn)))),(mkSt [])))))))
 (ag (eqI k 8)
 (ae (dn (.int .i64 k) (.int .i64 k))
 (ae (R nn)
 (ae (bI ⟨#[32]⟩ (F nn))
 (ae (bI ⟨#[100,114,111,112]⟩ (aj ⟨#[32]⟩ (F nn)))
 (some ((.string (aj ⟨#[100,114,111,112]⟩ (aj ⟨#[32]⟩ (F nn)))),(mkSt [])))))))
 (ag (eqI k 9)
 (ae (dn (.int .i64 k) (.int .i64 k))
 (ae (R nd)
 (ae (bI ⟨#[32]⟩ (F nd))
 (ae (bI ⟨#[102,117,115,101]⟩ (aj ⟨#[32]⟩ (F nd)))
 (ae (R nn)
 (ae (bI ⟨#[32]⟩ (F nn))
 (ae (bI (aj ⟨#[102,117,115,101]⟩ (aj ⟨#[32]⟩ (F nd))) (aj ⟨#[32]⟩ (F nn)))
 (some ((.string (aj (aj ⟨#[102,117,115,101]⟩ (aj ⟨#[32]⟩ (F nd))) (aj ⟨#[32]⟩ (F nn)))),(mkSt []))))))))))
 (ag (eqI k 10)
 (ae (dn (.int .i64 k) (.int .i64 k))
 (ae (R nd)
 (ae (bI ⟨#[32]⟩ (F nd))
 (ae (bI ⟨#[112,117,108,108]⟩ (aj ⟨#[32]⟩ (F nd)))
 (some ((.string (aj ⟨#[112,117,108,108]⟩ (aj ⟨#[32]⟩ (F nd)))),(mkSt [])))))))
 (ag (eqI k 11)
 (ae (dn (.int .i64 k) (.int .i64 k))
 (ae (R nd)
 (ae (bI ⟨#[32]⟩ (F nd))
 (ae (bI ⟨#[115,116,97,114,116]⟩ (aj ⟨#[32]⟩ (F nd)))
 (ae (R nn)
 (ae (bI ⟨#[32]⟩ (F nn))
 (ae (bI (aj ⟨#[115,116,97,114,116]⟩ (aj ⟨#[32]⟩ (F nd))) (aj ⟨#[32]⟩ (F nn)))
 (ae (R t)
 (ae (bI ⟨#[32]⟩ (F t))
 (ae (bI (aj (aj ⟨#[115,116,97,114,116]⟩ (aj ⟨#[32]⟩ (F nd))) (aj ⟨#[32]⟩ (F nn))) (aj ⟨#[32]⟩ (F t)))
 (some ((.string (aj (aj (aj ⟨#[115,116,97,114,116]⟩ (aj ⟨#[32]⟩ (F nd))) (aj ⟨#[32]⟩ (F nn))) (aj ⟨#[32]⟩ (F t)))),(mkSt [])))))))))))))
 (ag (eqI k 12)
 (ae (dn (.int .i64 k) (.int .i64 k))
 (some ((.string ⟨#[114,111,117,110,100]⟩),(mkSt []))))
 (ae (dn (.int .i64 k) (.int .i64 k))
 (some ((.string ⟨#[]⟩),(mkSt [])))))))))))))))):=by kernel_rfl
def nS(n:Int):ByteArray:=aj ⟨#[32]⟩ (bF n)
def aN(a:ActM):ByteArray:=
 bif eqI a.kind 1 then nC (aj ⟨#[99,111,109,109,105,116]⟩ (nS a.node)) a.ops else
 bif eqI a.kind 2 then aj (aj ⟨#[114,101,97,100]⟩ (nS a.node)) (aj ⟨#[32]⟩ (wdS a.key))else
 bif eqI a.kind 3 then aj ⟨#[116,105,99,107]⟩ (nS a.node)else
 bif eqI a.kind 4 then aj ⟨#[112,114,111,109,111,116,101]⟩ (nS a.node)else
 bif eqI a.kind 5 then aj ⟨#[102,108,117,115,104]⟩ (nS a.node)else
 bif eqI a.kind 6 then aj ⟨#[100,101,108,105,118,101,114]⟩ (nS a.n)else
 bif eqI a.kind 7 then aj ⟨#[116,119,105,99,101]⟩ (nS a.n)else
 bif eqI a.kind 8 then aj ⟨#[100,114,111,112]⟩ (nS a.n)else
 bif eqI a.kind 9 then aj (aj ⟨#[102,117,115,101]⟩ (nS a.node)) (nS a.n)else
 bif eqI a.kind 10 then aj ⟨#[112,117,108,108]⟩ (nS a.node)else
 bif eqI a.kind 11 then aj (aj (aj ⟨#[115,116,97,114,116]⟩ (nS a.node)) (nS a.n)) (nS a.t)else
 bif eqI a.kind 12 then⟨#[114,111,117,110,100]⟩else
 ⟨#[]⟩
theorem lz1:(ByteArray.mk #[99,111,109,109,105,116]).size=6:=rfl
theorem lz2:(ByteArray.mk #[114,101,97,100]).size=4:=rfl
theorem lz3:(ByteArray.mk #[116,105,99,107]).size=4:=rfl
theorem lz4:(ByteArray.mk #[112,114,111,109,111,116,101]).size=7:=rfl
theorem lz5:(ByteArray.mk #[102,108,117,115,104]).size=5:=rfl
theorem lz6:(ByteArray.mk #[100,101,108,105,118,101,114]).size=7:=rfl
theorem lz7:(ByteArray.mk #[116,119,105,99,101]).size=5:=rfl
theorem lz8:(ByteArray.mk #[100,114,111,112]).size=4:=rfl
theorem lz9:(ByteArray.mk #[102,117,115,101]).size=4:=rfl
theorem su:(ByteArray.mk #[112,117,108,108]).size=4:=rfl
theorem qF:(ByteArray.mk #[115,116,97,114,116]).size=5:=rfl
theorem sN:(ByteArray.mk #[114,111,117,110,100]).size=5:=rfl
theorem lz0:(ByteArray.mk #[32]).size=1:=rfl
theorem fJ{n:Int}(h:inR n=true):(bF n).size<=21:=by
 unfold inR leI at h;simp only[Bool.and_eq_true,decide_eq_true_eq]at h;exact Lib.itoa_length_le n h.1 h.2
theorem vW(s:ByteArray):(wdS s).size<=3*s.size+2:=qJ s
def EM(a:ActM):Prop:=inR a.node=true/\inR a.n=true/\inR a.t=true/\(eqI a.kind 2=true->a.key.size<=1000000)/\a.ops.length<4194304
def txX(a:ActM):TxS:=⟨aj ⟨#[99,111,109,109,105,116]⟩ (nS a.node),a.kind,a.node,a.n,a.t,a.key,a.ops⟩
def ctY(a:ActM):Ct:=adO inR bF wdC wdS (kTx.at (txX a)) (nC (txX a).s a.ops) a.ops.length 0 (EOp.all a.ops) a.kind a.node a.n a.t a.key
theorem X5{a:ActM}(h:EM a):kTx.ok (txX a):=by
 obtain⟨r1,r2,r3,hk,hl⟩:=h;have:=fJ r1;refine⟨?_,hl⟩;show(aj _ (aj _ _)).size<=1000;rw[a_,a_,lz1,lz0]; omega
theorem adH{a:ActM}(h:EM a):CtOk P (ctY a):=
 pK (aU (aU aW abd) W_) (XF (X5 h))
theorem aaG{a:ActM}(h:EM a):bn P E (ctY a) 50 aJ [] [] 0 24 [g_ a] []=some (.string (aN a),mkSt []):=by
 have hx:=X5 h;obtain⟨r1,r2,r3,hk,hl⟩:=h;refine(aaP inR bF wdC wdS (kTx.at (txX a)) (nC (txX a).s a.ops) a.ops.length 0 (EOp.all a.ops) a.kind a.node a.n a.t a.key).trans ?_;have z1:=fJ r1;have z2:=fJ r2;have z3:=fJ r3;have z4:=vW a.key;have fit:∀ x y:ByteArray,x.size+y.size<=100000000->bI x y=true:=fun x y h=>bM (by rw[Nat.add_eq]; omega);unfold aN nS;cases h1:eqI a.kind 1 with
 |true=>
  simp only[az,cond_true,pU,aA,r1];refine aT (fit _ _ (by rw[lz0]; omega)) ?_;refine aT (fit _ _ (by rw[a_,lz1,lz0]; omega)) ?_;refine bu (k:=kTx) (s:=txX a) (by show txV _ _ _=_; unfold txV aK ai; rw[ja]; rfl) (by show txB _=_; unfold txB qK aK ai; rw[ja]; rfl) ?_
  rfl
 |false=>
 refine Eq.trans ax ?_;simp only[cond_false];cases h2:eqI a.kind 2 with
 |true=>
  have hk:=hk h2;have ck:wdC a.key=true:=bM (by omega);simp only[az,cond_true,pU,aA,r1,r2,r3,ck];repeat refine aT (fit _ _ (by simp only[a_,lz0,lz1,lz2,lz3,lz4,lz5,lz6,lz7,lz8,lz9,su,qF,sN]; omega)) ?_
  rfl
 |false=>
 refine Eq.trans ax ?_;simp only[cond_false];cases h3:eqI a.kind 3 with
 |true=>
  simp only[az,cond_true,pU,aA,r1,r2,r3];repeat refine aT (fit _ _ (by simp only[a_,lz0,lz1,lz2,lz3,lz4,lz5,lz6,lz7,lz8,lz9,su,qF,sN]; omega)) ?_
  rfl
 |false=>
 refine Eq.trans ax ?_;simp only[cond_false];cases h4:eqI a.kind 4 with
 |true=>
  simp only[az,cond_true,pU,aA,r1,r2,r3];repeat refine aT (fit _ _ (by simp only[a_,lz0,lz1,lz2,lz3,lz4,lz5,lz6,lz7,lz8,lz9,su,qF,sN]; omega)) ?_
  rfl
 |false=>
 refine Eq.trans ax ?_;simp only[cond_false];cases h5:eqI a.kind 5 with
 |true=>
  simp only[az,cond_true,pU,aA,r1,r2,r3];repeat refine aT (fit _ _ (by simp only[a_,lz0,lz1,lz2,lz3,lz4,lz5,lz6,lz7,lz8,lz9,su,qF,sN]; omega)) ?_
  rfl
 |false=>
 refine Eq.trans ax ?_;simp only[cond_false];cases h6:eqI a.kind 6 with
 |true=>
  simp only[az,cond_true,pU,aA,r1,r2,r3];repeat refine aT (fit _ _ (by simp only[a_,lz0,lz1,lz2,lz3,lz4,lz5,lz6,lz7,lz8,lz9,su,qF,sN]; omega)) ?_
  rfl
 |false=>
 refine Eq.trans ax ?_;simp only[cond_false];cases h7:eqI a.kind 7 with
 |true=>
  simp only[az,cond_true,pU,aA,r1,r2,r3];repeat refine aT (fit _ _ (by simp only[a_,lz0,lz1,lz2,lz3,lz4,lz5,lz6,lz7,lz8,lz9,su,qF,sN]; omega)) ?_
  rfl
 |false=>
 refine Eq.trans ax ?_;simp only[cond_false];cases h8:eqI a.kind 8 with
 |true=>
  simp only[az,cond_true,pU,aA,r1,r2,r3];repeat refine aT (fit _ _ (by simp only[a_,lz0,lz1,lz2,lz3,lz4,lz5,lz6,lz7,lz8,lz9,su,qF,sN]; omega)) ?_
  rfl
 |false=>
 refine Eq.trans ax ?_;simp only[cond_false];cases h9:eqI a.kind 9 with
 |true=>
  simp only[az,cond_true,pU,aA,r1,r2,r3];repeat refine aT (fit _ _ (by simp only[a_,lz0,lz1,lz2,lz3,lz4,lz5,lz6,lz7,lz8,lz9,su,qF,sN]; omega)) ?_
  rfl
 |false=>
 refine Eq.trans ax ?_;simp only[cond_false];cases h10:eqI a.kind 10 with
 |true=>
  simp only[az,cond_true,pU,aA,r1,r2,r3];repeat refine aT (fit _ _ (by simp only[a_,lz0,lz1,lz2,lz3,lz4,lz5,lz6,lz7,lz8,lz9,su,qF,sN]; omega)) ?_
  rfl
 |false=>
 refine Eq.trans ax ?_;simp only[cond_false];cases h11:eqI a.kind 11 with
 |true=>
  simp only[az,cond_true,pU,aA,r1,r2,r3];repeat refine aT (fit _ _ (by simp only[a_,lz0,lz1,lz2,lz3,lz4,lz5,lz6,lz7,lz8,lz9,su,qF,sN]; omega)) ?_
  rfl
 |false=>
 refine Eq.trans ax ?_;simp only[cond_false];cases h12:eqI a.kind 12 with
 |true=>
  simp only[az,cond_true,pU,aA,r1,r2,r3];repeat refine aT (fit _ _ (by simp only[a_,lz0,lz1,lz2,lz3,lz4,lz5,lz6,lz7,lz8,lz9,su,qF,sN]; omega)) ?_
  try rfl
 |false=>
 refine Eq.trans ax ?_;simp only[cond_false];rw[pU]; rfl
theorem jD{a b:List OpM}(h:aK a=aK b):a=b:=EOp.all_inj _ _ (ry h)
theorem yG{a b:ActM}(h:g_ a=g_ b):a=b:=by
 obtain⟨a1,a2,a3,a4,a5,a6⟩:=a;obtain⟨b1,b2,b3,b4,b5,b6⟩:=b;unfold g_ kF at h;simp only[Value.agg.injEq,Array.mk.injEq,List.cons.injEq,Value.int.injEq,Value.string.injEq,true_and,and_true]at h;obtain⟨rfl,rfl,rfl,rfl,rfl,h6⟩:=h;rw[jD h6]
def kAx:Con ActM where
 enc a:=([g_ a],[])
 ok a:=EM a
 inj a b h:=by
  simp only[Prod.mk.injEq,List.cons.injEq,and_true]at h;exact yG h
 dflt:=cZ
theorem RU:CallOkX P 0 24 (jS kAx.C kAx.D fun a=> .leaf (.string (aN a),[])):=f_ kAx fun a ho v bs' hev=>by
 simp only[DT.eval,Option.some.injEq,Prod.mk.injEq]at hev;obtain⟨rfl,rfl⟩:=hev;exact CRX.of (aF (ctY a)) au (adH ho) (aaG ho)
def uw(a b:OpM):Bool:=Bool.and (eqB a.p b.p) (Bool.and (eqS a.k b.k) (Bool.and (eqS a.v b.v) true))
def jL:Nat->List OpM->List OpM->Option Nat
 |i,a::l,b::m=>match uw a b with
  |true=>jL (i+1) l m
  |false=>some i
 |_,_,_=>none
def kE(l m:List OpM):Bool:=match neI (af l.length) (af m.length)with
 |true=>false
 |false=>(jL 0 l m).isNone
theorem lD{P:Program}{fid id:Nat}{B:Code}{H:Head}{t:DT (Ex×List Value×List Blk)}(hocc:∀ c,Occ P fid (.block id c)->c = .loop B):LoopOkX P fid id B H (iD (fun _ _=>false) t) where
 occ:=hocc
 run:=by
  intro vs bs t hR e vs' bs' hev;unfold iD at hR;obtain rfl:=Option.some.inj hR;cases hev
def kOo:Con (List OpM×List OpM) where
 enc x:=([aK x.1,aK x.2],[])
 ok x:=x.1.length<4194304/\x.2.length<4194304
 inj a b h:=by
  obtain⟨a1,a2⟩:=a;obtain⟨b1,b2⟩:=b;simp only[Prod.mk.injEq,List.cons.injEq,and_true]at h;rw[jD h.1,jD h.2]
 dflt:=([],[])
def Dso:HeadX:=⟨0,26,[0,1,4,5],[.val, .val, .val, .val],[],aJ⟩
def Bso:Code:=(bK P 20 0).getD .skip
theorem MI:bK P 20 0=some Bso:=by kernel_rfl
theorem H9:Occ P 20 (.block 0 (.loop Bso)):=dA MI
def soV(l m:List OpM)(i:Int):List Value:=[aK l,aK m, .bool false, .int .i64 i]
theorem We(n b:Nat)(c:List Value)(n' b':Nat)(c':List Value)(i:Int):aQ P E ctF 50 20 Bso Dso [ai 3 n b c,ai 3 n' b' c', .bool false, .int .i64 i] [] =
 (ag (ltI i (af n))
 (ae (Bool.and (Nat.beq 3 3) (inI i n))
 (ae (Bool.and (Nat.ble (Nat.add (atN i 3) 3) c.length) (jP [.bool,.string,.string] c (atN i 3)))
 (ae (Bool.and (Nat.beq 3 3) (inI i n'))
 (ae (Bool.and (Nat.ble (Nat.add (atN i 3) 3) (List.length c')) (jP [.bool,.string,.string] c' (atN i 3)))
 (ag (dN (Bool.and (eqB (asB (ah c (atN i 3))) (asB (ah c' (atN i 3)))) (Bool.and (eqS (asS (ah c (Nat.add (atN i 3) 1))) (asS (ah c' (Nat.add (atN i 3) 1)))) (Bool.and (eqS (asS (ah c (Nat.add (Nat.add (atN i 3) 1) 1))) (asS (ah c' (Nat.add (Nat.add (atN i 3) 1) 1)))) true))))
 (some ((.tuple ⟨[.int .i64 (-1),.iface 18446744073709551619 (.agg ⟨(.slice none n b)::c⟩),.iface 18446744073709551619 (.agg ⟨(.slice none n' b')::c'⟩),.bool false,.int .i64 i]⟩),(mkSt [])))
 (some ((.tuple ⟨[.int .i64 0,.iface 18446744073709551619 (.agg ⟨(.slice none n b)::c⟩),.iface 18446744073709551619 (.agg ⟨(.slice none n' b')::c'⟩),.bool false,.int .i64 (aB .i64 i 1)]⟩),(mkSt []))))))))
 (some ((.tuple ⟨[.int .i64 1,.iface 18446744073709551619 (.agg ⟨(.slice none n b)::c⟩),.iface 18446744073709551619 (.agg ⟨(.slice none n' b')::c'⟩),.bool false,.int .i64 i]⟩),(mkSt [])))):=by kernel_rfl
theorem ZC{l m:List OpM}{i:Nat}(hi:i<l.length)(he:m.length=l.length)(hl:l.length<4194304):aQ P E ctF 50 20 Bso Dso (soV l m i) []=match uw l[i] (m[i]'(by omega))with
  |true=>some (.tuple ⟨exV .normal::soV l m ((i+1:Nat):Int)⟩,mkSt [])
  |false=>some (.tuple ⟨exV .ret::soV l m i⟩,mkSt []):=by
 have hj:i<m.length:=by omega
 unfold soV aK;rw[We];have n3:∀ l:List OpM,(EOp.all l).length=Nat.mul l.length 3:=fun l=>EOp.all_length l;have g1:ltI (i:Int) (af l.length)=true:=by unfold ltI af; exact decide_eq_true (by omega)
 have g2:inI (i:Int) l.length=true:=by unfold inI; exact decide_eq_true (by omega)
 have g3:Nat.ble (Nat.add (atN (i:Int) 3) 3) (Nat.mul l.length 3)=true:=Nat.ble_eq_true_of_le (by
  show(i:Int).toNat*3+3<=l.length*3;have:(i:Int).toNat=i:=by omega
  omega)
 have g4:=qU hi;have g5:=qU hj;have a1:aB .i64 (i:Int) 1=((i+1:Nat):Int):=by unfold aB; rw[wrap64 (by omega) (by omega)]; omega
 have ab:∀ b,asB (.bool b)=b:=fun _=>rfl;have aS:∀ b,asS (.string b)=b:=fun _=>rfl;have b3:∀ n,Nat.beq n n=true:=Nat.beq_refl;simp only[n3,he,g1,g2,g3,g4,g5,zi hi,yI hi,zy hi,zi hj,yI hj,zy hj,ab,aS,a1,b3,Bool.and_self,az,aA];unfold ai;rw[ja];show ag (dN (uw l[i] m[i])) _ _=_;cases uw l[i] m[i]<;>rfl
theorem afg{l m:List OpM}:aQ P E ctF 50 20 Bso Dso (soV l m l.length) []=some (.tuple ⟨exV (.exit 0)::soV l m l.length⟩,mkSt []):=by
 unfold soV aK;rw[We];have g1:ltI (l.length:Int) (af l.length)=false:=by unfold ltI af; exact decide_eq_false (by omega)
 simp only[g1,ax];unfold ai;rw[ja]
 rfl
theorem Qo(l m:List OpM)(he:m.length=l.length)(hl:l.length<4194304):∀ (k i:Nat),i+k=l.length->
  LRX P 20 0 Bso Dso.head (soV l m i) [] (match jL i (l.drop i) (m.drop i)with | none=> .normal | some _=> .ret) (match jL i (l.drop i) (m.drop i)with | none=>soV l m l.length | some j=>soV l m j) []
 |0,i,h=>by
  obtain rfl:i=l.length:=by omega
  rw[List.drop_length];exact LRX.stop (n:=50) (aF ctF) au aW H9 (e:= .exit 0) afg (by intro h; cases h)
 |k+1,i,h=>by
  have hi:i<l.length:=by omega
  have hj:i<m.length:=by omega
  have q:=ZC hi he hl;rw[List.drop_eq_getElem_cons hi,List.drop_eq_getElem_cons hj];simp only[jL];cases ho:uw l[i] m[i]with
  |true=>
   rw[ho]at q;exact LRX.again (n:=50) (aF ctF) au aW H9 q (Qo l m he hl k (i+1) (by omega))
  |false=>
   rw[ho]at q;exact LRX.stop (n:=50) (aF ctF) au aW H9 (e:= .ret) q (by intro h; cases h)
def kso:Con (List OpM×List OpM) where
 enc x:=(soV x.1 x.2 0,[])
 ok x:=x.2.length=x.1.length/\x.1.length<4194304
 inj a b h:=by
  obtain⟨a1,a2⟩:=a;obtain⟨b1,b2⟩:=b;unfold soV at h;simp only[Prod.mk.injEq,List.cons.injEq,true_and,and_true]at h;first | rw[jD h.1,jD h.2.1] | rw[jD h.1,jD h.2]
 dflt:=([],[])
def ab3(x:List OpM×List OpM):DT (Ex×List Value×List Blk):= .ite (jL 0 x.1 x.2).isNone (.leaf (.normal,soV x.1 x.2 x.1.length,[])) (.leaf (.ret,soV x.1 x.2 ((jL 0 x.1 x.2).getD 0),[]))
theorem Xu:LoopOkX P 20 0 Bso Dso.head (kP kso.C kso.D ab3):=
 fQ kso (bz MI) fun x ho e vs' bs' hev=>by
  have q:=Qo x.1 x.2 ho.1 ho.2 x.1.length 0 (by omega);rw[List.drop_zero,List.drop_zero]at q;unfold ab3 at hev;cases hb:jL 0 x.1 x.2 with
  |none=>
   rw[hb]at hev q;simp only[Option.isNone_none,DT.eval,Option.some.injEq,Prod.mk.injEq]at hev;obtain⟨rfl,rfl,rfl⟩:=hev;exact q
  |some j=>
   rw[hb]at hev q;simp only[Option.isNone_some,Option.getD_some,DT.eval,Option.some.injEq,Prod.mk.injEq]at hev;obtain⟨rfl,rfl,rfl⟩:=hev;exact q
def Uc(C:List Value->List Blk->Bool)(ok:Bool)(n b:Nat)(c:List Value)(n' b':Nat)(c':List Value)(j:Int):Ct:=
 dR P 20 0 Dso (iD C (.ite ok (.leaf (.normal,[ai 3 n b c,ai 3 n' b' c', .bool false, .int .i64 (af n)],[])) (.leaf (.ret,[ai 3 n b c,ai 3 n' b' c', .bool false, .int .i64 j],[])))) ctF
theorem Rh(C:List Value->List Blk->Bool)(ok:Bool)(n b:Nat)(c:List Value)(n' b':Nat)(c':List Value)(j:Int):bn P E (Uc C ok n b c n' b' c' j) 50 aJ [] [] 0 20 [ai 3 n b c,ai 3 n' b' c'] [] =
 (ag (neI (af n) (af n'))
 (some ((.bool false),(mkSt [])))
 (ae (C [.iface 18446744073709551619 (.agg ⟨(.slice none n b)::c⟩),.iface 18446744073709551619 (.agg ⟨(.slice none n' b')::c'⟩),.bool false,.int .i64 0] [])
 (ag ok
 (some ((.bool true),(mkSt [])))
 (some ((.bool false),(mkSt [])))))):=by kernel_rfl
def adX(l m:List OpM):Ct:=Uc (kso.at (l,m)) (jL 0 l m).isNone l.length 0 (EOp.all l) m.length 0 (EOp.all m) (((jL 0 l m).getD 0:Nat):Int)
theorem adR(l m:List OpM)(h:neI (af l.length) (af m.length)=false):bn P E (adX l m) 50 aJ [] [] 0 20 [aK l,aK m] []=some (.bool (kE l m),mkSt []):=by
 refine(Rh (kso.at (l,m)) (jL 0 l m).isNone l.length 0 (EOp.all l) m.length 0 (EOp.all m) (((jL 0 l m).getD 0:Nat):Int)).trans ?_;unfold kE;rw[h];refine Eq.trans ax ?_;refine bu (k:=kso) (s:=(l,m)) (by show soV l m 0=_; unfold soV aK ai; rw[ja]) rfl ?_;cases (jL 0 l m).isNone<;>rfl
theorem ae2:CallOkX P 0 20 (jS kOo.C kOo.D fun x=> .leaf (.bool (kE x.1 x.2),[])):=f_ kOo fun x ho v bs' hev=>by
 simp only[DT.eval,Option.some.injEq,Prod.mk.injEq]at hev;obtain⟨rfl,rfl⟩:=hev;obtain⟨l,m⟩:=x;cases h:neI (af l.length) (af m.length)with
 |false=>
  have he:m.length=l.length:=by
   unfold neI af at h;have:=bne_eq_false_iff_eq.1 h;omega
  exact CRX.of (aF (adX l m)) au (bf aW (gU kso Xu (s:=(l,m)) ⟨he,ho.1⟩)) (adR l m h)
 |true=>
  have hv:kE l m=false:=by unfold kE; rw[h]
  show CRX P 0 20 [aK l,aK m] [] (.bool (kE l m)) [];rw[hv];refine CRX.of (aF (Uc (fun _ _=>false) false l.length 0 (EOp.all l) m.length 0 (EOp.all m) 0)) au (bf aW (lD (bz MI))) (n:=50) (pol:=aJ) (fl:=[]) (ts:=[]) ?_;refine(Rh (fun _ _=>false) false l.length 0 (EOp.all l) m.length 0 (EOp.all m) 0).trans ?_;rw[h];exact az
def Dse:HeadX:=⟨0,26,[0,1,4,12,13],[.val, .val, .val, .val, .val],[],aJ⟩
def Bse:Code:=(bK P 74 0).getD .skip
theorem Om:bK P 74 0=some Bse:=by kernel_rfl
theorem Jw:Occ P 74 (.block 0 (.loop Bse)):=dA Om
def seV(l m:List OpM)(i:Int):List Value:=[aK l,aK m, .bool false, .int .i64 (af l.length), .int .i64 i]
theorem Yf(n b:Nat)(c:List Value)(n' b':Nat)(c':List Value)(z i:Int):aQ P E ctF 50 74 Bse Dse [ai 3 n b c,ai 3 n' b' c', .bool false, .int .i64 z, .int .i64 i] [] =
 (ag (ltI i z)
 (ae (Bool.and (Nat.beq 3 3) (inI i n))
 (ae (Bool.and (Nat.ble (Nat.add (atN i 3) 3) c.length) (jP [.bool,.string,.string] c (atN i 3)))
 (ae (Bool.and (Nat.beq 3 3) (inI i n'))
 (ae (Bool.and (Nat.ble (Nat.add (atN i 3) 3) (List.length c')) (jP [.bool,.string,.string] c' (atN i 3)))
 (ag (dN (Bool.and (eqB (asB (ah c (atN i 3))) (asB (ah c' (atN i 3)))) (Bool.and (eqS (asS (ah c (Nat.add (atN i 3) 1))) (asS (ah c' (Nat.add (atN i 3) 1)))) (Bool.and (eqS (asS (ah c (Nat.add (Nat.add (atN i 3) 1) 1))) (asS (ah c' (Nat.add (Nat.add (atN i 3) 1) 1)))) true))))
 (some ((.tuple ⟨[.int .i64 (-1),.iface 18446744073709551619 (.agg ⟨(.slice none n b)::c⟩),.iface 18446744073709551619 (.agg ⟨(.slice none n' b')::c'⟩),.bool false,.int .i64 z,.int .i64 i]⟩),(mkSt [])))
 (some ((.tuple ⟨[.int .i64 0,.iface 18446744073709551619 (.agg ⟨(.slice none n b)::c⟩),.iface 18446744073709551619 (.agg ⟨(.slice none n' b')::c'⟩),.bool false,.int .i64 z,.int .i64 (aB .i64 i 1)]⟩),(mkSt []))))))))
 (some ((.tuple ⟨[.int .i64 1,.iface 18446744073709551619 (.agg ⟨(.slice none n b)::c⟩),.iface 18446744073709551619 (.agg ⟨(.slice none n' b')::c'⟩),.bool false,.int .i64 z,.int .i64 i]⟩),(mkSt [])))):=by kernel_rfl
theorem aa4{l m:List OpM}{i:Nat}(hi:i<l.length)(he:m.length=l.length)(hl:l.length<4194304):aQ P E ctF 50 74 Bse Dse (seV l m i) []=match uw l[i] (m[i]'(by omega))with
  |true=>some (.tuple ⟨exV .normal::seV l m ((i+1:Nat):Int)⟩,mkSt [])
  |false=>some (.tuple ⟨exV .ret::seV l m i⟩,mkSt []):=by
 have hj:i<m.length:=by omega
 unfold seV aK;rw[Yf];have n3:∀ l:List OpM,(EOp.all l).length=Nat.mul l.length 3:=fun l=>EOp.all_length l;have g1:ltI (i:Int) (af l.length)=true:=by unfold ltI af; exact decide_eq_true (by omega)
 have g2:inI (i:Int) l.length=true:=by unfold inI; exact decide_eq_true (by omega)
 have g3:Nat.ble (Nat.add (atN (i:Int) 3) 3) (Nat.mul l.length 3)=true:=Nat.ble_eq_true_of_le (by
  show(i:Int).toNat*3+3<=l.length*3;have:(i:Int).toNat=i:=by omega
  omega)
 have g4:=qU hi;have g5:=qU hj;have a1:aB .i64 (i:Int) 1=((i+1:Nat):Int):=by unfold aB; rw[wrap64 (by omega) (by omega)]; omega
 have ab:∀ b,asB (.bool b)=b:=fun _=>rfl;have aS:∀ b,asS (.string b)=b:=fun _=>rfl;have b3:∀ n,Nat.beq n n=true:=Nat.beq_refl;simp only[n3,he,g1,g2,g3,g4,g5,zi hi,yI hi,zy hi,zi hj,yI hj,zy hj,ab,aS,a1,b3,Bool.and_self,az,aA];unfold ai;rw[ja];show ag (dN (uw l[i] m[i])) _ _=_;cases uw l[i] m[i]<;>rfl
theorem afw{l m:List OpM}:aQ P E ctF 50 74 Bse Dse (seV l m l.length) []=some (.tuple ⟨exV (.exit 0)::seV l m l.length⟩,mkSt []):=by
 unfold seV aK;rw[Yf];have g1:ltI (l.length:Int) (af l.length)=false:=by unfold ltI af; exact decide_eq_false (by omega)
 simp only[g1,ax];unfold ai;rw[ja]
 rfl
theorem Q_(l m:List OpM)(he:m.length=l.length)(hl:l.length<4194304):∀ (k i:Nat),i+k=l.length->
  LRX P 74 0 Bse Dse.head (seV l m i) [] (match jL i (l.drop i) (m.drop i)with | none=> .normal | some _=> .ret) (match jL i (l.drop i) (m.drop i)with | none=>seV l m l.length | some j=>seV l m j) []
 |0,i,h=>by
  obtain rfl:i=l.length:=by omega
  rw[List.drop_length];exact LRX.stop (n:=50) (aF ctF) au aW Jw (e:= .exit 0) afw (by intro h; cases h)
 |k+1,i,h=>by
  have hi:i<l.length:=by omega
  have hj:i<m.length:=by omega
  have q:=aa4 hi he hl;rw[List.drop_eq_getElem_cons hi,List.drop_eq_getElem_cons hj];simp only[jL];cases ho:uw l[i] m[i]with
  |true=>
   rw[ho]at q;exact LRX.again (n:=50) (aF ctF) au aW Jw q (Q_ l m he hl k (i+1) (by omega))
  |false=>
   rw[ho]at q;exact LRX.stop (n:=50) (aF ctF) au aW Jw (e:= .ret) q (by intro h; cases h)
def kse:Con (List OpM×List OpM) where
 enc x:=(seV x.1 x.2 0,[])
 ok x:=x.2.length=x.1.length/\x.1.length<4194304
 inj a b h:=by
  obtain⟨a1,a2⟩:=a;obtain⟨b1,b2⟩:=b;unfold seV at h;simp only[Prod.mk.injEq,List.cons.injEq,true_and,and_true]at h;first | rw[jD h.1,jD h.2.1] | rw[jD h.1,jD h.2]
 dflt:=([],[])
def abu(x:List OpM×List OpM):DT (Ex×List Value×List Blk):= .ite (jL 0 x.1 x.2).isNone (.leaf (.normal,seV x.1 x.2 x.1.length,[])) (.leaf (.ret,seV x.1 x.2 ((jL 0 x.1 x.2).getD 0),[]))
theorem Vz:LoopOkX P 74 0 Bse Dse.head (kP kse.C kse.D abu):=
 fQ kse (bz Om) fun x ho e vs' bs' hev=>by
  have q:=Q_ x.1 x.2 ho.1 ho.2 x.1.length 0 (by omega);rw[List.drop_zero,List.drop_zero]at q;unfold abu at hev;cases hb:jL 0 x.1 x.2 with
  |none=>
   rw[hb]at hev q;simp only[Option.isNone_none,DT.eval,Option.some.injEq,Prod.mk.injEq]at hev;obtain⟨rfl,rfl,rfl⟩:=hev;exact q
  |some j=>
   rw[hb]at hev q;simp only[Option.isNone_some,Option.getD_some,DT.eval,Option.some.injEq,Prod.mk.injEq]at hev;obtain⟨rfl,rfl,rfl⟩:=hev;exact q
def Us(C:List Value->List Blk->Bool)(ok:Bool)(n b:Nat)(c:List Value)(n' b':Nat)(c':List Value)(j:Int):Ct:=
 dR P 74 0 Dse (iD C (.ite ok (.leaf (.normal,[ai 3 n b c,ai 3 n' b' c', .bool false, .int .i64 (af n), .int .i64 (af n)],[])) (.leaf (.ret,[ai 3 n b c,ai 3 n' b' c', .bool false, .int .i64 (af n), .int .i64 j],[])))) ctF
theorem Rf(C:List Value->List Blk->Bool)(ok:Bool)(n b:Nat)(c:List Value)(n' b':Nat)(c':List Value)(j:Int):bn P E (Us C ok n b c n' b' c' j) 50 aJ [] [] 0 74 [ai 3 n b c,ai 3 n' b' c'] [] =
 (ag (neI (af n) (af n'))
 (some ((.bool false),(mkSt [])))
 (ae (C [.iface 18446744073709551619 (.agg ⟨(.slice none n b)::c⟩),.iface 18446744073709551619 (.agg ⟨(.slice none n' b')::c'⟩),.bool false,.int .i64 (af n),.int .i64 0] [])
 (ag ok
 (some ((.bool true),(mkSt [])))
 (some ((.bool false),(mkSt [])))))):=by kernel_rfl
def aeO(l m:List OpM):Ct:=Us (kse.at (l,m)) (jL 0 l m).isNone l.length 0 (EOp.all l) m.length 0 (EOp.all m) (((jL 0 l m).getD 0:Nat):Int)
theorem aeY(l m:List OpM)(h:neI (af l.length) (af m.length)=false):bn P E (aeO l m) 50 aJ [] [] 0 74 [aK l,aK m] []=some (.bool (kE l m),mkSt []):=by
 refine(Rf (kse.at (l,m)) (jL 0 l m).isNone l.length 0 (EOp.all l) m.length 0 (EOp.all m) (((jL 0 l m).getD 0:Nat):Int)).trans ?_;unfold kE;rw[h];refine Eq.trans ax ?_;refine bu (k:=kse) (s:=(l,m)) (by show seV l m 0=_; unfold seV aK ai; rw[ja]) rfl ?_;cases (jL 0 l m).isNone<;>rfl
theorem aec:CallOkX P 0 74 (jS kOo.C kOo.D fun x=> .leaf (.bool (kE x.1 x.2),[])):=f_ kOo fun x ho v bs' hev=>by
 simp only[DT.eval,Option.some.injEq,Prod.mk.injEq]at hev;obtain⟨rfl,rfl⟩:=hev;obtain⟨l,m⟩:=x;cases h:neI (af l.length) (af m.length)with
 |false=>
  have he:m.length=l.length:=by
   unfold neI af at h;have:=bne_eq_false_iff_eq.1 h;omega
  exact CRX.of (aF (aeO l m)) au (bf aW (gU kse Vz (s:=(l,m)) ⟨he,ho.1⟩)) (aeY l m h)
 |true=>
  have hv:kE l m=false:=by unfold kE; rw[h]
  show CRX P 0 74 [aK l,aK m] [] (.bool (kE l m)) [];rw[hv];refine CRX.of (aF (Us (fun _ _=>false) false l.length 0 (EOp.all l) m.length 0 (EOp.all m) 0)) au (bf aW (lD (bz Om))) (n:=50) (pol:=aJ) (fl:=[]) (ts:=[]) ?_;refine(Rf (fun _ _=>false) false l.length 0 (EOp.all l) m.length 0 (EOp.all m) 0).trans ?_;rw[h];exact az
def abk(C:List Value->List Blk->Bool)(r:Bool):Ct:=bJ P aJ 0 20 (iL C (.leaf (.bool r,[]))) ctF
def abI(C:List Value->List Blk->Bool)(r:Bool):Ct:=bJ P aJ 0 74 (iL C (.leaf (.bool r,[]))) ctF
theorem aen(C:List Value->List Blk->Bool)(r:Bool)(k nd nn t:Int)(key:ByteArray)(n b:Nat)(c:List Value)(k' nd' nn' t':Int)(key':ByteArray)(n' b':Nat)(c':List Value):bn P E (abk C r) 50 aJ [] [] 0 7 [.agg ⟨[.int .i64 k, .int .i64 nd, .int .i64 nn, .int .i64 t, .string key,ai 3 n b c]⟩, .agg ⟨[.int .i64 k', .int .i64 nd', .int .i64 nn', .int .i64 t', .string key',ai 3 n' b' c']⟩] [] =
 (ag (eqI k k')
 (ag (eqI nd nd')
 (ag (eqI nn nn')
 (ag (eqI t t')
 (ag (eqS key key')
 (ae (C [.iface 18446744073709551619 (.agg ⟨(.slice none n b)::c⟩),.iface 18446744073709551619 (.agg ⟨(.slice none n' b')::c'⟩)] [])
 (some ((.bool r),(mkSt []))))
 (some ((.bool false),(mkSt []))))
 (some ((.bool false),(mkSt []))))
 (some ((.bool false),(mkSt []))))
 (some ((.bool false),(mkSt []))))
 (some ((.bool false),(mkSt [])))):=by kernel_rfl
theorem aeM(C:List Value->List Blk->Bool)(r:Bool)(k nd nn t:Int)(key:ByteArray)(n b:Nat)(c:List Value)(k' nd' nn' t':Int)(key':ByteArray)(n' b':Nat)(c':List Value):bn P E (abI C r) 50 aJ [] [] 0 45 [.agg ⟨[.int .i64 k, .int .i64 nd, .int .i64 nn, .int .i64 t, .string key,ai 3 n b c]⟩, .agg ⟨[.int .i64 k', .int .i64 nd', .int .i64 nn', .int .i64 t', .string key',ai 3 n' b' c']⟩] [] =
 (ag (eqI k k')
 (ag (eqI nd nd')
 (ag (eqI nn nn')
 (ag (eqI t t')
 (ag (eqS key key')
 (ae (C [.iface 18446744073709551619 (.agg ⟨(.slice none n b)::c⟩),.iface 18446744073709551619 (.agg ⟨(.slice none n' b')::c'⟩)] [])
 (some ((.bool r),(mkSt []))))
 (some ((.bool false),(mkSt []))))
 (some ((.bool false),(mkSt []))))
 (some ((.bool false),(mkSt []))))
 (some ((.bool false),(mkSt []))))
 (some ((.bool false),(mkSt [])))):=by kernel_rfl
def jk(a b:ActM):Bool:=match eqI a.kind b.kind,eqI a.node b.node,eqI a.n b.n,eqI a.t b.t,eqS a.key b.key with
 |true,true,true,true,true=>kE a.ops b.ops
 |_,_,_,_,_=>false
def kSa:Con (ActM×ActM) where
 enc x:=([g_ x.1,g_ x.2],[])
 ok x:=x.1.ops.length<4194304/\x.2.ops.length<4194304
 inj a b h:=by
  obtain⟨a1,a2⟩:=a;obtain⟨b1,b2⟩:=b;simp only[Prod.mk.injEq,List.cons.injEq,and_true]at h;rw[yG h.1,yG h.2]
 dflt:=(cZ,cZ)
theorem aem(a b:ActM):bn P E (abk (kOo.at (a.ops,b.ops)) (kE a.ops b.ops)) 50 aJ [] [] 0 7 [g_ a,g_ b] []=some (.bool (jk a b),mkSt []):=by
 refine(aen (kOo.at (a.ops,b.ops)) (kE a.ops b.ops) a.kind a.node a.n a.t a.key a.ops.length 0 (EOp.all a.ops) b.kind b.node b.n b.t b.key b.ops.length 0 (EOp.all b.ops)).trans ?_;unfold jk;cases eqI a.kind b.kind with
 |false=>exact ax
 |true=>
 refine Eq.trans az ?_;cases eqI a.node b.node with
 |false=>exact ax
 |true=>
 refine Eq.trans az ?_;cases eqI a.n b.n with
 |false=>exact ax
 |true=>
 refine Eq.trans az ?_;cases eqI a.t b.t with
 |false=>exact ax
 |true=>
 refine Eq.trans az ?_;cases eqS a.key b.key with
 |false=>exact ax
 |true=>
 refine Eq.trans az ?_;refine bu (k:=kOo) (s:=(a.ops,b.ops)) (by show [aK _,aK _]=_; unfold aK ai; rw[ja]) rfl ?_
 rfl
theorem afO:CallOkX P 0 7 (jS kSa.C kSa.D fun x=> .leaf (.bool (jk x.1 x.2),[])):=f_ kSa fun x ho v bs' hev=>by
 simp only[DT.eval,Option.some.injEq,Prod.mk.injEq]at hev;obtain⟨rfl,rfl⟩:=hev;obtain⟨a,b⟩:=x;exact CRX.of (aF _) au (aO aW (eF kOo ae2 (s:=(a.ops,b.ops)) ho)) (aem a b)
theorem afx(a b:ActM):bn P E (abI (kOo.at (a.ops,b.ops)) (kE a.ops b.ops)) 50 aJ [] [] 0 45 [g_ a,g_ b] []=some (.bool (jk a b),mkSt []):=by
 refine(aeM (kOo.at (a.ops,b.ops)) (kE a.ops b.ops) a.kind a.node a.n a.t a.key a.ops.length 0 (EOp.all a.ops) b.kind b.node b.n b.t b.key b.ops.length 0 (EOp.all b.ops)).trans ?_;unfold jk;cases eqI a.kind b.kind with
 |false=>exact ax
 |true=>
 refine Eq.trans az ?_;cases eqI a.node b.node with
 |false=>exact ax
 |true=>
 refine Eq.trans az ?_;cases eqI a.n b.n with
 |false=>exact ax
 |true=>
 refine Eq.trans az ?_;cases eqI a.t b.t with
 |false=>exact ax
 |true=>
 refine Eq.trans az ?_;cases eqS a.key b.key with
 |false=>exact ax
 |true=>
 refine Eq.trans az ?_;refine bu (k:=kOo) (s:=(a.ops,b.ops)) (by show [aK _,aK _]=_; unfold aK ai; rw[ja]) rfl ?_
 rfl
theorem afJ:CallOkX P 0 45 (jS kSa.C kSa.D fun x=> .leaf (.bool (jk x.1 x.2),[])):=f_ kSa fun x ho v bs' hev=>by
 simp only[DT.eval,Option.some.injEq,Prod.mk.injEq]at hev;obtain⟨rfl,rfl⟩:=hev;obtain⟨a,b⟩:=x;exact CRX.of (aF _) au (aO aW (eF kOo aec (s:=(a.ops,b.ops)) ho)) (afx a b)
def abm(O:Bool->ByteArray->ByteArray->Bool)(BC TC LC SC:List Value->List Blk->Bool)(r:Int)(s:ByteArray)(k' nd' nn' t':Int)(key':ByteArray)(n' b':Nat)(c':List Value)(th:Bool)(e:Int)(sm:Bool):Ct:=
 bJ P aJ 0 43 (iL BC (.leaf (.int .i64 r,[]))) (bJ P aJ 0 24 (iL TC (.leaf (.string s,[]))) (bJ P aJ 0 6 (iL LC (.leaf (.tuple ⟨[.agg ⟨[.int .i64 k', .int .i64 nd', .int .i64 nn', .int .i64 t', .string key',ai 3 n' b' c']⟩, .bool th, .int .i64 e]⟩,[]))) (bJ P aJ 0 45 (iL SC (.leaf (.bool sm,[]))) (bH P 44 (mJ O) ctF))))
def ckE(TC LC SC:List Value->List Blk->Bool)(s:ByteArray)(a a':Value)(th:Bool)(e:Int)(sm:Bool):Res:=
 ae (TC [a] []) (ae (LC [.string s] []) (ag (neI e 0) (some (.int .i64 2,mkSt [])) (ag (dN th) (some (.int .i64 2,mkSt [])) (ae (SC [a',a] []) (ag (dN sm) (some (.int .i64 2,mkSt [])) (some (.int .i64 0,mkSt [])))))))
def ckK(O:Bool->ByteArray->ByteArray->Bool)(k:Int)(key:ByteArray)(x:Res):Res:=ag (eqI k 2) (ag (O false key ⟨#[]⟩) x (some (.int .i64 2,mkSt []))) x
def ckO(BC:List Value->List Blk->Bool)(r k:Int)(ops:Value)(x:Res):Res:=ag (eqI k 1) (ae (BC [ops] []) (ag (neI r 0) (some (.int .i64 2,mkSt [])) x)) x
def ckN(k:Int)(x y:Res):Int->Res:=fun j=>ag (eqI k j) (ae (dn (.int .i64 k) (.int .i64 k)) x) y
def Tt(k:Int)(x:Res):Res:=ckN k x (ckN k x (ckN k x (ckN k x (ckN k x (ckN k x (ckN k x (ckN k x (ckN k x (ckN k x (ckN k x (ckN k x (ae (dn (.int .i64 k) (.int .i64 k)) (some (.int .i64 2,mkSt []))) 12) 11) 10) 9) 8) 7) 6) 5) 4) 3) 2) 1
theorem aef(O:Bool->ByteArray->ByteArray->Bool)(BC TC LC SC:List Value->List Blk->Bool)(r:Int)(s:ByteArray)(k' nd' nn' t':Int)(key':ByteArray)(n' b':Nat)(c':List Value)(th:Bool)(e:Int)(sm:Bool)(k nd nn t:Int)(key:ByteArray)(n b:Nat)(c:List Value):bn P E (abm O BC TC LC SC r s k' nd' nn' t' key' n' b' c' th e sm) 50 aJ [] [] 0 22 [.agg ⟨[.int .i64 k, .int .i64 nd, .int .i64 nn, .int .i64 t, .string key,ai 3 n b c]⟩] [] =
  Tt k (ckO BC r k (ai 3 n b c) (ckK O k key (ckE TC LC SC s (.agg ⟨[.int .i64 k, .int .i64 nd, .int .i64 nn, .int .i64 t, .string key,ai 3 n b c]⟩) (.agg ⟨[.int .i64 k', .int .i64 nd', .int .i64 nn', .int .i64 t', .string key',ai 3 n' b' c']⟩) th e sm))):=by kernel_rfl
def early(a:ActM):Bool:=bif eqI a.kind 1 then neI (dO a.ops) 0 else bif eqI a.kind 2 then dN (bQ false a.key ⟨#[]⟩)else false
def vG(k:Int):Bool:=eqI k 1 || (eqI k 2 || (eqI k 3 || (eqI k 4 || (eqI k 5 || (eqI k 6 || (eqI k 7 || (eqI k 8 || (eqI k 9 || (eqI k 10 || (eqI k 11 || eqI k 12))))))))))
def wH(a:ActM):Bool:=dN (neI (aG (aN a)).2.2 0)&&(aG (aN a)).2.1&&jk (aG (aN a)).1 a
def dQ(a:ActM):Int:=match vG a.kind,early a,wH a with
 |true,false,true=>0
 |_,_,_=>2
theorem ae9{k:Int}{x y:Res}{j:Int}:ckN k x y j=bif eqI k j then x else y:=by
 unfold ckN;rw[pU];cases eqI k j<;>rfl
theorem Z8(k:Int)(x:Res):Tt k x=bif vG k then x else some (.int .i64 2,mkSt []):=by
 unfold Tt vG;simp only[ae9,pU,aA];cases eqI k 1<;>cases eqI k 2<;>cases eqI k 3<;>cases eqI k 4<;>cases eqI k 5<;>cases eqI k 6<;>first | rfl | (cases eqI k 7<;>cases eqI k 8<;>cases eqI k 9<;>cases eqI k 10<;>cases eqI k 11<;>cases eqI k 12<;>rfl)
theorem yH{a:ActM}(h:EM a)(hl:eqI a.kind 1=true->a.ops.length<=8):(aN a).size<=4000000:=by
 obtain⟨r1,r2,r3,hk,_⟩:=h;have z1:=fJ r1;have z2:=fJ r2;have z3:=fJ r3;have z4:=vW a.key;unfold aN nS;cases h1:eqI a.kind 1 with
 |true=>
  have:=hl h1;have q:=Be a.ops (aj ⟨#[99,111,109,109,105,116]⟩ (aj ⟨#[32]⟩ (bF a.node)));simp only[a_,lz1,lz0]at q;simp only[cond_true];omega
 |false=>
 simp only[cond_false];cases h2:eqI a.kind 2 with
 |true=>
  have:=hk h2;simp only[cond_true,a_,lz2,lz0];omega
 |false=>
 simp only[cond_false];have e0:(ByteArray.mk #[]).size=0:=rfl;have cs:∀ (b:Bool) (x y:ByteArray),x.size<=4000000->y.size<=4000000->(bif b then x else y).size<=4000000:=fun b x y h k=>by cases b<;>assumption
 repeat' refine cs _ _ _ ?_ ?_
 all_goals (simp only[a_,lz3,lz4,lz5,lz6,lz7,lz8,lz9,su,qF,sN,lz0,e0]; omega)
theorem rU{l:List OpM}(h:eqI (dO l) 0=true):l.length<=8:=by
 unfold dO at h;split at h<;>first | (cases h; done) | skip
 ·rename_i h1 h2 h3;unfold gtI af at h2;have:=of_decide_eq_false h2;omega
theorem Zp{ws:List ByteArray}(h:pV ws=true):(opsV ws).length<=8:=by
 unfold pV at h;unfold opsV;cases ho:(opE ws []).1 with
 |true=>rw[ho]at h; exact rU h
 |false=>rw[ho]at h; cases h
theorem aaV{k:Nat}{w0:ByteArray}{r:List ByteArray}{p:ActM×Value}(h:dX k w0 r=some p):p.1.ops.length<=8:=by
 unfold dX at h;split at h
 ·unfold nM at h;split at h
  ·split at h
   ·rename_i hb;cases h;exact Zp hb
   ·cases h
  ·cases h
 ·unfold nP at h; split at h<;>(try split at h)<;>cases h; exact Nat.zero_le _
 ·unfold gZ at h; split at h<;>(try split at h)<;>cases h; exact Nat.zero_le _
 ·unfold gZ at h; split at h<;>(try split at h)<;>cases h; exact Nat.zero_le _
 ·unfold gZ at h; split at h<;>(try split at h)<;>cases h; exact Nat.zero_le _
 ·unfold jg at h; split at h<;>(try split at h)<;>cases h; exact Nat.zero_le _
 ·unfold jg at h; split at h<;>(try split at h)<;>cases h; exact Nat.zero_le _
 ·unfold jg at h; split at h<;>(try split at h)<;>cases h; exact Nat.zero_le _
 ·unfold nN at h; split at h<;>(try split at h)<;>cases h; exact Nat.zero_le _
 ·unfold gZ at h; split at h<;>(try split at h)<;>cases h; exact Nat.zero_le _
 ·unfold kZ at h; split at h<;>(try split at h)<;>cases h; exact Nat.zero_le _
 ·unfold qm at h; split at h<;>(try split at h)<;>cases h; exact Nat.zero_le _
 ·cases h
theorem Z_(s:ByteArray):(aG s).1.ops.length<=8:=by
 unfold aG;split<;>first | exact Nat.zero_le _ | skip
 split<;>first | exact Nat.zero_le _ | skip
 rename_i p hp;unfold gm at hp;obtain⟨j,hj,hf⟩:=List.exists_of_findSome?_eq_some hp;exact aaV hf
def txOk2(a:ActM):Prop:=EM a/\(eqI a.kind 1=true->a.ops.length<=8)
def O9(a b:ActM):Ct:=abm bQ (kBk.at a.ops) (kAx.at b) (kLn.at (aN b)) (kSa.at ((aG (aN b)).1,b)) (dO a.ops) (aN b) (aG (aN b)).1.kind (aG (aN b)).1.node (aG (aN b)).1.n (aG (aN b)).1.t (aG (aN b)).1.key (aG (aN b)).1.ops.length 0 (EOp.all (aG (aN b)).1.ops) (aG (aN b)).2.1 (aG (aN b)).2.2 (jk (aG (aN b)).1 b)
theorem IU{a b:ActM}(ha:a.ops.length<4194304)(hb:txOk2 b):CtOk P (O9 a b):=
 aO (aO (aO (aO (aU aW yX) (eF kSa afJ (s:=((aG (aN b)).1,b)) ⟨Nat.lt_of_le_of_lt (Z_ (aN b)) (by decide),hb.1.2.2.2.2⟩)) (eF kLn QJ (s:=aN b) (Nat.le_trans (yH hb.1 hb.2) (by decide)))) (eF kAx RU (s:=b) hb.1)) (eF kBk V6 (s:=a.ops) ha)
theorem zg:txOk2 cZ:=⟨⟨rfl,rfl,rfl,fun _=>Nat.zero_le _,by show(0:Nat)<_; decide⟩,fun _=>Nat.zero_le _⟩
theorem wV(a b:ActM):bn P E (O9 a b) 50 aJ [] [] 0 22 [g_ a] [] =
  bif vG a.kind then ckO (kBk.at a.ops) (dO a.ops) a.kind (aK a.ops) (ckK bQ a.kind a.key (ckE (kAx.at b) (kLn.at (aN b)) (kSa.at ((aG (aN b)).1,b)) (aN b) (g_ a) (g_ (aG (aN b)).1) (aG (aN b)).2.1 (aG (aN b)).2.2 (jk (aG (aN b)).1 b)))else some (.int .i64 2,mkSt []):=by
 refine Eq.trans ?_ ((aef bQ (kBk.at a.ops) (kAx.at b) (kLn.at (aN b)) (kSa.at ((aG (aN b)).1,b)) (dO a.ops) (aN b) (aG (aN b)).1.kind (aG (aN b)).1.node (aG (aN b)).1.n (aG (aN b)).1.t (aG (aN b)).1.key (aG (aN b)).1.ops.length 0 (EOp.all (aG (aN b)).1.ops) (aG (aN b)).2.1 (aG (aN b)).2.2 (jk (aG (aN b)).1 b) a.kind a.node a.n a.t a.key a.ops.length 0 (EOp.all a.ops)).trans ?_)
 ·rfl
 ·rw[Z8]; rfl
def kCk:Con ActM where
 enc a:=([g_ a],[])
 ok a:=inR a.node=true/\inR a.n=true/\inR a.t=true/\a.ops.length<4194304
 inj a b h:=by
  simp only[Prod.mk.injEq,List.cons.injEq,and_true]at h;exact yG h
 dflt:=cZ
theorem Wi{a:ActM}{x:Res}(h:early a=true):ckO (kBk.at a.ops) (dO a.ops) a.kind (aK a.ops) (ckK bQ a.kind a.key x)=some (.int .i64 2,mkSt []):=by
 unfold ckO ckK;unfold early at h;cases h1:eqI a.kind 1 with
 |true=>
  rw[h1]at h;refine Eq.trans az ?_;refine bu (k:=kBk) (s:=a.ops) rfl rfl ?_;have h:neI (dO a.ops) 0=true:=h;rw[h]; exact az
 |false=>
  rw[h1]at h;refine Eq.trans ax ?_;cases h2:eqI a.kind 2 with
  |true=>
   rw[h2]at h;refine Eq.trans az ?_;have h:dN (bQ false a.key ⟨#[]⟩)=true:=h;cases h3:bQ false a.key ⟨#[]⟩with
   |true=>rw[h3]at h; cases h
   |false=>exact ax
  |false=>rw[h2]at h; cases h
theorem Z9{a:ActM}{x:Res}(h:early a=false):ckO (kBk.at a.ops) (dO a.ops) a.kind (aK a.ops) (ckK bQ a.kind a.key x)=x:=by
 unfold ckO ckK;unfold early at h;cases h1:eqI a.kind 1 with
 |true=>
  rw[h1]at h;refine Eq.trans az ?_;refine bu (k:=kBk) (s:=a.ops) rfl rfl ?_;have h:neI (dO a.ops) 0=false:=h;rw[h];refine Eq.trans ax ?_;have h2:eqI a.kind 2=false:=by
   unfold eqI at h1 ⊢;have:=eq_of_beq h1;rw[this]; rfl
  rw[h2]; exact ax
 |false=>
  rw[h1]at h;refine Eq.trans ax ?_;cases h2:eqI a.kind 2 with
  |true=>
   rw[h2]at h;refine Eq.trans az ?_;have h:dN (bQ false a.key ⟨#[]⟩)=false:=h;cases h3:bQ false a.key ⟨#[]⟩with
   |true=>exact az
   |false=>rw[h3]at h; cases h
  |false=>exact ax
theorem Rn{a:ActM}(h:kCk.ok a)(he:early a=false):txOk2 a:=by
 obtain⟨r1,r2,r3,hl⟩:=h;unfold early at he;refine⟨⟨r1,r2,r3,fun h2=>?_,hl⟩,fun h1=>?_⟩
 ·cases h1:eqI a.kind 1 with
  |true=>
   unfold eqI at h1 h2;have:=eq_of_beq h1;have:=eq_of_beq h2;omega
  |false=>
   rw[h1,h2]at he;have he:dN (bQ false a.key ⟨#[]⟩)=false:=he;cases h3:bQ false a.key ⟨#[]⟩with
   |true=>have:=(l9 h3).2.1; omega
   |false=>rw[h3]at he; cases he
 ·rw[h1]at he;have he:neI (dO a.ops) 0=false:=he;refine rU ?_;unfold neI at he;unfold eqI;exact beq_iff_eq.2 (bne_eq_false_iff_eq.1 he)
theorem ada(a:ActM):ckE (kAx.at a) (kLn.at (aN a)) (kSa.at ((aG (aN a)).1,a)) (aN a) (g_ a) (g_ (aG (aN a)).1) (aG (aN a)).2.1 (aG (aN a)).2.2 (jk (aG (aN a)).1 a)=some (.int .i64 (match wH a with | true=>0 | false=>2),mkSt []):=by
 unfold ckE wH;refine bu (k:=kAx) (s:=a) rfl rfl ?_;refine bu (k:=kLn) (s:=aN a) rfl rfl ?_;cases neI (aG (aN a)).2.2 0 with
 |true=>exact az
 |false=>
 refine Eq.trans ax ?_;cases (aG (aN a)).2.1 with
 |false=>exact az
 |true=>
 refine Eq.trans ax ?_;refine bu (k:=kSa) (s:=((aG (aN a)).1,a)) rfl rfl ?_;cases jk (aG (aN a)).1 a<;>rfl
theorem Xe{a:ActM}(h:kCk.ok a):CRX P 0 22 [g_ a] [] (.int .i64 (dQ a)) []:=by
 unfold dQ;cases hk:vG a.kind with
 |false=>
  refine CRX.of (aF (O9 a cZ)) au (IU h.2.2.2 zg) (n:=50) (pol:=aJ) (fl:=[]) (ts:=[]) ?_;rw[wV,hk]; rfl
 |true=>
  cases he:early a with
  |true=>
   refine CRX.of (aF (O9 a cZ)) au (IU h.2.2.2 zg) (n:=50) (pol:=aJ) (fl:=[]) (ts:=[]) ?_;rw[wV,hk];exact Wi he
  |false=>
   refine CRX.of (aF (O9 a a)) au (IU h.2.2.2 (Rn h he)) (n:=50) (pol:=aJ) (fl:=[]) (ts:=[]) ?_;rw[wV,hk];refine(Z9 he).trans ((ada a).trans ?_);cases wH a<;>rfl
theorem aaH:CallOkX P 0 22 (jS kCk.C kCk.D fun a=> .leaf (.int .i64 (dQ a),[])):=f_ kCk fun a ho v bs' hev=>by
 simp only[DT.eval,Option.some.injEq,Prod.mk.injEq]at hev;obtain⟨rfl,rfl⟩:=hev;exact Xe ho
def abr(CC:List Value->List Blk->Bool)(r:Int):Ct:=bJ P aJ 0 21 zD (bJ P aJ 0 22 (iL CC (.leaf (.int .i64 r,[]))) ctF)
def Dpc:HeadX:=⟨0,44,[0,2,3,14,15,16],[.val, .val, .val, .val, .val, .val],[],aJ⟩
def Bpc:Code:=(bK P 8 0).getD .skip
theorem NE:bK P 8 0=some Bpc:=by kernel_rfl
theorem Iw:Occ P 8 (.block 0 (.loop Bpc)):=dA NE
theorem XL(CC:List Value->List Blk->Bool)(r:Int)(n b:Nat)(c:List Value)(z i:Int):aQ P E (abr CC r) 50 8 Bpc Dpc [ai 6 n b c, .string ⟨#[]⟩, .nilIface,ai 6 n b c, .int .i64 z, .int .i64 i] [] =
 (ag (ltI i z)
 (ae (Bool.and (Nat.beq 6 6) (inI i n))
 (ae (Bool.and (Nat.ble (Nat.add (atN i 6) 6) c.length) (jP [.int .i64,.int .i64,.int .i64,.int .i64,.string,.slice 3] c (atN i 6)))
 (ae (CC [.agg ⟨[.int .i64 (asI (ah c (atN i 6))),.int .i64 (asI (ah c (Nat.add (atN i 6) 1))),.int .i64 (asI (ah c (Nat.add (Nat.add (atN i 6) 1) 1))),.int .i64 (asI (ah c (Nat.add (Nat.add (Nat.add (atN i 6) 1) 1) 1))),.string (asS (ah c (Nat.add (Nat.add (Nat.add (Nat.add (atN i 6) 1) 1) 1) 1))),.iface 18446744073709551619 (.agg ⟨(.slice none (zN (ah c (Nat.add (Nat.add (Nat.add (Nat.add (Nat.add (atN i 6) 1) 1) 1) 1) 1))) (zB (ah c (Nat.add (Nat.add (Nat.add (Nat.add (Nat.add (atN i 6) 1) 1) 1) 1) 1))))::(zC (ah c (Nat.add (Nat.add (Nat.add (Nat.add (Nat.add (atN i 6) 1) 1) 1) 1) 1)))⟩)]⟩] [])
 (ag (neI r 0)
 (some ((.tuple ⟨[.int .i64 (-1),.iface 18446744073709551622 (.agg ⟨(.slice none n b)::c⟩),.string ⟨#[]⟩,.iface 75 (.iface 18446744073709551616 (.agg ⟨[.slice none 0 0,.int .i64 i,.int .i64 r]⟩)),.iface 18446744073709551622 (.agg ⟨(.slice none n b)::c⟩),.int .i64 z,.int .i64 i]⟩),(mkSt [])))
 (some ((.tuple ⟨[.int .i64 0,.iface 18446744073709551622 (.agg ⟨(.slice none n b)::c⟩),.string ⟨#[]⟩,.nilIface,.iface 18446744073709551622 (.agg ⟨(.slice none n b)::c⟩),.int .i64 z,.int .i64 (aB .i64 i 1)]⟩),(mkSt [])))))))
 (some ((.tuple ⟨[.int .i64 1,.iface 18446744073709551622 (.agg ⟨(.slice none n b)::c⟩),.string ⟨#[]⟩,.nilIface,.iface 18446744073709551622 (.agg ⟨(.slice none n b)::c⟩),.int .i64 z,.int .i64 i]⟩),(mkSt [])))):=by kernel_rfl
theorem yN{n b:Nat}{c:List Value}:zN (ai 3 n b c)=n:=by kernel_rfl
theorem CJ{n b:Nat}{c:List Value}:zB (ai 3 n b c)=b:=by kernel_rfl
theorem Dh{n b:Nat}{c:List Value}:zC (ai 3 n b c)=c:=by kernel_rfl
theorem X_{n b:Nat}{c:List Value}:isZ 3 (ai 3 n b c)=true:=by kernel_rfl
theorem AY{l:List ActM}{i:Nat}(h:i<l.length):ah (aH.all l) (atN (i:Int) 6) = .int .i64 l[i].kind:=by
 have e:atN (i:Int) 6=i*aH.sz+0:=by simp[atN]; rfl
 rw[e,aH.nth h (by decide)]; rfl
theorem Aj{l:List ActM}{i:Nat}(h:i<l.length):ah (aH.all l) (Nat.add (atN (i:Int) 6) 1) = .int .i64 l[i].node:=by
 have e:Nat.add (atN (i:Int) 6) 1=i*aH.sz+1:=by simp[atN]; rfl
 rw[e,aH.nth h (by decide)]; rfl
theorem Bv{l:List ActM}{i:Nat}(h:i<l.length):ah (aH.all l) (Nat.add (Nat.add (atN (i:Int) 6) 1) 1) = .int .i64 l[i].n:=by
 have e:Nat.add (Nat.add (atN (i:Int) 6) 1) 1=i*aH.sz+2:=by simp[atN]; rfl
 rw[e,aH.nth h (by decide)]; rfl
theorem BR{l:List ActM}{i:Nat}(h:i<l.length):ah (aH.all l) (Nat.add (Nat.add (Nat.add (atN (i:Int) 6) 1) 1) 1) = .int .i64 l[i].t:=by
 have e:Nat.add (Nat.add (Nat.add (atN (i:Int) 6) 1) 1) 1=i*aH.sz+3:=by simp[atN]; rfl
 rw[e,aH.nth h (by decide)]; rfl
theorem Ak{l:List ActM}{i:Nat}(h:i<l.length):ah (aH.all l) (Nat.add (Nat.add (Nat.add (Nat.add (atN (i:Int) 6) 1) 1) 1) 1) = .string l[i].key:=by
 have e:Nat.add (Nat.add (Nat.add (Nat.add (atN (i:Int) 6) 1) 1) 1) 1=i*aH.sz+4:=by simp[atN]; rfl
 rw[e,aH.nth h (by decide)]; rfl
theorem zh{l:List ActM}{i:Nat}(h:i<l.length):ah (aH.all l) (Nat.add (Nat.add (Nat.add (Nat.add (Nat.add (atN (i:Int) 6) 1) 1) 1) 1) 1)=aK l[i].ops:=by
 have e:Nat.add (Nat.add (Nat.add (Nat.add (Nat.add (atN (i:Int) 6) 1) 1) 1) 1) 1=i*aH.sz+5:=by simp[atN]; rfl
 rw[e,aH.nth h (by decide)]; rfl
theorem sO{l:List ActM}{i:Nat}(h:i<l.length):jP [.int .i64, .int .i64, .int .i64, .int .i64, .string, .slice 3] (aH.all l) (atN (i:Int) 6)=true:=by
 show and (dw (.int .i64) (ah (aH.all l) (atN (i:Int) 6))) (and (dw (.int .i64) (ah (aH.all l) (Nat.add (atN (i:Int) 6) 1))) (and (dw (.int .i64) (ah (aH.all l) (Nat.add (Nat.add (atN (i:Int) 6) 1) 1))) (and (dw (.int .i64) (ah (aH.all l) (Nat.add (Nat.add (Nat.add (atN (i:Int) 6) 1) 1) 1))) (and (dw .string (ah (aH.all l) (Nat.add (Nat.add (Nat.add (Nat.add (atN (i:Int) 6) 1) 1) 1) 1))) (and (dw (.slice 3) (ah (aH.all l) (Nat.add (Nat.add (Nat.add (Nat.add (Nat.add (atN (i:Int) 6) 1) 1) 1) 1) 1))) true)))))=true;rw[AY h,Aj h,Bv h,BR h,Ak h,zh h];show and (isZ 3 (aK l[i].ops)) true=true;unfold aK;rw[X_]; rfl
def pcV(x:Value)(l:List ActM)(i:Int):List Value:=[fzActs l, .string ⟨#[]⟩,x,fzActs l, .int .i64 (af l.length), .int .i64 i]
def BB(a:ActM):Ct:=abr (kCk.at a) (dQ a)
theorem Qv{a:ActM}(h:kCk.ok a):CtOk P (BB a):=aO (aO aW (eF kCk aaH (s:=a) h)) uj
theorem xX(a:ActM):Value.agg ⟨[.int .i64 a.kind, .int .i64 a.node, .int .i64 a.n, .int .i64 a.t, .string a.key, .iface 18446744073709551619 (.agg ⟨.slice none a.ops.length 0::EOp.all a.ops⟩)]⟩=g_ a:=by
 unfold g_ kF aK ai;rw[ja]
theorem Zi{l:List ActM}{i:Nat}(hi:i<l.length)(hl:l.length<4194304):aQ P E (BB l[i]) 50 8 Bpc Dpc (pcV .nilIface l i) []=match neI (dQ l[i]) 0 with
  |false=>some (.tuple ⟨exV .normal::pcV .nilIface l ((i+1:Nat):Int)⟩,mkSt [])
  |true=>some (.tuple ⟨exV .ret::pcV (gX i (dQ l[i])) l i⟩,mkSt []):=by
 unfold pcV BB;have q:=XL (kCk.at l[i]) (dQ l[i]) l.length 0 (aH.all l) (af l.length) i;refine Eq.trans ?_ (q.trans ?_)
 ·rfl
 clear q;have n6:(aH.all l).length=Nat.mul l.length 6:=aH.all_length l;have g1:ltI (i:Int) (af l.length)=true:=by unfold ltI af; exact decide_eq_true (by omega)
 have g2:inI (i:Int) l.length=true:=by unfold inI; exact decide_eq_true (by omega)
 have g3:Nat.ble (Nat.add (atN (i:Int) 6) 6) (Nat.mul l.length 6)=true:=Nat.ble_eq_true_of_le (by
  show(i:Int).toNat*6+6<=l.length*6;have:(i:Int).toNat=i:=by omega
  omega)
 have g4:=sO hi;have a1:aB .i64 (i:Int) 1=((i+1:Nat):Int):=by unfold aB; rw[wrap64 (by omega) (by omega)]; omega
 have aI:∀ k n,asI (.int k n)=n:=fun _ _=>rfl;have aS:∀ b,asS (.string b)=b:=fun _=>rfl;have b6:Nat.beq 6 6=true:=rfl;have zn:zN (aK l[i].ops)=l[i].ops.length:=yN;have zb:zB (aK l[i].ops)=0:=CJ;have zc:zC (aK l[i].ops)=EOp.all l[i].ops:=Dh;have hfz:(Value.iface 18446744073709551622 (.agg ⟨.slice none l.length 0::aH.all l⟩))=fzActs l:=by unfold fzActs ai FZ; rfl
 have hfp:∀ i e:Int,(Value.iface 75 (.iface 18446744073709551616 (.agg ⟨[.slice none 0 0, .int .i64 i, .int .i64 e]⟩)))=gX i e:=fun i e=>by unfold gX jl FZ; rfl
 simp only[n6,g1,g2,g3,g4,AY hi,Aj hi,Bv hi,BR hi,Ak hi,zh hi,aI,aS,zn,zb,zc,a1,b6,Bool.and_self,az,aA,xX,hfz,hfp];refine bu (k:=kCk) (s:=l[i]) rfl rfl ?_;cases neI (dQ l[i]) 0<;>rfl
def cO:Nat->List ActM->Option (Nat×Int)
 |_,[]=>none
 |i,a::l=>match neI (dQ a) 0 with
  |true=>some (i,dQ a)
  |false=>cO (i+1) l
theorem aeJ{l:List ActM}:aQ P E (BB cZ) 50 8 Bpc Dpc (pcV .nilIface l l.length) []=some (.tuple ⟨exV (.exit 0)::pcV .nilIface l l.length⟩,mkSt []):=by
 unfold pcV BB;have q:=XL (kCk.at cZ) (dQ cZ) l.length 0 (aH.all l) (af l.length) (l.length:Int);refine Eq.trans ?_ (q.trans ?_)
 ·rfl
 clear q;have g1:ltI (l.length:Int) (af l.length)=false:=by unfold ltI af; exact decide_eq_false (by omega)
 have hfz:(Value.iface 18446744073709551622 (.agg ⟨.slice none l.length 0::aH.all l⟩))=fzActs l:=by unfold fzActs ai FZ; rfl
 rw[g1];refine Eq.trans ax ?_;simp only[hfz]
 rfl
theorem af_:kCk.ok cZ:=⟨rfl,rfl,rfl,by show(0:Nat)<_; decide⟩
theorem Ry(l:List ActM)(hl:l.length<4194304)(ha:∀ a∈l,kCk.ok a):∀ (k i:Nat),i+k=l.length->
  LRX P 8 0 Bpc Dpc.head (pcV .nilIface l i) [] (match cO i (l.drop i)with | none=> .normal | some _=> .ret) (match cO i (l.drop i)with | none=>pcV .nilIface l l.length | some x=>pcV (gX x.1 x.2) l x.1) []
 |0,i,h=>by
  obtain rfl:i=l.length:=by omega
  rw[List.drop_length];exact LRX.stop (n:=50) (aF (BB cZ)) au (Qv af_) Iw (e:= .exit 0) aeJ (by intro h; cases h)
 |k+1,i,h=>by
  have hi:i<l.length:=by omega
  have q:=Zi hi hl;have hk:=Qv (ha l[i] (List.getElem_mem hi));rw[List.drop_eq_getElem_cons hi];simp only[cO];cases ho:neI (dQ l[i]) 0 with
  |false=>
   rw[ho]at q;exact LRX.again (n:=50) (aF (BB l[i])) au hk Iw q (Ry l hl ha k (i+1) (by omega))
  |true=>
   rw[ho]at q;exact LRX.stop (n:=50) (aF (BB l[i])) au hk Iw (e:= .ret) q (by intro h; cases h)
theorem lH{a b:List ActM}(h:fzActs a=fzActs b):a=b:=aH.all_inj _ _ (ry h)
def kPc:Con (List ActM) where
 enc l:=(pcV .nilIface l 0,[])
 ok l:=l.length<4194304/\∀ a∈l,kCk.ok a
 inj a b h:=by
  unfold pcV at h;simp only[Prod.mk.injEq,List.cons.injEq,true_and,and_true]at h;exact lH h.1
 dflt:=[]
def abl(l:List ActM):DT (Ex×List Value×List Blk):= .ite (cO 0 l).isNone (.leaf (.normal,pcV .nilIface l l.length,[])) (.leaf (.ret,pcV (gX ((cO 0 l).getD (0,0)).1 ((cO 0 l).getD (0,0)).2) l ((cO 0 l).getD (0,0)).1,[]))
theorem Xl:LoopOkX P 8 0 Bpc Dpc.head (kP kPc.C kPc.D abl):=
 fQ kPc (bz NE) fun l ho e vs' bs' hev=>by
  have q:=Ry l ho.1 ho.2 l.length 0 (by omega);rw[List.drop_zero]at q;unfold abl at hev;cases hb:cO 0 l with
  |none=>
   rw[hb]at hev q;simp only[Option.isNone_none,DT.eval,Option.some.injEq,Prod.mk.injEq]at hev;obtain⟨rfl,rfl,rfl⟩:=hev;exact q
  |some j=>
   rw[hb]at hev q;simp only[Option.isNone_some,Option.getD_some,DT.eval,Option.some.injEq,Prod.mk.injEq]at hev;obtain⟨rfl,rfl,rfl⟩:=hev;exact q
def aak:Pol:=fun t=>match Nat.beq t 61 with
 |true=>some [.val, .own]
 |false=>none
def GZ(CC TC:List Value->List Blk->Bool)(s:ByteArray)(bs:List Blk):Ct:=bJ P aak 1 46 (iL CC (.leaf (.tuple ⟨[]⟩,bs))) (bJ P aJ 0 24 (iL TC (.leaf (.string s,[]))) ctF)
def Dpb:HeadX:=⟨1,44,[7,29,30,31],[.val, .val, .val, .val],[],aak⟩
def Bpb:Code:=(bK P 8 2).getD .skip
theorem Gs:bK P 8 2=some Bpb:=by kernel_rfl
theorem CV:Occ P 8 (.block 2 (.loop Bpb)):=dA Gs
theorem Qp(CC TC:List Value->List Blk->Bool)(s:ByteArray)(n b:Nat)(c:List Value)(z i:Int):aQ P E (GZ CC TC s [.cells [dP, .slice (some ⟨1,0,none⟩) 0 unk] 61 true, .cells [] 5 false]) 50 8 Bpb Dpb [dP,ai 6 n b c, .int .i64 z, .int .i64 i] [.cells [.pointer none, .slice (some ⟨1,0,none⟩) 0 unk] 61 true, .cells [] 5 false] =
 (ag (ltI i z)
 (ae (Bool.and (Nat.beq 6 6) (inI i n))
 (ae (Bool.and (Nat.ble (Nat.add (atN i 6) 6) c.length) (jP [.int .i64,.int .i64,.int .i64,.int .i64,.string,.slice 3] c (atN i 6)))
 (ae (TC [.agg ⟨[.int .i64 (asI (ah c (atN i 6))),.int .i64 (asI (ah c (Nat.add (atN i 6) 1))),.int .i64 (asI (ah c (Nat.add (Nat.add (atN i 6) 1) 1))),.int .i64 (asI (ah c (Nat.add (Nat.add (Nat.add (atN i 6) 1) 1) 1))),.string (asS (ah c (Nat.add (Nat.add (Nat.add (Nat.add (atN i 6) 1) 1) 1) 1))),.iface 18446744073709551619 (.agg ⟨(.slice none (zN (ah c (Nat.add (Nat.add (Nat.add (Nat.add (Nat.add (atN i 6) 1) 1) 1) 1) 1))) (zB (ah c (Nat.add (Nat.add (Nat.add (Nat.add (Nat.add (atN i 6) 1) 1) 1) 1) 1))))::(zC (ah c (Nat.add (Nat.add (Nat.add (Nat.add (Nat.add (atN i 6) 1) 1) 1) 1) 1)))⟩)]⟩] [])
 (ae (bI s ⟨#[10]⟩)
 (ae (CC [.pointer (Option.some (Addr.mk 0 0 none))] [Blk.cells [.pointer none,.slice (Option.some (Addr.mk 1 0 none)) 0 18446744073709551616] 61 true,Blk.cells [] 5 false])
 (ae (List.all (Go.byteCells (aj s ⟨#[10]⟩)) oneCell)
 (ae (Nat.ble (Nat.add 0 (ByteArray.size (aj s ⟨#[10]⟩))) 4194304)
 (ae (Nat.ble (Nat.add 0 (Nat.mul (Nat.add 0 (ByteArray.size (aj s ⟨#[10]⟩))) 1)) (List.length (List.append [] (Go.byteCells (aj s ⟨#[10]⟩)))))
 (some ((.tuple ⟨[.int .i64 0,.pointer (Option.some (Addr.mk 0 0 none)),.iface 18446744073709551622 (.agg ⟨(.slice none n b)::c⟩),.int .i64 z,.int .i64 (aB .i64 i 1)]⟩),(mkSt [Blk.cells [.pointer (Option.some (Addr.mk 0 0 none)),.slice (Option.some (Addr.mk 1 0 none)) (Nat.add 0 (ByteArray.size (aj s ⟨#[10]⟩))) 18446744073709551616] 61 true,Blk.cells (renL true (rhoO 0 [0,6]) (takeC (Nat.mul (Nat.add 0 (ByteArray.size (aj s ⟨#[10]⟩))) 1) (ak 0 (List.append [] (Go.byteCells (aj s ⟨#[10]⟩)))))) 5 false])))))))))))
 (some ((.tuple ⟨[.int .i64 3,.pointer (Option.some (Addr.mk 0 0 none)),.iface 18446744073709551622 (.agg ⟨(.slice none n b)::c⟩),.int .i64 z,.int .i64 i]⟩),(mkSt [Blk.cells [.pointer none,.slice (Option.some (Addr.mk 1 0 none)) 0 18446744073709551616] 61 true,Blk.cells [] 5 false])))):=by kernel_rfl
theorem QM(CC TC:List Value->List Blk->Bool)(s:ByteArray)(n b:Nat)(c:List Value)(z i:Int)(m:Nat)(d:List Value):aQ P E (GZ CC TC s [.cells [dP, .slice (some ⟨1,0,none⟩) m unk] 61 true, .cells d 5 false]) 50 8 Bpb Dpb [dP,ai 6 n b c, .int .i64 z, .int .i64 i] [.cells [dP, .slice (some ⟨1,0,none⟩) m unk] 61 true, .cells d 5 false] =
 (ag (ltI i z)
 (ae (Bool.and (Nat.beq 6 6) (inI i n))
 (ae (Bool.and (Nat.ble (Nat.add (atN i 6) 6) c.length) (jP [.int .i64,.int .i64,.int .i64,.int .i64,.string,.slice 3] c (atN i 6)))
 (ae (TC [.agg ⟨[.int .i64 (asI (ah c (atN i 6))),.int .i64 (asI (ah c (Nat.add (atN i 6) 1))),.int .i64 (asI (ah c (Nat.add (Nat.add (atN i 6) 1) 1))),.int .i64 (asI (ah c (Nat.add (Nat.add (Nat.add (atN i 6) 1) 1) 1))),.string (asS (ah c (Nat.add (Nat.add (Nat.add (Nat.add (atN i 6) 1) 1) 1) 1))),.iface 18446744073709551619 (.agg ⟨(.slice none (zN (ah c (Nat.add (Nat.add (Nat.add (Nat.add (Nat.add (atN i 6) 1) 1) 1) 1) 1))) (zB (ah c (Nat.add (Nat.add (Nat.add (Nat.add (Nat.add (atN i 6) 1) 1) 1) 1) 1))))::(zC (ah c (Nat.add (Nat.add (Nat.add (Nat.add (Nat.add (atN i 6) 1) 1) 1) 1) 1)))⟩)]⟩] [])
 (ae (bI s ⟨#[10]⟩)
 (ae (Nat.ble (Nat.add 0 (Nat.mul m 1)) d.length)
 (ae (CC [.pointer (Option.some (Addr.mk 0 0 none))] [Blk.cells [.pointer (Option.some (Addr.mk 0 0 none)),.slice (Option.some (Addr.mk 1 0 none)) m 18446744073709551616] 61 true,Blk.cells (renL true (rhoO 0 [0,3]) (takeC (Nat.mul m 1) (ak 0 d))) 5 false])
 (ae (List.all (Go.byteCells (aj s ⟨#[10]⟩)) oneCell)
 (ae (Nat.ble (Nat.add m (ByteArray.size (aj s ⟨#[10]⟩))) 4194304)
 (ae (Nat.beq (Nat.add 0 (Nat.mul m 1)) (List.length (renL true (bZ [0] 4) d)))
 (ae (Nat.ble (Nat.add 0 (Nat.mul (Nat.add m (ByteArray.size (aj s ⟨#[10]⟩))) 1)) (List.length (List.append (gI 0 (renL true (bZ [0] 4) d)) (Go.byteCells (aj s ⟨#[10]⟩)))))
 (some ((.tuple ⟨[.int .i64 0,.pointer (Option.some (Addr.mk 0 0 none)),.iface 18446744073709551622 (.agg ⟨(.slice none n b)::c⟩),.int .i64 z,.int .i64 (aB .i64 i 1)]⟩),(mkSt [Blk.cells [.pointer (Option.some (Addr.mk 0 0 none)),.slice (Option.some (Addr.mk 1 0 none)) (Nat.add m (ByteArray.size (aj s ⟨#[10]⟩))) 18446744073709551616] 61 true,Blk.cells (renL true (rhoO 0 [0,6]) (takeC (Nat.mul (Nat.add m (ByteArray.size (aj s ⟨#[10]⟩))) 1) (ak 0 (List.append (gI 0 (renL true (bZ [0] 4) d)) (Go.byteCells (aj s ⟨#[10]⟩)))))) 5 false])))))))))))))
 (ae (Nat.ble (Nat.add 0 (Nat.mul m 1)) d.length)
 (some ((.tuple ⟨[.int .i64 3,.pointer (Option.some (Addr.mk 0 0 none)),.iface 18446744073709551622 (.agg ⟨(.slice none n b)::c⟩),.int .i64 z,.int .i64 i]⟩),(mkSt [Blk.cells [.pointer (Option.some (Addr.mk 0 0 none)),.slice (Option.some (Addr.mk 1 0 none)) m 18446744073709551616] 61 true,Blk.cells (renL true (rhoO 0 [0,2]) (takeC (Nat.mul m 1) (ak 0 d))) 5 false]))))):=by kernel_rfl
def kU(a:ActM):List UInt8:=(aN a).data.toList++[10]
theorem FV(a:ActM):Go.byteCells (aj (aN a) ⟨#[10]⟩)=bc (kU a):=by
 rw[AZ];unfold kU aj;rw[ByteArray.data_append];congr 1;simp
theorem JQ(a:ActM):(aj (aN a) ⟨#[10]⟩).size=(bc (kU a)).length:=by
 rw[a_,fK];unfold kU;rw[List.length_append,<-size_eq]; rfl
theorem ET:∀ l:List UInt8,List.all (bc l) oneCell=true
 |[]=>rfl
 |x::l=>by
  have:=ET l;unfold bc at this ⊢;simp only[List.map_cons,List.all_cons,this,Bool.and_true]
  rfl
def pbB(p:Value)(t:List UInt8):List Blk:=[.cells [p, .slice (some ⟨1,0,none⟩) (bc t).length unk] 61 true, .cells (bc t) 5 false]
def pbV(l:List ActM)(i:Int):List Value:=[dP,fzActs l, .int .i64 (af l.length), .int .i64 i]
def pbP(u:Bool):Value:=bif u then dP else .pointer none
def kCc:Con (Bool×List UInt8) where
 enc x:=([dP],pbB (pbP x.1) x.2)
 ok _:=True
 inj a b h:=by
  obtain⟨a1,a2⟩:=a;obtain⟨b1,b2⟩:=b;unfold pbB at h;simp only[Prod.mk.injEq,List.cons.injEq,Blk.cells.injEq,true_and,and_true]at h;obtain⟨⟨h1,_⟩,h2⟩:=h;have:=VL h2;subst this;cases a1<;>cases b1<;>first | rfl | (cases h1)
 dflt:=(true,[])
theorem afL:CallOkX P 1 46 (jS kCc.C kCc.D fun x=> .leaf (.tuple ⟨[]⟩,pbB dP x.2)):=f_ kCc fun x ho v bs' hev=>by
 simp only[DT.eval,Option.some.injEq,Prod.mk.injEq]at hev;obtain⟨rfl,rfl⟩:=hev;obtain⟨u,t⟩:=x;cases u
 ·exact VB (Or.inl rfl)
 ·exact VB (Or.inr rfl)
theorem VX{l:List ActM}{i:Nat}(hi:i<l.length)(hl:l.length<4194304)(hz:(aN l[i]).size<=4000000):aQ P E (GZ (kCc.at (false,[])) (kAx.at l[i]) (aN l[i]) (pbB dP [])) 50 8 Bpb Dpb (pbV l i) (pbB (.pointer none) [])=some (.tuple ⟨exV .normal::pbV l ((i+1:Nat):Int)⟩,mkSt (pbB dP (kU l[i]))):=by
 have q:=Qp (kCc.at (false,[])) (kAx.at l[i]) (aN l[i]) l.length 0 (aH.all l) (af l.length) i;refine Eq.trans ?_ (q.trans ?_)
 ·rfl
 clear q;have n6:(aH.all l).length=Nat.mul l.length 6:=aH.all_length l;have g1:ltI (i:Int) (af l.length)=true:=by unfold ltI af; exact decide_eq_true (by omega)
 have g2:inI (i:Int) l.length=true:=by unfold inI; exact decide_eq_true (by omega)
 have g3:Nat.ble (Nat.add (atN (i:Int) 6) 6) (Nat.mul l.length 6)=true:=Nat.ble_eq_true_of_le (by
  show(i:Int).toNat*6+6<=l.length*6;have:(i:Int).toNat=i:=by omega
  omega)
 have g4:=sO hi;have a1:aB .i64 (i:Int) 1=((i+1:Nat):Int):=by unfold aB; rw[wrap64 (by omega) (by omega)]; omega
 have aI:∀ k n,asI (.int k n)=n:=fun _ _=>rfl;have aS:∀ b,asS (.string b)=b:=fun _=>rfl;have b6:Nat.beq 6 6=true:=rfl;have zn:zN (aK l[i].ops)=l[i].ops.length:=yN;have zb:zB (aK l[i].ops)=0:=CJ;have zc:zC (aK l[i].ops)=EOp.all l[i].ops:=Dh;have hfz:(Value.iface 18446744073709551622 (.agg ⟨.slice none l.length 0::aH.all l⟩))=fzActs l:=by unfold fzActs ai FZ; rfl
 have hs:=JQ l[i];have hc:=FV l[i];have z0:∀ n,Nat.add 0 n=n:=Nat.zero_add;have z1:∀ n,Nat.mul n 1=n:=Nat.mul_one;have nA:∀ c:List Value,List.append [] c=c:=fun _=>rfl;have oc:∀ c,gI 0 c=c:=ug;have ba:∀ t u,List.append (bc t) (bc u)=bc (t++u):=fun t u=>(List.map_append ..).symm;have bl:∀ t u,Nat.add (bc t).length (bc u).length=(bc (t++u)).length:=fun t u=>by simp[bc]
 have bb:∀ n,Nat.ble n n=true:=fun n=>Nat.ble_eq_true_of_le (Nat.le_refl n);have be:∀ n,Nat.beq n n=true:=Nat.beq_refl;simp only[n6,g1,g2,g3,g4,AY hi,Aj hi,Bv hi,BR hi,Ak hi,zh hi,aI,aS,zn,zb,zc,a1,b6,Bool.and_self,az,aA,xX,hfz,hs,hc,z0,z1,nA,oc,kz,ET,lI,ba,bl,bb,be];refine bu (k:=kAx) (s:=l[i]) rfl rfl ?_;refine aT (bM (by rw[Nat.add_eq]; show _+1<=_; omega)) ?_;refine bu (k:=kCc) (s:=(false,[])) rfl rfl ?_;refine aT (bM (by rw[fK]; unfold kU; rw[List.length_append,<-size_eq]; show _+1<=_; omega)) ?_
 rfl
theorem YP{l:List ActM}{i:Nat}{t:List UInt8}(hi:i<l.length)(hl:l.length<4194304)(hz:(aN l[i]).size<=4000000)(ht:t.length+(aN l[i]).size<=4194303):aQ P E (GZ (kCc.at (true,t)) (kAx.at l[i]) (aN l[i]) (pbB dP t)) 50 8 Bpb Dpb (pbV l i) (pbB dP t)=some (.tuple ⟨exV .normal::pbV l ((i+1:Nat):Int)⟩,mkSt (pbB dP (t++kU l[i]))):=by
 have q:=QM (kCc.at (true,t)) (kAx.at l[i]) (aN l[i]) l.length 0 (aH.all l) (af l.length) i (bc t).length (bc t);refine Eq.trans ?_ (q.trans ?_)
 ·rfl
 clear q;have n6:(aH.all l).length=Nat.mul l.length 6:=aH.all_length l;have g1:ltI (i:Int) (af l.length)=true:=by unfold ltI af; exact decide_eq_true (by omega)
 have g2:inI (i:Int) l.length=true:=by unfold inI; exact decide_eq_true (by omega)
 have g3:Nat.ble (Nat.add (atN (i:Int) 6) 6) (Nat.mul l.length 6)=true:=Nat.ble_eq_true_of_le (by
  show(i:Int).toNat*6+6<=l.length*6;have:(i:Int).toNat=i:=by omega
  omega)
 have g4:=sO hi;have a1:aB .i64 (i:Int) 1=((i+1:Nat):Int):=by unfold aB; rw[wrap64 (by omega) (by omega)]; omega
 have aI:∀ k n,asI (.int k n)=n:=fun _ _=>rfl;have aS:∀ b,asS (.string b)=b:=fun _=>rfl;have b6:Nat.beq 6 6=true:=rfl;have zn:zN (aK l[i].ops)=l[i].ops.length:=yN;have zb:zB (aK l[i].ops)=0:=CJ;have zc:zC (aK l[i].ops)=EOp.all l[i].ops:=Dh;have hfz:(Value.iface 18446744073709551622 (.agg ⟨.slice none l.length 0::aH.all l⟩))=fzActs l:=by unfold fzActs ai FZ; rfl
 have hs:=JQ l[i];have hc:=FV l[i];have z0:∀ n,Nat.add 0 n=n:=Nat.zero_add;have z1:∀ n,Nat.mul n 1=n:=Nat.mul_one;have nA:∀ c:List Value,List.append [] c=c:=fun _=>rfl;have oc:∀ c,gI 0 c=c:=ug;have ba:∀ t u,List.append (bc t) (bc u)=bc (t++u):=fun t u=>(List.map_append ..).symm;have bl:∀ t u,Nat.add (bc t).length (bc u).length=(bc (t++u)).length:=fun t u=>by simp[bc]
 have bb:∀ n,Nat.ble n n=true:=fun n=>Nat.ble_eq_true_of_le (Nat.le_refl n);have be:∀ n,Nat.beq n n=true:=Nat.beq_refl;simp only[n6,g1,g2,g3,g4,AY hi,Aj hi,Bv hi,BR hi,Ak hi,zh hi,aI,aS,zn,zb,zc,a1,b6,Bool.and_self,az,aA,xX,hfz,hs,hc,z0,z1,nA,oc,kz,ET,lI,ba,bl,bb,be];refine bu (k:=kAx) (s:=l[i]) rfl rfl ?_;refine aT (bM (by rw[Nat.add_eq]; show _+1<=_; omega)) ?_;refine bu (k:=kCc) (s:=(true,t)) rfl rfl ?_;refine aT (bM (by rw[fK,List.length_append]; unfold kU; rw[List.length_append,<-size_eq]; show _+(_+1)<=_; omega)) ?_
 rfl
def EL(a:ActM)(u:Bool)(t:List UInt8):Ct:=GZ (kCc.at (u,t)) (kAx.at a) (aN a) (pbB dP t)
theorem C9{a:ActM}(h:EM a){u:Bool}{t:List UInt8}:CtOk P (EL a u t):=aO (aO aW (eF kAx RU (s:=a) h)) (eF kCc afL (s:=(u,t)) trivial)
theorem acZ{l:List ActM}(h:l=[]):aQ P E (EL cZ false []) 50 8 Bpb Dpb (pbV l 0) (pbB (.pointer none) [])=some (.tuple ⟨exV (.exit 2)::pbV l l.length⟩,mkSt (pbB (.pointer none) [])):=by
 subst h;have q:=Qp (kCc.at (false,[])) (kAx.at cZ) (aN cZ) 0 0 (aH.all []) 0 0;have g1:ltI 0 0=false:=rfl;rw[g1]at q;refine Eq.trans ?_ (q.trans (ax.trans ?_))
 ·rfl
 ·have hfz:(Value.iface 18446744073709551622 (.agg ⟨.slice none 0 0::aH.all []⟩))=fzActs []:=by unfold fzActs ai FZ; rfl
  rw[hfz]; rfl
theorem acC{l:List ActM}{t:List UInt8}:aQ P E (EL cZ true t) 50 8 Bpb Dpb (pbV l l.length) (pbB dP t)=some (.tuple ⟨exV (.exit 2)::pbV l l.length⟩,mkSt (pbB dP t)):=by
 have q:=QM (kCc.at (true,t)) (kAx.at cZ) (aN cZ) l.length 0 (aH.all l) (af l.length) (l.length:Int) (bc t).length (bc t);refine Eq.trans ?_ (q.trans ?_)
 ·rfl
 clear q;have g1:ltI (l.length:Int) (af l.length)=false:=by unfold ltI af; exact decide_eq_false (by omega)
 have hfz:(Value.iface 18446744073709551622 (.agg ⟨.slice none l.length 0::aH.all l⟩))=fzActs l:=by unfold fzActs ai FZ; rfl
 have z0:∀ n,Nat.add 0 n=n:=Nat.zero_add;have z1:∀ n,Nat.mul n 1=n:=Nat.mul_one;have bb:∀ n,Nat.ble n n=true:=fun n=>Nat.ble_eq_true_of_le (Nat.le_refl n);rw[g1];refine Eq.trans ax ?_;simp only[hfz,z0,z1,bb,aA,lI,kz]
 rfl
def dZ:List ActM->List UInt8
 |[]=>[]
 |a::l=>kU a++dZ l
theorem uf(a:ActM):(kU a).length=(aN a).size+1:=by
 unfold kU; rw[List.length_append,<-size_eq]; rfl
theorem QO(l:List ActM)(hl:l.length<4194304)(ha:∀ a∈l,txOk2 a):∀ (k i:Nat) (t:List UInt8),i+k=l.length->t.length+(dZ (l.drop i)).length<=4194303->
  LRX P 8 2 Bpb Dpb.head (pbV l i) (pbB dP t) .normal (pbV l l.length) (pbB dP (t++dZ (l.drop i)))
 |0,i,t,h,ht=>by
  obtain rfl:i=l.length:=by omega
  rw[List.drop_length];show LRX _ _ _ _ _ _ _ _ _ (pbB dP (t++[]));rw[List.append_nil];exact LRX.stop (n:=50) (aF (EL cZ true t)) au (C9 zg.1) CV (e:= .exit 2) acC (by intro h; cases h)
 |k+1,i,t,h,ht=>by
  have hi:i<l.length:=by omega
  rw[List.drop_eq_getElem_cons hi]at ht ⊢;simp only[dZ,List.length_append,uf]at ht ⊢;have hx:=ha l[i] (List.getElem_mem hi);have q:=YP (t:=t) hi hl (yH hx.1 hx.2) (by omega);rw[<-List.append_assoc];exact LRX.again (n:=50) (aF (EL l[i] true t)) au (C9 hx.1) CV q (QO l hl ha k (i+1) _ (by omega) (by rw[List.length_append,uf]; omega))
theorem aaw(l:List ActM)(hl:l.length<4194304)(ha:∀ a∈l,txOk2 a)(ht:(dZ l).length<=4194303) :
  LRX P 8 2 Bpb Dpb.head (pbV l 0) (pbB (.pointer none) []) .normal (pbV l l.length) (pbB (pbP (!l.isEmpty)) (dZ l)):=by
 cases l with
 |nil=>exact LRX.stop (n:=50) (aF (EL cZ false [])) au (C9 zg.1) CV (e:= .exit 2) (acZ rfl) (by intro h; cases h)
 |cons a r=>
  have hx:=ha a (by simp);have q:=VX (l:=a::r) (i:=0) (by simp) hl (yH hx.1 hx.2);have q2:=QO (a::r) hl ha r.length 1 (kU a) (by simp; omega) (by simp only[dZ,List.length_append]at ht; exact ht);exact LRX.again (n:=50) (aF (EL a false [])) au (C9 hx.1) CV q q2
def kPb:Con (List ActM) where
 enc l:=(pbV l 0,pbB (.pointer none) [])
 ok l:=l.length<4194304/\(∀ a∈l,txOk2 a)/\(dZ l).length<=4194303
 inj a b h:=by
  unfold pbV at h;simp only[Prod.mk.injEq,List.cons.injEq,true_and,and_true]at h;exact lH h.1
 dflt:=[]
def Vm(l:List ActM):DT (Ex×List Value×List Blk):= .leaf (.normal,pbV l l.length,pbB (pbP (!l.isEmpty)) (dZ l))
theorem XR:LoopOkX P 8 2 Bpb Dpb.head (kP kPb.C kPb.D Vm):=
 fQ kPb (bz Gs) fun l ho e vs' bs' hev=>by
  unfold Vm at hev;simp only[DT.eval,Option.some.injEq,Prod.mk.injEq]at hev;obtain⟨rfl,rfl,rfl⟩:=hev;exact aaw l ho.1 ho.2.1 ho.2.2
def afW(PC QC SC:List Value->List Blk->Bool)(ok:Bool)(ei ee yi:Int)(p:Value)(m:Nat)(d:List Value)(s:ByteArray)(n b:Nat)(c:List Value):Ct:=
 dR P 8 0 Dpc (iD PC (.ite ok (.leaf (.normal,[ai 6 n b c, .string ⟨#[]⟩, .nilIface,ai 6 n b c, .int .i64 (af n), .int .i64 (af n)],[])) (.leaf (.ret,[ai 6 n b c, .string ⟨#[]⟩,gX ei ee,ai 6 n b c, .int .i64 (af n), .int .i64 yi],[]))))
  (dR P 8 2 Dpb (iD QC (.leaf (.normal,[dP,ai 6 n b c, .int .i64 (af n), .int .i64 (af n)],[.cells [p, .slice (some ⟨1,0,none⟩) m unk] 61 true, .cells d 5 false])))
   (bJ P aak 1 26 (iL SC (.leaf (.string s,[.cells [p, .slice (some ⟨1,0,none⟩) m unk] 61 true, .dead]))) (bJ P aJ 0 21 zD ctF)))
theorem Cm(PC QC SC:List Value->List Blk->Bool)(ok:Bool)(ei ee yi:Int)(m:Nat)(d:List Value)(s:ByteArray)(n b:Nat)(c:List Value):bn P E (afW PC QC SC ok ei ee yi dP m d s n b c) 50 aJ [] [] 0 8 [ai 6 n b c] [] =
 (ag (gtI (af n) 200)
 (some ((.tuple ⟨[.string ⟨#[]⟩,.iface 75 (.iface 18446744073709551616 (.agg ⟨[.slice none 0 0,.int .i64 (-1),.int .i64 3]⟩))]⟩),(mkSt [])))
 (ae (PC [.iface 18446744073709551622 (.agg ⟨(.slice none n b)::c⟩),.string ⟨#[]⟩,.nilIface,.iface 18446744073709551622 (.agg ⟨(.slice none n b)::c⟩),.int .i64 (af n),.int .i64 0] [])
 (ag ok
 (ae (QC [.pointer (Option.some (Addr.mk 0 0 none)),.iface 18446744073709551622 (.agg ⟨(.slice none n b)::c⟩),.int .i64 (af n),.int .i64 0] [Blk.cells [.pointer none,.slice (Option.some (Addr.mk 1 0 none)) 0 18446744073709551616] 61 true,Blk.cells [] 5 false])
 (ag (gtI (af m) 65536)
 (some ((.tuple ⟨[.string ⟨#[]⟩,.iface 75 (.iface 18446744073709551616 (.agg ⟨[.slice none 0 0,.int .i64 (-1),.int .i64 3]⟩))]⟩),(mkSt [])))
 (ae (Nat.ble (Nat.add 0 (Nat.mul m 1)) (List.length (renL true (bZ [0] 2) d)))
 (ae (SC [.pointer (Option.some (Addr.mk 0 0 none))] [Blk.cells [.pointer (Option.some (Addr.mk 0 0 none)),.slice (Option.some (Addr.mk 1 0 none)) m 18446744073709551616] 61 true,Blk.cells (renL true (rhoO 0 [0,3]) (takeC (Nat.mul m 1) (ak 0 (renL true (bZ [0] 2) d)))) 5 false])
 (some ((.tuple ⟨[.string s,.nilIface]⟩),(mkSt [])))))))
 (some ((.tuple ⟨[.string ⟨#[]⟩,.iface 75 (.iface 18446744073709551616 (.agg ⟨[.slice none 0 0,.int .i64 ei,.int .i64 ee]⟩))]⟩),(mkSt [])))))):=by kernel_rfl
def kSt:Con (List UInt8) where
 enc t:=([dP],pbB dP t)
 ok t:=t≠[]/\t.length<=9223372036854775807
 inj a b h:=by
  unfold pbB at h;simp only[Prod.mk.injEq,List.cons.injEq,Blk.cells.injEq,true_and,and_true]at h;exact VL h.2
 dflt:=[]
theorem afM:CallOkX P 1 26 (jS kSt.C kSt.D fun t=> .leaf (.string ⟨⟨t⟩⟩,[.cells [dP, .slice (some ⟨1,0,none⟩) (bc t).length unk] 61 true, .dead])):=f_ kSt fun t ho v bs' hev=>by
 simp only[DT.eval,Option.some.injEq,Prod.mk.injEq]at hev;obtain⟨rfl,rfl⟩:=hev;have q:=adh (p:=dP) ho.1 ho.2;rw[<-fK t]at q;exact q
theorem LW{P:Program}{N:Nat}{g:FuncId}{t:DT (Value×List Blk)}:CallOkX P N g (iL (fun _ _=>false) t):=⟨fun args bs t' hR v bs' hev=>by
 unfold iL at hR;obtain rfl:=Option.some.inj hR;cases hev⟩
theorem zu{a:ActM}(h:neI (dQ a) 0=false):early a=false:=by
 cases he:early a with
 |false=>rfl
 |true=>
  have:dQ a=2:=by unfold dQ; rw[he]; cases vG a.kind<;>cases wH a<;>rfl
  rw[this]at h; cases h
theorem zV:∀ (l:List ActM) (i:Nat),cO i l=none->∀ a∈l,neI (dQ a) 0=false
 |[],_,_,_,h=>by cases h
 |b::l,i,h,a,ha=>by
  simp only[cO]at h;cases hb:neI (dQ b) 0 with
  |true=>rw[hb]at h; cases h
  |false=>
   rw[hb]at h;rcases List.mem_cons.1 ha with rfl | ha
   ·exact hb
   ·exact zV l (i+1) h a ha
theorem xw{a:ActM}(h:txOk2 a)(hk:eqI a.kind 2=true->a.key.size<=16):(aN a).size<=2000:=by
 obtain⟨⟨r1,r2,r3,_,_⟩,hl⟩:=h;have z1:=fJ r1;have z2:=fJ r2;have z3:=fJ r3;have z4:=vW a.key;unfold aN nS;cases h1:eqI a.kind 1 with
 |true=>
  have:=hl h1;have q:=Be a.ops (aj ⟨#[99,111,109,109,105,116]⟩ (aj ⟨#[32]⟩ (bF a.node)));simp only[a_,lz1,lz0]at q;simp only[cond_true];omega
 |false=>
 simp only[cond_false];cases h2:eqI a.kind 2 with
 |true=>
  have:=hk h2;simp only[cond_true,a_,lz2,lz0];omega
 |false=>
 simp only[cond_false];have e0:(ByteArray.mk #[]).size=0:=rfl;have cs:∀ (b:Bool) (x y:ByteArray),x.size<=2000->y.size<=2000->(bif b then x else y).size<=2000:=fun b x y h k=>by cases b<;>assumption
 repeat' refine cs _ _ _ ?_ ?_
 all_goals (simp only[a_,lz3,lz4,lz5,lz6,lz7,lz8,lz9,su,qF,sN,lz0,e0]; omega)
theorem NM{a:ActM}(he:early a=false)(h2:eqI a.kind 2=true):a.key.size<=16:=by
 unfold early at he;cases h1:eqI a.kind 1 with
 |true=>
  unfold eqI at h1 h2;have:=eq_of_beq h1;have:=eq_of_beq h2;omega
 |false=>
  rw[h1,h2]at he;have he:dN (bQ false a.key ⟨#[]⟩)=false:=he;cases h3:bQ false a.key ⟨#[]⟩with
  |true=>exact(l9 h3).2.1
  |false=>rw[h3]at he; cases he
theorem Oa:∀ (l:List ActM),(∀ a∈l,(aN a).size<=2000)->(dZ l).length<=2001*l.length
 |[],_=>Nat.zero_le _
 |a::l,h=>by
  have:=Oa l fun b hb=>h b (List.mem_cons_of_mem _ hb);have:=h a (by simp);simp only[dZ,List.length_append,uf,List.length_cons]; omega
def dL(l:List ActM):ByteArray×Option (Int×Int):=match gtI (af l.length) 200,cO 0 l,gtI (af (dZ l).length) 65536 with
 |true,_,_=>(⟨#[]⟩,some (-1,3))
 |false,some x,_=>(⟨#[]⟩,some (x.1,x.2))
 |false,none,true=>(⟨#[]⟩,some (-1,3))
 |false,none,false=>(⟨⟨dZ l⟩⟩,none)
def kPr:Con (List ActM) where
 enc l:=([fzActs l],[])
 ok l:=l≠[]/\l.length<4194304/\∀ a∈l,kCk.ok a
 inj a b h:=by
  simp only[Prod.mk.injEq,List.cons.injEq,and_true]at h;exact lH h
 dflt:=[]
theorem V4{l:List ActM}(h:kPr.ok l):CRX P 0 8 [fzActs l] [] (.tuple ⟨[.string (dL l).1,paE (dL l).2]⟩) []:=by
 obtain⟨hne,hl,ha⟩:=h;have hfz:(Value.iface 18446744073709551622 (.agg ⟨.slice none l.length 0::aH.all l⟩))=fzActs l:=by unfold fzActs ai FZ; rfl
 have hfp:∀ i e:Int,(Value.iface 75 (.iface 18446744073709551616 (.agg ⟨[.slice none 0 0, .int .i64 i, .int .i64 e]⟩)))=gX i e:=fun i e=>by unfold gX jl FZ; rfl
 have pcOk:=gU kPc Xl (s:=l) ⟨hl,ha⟩;by_cases hp:gtI (af l.length) 200=false/\cO 0 l=none
 ·obtain⟨h1,h2⟩:=hp;have hb:=zV l 0 h2;have ht:∀ a∈l,txOk2 a:=fun a m=>Rn (ha a m) (zu (hb a m));have hz:∀ a∈l,(aN a).size<=2000:=fun a m=>xw (ht a m) (NM (zu (hb a m)));have ho:=Oa l hz;have hlen:l.length<=200:=by
   unfold gtI af at h1;have:=of_decide_eq_false h1;omega
  have ho2:(dZ l).length<=4194303:=by omega
  have hon:dZ l≠[]:=by
   cases l with
   |nil=>exact absurd rfl hne
   |cons a r=>
    intro e;have:=congrArg List.length e;simp only[dZ,List.length_append,uf,List.length_nil]at this;omega
  have hemp:l.isEmpty=false:=by cases l with | nil=>exact absurd rfl hne | cons _ _=>rfl
  have q:=Cm (kPc.at l) (kPb.at l) (kSt.at (dZ l)) (cO 0 l).isNone ((cO 0 l).getD (0,0)).1 ((cO 0 l).getD (0,0)).2 ((cO 0 l).getD (0,0)).1 (bc (dZ l)).length (bc (dZ l)) ⟨⟨dZ l⟩⟩ l.length 0 (aH.all l);have pbOk:=gU kPb XR (s:=l) ⟨hl,ht,ho2⟩;unfold Vm at pbOk;rw[hemp]at pbOk;refine CRX.of (aF _) au (bf (bf (aO (aO aW uj) (eF kSt afM (s:=dZ l) ⟨hon,by omega⟩)) pbOk) pcOk) (n:=50) (pol:=aJ) (fl:=[]) (ts:=[]) (q.trans ?_);unfold dL;rw[h1,h2];refine Eq.trans ax ?_;refine bu (k:=kPc) (s:=l) (by show pcV _ _ _=_; unfold pcV; rw[<-hfz]; try rfl) rfl ?_;refine Eq.trans az ?_;refine bu (k:=kPb) (s:=l) (by show pbV _ _=_; unfold pbV; rw[<-hfz]; try rfl) rfl ?_;rw[fK (dZ l)];cases gtI (af (dZ l).length) 65536 with
  |true=>
   refine Eq.trans az ?_;rw[hfp]; rfl
  |false=>
   refine Eq.trans ax ?_;have z0:∀ n,Nat.add 0 n=n:=Nat.zero_add;have z1:∀ n,Nat.mul n 1=n:=Nat.mul_one;have tk:takeC (dZ l).length (ak 0 (bc (dZ l)))=bc (dZ l):=by have:=lI (bc (dZ l)); rwa [fK]at this
   rw[kz,fK,z1,z0,tk,kz];refine aT (bM (Nat.le_refl _)) ?_;refine bu (k:=kSt) (s:=dZ l) rfl (by show pbB _ _=_; unfold pbB; rw[fK]; rfl) ?_
   rfl
 ·have q:=Cm (kPc.at l) (fun _ _=>false) (fun _ _=>false) (cO 0 l).isNone ((cO 0 l).getD (0,0)).1 ((cO 0 l).getD (0,0)).2 ((cO 0 l).getD (0,0)).1 0 [] ⟨#[]⟩ l.length 0 (aH.all l);refine CRX.of (aF _) au (bf (bf (aO (aO aW uj) LW) (lD (bz Gs))) pcOk) (n:=50) (pol:=aJ) (fl:=[]) (ts:=[]) (q.trans ?_);unfold dL;cases h1:gtI (af l.length) 200 with
  |true=>
   refine Eq.trans az ?_;rw[hfp]; rfl
  |false=>
   cases h2:cO 0 l with
   |none=>exact absurd ⟨h1,h2⟩ hp
   |some x=>
    refine Eq.trans ax ?_;refine bu (k:=kPc) (s:=l) (by show pcV _ _ _=_; unfold pcV; rw[<-hfz]; try rfl) rfl ?_;refine Eq.trans ax ?_;rw[hfp]; rfl
theorem VC:CallOkR P 106 yw:=by
 refine mY rV (n:=50) fun args t hR v bs hev=>?_;unfold yw at hR;split at hR
 ·rename_i x;obtain rfl:=Option.some.inj hR;simp only[DT.eval,Option.some.injEq,Prod.mk.injEq]at hev;obtain⟨rfl,rfl⟩:=hev;rw[UK];by_cases h48:x=48
  ·subst h48; rfl
  by_cases h49:x=49
  ·subst h49; rfl
  by_cases h50:x=50
  ·subst h50; rfl
  by_cases h51:x=51
  ·subst h51; rfl
  by_cases h52:x=52
  ·subst h52; rfl
  by_cases h53:x=53
  ·subst h53; rfl
  by_cases h54:x=54
  ·subst h54; rfl
  by_cases h55:x=55
  ·subst h55; rfl
  by_cases h56:x=56
  ·subst h56; rfl
  by_cases h57:x=57
  ·subst h57; rfl
  by_cases h97:x=97
  ·subst h97; rfl
  by_cases h98:x=98
  ·subst h98; rfl
  by_cases h99:x=99
  ·subst h99; rfl
  by_cases h100:x=100
  ·subst h100; rfl
  by_cases h101:x=101
  ·subst h101; rfl
  by_cases h102:x=102
  ·subst h102; rfl
  have hB:iJ x=false:=by simp[iJ,geI,leI]; omega
  have hV:lS x=0:=by
   unfold iJ at hB;simp only[Bool.or_eq_false_iff]at hB;unfold lS;rw[hB.1,hB.2]
   rfl
  rw[hB,hV];refine dD (by simp[eqI]; omega) ?_;refine dD (by simp[eqI]; omega) ?_;refine dD (by simp[eqI]; omega) ?_;refine dD (by simp[eqI]; omega) ?_;refine dD (by simp[eqI]; omega) ?_;refine dD (by simp[eqI]; omega) ?_;refine dD (by simp[eqI]; omega) ?_;refine dD (by simp[eqI]; omega) ?_;refine dD (by simp[eqI]; omega) ?_;refine dD (by simp[eqI]; omega) ?_;refine dD (by simp[eqI]; omega) ?_;refine dD (by simp[eqI]; omega) ?_;refine dD (by simp[eqI]; omega) ?_;refine dD (by simp[eqI]; omega) ?_;refine dD (by simp[eqI]; omega) ?_;refine dD (by simp[eqI]; omega) ?_
  rfl
 ·cases hR
def ct5:Ct:=bH P 106 yw (bH P 73 Gh ct4)
theorem Bh:CtOk P ct5:=aU (aU Xc Oh) VC
def nY:Head:=⟨0,75,[0,2,3,4,5],[(4,5)]⟩
def mg:Code:=(bK P 93 0).getD .skip
theorem Gq:bK P 93 0=some mg:=by kernel_rfl
theorem tu:Occ P 93 (.block 0 (.loop mg)):=dA Gq
theorem uI(s:ByteArray)(c:List Value)(i:Int):gJ P E ct5 50 93 mg nY [.string s, .string ⟨#[]⟩, .int .i64 0, .slice (some ⟨0,0,none⟩) c.length unk, .int .i64 i] [.cells c 5 false] =
 (ag (ltI i (af s.size))
 (ag (neS s ⟨#[34,34]⟩)
 (ae (inI i s.size)
 (ag (neI (bAt s i) 92)
 (ae (inI i s.size)
 (ae (Bool.and (Bool.not false) (Bool.and (Nat.beq 5 5) (Bool.and (Nat.ble 0 c.length) (Nat.ble (Nat.add c.length 1) 4194304))))
 (ae (Nat.beq (Nat.add 0 (Nat.mul c.length 1)) c.length)
 (some ((.tuple ⟨[.int .i64 0,.string s,.string ⟨#[]⟩,.int .i64 0,.slice (Option.some (Addr.mk 0 0 none)) (Nat.add c.length 1) 18446744073709551616,.int .i64 (aB .i64 i 1)]⟩),(mkSt [Blk.cells (renL true (rhoO 0 [3]) (List.append (takeC (Nat.mul c.length 1) (ak 0 c)) [.int .u8 (bAt s i)])) 5 false]))))))
 (ag (geI (aB .i64 i 2) (af s.size))
 (some ((.tuple ⟨[.int .i64 (-1),.string s,.string ⟨#[]⟩,.int .i64 5,.slice (Option.some (Addr.mk 0 0 none)) c.length 18446744073709551616,.int .i64 i]⟩),(mkSt [Blk.cells (renL true (rhoO 0 [0]) c) 5 false])))
 (ae (inI (aB .i64 i 1) s.size)
 (ae (inI (aB .i64 i 2) s.size)
 (ag (dN (iJ (bAt s (aB .i64 i 1))))
 (some ((.tuple ⟨[.int .i64 (-1),.string s,.string ⟨#[]⟩,.int .i64 5,.slice (Option.some (Addr.mk 0 0 none)) c.length 18446744073709551616,.int .i64 i]⟩),(mkSt [Blk.cells (renL true (rhoO 0 [0]) c) 5 false])))
 (ag (dN (iJ (bAt s (aB .i64 i 2))))
 (some ((.tuple ⟨[.int .i64 (-1),.string s,.string ⟨#[]⟩,.int .i64 5,.slice (Option.some (Addr.mk 0 0 none)) c.length 18446744073709551616,.int .i64 i]⟩),(mkSt [Blk.cells (renL true (rhoO 0 [0]) c) 5 false])))
 (ae (Bool.and (Bool.not false) (Bool.and (Nat.beq 5 5) (Bool.and (Nat.ble 0 c.length) (Nat.ble (Nat.add c.length 1) 4194304))))
 (ae (Nat.beq (Nat.add 0 (Nat.mul c.length 1)) c.length)
 (some ((.tuple ⟨[.int .i64 0,.string s,.string ⟨#[]⟩,.int .i64 0,.slice (Option.some (Addr.mk 0 0 none)) (Nat.add c.length 1) 18446744073709551616,.int .i64 (aB .i64 (aB .i64 i 2) 1)]⟩),(mkSt [Blk.cells (renL true (rhoO 0 [3]) (List.append (takeC (Nat.mul c.length 1) (ak 0 c)) [.int .u8 (aB .u8 (BQ .u8 16 (lS (bAt s (aB .i64 i 1)))) (lS (bAt s (aB .i64 i 2))))])) 5 false]))))))))))))
 (some ((.tuple ⟨[.int .i64 1,.string s,.string ⟨#[]⟩,.int .i64 0,.slice (Option.some (Addr.mk 0 0 none)) c.length 18446744073709551616,.int .i64 i]⟩),(mkSt [Blk.cells (renL true (rhoO 0 [0]) c) 5 false]))))
 (some ((.tuple ⟨[.int .i64 1,.string s,.string ⟨#[]⟩,.int .i64 0,.slice (Option.some (Addr.mk 0 0 none)) c.length 18446744073709551616,.int .i64 i]⟩),(mkSt [Blk.cells (renL true (rhoO 0 [0]) c) 5 false])))):=by kernel_rfl
def rhv(h l:UInt8):Int:=aB .u8 (BQ .u8 16 (lS h.toNat)) (lS l.toNat)
theorem G6:∀ n:Fin 256,iJ (n.val:Int)=true->0<=lS (n.val:Int)/\lS (n.val:Int)<16:=by decide +kernel
theorem aeN:∀ a b:Fin 16,aB .u8 (BQ .u8 16 (a.val:Int)) (b.val:Int)=orI .u8 (FU .u8 (a.val:Int) 4) (b.val:Int):=by decide +kernel
theorem ael{h l:UInt8}(h1:iJ h.toNat=true)(h2:iJ l.toNat=true):rhv h l=hv h l:=by
 have a:=G6 ⟨h.toNat,h.toNat_lt⟩ h1;have b:=G6 ⟨l.toNat,l.toNat_lt⟩ h2;simp only at a b;unfold rhv hv;generalize lS (h.toNat:Int)=x at a;generalize lS (l.toNat:Int)=y at b;obtain⟨x,rfl⟩:=Int.eq_ofNat_of_zero_le a.1;obtain⟨y,rfl⟩:=Int.eq_ofNat_of_zero_le b.1;exact aeN ⟨x,by omega⟩ ⟨y,by omega⟩
def dH:List UInt8->List UInt8×Bool×Nat
 |[]=>([],false,0)
 |x::r=>match neI x.toNat 92,r with
  |true,r=>(x::(dH r).1,(dH r).2)
  |false,h::l::r'=>match iJ h.toNat&&iJ l.toNat with
   |true=>(jh h l::(dH r').1,(dH r').2)
   |false=>([],true,r'.length+3)
  |false,r=>([],true,r.length+1)
theorem yK{x:UInt8}{r:List UInt8}(h:neI x.toNat 92=true):dH (x::r)=(x::(dH r).1,(dH r).2):=by
 rw[dH.eq_def]; simp only[h]
theorem AL{x h l:UInt8}{r:List UInt8}(hp:neI x.toNat 92=false):dH (x::h::l::r)=match iJ h.toNat&&iJ l.toNat with
  |true=>(jh h l::(dH r).1,(dH r).2)
  |false=>([],true,r.length+3):=by
 rw[dH.eq_def]; simp only[hp]
theorem Gj{x:UInt8}{r:List UInt8}(hp:neI x.toNat 92=false)(ho:r.length<2):dH (x::r)=([],true,r.length+1):=by
 rw[dH.eq_def];simp only[hp];cases r with
 |nil=>rfl
 |cons a r=>cases r with
  |nil=>rfl
  |cons b r=>simp at ho; omega
section
variable{s:ByteArray}{i:Nat}{c:List Value}
def rb(s:ByteArray)(e:Int)(n:Nat)(i:Int):List Value:=[.string s, .string ⟨#[]⟩, .int .i64 e,sl 0 n, .int .i64 i]
theorem QX(Z:Nat->Option Nat)(hc:bT c=true){l:List UInt8}{x:List Value}(hx:x=bc l):renL true Z (c.append x)=c++bc l:=by
 rw[hx,show c.append (bc l)=c++bc l from rfl,jM,eU hc,kz]
theorem O7(h:i<s.data.toList.length)(hc:bT c=true)(hb:c.length+1<=4194304)(hl:s.size<9223372036854775800)(hq:neS s ⟨#[34,34]⟩=true)(hp:neI (s.data.toList[i].toNat:Int) 92=true) :
  gJ P E ct5 50 93 mg nY (rb s 0 c.length i) [.cells c 5 false] =
   some (.tuple ⟨exV .normal::rb s 0 (c++bc [s.data.toList[i]]).length ((i+1:Nat):Int)⟩,mkSt [.cells (c++bc [s.data.toList[i]]) 5 false]):=by
 unfold rb sl;have hsz:s.data.toList.length=s.size:=by simp
 have hx:(i:Int)<(s.size:Int):=by omega
 have hw:aB .i64 (i:Int) 1=((i+1:Nat):Int):=lQ (i:=i) (k:=1) (by omega);rw[uI];refine dY (decide_eq_true hx) ?_;refine dY hq ?_;refine aT (mO (by omega) hx) ?_;rw[mr h];refine dY hp ?_;refine aT (mO (by omega) hx) ?_;refine aT (fB rfl (fB rfl (fB (bM (Nat.zero_le _)) (bM (by simp; omega))))) ?_;refine aT (t_ (by simp)) ?_;refine gz ?_ ?_
 ·rw[hw]; simp[exV,bc,unk]
 ·simp only[oO];exact congrArg (fun x=>[Blk.cells x 5 false]) (QX _ hc rfl)
theorem FX(hc:bT c=true)(h:i=s.size\/neS s ⟨#[34,34]⟩=false)(hi:i<=s.size) :
  gJ P E ct5 50 93 mg nY (rb s 0 c.length i) [.cells c 5 false] =
   some (.tuple ⟨exV (.exit 0)::rb s 0 c.length i⟩,mkSt [.cells c 5 false]):=by
 unfold rb sl;rw[uI];by_cases hs:i=s.size
 ·refine dD (by subst hs; simp[ltI,af]) ?_;refine gz (by simp[exV,unk]) ?_;simp only[eU hc]
 ·have hx:(i:Int)<(s.size:Int):=by omega
  refine dY (decide_eq_true hx) ?_;refine dD (h.resolve_left hs) ?_;refine gz (by simp[exV,unk]) ?_;simp only[eU hc]
theorem N9(h:i<s.data.toList.length)(hc:bT c=true)(hl:s.size<9223372036854775800)(hq:neS s ⟨#[34,34]⟩=true)(hp:neI (s.data.toList[i].toNat:Int) 92=false)(hn:s.data.toList.length<=i+2) :
  gJ P E ct5 50 93 mg nY (rb s 0 c.length i) [.cells c 5 false] =
   some (.tuple ⟨exV .ret::rb s 5 c.length i⟩,mkSt [.cells c 5 false]):=by
 unfold rb sl;have hsz:s.data.toList.length=s.size:=by simp
 have hx:(i:Int)<(s.size:Int):=by omega
 have hw2:aB .i64 (i:Int) 2=((i+2:Nat):Int):=lQ (i:=i) (k:=2) (by omega);rw[uI];refine dY (decide_eq_true hx) ?_;refine dY hq ?_;refine aT (mO (by omega) hx) ?_;rw[mr h];refine dD hp ?_;refine dY ?_ ?_
 ·rw[hw2];refine decide_eq_true ?_;show((i+2:Nat):Int)>=(s.size:Int)
  omega
 refine gz (by simp[exV,unk]) ?_;simp only[eU hc]
theorem PM(h2:i+2<s.data.toList.length)(hc:bT c=true)(hb:c.length+1<=4194304)(hl:s.size<9223372036854775800)(hq:neS s ⟨#[34,34]⟩=true)(hp:neI (s.data.toList[i].toNat:Int) 92=false) :
  gJ P E ct5 50 93 mg nY (rb s 0 c.length i) [.cells c 5 false] =
   match iJ (s.data.toList[i+1].toNat:Int)&&iJ (s.data.toList[i+2].toNat:Int)with
   |true=>some (.tuple ⟨exV .normal::rb s 0 (c++bc [jh s.data.toList[i+1] s.data.toList[i+2]]).length ((i+3:Nat):Int)⟩,mkSt [.cells (c++bc [jh s.data.toList[i+1] s.data.toList[i+2]]) 5 false])
   |false=>some (.tuple ⟨exV .ret::rb s 5 c.length i⟩,mkSt [.cells c 5 false]):=by
 have hsz:s.data.toList.length=s.size:=by simp
 have hx:(i:Int)<(s.size:Int):=by omega
 have hw1:aB .i64 (i:Int) 1=((i+1:Nat):Int):=lQ (i:=i) (k:=1) (by omega);have hw2:aB .i64 (i:Int) 2=((i+2:Nat):Int):=lQ (i:=i) (k:=2) (by omega);have hw3:aB .i64 ((i+2:Nat):Int) 1=((i+3:Nat):Int):=lQ (i:=i+2) (k:=1) (by omega);have hx1:((i+1:Nat):Int)<(s.size:Int):=by omega
 have hx2:((i+2:Nat):Int)<(s.size:Int):=by omega
 have hd:=uI s c i;rw[hw1,hw2,hw3,mr (show i<s.data.toList.length by omega),mr (show i+1<s.data.toList.length by omega),mr h2]at hd;unfold rb sl;rw[hd];refine dY (decide_eq_true hx) ?_;refine dY hq ?_;refine aT (mO (by omega) hx) ?_;refine dD hp ?_;refine dD ?_ ?_
 ·refine decide_eq_false ?_;show ¬((i+2:Nat):Int)>=(s.size:Int)
  omega
 refine aT (mO (by omega) hx1) ?_;refine aT (mO (by omega) hx2) ?_;cases d1:iJ (s.data.toList[i+1].toNat:Int)with
 |false=>
  refine dY rfl ?_;refine gz (by simp[exV,unk]) ?_;simp only[eU hc]
 |true=>
  refine dD rfl ?_;cases d2:iJ (s.data.toList[i+2].toNat:Int)with
  |false=>
   refine dY rfl ?_;refine gz (by simp[exV,unk]) ?_;simp only[eU hc]
  |true=>
   refine dD rfl ?_;refine aT (fB rfl (fB rfl (fB (bM (Nat.zero_le _)) (bM (by simp; omega))))) ?_;refine aT (t_ (by simp)) ?_;refine gz ?_ ?_
   ·simp[exV,bc,unk]
   ·simp only[oO];refine congrArg (fun x=>[Blk.cells x 5 false]) (QX _ hc ?_);show [Value.int .u8 (rhv s.data.toList[i+1] s.data.toList[i+2])]=[Value.int .u8 ((jh s.data.toList[i+1] s.data.toList[i+2]).toNat:Int)]
    rw[E5,ael d1 d2]
end
def exR(bad:Bool):Ex:=match bad with
 |true=> .ret
 |false=> .normal
def erR(bad:Bool):Int:=match bad with
 |true=>5
 |false=>0
theorem PL(s:ByteArray)(hl:s.size<9223372036854775800)(hq:neS s ⟨#[34,34]⟩=true):∀ (k i:Nat) (c:List Value),i+k=s.size->bT c=true->c.length+k<=4194304->
  LR P 93 0 mg nY (rb s 0 c.length i) [.cells c 5 false] (exR (dH (s.data.toList.drop i)).2.1)
   (rb s (erR (dH (s.data.toList.drop i)).2.1) (c++bc (dH (s.data.toList.drop i)).1).length ((s.size-(dH (s.data.toList.drop i)).2.2:Nat):Int)) [.cells (c++bc (dH (s.data.toList.drop i)).1) 5 false]:=by
 intro k
 induction k using Nat.strongRecOn with
 |_ k ih=>
  intro i c hi hc hb;have hsz:s.data.toList.length=s.size:=by simp
  have stop:∀ {e:Ex} {vs1:List Value} {bs1:List Blk},e≠ .normal->gJ P E ct5 50 93 mg nY (rb s 0 c.length i) [.cells c 5 false]=some (.tuple ⟨exV e::vs1⟩,mkSt bs1)->
    LR P 93 0 mg nY (rb s 0 c.length i) [.cells c 5 false] (lX 0 e) vs1 bs1:=
   fun he h=>LR.stop (aF ct5) au Bh tu (by kernel_rfl) h he
  have e2:c++bc []=c:=by simp[bc]
  by_cases hk:k=0
  ·subst hk;have e:s.data.toList.drop i=[]:=List.drop_of_length_le (by omega);rw[e];have:=stop (by intro h; cases h) (FX hc (Or.inl (by omega)) (by omega));have e3:dH []=([],false,0):=by rw[dH.eq_def]
   rw[e3];simp only[e2];have e4:s.size-0=i:=by omega
   rw[e4];exact this
  ·have hlt:i<s.data.toList.length:=by omega
   rw[List.drop_eq_getElem_cons hlt];cases hp:neI (s.data.toList[i].toNat:Int) 92 with
   |true=>
    have:=ih (k-1) (by omega) (i+1) (c++bc [s.data.toList[i]]) (by omega) (by rw[kL,hc,qL]; rfl) (by rw[List.length_append,fK]; simp; omega);rw[yK hp];have e:∀ q,c++bc [s.data.toList[i]]++bc q=c++bc (s.data.toList[i]::q):=by
     intro q; rw[List.append_assoc,<-qQ]; rfl
    rw[e]at this;exact LR.again (aF ct5) au Bh tu (by kernel_rfl) (O7 hlt hc (by omega) hl hq hp) this
   |false=>
    have hrest:(s.data.toList.drop (i+1)).length=k-1:=by rw[List.length_drop]; omega
    by_cases ho:s.data.toList.length<=i+2
    ·have:=stop (by intro h; cases h) (N9 hlt hc hl hq hp ho);rw[Gj hp (by rw[hrest]; omega)];have e:s.size-((s.data.toList.drop (i+1)).length+1)=i:=by rw[hrest]; omega
     simp only[e];rw[e2];exact this
    ·have h2:i+2<s.data.toList.length:=by omega
     have hr:=PM h2 hc (by omega) hl hq hp;rw[List.drop_eq_getElem_cons (show i+1<s.data.toList.length by omega),List.drop_eq_getElem_cons h2,AL hp];have hrest3:(s.data.toList.drop (i+3)).length=k-3:=by rw[List.length_drop]; omega
     cases hg:iJ (s.data.toList[i+1].toNat:Int)&&iJ (s.data.toList[i+2].toNat:Int)with
     |true=>
      rw[hg]at hr;have:=ih (k-3) (by omega) (i+3) (c++bc [jh s.data.toList[i+1] s.data.toList[i+2]]) (by omega) (by rw[kL,hc,qL]; rfl) (by rw[List.length_append,fK]; simp; omega);have e:∀ q,c++bc [jh s.data.toList[i+1] s.data.toList[i+2]]++bc q=c++bc (jh s.data.toList[i+1] s.data.toList[i+2]::q):=by
       intro q; rw[List.append_assoc,<-qQ]; rfl
      rw[e]at this;exact LR.again (aF ct5) au Bh tu (by kernel_rfl) hr this
     |false=>
      rw[hg]at hr;have:=stop (by intro h; cases h) hr;have e:s.size-((s.data.toList.drop (i+3)).length+3)=i:=by rw[hrest3]; omega
      simp only[e];rw[e2];exact this
def yg(s r:ByteArray)(e:Int)(v1:Value)(i:Int)(c:List Value)(e1:TypeId):Bool:=
 r.data.toList == []&&e == 0&&atB v1 0 c.length&&i == 0&&bT c&&e1 == 5&&Nat.ble (c.length+s.size) 4194304
def EN:lC:=fun vs bs=>match vs,bs with
 |[.string s, .string r, .int .i64 e,v1, .int .i64 i],[.cells c e1 false]=>some (.ite (yg s r e v1 i c e1)
   (.ite (neS s ⟨#[34,34]⟩)
    (.ite (dH s.data.toList).2.1
     (.leaf (.ret,rb s 5 (c++bc (dH s.data.toList).1).length ((s.size-(dH s.data.toList).2.2:Nat):Int),[.cells (c++bc (dH s.data.toList).1) 5 false]))
     (.leaf (.normal,rb s 0 (c++bc (dH s.data.toList).1).length ((s.size-(dH s.data.toList).2.2:Nat):Int),[.cells (c++bc (dH s.data.toList).1) 5 false])))
    (.leaf (.normal,rb s 0 c.length ((0:Nat):Int),[.cells c 5 false]))) .fail)
 |_,_=>none
theorem K_:LoopOk P 93 0 mg nY EN where
 occ:=bz Gq
 ok:=by kernel_rfl
 run:=by
  intro vs bs t hR e vs' bs' hev;unfold EN at hR;split at hR
  ·rename_i s r e0 v1 i c e1;obtain rfl:=Option.some.inj hR;cases hc:yg s r e0 v1 i c e1 with
   |false=>rw[hc]at hev; cases hev
   |true=>
    rw[hc]at hev;simp only[yg,Bool.and_eq_true,beq_iff_eq]at hc;obtain⟨⟨⟨⟨⟨⟨h0,h00⟩,h1⟩,h3⟩,h4⟩,h5⟩,h6⟩:=hc;have h6:=Nat.le_of_ble_eq_true h6;have hr:r=⟨#[]⟩:=Go.WideShapes.bytes_inj (by simpa using h0);rw[Ah h1];subst h00 h3 h5 hr;cases hq:neS s ⟨#[34,34]⟩with
    |true=>
     rw[hq]at hev;have:=PL s (by omega) hq s.size 0 c (by omega) h4 (by omega);rw[List.drop_zero]at this;cases hbad:(dH s.data.toList).2.1 with
     |true=>
      rw[hbad]at hev this;simp only[DT.eval,Option.some.injEq,Prod.mk.injEq]at hev;obtain⟨rfl,rfl,rfl⟩:=hev;exact this
     |false=>
      rw[hbad]at hev this;simp only[DT.eval,Option.some.injEq,Prod.mk.injEq]at hev;obtain⟨rfl,rfl,rfl⟩:=hev;exact this
    |false=>
     rw[hq]at hev;simp only[DT.eval,Option.some.injEq,Prod.mk.injEq]at hev;obtain⟨rfl,rfl,rfl⟩:=hev;exact LR.stop (aF ct5) au Bh tu (by kernel_rfl) (e:= .exit 0) (FX h4 (Or.inr hq) (Nat.zero_le _)) (by intro h; cases h)
  ·cases hR
def ct6:Ct:=o9 93 0 nY EN ct5
theorem afe:CtOk P ct6:=pK Bh K_
theorem UV(s:ByteArray):iU P E ct6 50 93 [.string s] =
 (ae (yg s ⟨#[]⟩ 0 (.slice (Option.some (Addr.mk 0 0 none)) 0 18446744073709551616) 0 [] 5)
 (ag (neS s ⟨#[34,34]⟩)
 (ag (Prod.fst (Prod.snd (dH (Array.toList (ByteArray.data s)))))
 (some ((.tuple ⟨[.string ⟨#[]⟩,.int .i64 5]⟩),(mkSt [])))
 (ae (Bool.and (Nat.ble (Nat.add 0 (List.length (HAppend.hAppend [] (bc (Prod.fst (dH (Array.toList (ByteArray.data s)))))))) (List.length (HAppend.hAppend [] (bc (Prod.fst (dH (Array.toList (ByteArray.data s)))))))) (allBytes (takeC (List.length (HAppend.hAppend [] (bc (Prod.fst (dH (Array.toList (ByteArray.data s))))))) (ak 0 (HAppend.hAppend [] (bc (Prod.fst (dH (Array.toList (ByteArray.data s))))))))))
 (ae (Nat.ble (HMul.hMul 3 (ByteArray.size (qc (takeC (List.length (HAppend.hAppend [] (bc (Prod.fst (dH (Array.toList (ByteArray.data s))))))) (ak 0 (HAppend.hAppend [] (bc (Prod.fst (dH (Array.toList (ByteArray.data s))))))))))) 4194304)
 (ag (neS ⟨⟨kR (Array.toList (ByteArray.data (qc (takeC (List.length (HAppend.hAppend [] (bc (Prod.fst (dH (Array.toList (ByteArray.data s))))))) (ak 0 (HAppend.hAppend [] (bc (Prod.fst (dH (Array.toList (ByteArray.data s)))))))))))⟩⟩ s)
 (some ((.tuple ⟨[.string ⟨#[]⟩,.int .i64 5]⟩),(mkSt [])))
 (ae (Bool.and (Nat.ble (Nat.add 0 (List.length (HAppend.hAppend [] (bc (Prod.fst (dH (Array.toList (ByteArray.data s)))))))) (List.length (HAppend.hAppend [] (bc (Prod.fst (dH (Array.toList (ByteArray.data s)))))))) (allBytes (takeC (List.length (HAppend.hAppend [] (bc (Prod.fst (dH (Array.toList (ByteArray.data s))))))) (ak 0 (HAppend.hAppend [] (bc (Prod.fst (dH (Array.toList (ByteArray.data s))))))))))
 (some ((.tuple ⟨[.string (qc (takeC (List.length (HAppend.hAppend [] (bc (Prod.fst (dH (Array.toList (ByteArray.data s))))))) (ak 0 (HAppend.hAppend [] (bc (Prod.fst (dH (Array.toList (ByteArray.data s))))))))),.int .i64 0]⟩),(mkSt []))))))))
 (ag (neS ⟨#[34,34]⟩ s)
 (some ((.tuple ⟨[.string ⟨#[]⟩,.int .i64 5]⟩),(mkSt [])))
 (some ((.tuple ⟨[.string ⟨#[]⟩,.int .i64 0]⟩),(mkSt [])))))):=by kernel_rfl
end Go.VS.Tryz
end
