/- Texts of the proof, merged: Op1, Op2, Op3, Op4, Op5, Op6, Sc2, Sc3, Sc4, Sc5, Sc6, VsPick, Sc7, Sc8, Sc9, Sc10, ScW, Sc11, ScC, Sc12, Sc13, Sc14, Se3, Se4, Sb5a, Ct1, Ct3, Ct2, Ct4. No conditions. -/
import Derived.Test.YtfegdfjcichccaaGreatDoorCtlNilQ1
import Derived.Test.YtfegdfjcichccaaGreatDoorCtlNilQ3
import Derived.Lib.FieldsP
import Derived.Lib.DecodeN
import Derived.Lib.MapLaws
import Derived.Test.YtfegdfjcichccaaGreatDoorShelf
set_option linter.unusedSimpArgs false
set_option linter.unusedVariables false
section
namespace Go.VS.Tryz
set_option maxRecDepth 1000000
open Go.VS
theorem dec_plain(x:Int):callQ P E noCt 50 70 [.int .u8 x] =
 (iteB (gtI x (32:Int))
 (iteB (ltI x (127:Int))
 (iteB (neI x (34:Int))
 (some ((Value.bool (neI x (92:Int))),(mkSt [])))
 (some ((Value.bool Bool.false),(mkSt []))))
 (some ((Value.bool Bool.false),(mkSt []))))
 (some ((Value.bool Bool.false),(mkSt [])))):=by kernel_rfl
def plainM(x:Int):Bool:=gtI x 32&&ltI x 127&&neI x 34&&neI x 92
def Rplain:CallFn
 |[.int .u8 x]=>some (.leaf (.bool (plainM x),[]))
 |_=>none
theorem plain_ok:CallOkR P 70 Rplain:=by
 refine ok_of (noCt_ok P) (n:=50) fun args t hR v bs hev=>?_
 unfold Rplain at hR
 split at hR
 ·rename_i x
  obtain rfl:=Option.some.inj hR
  simp only[DT.eval,Option.some.injEq,Prod.mk.injEq]at hev
  obtain⟨rfl,rfl⟩:=hev
  rw[dec_plain]
  unfold plainM
  cases gtI x 32<;>cases ltI x 127<;>cases neI x 34<;>rfl
 ·cases hR
theorem dec_digit(x:Int):callQ P E noCt 50 213 [.int .u8 x] =
 (iteB (geI x (48:Int))
 (iteB (leI x (57:Int))
 (some ((Value.tuple (Array.mk [(Value.int IntKind.u8 (subI IntKind.u8 x (48:Int))),(Value.bool Bool.true)])),(mkSt [])))
 (iteB (geI x (97:Int))
 (iteB (leI x (102:Int))
 (some ((Value.tuple (Array.mk [(Value.int IntKind.u8 (addI IntKind.u8 (subI IntKind.u8 x (97:Int)) (10:Int))),(Value.bool Bool.true)])),(mkSt [])))
 (some ((Value.tuple (Array.mk [(Value.int IntKind.u8 (0:Int)),(Value.bool Bool.false)])),(mkSt []))))
 (some ((Value.tuple (Array.mk [(Value.int IntKind.u8 (0:Int)),(Value.bool Bool.false)])),(mkSt [])))))
 (iteB (geI x (97:Int))
 (iteB (leI x (102:Int))
 (some ((Value.tuple (Array.mk [(Value.int IntKind.u8 (addI IntKind.u8 (subI IntKind.u8 x (97:Int)) (10:Int))),(Value.bool Bool.true)])),(mkSt [])))
 (some ((Value.tuple (Array.mk [(Value.int IntKind.u8 (0:Int)),(Value.bool Bool.false)])),(mkSt []))))
 (some ((Value.tuple (Array.mk [(Value.int IntKind.u8 (0:Int)),(Value.bool Bool.false)])),(mkSt []))))):=by kernel_rfl
def digV(x:Int):Int:=bif geI x 48&&leI x 57 then subI .u8 x 48 else bif geI x 97&&leI x 102 then addI .u8 (subI .u8 x 97) 10 else 0
def digB(x:Int):Bool:=(geI x 48&&leI x 57) || (geI x 97&&leI x 102)
def Rdigit:CallFn
 |[.int .u8 x]=>some (.leaf (.tuple ⟨[.int .u8 (digV x), .bool (digB x)]⟩,[]))
 |_=>none
theorem digit_ok:CallOkR P 213 Rdigit:=by
 refine ok_of (noCt_ok P) (n:=50) fun args t hR v bs hev=>?_
 unfold Rdigit at hR
 split at hR
 ·rename_i x
  obtain rfl:=Option.some.inj hR
  simp only[DT.eval,Option.some.injEq,Prod.mk.injEq]at hev
  obtain⟨rfl,rfl⟩:=hev
  rw[dec_digit]
  unfold digV digB
  cases geI x 48<;>cases leI x 57<;>cases geI x 97<;>cases leI x 102<;>rfl
 ·cases hR
def hexD:ByteArray:=⟨#[48,49,50,51,52,53,54,55,56,57,97,98,99,100,101,102]⟩
end Go.VS.Tryz
end

section
namespace Go.VS.Tryz
set_option maxRecDepth 1000000
open Go.VS
noncomputable def ct1:Ct:=addCall P 70 Rplain (addCall P 213 Rdigit noCt)
theorem ct1_ok:CtOk P ct1:=addCall_ok (addCall_ok (noCt_ok P) digit_ok) plain_ok
noncomputable def Hword:Head:=⟨1,33,[3,9,10,11],[(3,5)]⟩
noncomputable def Bword:Code:=(loopAt P 39 0).getD .skip
theorem Bword_eq:loopAt P 39 0=some Bword:=by kernel_rfl
theorem Bword_occ:Occ P 39 (.block 0 (.loop Bword)):=loopAt_has Bword_eq
theorem dec_word(cb c:List Value)(m:Nat)(z i:Int):roundQ P E ct1 50 39 Bword Hword [.slice (some ⟨1,0,none⟩) c.length unk, .slice (some ⟨0,0,none⟩) m unk, .int .i64 z, .int .i64 i] [.cells cb 5 false, .cells c 5 false] =
 (iteB (ltI i z)
 (needB (inI i m)
 (needB (Bool.and (Nat.ble (Nat.add (Nat.add 0 (atN i 1)) 1) (List.length cb)) (etaB (Eta.int IntKind.u8) (nthD cb (Nat.add 0 (atN i 1)))))
 (iteB (plainM (asI (nthD cb (Nat.add 0 (atN i 1)))))
 (needB (Bool.and (Bool.not Bool.false) (Bool.and (Nat.beq 5 5) (Bool.and (Nat.ble 0 (List.length c)) (Nat.ble (Nat.add (List.length c) 1) 4194304))))
 (needB (Nat.beq (Nat.add 0 (Nat.mul (List.length c) 1)) (List.length c))
 (some ((Value.tuple (Array.mk [(Value.int IntKind.i64 (0:Int)),(Value.slice (Option.some (Addr.mk 1 0 none)) (Nat.add (List.length c) 1) 18446744073709551616),(Value.slice (Option.some (Addr.mk 0 0 none)) m 18446744073709551616),(Value.int IntKind.i64 z),(Value.int IntKind.i64 (addI IntKind.i64 i (1:Int)))])),(mkSt [(Blk.cells (renL Bool.true (rhoO 1 [3]) cb) 5 Bool.false),(Blk.cells (renL Bool.true (rhoO 1 [3]) (List.append (takeC (Nat.mul (List.length c) 1) (dropC 0 c)) [(Value.int IntKind.u8 (asI (nthD cb (Nat.add 0 (atN i 1)))))])) 5 Bool.false)])))))
 (needB (inI (shrI IntKind.u8 (asI (nthD cb (Nat.add 0 (atN i 1)))) (4:Int)) 16)
 (needB (inI (andI IntKind.u8 (asI (nthD cb (Nat.add 0 (atN i 1)))) (15:Int)) 16)
 (needB (Bool.and (Bool.not Bool.false) (Bool.and (Nat.beq 5 5) (Bool.and (Nat.ble 0 (List.length c)) (Nat.ble (Nat.add (List.length c) 3) 4194304))))
 (needB (Nat.beq (Nat.add 0 (Nat.mul (List.length c) 1)) (List.length c))
 (some ((Value.tuple (Array.mk [(Value.int IntKind.i64 (0:Int)),(Value.slice (Option.some (Addr.mk 1 0 none)) (Nat.add (List.length c) 3) 18446744073709551616),(Value.slice (Option.some (Addr.mk 0 0 none)) m 18446744073709551616),(Value.int IntKind.i64 z),(Value.int IntKind.i64 (addI IntKind.i64 i (1:Int)))])),(mkSt [(Blk.cells (renL Bool.true (rhoO 1 [12]) cb) 5 Bool.false),(Blk.cells (renL Bool.true (rhoO 1 [12]) (List.append (takeC (Nat.mul (List.length c) 1) (dropC 0 c)) [(Value.int IntKind.u8 (92:Int)),(Value.int IntKind.u8 (bAt (ByteArray.mk #[48,49,50,51,52,53,54,55,56,57,97,98,99,100,101,102]) (shrI IntKind.u8 (asI (nthD cb (Nat.add 0 (atN i 1)))) (4:Int)))),(Value.int IntKind.u8 (bAt (ByteArray.mk #[48,49,50,51,52,53,54,55,56,57,97,98,99,100,101,102]) (andI IntKind.u8 (asI (nthD cb (Nat.add 0 (atN i 1)))) (15:Int))))])) 5 Bool.false)]))))))))))
 (some ((Value.tuple (Array.mk [(Value.int IntKind.i64 (1:Int)),(Value.slice (Option.some (Addr.mk 1 0 none)) (List.length c) 18446744073709551616),(Value.slice (Option.some (Addr.mk 0 0 none)) m 18446744073709551616),(Value.int IntKind.i64 z),(Value.int IntKind.i64 i)])),(mkSt [(Blk.cells (renL Bool.true (rhoO 1 [1]) cb) 5 Bool.false),(Blk.cells (renL Bool.true (rhoO 1 [1]) c) 5 Bool.false)])))):=by kernel_rfl
def hxU(i:Int):UInt8:=hexD.data.toList.getD i.toNat 0
def enc(b:UInt8):List UInt8:=match plainM b.toNat with
 |true=>[b]
 |false=>[92,hxU (shrI .u8 b.toNat 4),hxU (andI .u8 b.toNat 15)]
def encL(l:List UInt8):List UInt8:=l.flatMap enc
theorem encL_cons(b:UInt8)(l:List UInt8):encL (b::l)=enc b++encL l:=List.flatMap_cons
theorem shr_lt:∀ n:Fin 256,inI (shrI .u8 (n.val:Int) 4) 16=true:=by decide +kernel
theorem and_lt:∀ n:Fin 256,inI (andI .u8 (n.val:Int) 15) 16=true:=by decide +kernel
theorem shr_ok(b:UInt8):inI (shrI .u8 (b.toNat:Int) 4) 16=true:=shr_lt ⟨b.toNat,b.toNat_lt⟩
theorem and_ok'(b:UInt8):inI (andI .u8 (b.toNat:Int) 15) 16=true:=and_lt ⟨b.toNat,b.toNat_lt⟩
theorem enc_length(b:UInt8):(enc b).length≤3:=by unfold enc; split<;>simp
theorem nth_ok{l:List UInt8}{i:Nat}(h:i<l.length):nthD (bc l) (Nat.add 0 (atN (i:Int) 1)) = .int .u8 (l[i].toNat):=by
 have e:Nat.add 0 (atN (i:Int) 1)=i:=by simp[atN]
 rw[e]; exact bc_nth h
theorem word_again{l:List UInt8}{i:Nat}{c:List Value}(h:i<l.length)(hc:flatL c=true)(hb:c.length+3≤4194304)(hl:l.length<9223372036854775807) :
  roundQ P E ct1 50 39 Bword Hword [sl 1 c.length,sl 0 l.length, .int .i64 l.length, .int .i64 i] [.cells (bc l) 5 false, .cells c 5 false] =
   some (.tuple ⟨exV .normal::[sl 1 (c++bc (enc l[i])).length,sl 0 l.length, .int .i64 l.length, .int .i64 ((i+1:Nat):Int)]⟩,mkSt [.cells (bc l) 5 false, .cells (c++bc (enc l[i])) 5 false]):=by
 unfold sl
 rw[dec_word]
 have hw:addI .i64 (i:Int) 1=((i+1:Nat):Int):=by
  unfold addI
  rw[wrap64 (by omega) (by omega)]; omega
 refine ite_t (by simp[ltI,h]) ?_
 refine need_eq (inI_ok (by omega) (by omega)) ?_
 refine need_eq (and_ok (ble_ok (by rw[bc_length]; simp[atN]; omega)) (by rw[nth_ok h]; rfl)) ?_
 simp only[nth_ok h,asI]
 cases hp:plainM (l[i].toNat:Int)with
 |true=>
  have he:enc l[i]=[l[i]]:=by unfold enc; rw[hp]
  refine ite_t rfl ?_
  refine need_eq (and_ok rfl (and_ok rfl (and_ok (ble_ok (Nat.zero_le _)) (ble_ok (by simp; omega))))) ?_
  refine need_eq (beq_ok (by simp)) ?_
  refine leaf_eq ?_ ?_
  ·rw[he,hw]; simp[exV,bc,unk]
  ·simp only[bc_ren,take_all,renL_flat hc,renL_append,he]
   rw[show c.append [Value.int .u8 (l[i].toNat:Int)]=c++bc [l[i]] from rfl,renL_append,renL_flat hc,bc_ren]
 |false=>
  have he:enc l[i]=[92,hxU (shrI .u8 l[i].toNat 4),hxU (andI .u8 l[i].toNat 15)]:=by unfold enc; rw[hp]
  refine ite_f rfl ?_
  refine need_eq (shr_ok _) ?_
  refine need_eq (and_ok' _) ?_
  refine need_eq (and_ok rfl (and_ok rfl (and_ok (ble_ok (Nat.zero_le _)) (ble_ok (by simp; omega))))) ?_
  refine need_eq (beq_ok (by simp)) ?_
  refine leaf_eq ?_ ?_
  ·rw[he,hw]; simp[exV,bc,unk]
  ·simp only[bc_ren,take_all,he]
   have e:∀ x:List Value,x=bc [92,hxU (shrI .u8 l[i].toNat 4),hxU (andI .u8 l[i].toNat 15)]→renL true (rhoO 1 [12]) (c.append x)=c++bc [92,hxU (shrI .u8 l[i].toNat 4),hxU (andI .u8 l[i].toNat 15)]:=by
    intro x hx
    rw[hx,show c.append (bc [92,hxU (shrI .u8 l[i].toNat 4),hxU (andI .u8 l[i].toNat 15)])=c++bc _ from rfl,renL_append,renL_flat hc,bc_ren]
   exact congrArg (fun x=>[Blk.cells (bc l) 5 false,Blk.cells x 5 false]) (e _ rfl)
theorem word_stop{l:List UInt8}{c:List Value}(hc:flatL c=true) :
  roundQ P E ct1 50 39 Bword Hword [sl 1 c.length,sl 0 l.length, .int .i64 l.length, .int .i64 (l.length:Int)] [.cells (bc l) 5 false, .cells c 5 false] =
   some (.tuple ⟨exV (.exit 0)::[sl 1 c.length,sl 0 l.length, .int .i64 l.length, .int .i64 l.length]⟩,mkSt [.cells (bc l) 5 false, .cells c 5 false]):=by
 unfold sl
 rw[dec_word]
 refine ite_f (by simp[ltI]) ?_
 refine leaf_eq ?_ ?_
 ·simp[exV,unk]
 ·simp only[bc_ren,renL_flat hc]
theorem word_loop(l:List UInt8)(hl:l.length<9223372036854775807):∀ (k i:Nat) (c:List Value),i+k=l.length→flatL c=true→c.length+3*k≤4194304→
  LR P 39 0 Bword Hword [sl 1 c.length,sl 0 l.length, .int .i64 l.length, .int .i64 i] [.cells (bc l) 5 false, .cells c 5 false] .normal
   [sl 1 (c++bc (encL (l.drop i))).length,sl 0 l.length, .int .i64 l.length, .int .i64 l.length] [.cells (bc l) 5 false, .cells (c++bc (encL (l.drop i))) 5 false]
 |0,i,c,hi,hc,hb=>by
  have:i=l.length:=by omega
  subst this
  have e:c++bc (encL (l.drop l.length))=c:=by simp[encL,bc]
  rw[e]
  exact LR.stop (engOk ct1) noNum ct1_ok Bword_occ (by kernel_rfl) (e:= .exit 0) (word_stop hc) (by intro h; cases h)
 |k+1,i,c,hi,hc,hb=>by
  have hlt:i<l.length:=by omega
  have hr:=word_again hlt hc (by omega) hl
  have hlen:=enc_length l[i]
  have ih:=word_loop l hl k (i+1) (c++bc (enc l[i])) (by omega) (by rw[flatL_append,hc,bc_flat]; rfl) (by rw[List.length_append,bc_length]; omega)
  have e:c++bc (enc l[i])++bc (encL (l.drop (i+1)))=c++bc (encL (l.drop i)):=by
   rw[List.drop_eq_getElem_cons hlt,encL_cons,bc_append,List.append_assoc]
  rw[e]at ih
  exact LR.again (engOk ct1) noNum ct1_ok Bword_occ (by kernel_rfl) hr ih
end Go.VS.Tryz
end

section
namespace Go.VS.Tryz
set_option maxRecDepth 1000000
open Go.VS
def wordC(v1 v2:Value)(z i:Int)(cb:List Value)(e1:TypeId)(c:List Value)(e2:TypeId):Bool:=
 atB v1 1 c.length&&atB v2 0 cb.length&&z == cb.length&&i == 0&&bytesB cb&&flatL c&&e1 == 5&&e2 == 5&&Nat.ble (c.length+3*cb.length) 4194304
def Rword:LoopFn:=fun vs bs=>match vs,bs with
 |[v1,v2, .int .i64 z, .int .i64 i],[.cells cb e1 false, .cells c e2 false]=>some (.ite (wordC v1 v2 z i cb e1 c e2)
   (.leaf (.normal,[sl 1 (c++bc (encL (cb.map byteOf))).length,sl 0 cb.length, .int .i64 cb.length, .int .i64 cb.length],[.cells cb 5 false, .cells (c++bc (encL (cb.map byteOf))) 5 false])) .fail)
 |_,_=>none
theorem word_loopOk:LoopOk P 39 0 Bword Hword Rword where
 occ:=loopAt_occ Bword_eq
 ok:=by kernel_rfl
 run:=by
  intro vs bs t hR e vs' bs' hev
  unfold Rword at hR
  split at hR
  ·rename_i v1 v2 z i cb e1 c e2
   obtain rfl:=Option.some.inj hR
   cases hc:wordC v1 v2 z i cb e1 c e2 with
   |false=>rw[hc]at hev; cases hev
   |true=>
    rw[hc]at hev
    simp only[DT.eval,Option.some.injEq,Prod.mk.injEq]at hev
    obtain⟨rfl,rfl,rfl⟩:=hev
    simp only[wordC,Bool.and_eq_true,beq_iff_eq]at hc
    obtain⟨⟨⟨⟨⟨⟨⟨⟨h1,h2⟩,h3⟩,h4⟩,h5⟩,h6⟩,h7⟩,h8⟩,h9⟩:=hc
    have h9:=Nat.le_of_ble_eq_true h9
    rw[atB_eq h1,atB_eq h2]
    subst h3 h4 h7 h8
    have hcb:=bc_of h5
    have hlen:(cb.map byteOf).length=cb.length:=by simp
    have:=word_loop (cb.map byteOf) (by omega) cb.length 0 c (by omega) h6 (by omega)
    rw[←hcb,hlen,List.drop_zero]at this
    exact this
  ·cases hR
noncomputable def ct2:Ct:=addLoop 39 0 Hword Rword ct1
theorem ct2_ok:CtOk P ct2:=addLoop_ok ct1_ok word_loopOk
theorem dec_Word(s:ByteArray):callQ P E ct2 50 39 [.string s] =
 (iteB (eqS s (ByteArray.mk #[]))
 (some ((Value.string (ByteArray.mk #[34,34])),(mkSt [])))
 (needB (Nat.ble (ByteArray.size s) 4194304)
 (needB (wordC (Value.slice (Option.some (Addr.mk 1 0 none)) 0 18446744073709551616) (Value.slice (Option.some (Addr.mk 0 0 none)) (ByteArray.size s) 18446744073709551616) (lenI (ByteArray.size s)) (0:Int) (renL Bool.true (rhoO 1 [1]) (Go.byteCells s)) 5 [] 5)
 (needB (Bool.and (Nat.ble (Nat.add 0 (List.length (HAppend.hAppend [] (bc (encL (List.map byteOf (renL Bool.true (rhoO 1 [1]) (Go.byteCells s)))))))) (List.length (HAppend.hAppend [] (bc (encL (List.map byteOf (renL Bool.true (rhoO 1 [1]) (Go.byteCells s)))))))) (allBytes (takeC (List.length (HAppend.hAppend [] (bc (encL (List.map byteOf (renL Bool.true (rhoO 1 [1]) (Go.byteCells s))))))) (dropC 0 (HAppend.hAppend [] (bc (encL (List.map byteOf (renL Bool.true (rhoO 1 [1]) (Go.byteCells s))))))))))
 (some ((Value.string (bytesT (takeC (List.length (HAppend.hAppend [] (bc (encL (List.map byteOf (renL Bool.true (rhoO 1 [1]) (Go.byteCells s))))))) (dropC 0 (HAppend.hAppend [] (bc (encL (List.map byteOf (renL Bool.true (rhoO 1 [1]) (Go.byteCells s)))))))))),(mkSt []))))))):=by kernel_rfl
def wordM(l:List UInt8):List UInt8:=match l with
 |[]=>[34,34]
 |l=>encL l
def RWord:CallFn
 |[.string s]=>some (.ite (Nat.ble (3*s.size) 4194304) (.leaf (.string ⟨⟨wordM s.data.toList⟩⟩,[])) .fail)
 |_=>none
theorem takeC_self(c:List Value):takeC c.length (dropC 0 c)=c:=take_all' c rfl
theorem word_ok:CallOkR P 39 RWord:=by
 refine ok_of ct2_ok (n:=50) fun args t hR v bs hev=>?_
 unfold RWord at hR
 split at hR
 ·rename_i s
  obtain rfl:=Option.some.inj hR
  cases hc:Nat.ble (3*s.size) 4194304 with
  |false=>rw[hc]at hev; cases hev
  |true=>
   rw[hc]at hev
   simp only[DT.eval,Option.some.injEq,Prod.mk.injEq]at hev
   obtain⟨rfl,rfl⟩:=hev
   have hsz:=Nat.le_of_ble_eq_true hc
   have hlen:s.data.toList.length=s.size:=by simp
   rw[dec_Word]
   cases hs:s.data.toList with
   |nil=>
    refine ite_t (by rw[eqS_eq,hs]; rfl) ?_
    rfl
   |cons b l=>
    refine ite_f (by rw[eqS_eq,hs]; rfl) ?_
    refine need_eq (ble_ok (by omega)) ?_
    simp only[byteCells_bc,bc_ren,bc_back,List.nil_append,takeC_self,bc_text]
    refine need_eq ?_ ?_
    ·have h1:atB (.slice (some ⟨1,0,none⟩) 0 18446744073709551616) 1 ([]:List Value).length=true:=atB_sl 1 0
     have h2:atB (.slice (some ⟨0,0,none⟩) s.size 18446744073709551616) 0 (bc s.data.toList).length=true:=by rw[bc_length,hlen]; exact atB_sl 0 s.size
     have h3:(lenI s.size == ((bc s.data.toList).length:Int))=true:=by rw[bc_length,hlen]; simp[lenI]
     have h9:Nat.ble (([]:List Value).length+3*(bc s.data.toList).length) 4194304=true:=ble_ok (by rw[bc_length,hlen]; simpa using hsz)
     unfold wordC
     rw[h1,h2,h3,bytesB_bc,h9]
     rfl
    refine need_eq (and_ok (ble_ok (by simp)) (bc_all _)) ?_
    rw[hs]
    rfl
 ·cases hR
end Go.VS.Tryz
end

section
namespace Go.VS.Tryz
set_option maxRecDepth 1000000
open Go.VS
theorem bAt_nth{s:ByteArray}{i:Nat}(h:i<s.data.toList.length):bAt s (i:Int)=((s.data.toList[i]).toNat:Int):=by
 unfold bAt
 rw[Int.toNat_natCast,List.getD_eq_getElem?_getD,List.getElem?_eq_getElem h]
 rfl
noncomputable def ct3:Ct:=addCall P 39 RWord ct2
theorem ct3_ok:CtOk P ct3:=addCall_ok ct2_ok word_ok
end Go.VS.Tryz
end

section
namespace Go.VS.Tryz
set_option maxRecDepth 1000000
open Go.VS
noncomputable def Hbytes:Head:=⟨0,86,[0,4,5,6],[(4,5)]⟩
noncomputable def Bbytes:Code:=(loopAt P 152 0).getD .skip
theorem Bbytes_eq:loopAt P 152 0=some Bbytes:=by kernel_rfl
theorem Bbytes_occ:Occ P 152 (.block 0 (.loop Bbytes)):=loopAt_has Bbytes_eq
theorem dec_bytes(s:ByteArray)(c:List Value)(i:Int):roundQ P E ct1 50 152 Bbytes Hbytes [.string s, .slice (some ⟨0,0,none⟩) c.length unk, .bool false, .int .i64 i] [.cells c 5 false] =
 (iteB (ltI i (lenI (ByteArray.size s)))
 (needB (inI i (ByteArray.size s))
 (iteB (plainM (bAt s i))
 (needB (Bool.and (Bool.not Bool.false) (Bool.and (Nat.beq 5 5) (Bool.and (Nat.ble 0 (List.length c)) (Nat.ble (Nat.add (List.length c) 1) 4194304))))
 (needB (Nat.beq (Nat.add 0 (Nat.mul (List.length c) 1)) (List.length c))
 (some ((Value.tuple (Array.mk [(Value.int IntKind.i64 (0:Int)),(Value.string s),(Value.slice (Option.some (Addr.mk 0 0 none)) (Nat.add (List.length c) 1) 18446744073709551616),(Value.bool Bool.false),(Value.int IntKind.i64 (addI IntKind.i64 i (1:Int)))])),(mkSt [(Blk.cells (renL Bool.true (rhoO 0 [2]) (List.append (takeC (Nat.mul (List.length c) 1) (dropC 0 c)) [(Value.int IntKind.u8 (bAt s i))])) 5 Bool.false)])))))
 (iteB (eqI (bAt s i) (92:Int))
 (iteB (ltI (addI IntKind.i64 i (2:Int)) (lenI (ByteArray.size s)))
 (needB (inI (addI IntKind.i64 i (1:Int)) (ByteArray.size s))
 (needB (inI (addI IntKind.i64 i (2:Int)) (ByteArray.size s))
 (iteB (notB (digB (bAt s (addI IntKind.i64 i (1:Int)))))
 (some ((Value.tuple (Array.mk [(Value.int IntKind.i64 (1:Int)),(Value.string s),(Value.slice (Option.some (Addr.mk 0 0 none)) (List.length c) 18446744073709551616),(Value.bool Bool.true),(Value.int IntKind.i64 i)])),(mkSt [(Blk.cells (renL Bool.true (rhoO 0 [0]) c) 5 Bool.false)])))
 (iteB (notB (digB (bAt s (addI IntKind.i64 i (2:Int)))))
 (some ((Value.tuple (Array.mk [(Value.int IntKind.i64 (1:Int)),(Value.string s),(Value.slice (Option.some (Addr.mk 0 0 none)) (List.length c) 18446744073709551616),(Value.bool Bool.true),(Value.int IntKind.i64 i)])),(mkSt [(Blk.cells (renL Bool.true (rhoO 0 [0]) c) 5 Bool.false)])))
 (iteB (plainM (orI IntKind.u8 (shlI IntKind.u8 (digV (bAt s (addI IntKind.i64 i (1:Int)))) (4:Int)) (digV (bAt s (addI IntKind.i64 i (2:Int))))))
 (some ((Value.tuple (Array.mk [(Value.int IntKind.i64 (1:Int)),(Value.string s),(Value.slice (Option.some (Addr.mk 0 0 none)) (List.length c) 18446744073709551616),(Value.bool Bool.true),(Value.int IntKind.i64 i)])),(mkSt [(Blk.cells (renL Bool.true (rhoO 0 [0]) c) 5 Bool.false)])))
 (needB (Bool.and (Bool.not Bool.false) (Bool.and (Nat.beq 5 5) (Bool.and (Nat.ble 0 (List.length c)) (Nat.ble (Nat.add (List.length c) 1) 4194304))))
 (needB (Nat.beq (Nat.add 0 (Nat.mul (List.length c) 1)) (List.length c))
 (some ((Value.tuple (Array.mk [(Value.int IntKind.i64 (0:Int)),(Value.string s),(Value.slice (Option.some (Addr.mk 0 0 none)) (Nat.add (List.length c) 1) 18446744073709551616),(Value.bool Bool.false),(Value.int IntKind.i64 (addI IntKind.i64 (addI IntKind.i64 i (2:Int)) (1:Int)))])),(mkSt [(Blk.cells (renL Bool.true (rhoO 0 [2]) (List.append (takeC (Nat.mul (List.length c) 1) (dropC 0 c)) [(Value.int IntKind.u8 (orI IntKind.u8 (shlI IntKind.u8 (digV (bAt s (addI IntKind.i64 i (1:Int)))) (4:Int)) (digV (bAt s (addI IntKind.i64 i (2:Int))))))])) 5 Bool.false)]))))))))))
 (some ((Value.tuple (Array.mk [(Value.int IntKind.i64 (1:Int)),(Value.string s),(Value.slice (Option.some (Addr.mk 0 0 none)) (List.length c) 18446744073709551616),(Value.bool Bool.true),(Value.int IntKind.i64 i)])),(mkSt [(Blk.cells (renL Bool.true (rhoO 0 [0]) c) 5 Bool.false)]))))
 (some ((Value.tuple (Array.mk [(Value.int IntKind.i64 (1:Int)),(Value.string s),(Value.slice (Option.some (Addr.mk 0 0 none)) (List.length c) 18446744073709551616),(Value.bool Bool.true),(Value.int IntKind.i64 i)])),(mkSt [(Blk.cells (renL Bool.true (rhoO 0 [0]) c) 5 Bool.false)]))))))
 (some ((Value.tuple (Array.mk [(Value.int IntKind.i64 (1:Int)),(Value.string s),(Value.slice (Option.some (Addr.mk 0 0 none)) (List.length c) 18446744073709551616),(Value.bool Bool.false),(Value.int IntKind.i64 i)])),(mkSt [(Blk.cells (renL Bool.true (rhoO 0 [0]) c) 5 Bool.false)])))):=by kernel_rfl
def hv(h l:UInt8):Int:=orI .u8 (shlI .u8 (digV h.toNat) 4) (digV l.toNat)
def goodH(h l:UInt8):Bool:=digB h.toNat&&digB l.toNat&&!plainM (hv h l)
def byteH(h l:UInt8):UInt8:=UInt8.ofNat (hv h l).toNat
theorem wrap_u8(n:Int):IntKind.u8.wrap n=n % 256:=by
 show(if(false&&decide (n % (2^8:Int)≥(2^(8-1):Int)))=true then n % (2^8:Int)-(2^8:Int)else n % (2^8:Int))=_
 simp
theorem byteH_eq(h l:UInt8):((byteH h l).toNat:Int)=hv h l:=by
 unfold byteH
 have h1:0≤hv h l∧hv h l<256:=by
  unfold hv orI
  rw[wrap_u8]
  omega
 generalize hv h l=n at h1
 simp only[UInt8.toNat_ofNat']
 omega
def decL:List UInt8→List UInt8×Bool×Nat
 |[]=>([],false,0)
 |x::r=>match plainM x.toNat with
  |true=>(x::(decL r).1,(decL r).2)
  |false=>match eqI x.toNat 92,r with
   |true,h::l::r'=>match goodH h l with
    |true=>(byteH h l::(decL r').1,(decL r').2)
    |false=>([],true,r'.length+3)
   |_,r=>([],true,r.length+1)
section
variable{s:ByteArray}{i:Nat}{c:List Value}
theorem addI_nat{i k:Nat}(h:i+k<9223372036854775808):addI .i64 (i:Int) (k:Int)=((i+k:Nat):Int):=by
 unfold addI
 rw[wrap64 (by omega) (by omega)]; omega
theorem bytes_plain(h:i<s.data.toList.length)(hc:flatL c=true)(hb:c.length+1≤4194304)(hl:s.size<9223372036854775800)(hp:plainM (s.data.toList[i].toNat:Int)=true) :
  roundQ P E ct1 50 152 Bbytes Hbytes [.string s,sl 0 c.length, .bool false, .int .i64 i] [.cells c 5 false] =
   some (.tuple ⟨exV .normal::[.string s,sl 0 (c++bc [s.data.toList[i]]).length, .bool false, .int .i64 ((i+1:Nat):Int)]⟩,mkSt [.cells (c++bc [s.data.toList[i]]) 5 false]):=by
 unfold sl
 have hsz:s.data.toList.length=s.size:=by simp
 have hx:(i:Int)<(s.size:Int):=by omega
 have hw:=addI_nat (i:=i) (k:=1) (by omega)
 rw[dec_bytes]
 refine ite_t (decide_eq_true hx) ?_
 refine need_eq (inI_ok (by omega) hx) ?_
 rw[bAt_nth h]
 refine ite_t hp ?_
 refine need_eq (and_ok rfl (and_ok rfl (and_ok (ble_ok (Nat.zero_le _)) (ble_ok (by simp; omega))))) ?_
 refine need_eq (beq_ok (by simp)) ?_
 refine leaf_eq ?_ ?_
 ·rw[show addI .i64 (i:Int) 1=((i+1:Nat):Int) from hw]; simp[exV,bc,unk]
 ·simp only[take_all]
  have e:∀ x:List Value,x=bc [s.data.toList[i]]→renL true (rhoO 0 [2]) (c.append x)=c++bc [s.data.toList[i]]:=by
   intro x hx
   rw[hx,show c.append (bc [s.data.toList[i]])=c++bc _ from rfl,renL_append,renL_flat hc,bc_ren]
  exact congrArg (fun x=>[Blk.cells x 5 false]) (e _ rfl)
theorem bytes_end(hc:flatL c=true)(h:i=s.size) :
  roundQ P E ct1 50 152 Bbytes Hbytes [.string s,sl 0 c.length, .bool false, .int .i64 i] [.cells c 5 false] =
   some (.tuple ⟨exV (.exit 0)::[.string s,sl 0 c.length, .bool false, .int .i64 i]⟩,mkSt [.cells c 5 false]):=by
 unfold sl
 rw[dec_bytes]
 refine ite_f (by subst h; simp[ltI,lenI]) ?_
 refine leaf_eq (by simp[exV,unk]) ?_
 simp only[renL_flat hc]
theorem bad_leaf(hc:flatL c=true):(some ((Go.Value.tuple (Array.mk [(Go.Value.int Go.IntKind.i64 (1:Int)),(Go.Value.string s),(Go.Value.slice (Option.some (Go.Addr.mk 0 0 none)) (List.length c) 18446744073709551616),(Go.Value.bool Bool.true),(Go.Value.int Go.IntKind.i64 (i:Int))])),(Go.VS.mkSt [(Go.VS.Blk.cells (Go.VS.renL Bool.true (Go.VS.rhoO 0 [0]) c) 5 Bool.false)])):Res) =
  some (.tuple ⟨exV (.exit 0)::[.string s,sl 0 c.length, .bool true, .int .i64 i]⟩,mkSt [.cells c 5 false]):=by
 refine leaf_eq (by simp[exV,unk,sl]) ?_
 simp only[renL_flat hc]
theorem bytes_other(h:i<s.data.toList.length)(hc:flatL c=true)(hp:plainM (s.data.toList[i].toNat:Int)=false)(hb:eqI (s.data.toList[i].toNat:Int) 92=false∨s.data.toList.length≤i+2)(hl:s.size<9223372036854775800) :
  roundQ P E ct1 50 152 Bbytes Hbytes [.string s,sl 0 c.length, .bool false, .int .i64 i] [.cells c 5 false] =
   some (.tuple ⟨exV (.exit 0)::[.string s,sl 0 c.length, .bool true, .int .i64 i]⟩,mkSt [.cells c 5 false]):=by
 have hsz:s.data.toList.length=s.size:=by simp
 have hx:(i:Int)<(s.size:Int):=by omega
 have hw2:=addI_nat (i:=i) (k:=2) (by omega)
 have hd:=dec_bytes s c i
 unfold sl
 rw[hd]
 refine ite_t (decide_eq_true hx) ?_
 refine need_eq (inI_ok (by omega) hx) ?_
 rw[bAt_nth h]
 refine ite_f hp ?_
 cases he:eqI (s.data.toList[i].toNat:Int) 92 with
 |false=>exact ite_f rfl (bad_leaf hc)
 |true=>
  refine ite_t rfl ?_
  have hb:s.data.toList.length≤i+2:=hb.resolve_left (by rw[he]; decide)
  refine ite_f ?_ (bad_leaf hc)
  rw[show addI .i64 (i:Int) 2=((i+2:Nat):Int) from hw2]
  refine decide_eq_false ?_
  show ¬((i+2:Nat):Int)<(s.size:Int)
  omega
theorem bytes_pair(h2:i+2<s.data.toList.length)(hc:flatL c=true)(hb:c.length+1≤4194304)(hp:plainM (s.data.toList[i].toNat:Int)=false)(he:eqI (s.data.toList[i].toNat:Int) 92=true)(hl:s.size<9223372036854775800) :
  roundQ P E ct1 50 152 Bbytes Hbytes [.string s,sl 0 c.length, .bool false, .int .i64 i] [.cells c 5 false] =
   match goodH s.data.toList[i+1] s.data.toList[i+2]with
   |true=>some (.tuple ⟨exV .normal::[.string s,sl 0 (c++bc [byteH s.data.toList[i+1] s.data.toList[i+2]]).length, .bool false, .int .i64 ((i+3:Nat):Int)]⟩,mkSt [.cells (c++bc [byteH s.data.toList[i+1] s.data.toList[i+2]]) 5 false])
   |false=>some (.tuple ⟨exV (.exit 0)::[.string s,sl 0 c.length, .bool true, .int .i64 i]⟩,mkSt [.cells c 5 false]):=by
 have hsz:s.data.toList.length=s.size:=by simp
 have hx:(i:Int)<(s.size:Int):=by omega
 have hw1:addI .i64 (i:Int) 1=((i+1:Nat):Int):=addI_nat (i:=i) (k:=1) (by omega)
 have hw2:addI .i64 (i:Int) 2=((i+2:Nat):Int):=addI_nat (i:=i) (k:=2) (by omega)
 have hw3:addI .i64 ((i+2:Nat):Int) 1=((i+3:Nat):Int):=addI_nat (i:=i+2) (k:=1) (by omega)
 have hx1:((i+1:Nat):Int)<(s.size:Int):=by omega
 have hx2:((i+2:Nat):Int)<(s.size:Int):=by omega
 have hd:=dec_bytes s c i
 rw[hw1,hw2,hw3,bAt_nth (show i<s.data.toList.length by omega),bAt_nth (show i+1<s.data.toList.length by omega),bAt_nth h2]at hd
 unfold sl
 rw[hd]
 refine ite_t (decide_eq_true hx) ?_
 refine need_eq (inI_ok (by omega) hx) ?_
 refine ite_f hp ?_
 refine ite_t he ?_
 refine ite_t (decide_eq_true hx2) ?_
 refine need_eq (inI_ok (by omega) hx1) ?_
 refine need_eq (inI_ok (by omega) hx2) ?_
 unfold goodH
 cases d1:digB (s.data.toList[i+1].toNat:Int)with
 |false=>exact ite_t rfl (bad_leaf hc)
 |true=>
  refine ite_f rfl ?_
  cases d2:digB (s.data.toList[i+2].toNat:Int)with
  |false=>exact ite_t rfl (bad_leaf hc)
  |true=>
   refine ite_f rfl ?_
   cases d3:plainM (hv s.data.toList[i+1] s.data.toList[i+2])with
   |true=>exact ite_t d3 (bad_leaf hc)
   |false=>
    refine ite_f d3 ?_
    refine need_eq (and_ok rfl (and_ok rfl (and_ok (ble_ok (Nat.zero_le _)) (ble_ok (by simp; omega))))) ?_
    refine need_eq (beq_ok (by simp)) ?_
    refine leaf_eq ?_ ?_
    ·simp[exV,bc,unk]
    ·simp only[take_all]
     have e:∀ x:List Value,x=bc [byteH s.data.toList[i+1] s.data.toList[i+2]]→renL true (rhoO 0 [2]) (c.append x)=c++bc [byteH s.data.toList[i+1] s.data.toList[i+2]]:=by
      intro x hx
      rw[hx,show c.append (bc [byteH s.data.toList[i+1] s.data.toList[i+2]])=c++bc _ from rfl,renL_append,renL_flat hc,bc_ren]
     refine congrArg (fun x=>[Blk.cells x 5 false]) (e _ ?_)
     show [Value.int .u8 (hv s.data.toList[i+1] s.data.toList[i+2])]=[Value.int .u8 ((byteH s.data.toList[i+1] s.data.toList[i+2]).toNat:Int)]
     rw[byteH_eq]
end
end Go.VS.Tryz
end

section
namespace Go.VS.Tryz
set_option maxRecDepth 1000000
open Go.VS
theorem decL_plain{x:UInt8}{r:List UInt8}(h:plainM x.toNat=true):decL (x::r)=(x::(decL r).1,(decL r).2):=by
 rw[decL.eq_def]; simp only[h]
theorem decL_pair{x h l:UInt8}{r:List UInt8}(hp:plainM x.toNat=false)(he:eqI x.toNat 92=true):decL (x::h::l::r)=match goodH h l with
  |true=>(byteH h l::(decL r).1,(decL r).2)
  |false=>([],true,r.length+3):=by
 rw[decL.eq_def]; simp only[hp,he]<;>cases goodH h l<;>rfl
theorem decL_other{x:UInt8}{r:List UInt8}(hp:plainM x.toNat=false)(ho:eqI x.toNat 92=false∨r.length<2):decL (x::r)=([],true,r.length+1):=by
 rw[decL.eq_def]
 simp only[hp]
 cases he:eqI x.toNat 92 with
 |false=>cases r with
  |nil=>rfl
  |cons a r=>cases r<;>rfl
 |true=>
  have:r.length<2:=ho.resolve_left (by rw[he]; decide)
  cases r with
  |nil=>rfl
  |cons a r=>cases r with
   |nil=>rfl
   |cons b r=>simp at this; omega
theorem bytes_loop(s:ByteArray)(hl:s.size<9223372036854775800):∀ (k i:Nat) (c:List Value),i+k=s.size→flatL c=true→c.length+k≤4194304→
  LR P 152 0 Bbytes Hbytes [.string s,sl 0 c.length, .bool false, .int .i64 i] [.cells c 5 false] .normal
   [.string s,sl 0 (c++bc (decL (s.data.toList.drop i)).1).length, .bool (decL (s.data.toList.drop i)).2.1, .int .i64 ((s.size-(decL (s.data.toList.drop i)).2.2:Nat):Int)] [.cells (c++bc (decL (s.data.toList.drop i)).1) 5 false]:=by
 intro k
 induction k using Nat.strongRecOn with
 |_ k ih=>
  intro i c hi hc hb
  have hsz:s.data.toList.length=s.size:=by simp
  have stop:∀ {vs1:List Value} {bs1:List Blk},roundQ P E ct1 50 152 Bbytes Hbytes [.string s,sl 0 c.length, .bool false, .int .i64 i] [.cells c 5 false]=some (.tuple ⟨exV (.exit 0)::vs1⟩,mkSt bs1)→
    LR P 152 0 Bbytes Hbytes [.string s,sl 0 c.length, .bool false, .int .i64 i] [.cells c 5 false] .normal vs1 bs1:=
   fun h=>LR.stop (engOk ct1) noNum ct1_ok Bbytes_occ (by kernel_rfl) (e:= .exit 0) h (by intro h; cases h)
  by_cases hk:k=0
  ·subst hk
   have e:s.data.toList.drop i=[]:=List.drop_of_length_le (by omega)
   rw[e]
   have:=stop (bytes_end hc (by omega))
   simpa [decL,bc,hi]using(by simpa using(show i=s.size by omega)▸this)
  ·have hlt:i<s.data.toList.length:=by omega
   rw[List.drop_eq_getElem_cons hlt]
   cases hp:plainM (s.data.toList[i].toNat:Int)with
   |true=>
    have:=ih (k-1) (by omega) (i+1) (c++bc [s.data.toList[i]]) (by omega) (by rw[flatL_append,hc,bc_flat]; rfl) (by rw[List.length_append,bc_length]; simp; omega)
    rw[decL_plain hp]
    have e:∀ q,c++bc [s.data.toList[i]]++bc q=c++bc (s.data.toList[i]::q):=by
     intro q; rw[List.append_assoc,←bc_append]; rfl
    rw[e]at this
    exact LR.again (engOk ct1) noNum ct1_ok Bbytes_occ (by kernel_rfl) (bytes_plain hlt hc (by omega) hl hp) this
   |false=>
    have hrest:(s.data.toList.drop (i+1)).length=k-1:=by rw[List.length_drop]; omega
    by_cases ho:eqI (s.data.toList[i].toNat:Int) 92=false∨s.data.toList.length≤i+2
    ·have:=stop (bytes_other hlt hc hp ho hl)
     rw[decL_other hp (ho.imp id fun h=>by rw[hrest]; omega)]
     have e:s.size-((s.data.toList.drop (i+1)).length+1)=i:=by rw[hrest]; omega
     simp only[e]
     have e2:c++bc []=c:=by simp[bc]
     rw[e2]
     exact this
    ·have he:eqI (s.data.toList[i].toNat:Int) 92=true:=by
      cases h:eqI (s.data.toList[i].toNat:Int) 92 with
      |true=>rfl
      |false=>exact absurd (Or.inl h) ho
     have h2:i+2<s.data.toList.length:=by
      have:¬s.data.toList.length≤i+2:=fun h=>ho (Or.inr h)
      omega
     have hr:=bytes_pair h2 hc (by omega) hp he hl
     rw[List.drop_eq_getElem_cons (show i+1<s.data.toList.length by omega),List.drop_eq_getElem_cons h2,decL_pair hp he]
     have hrest3:(s.data.toList.drop (i+3)).length=k-3:=by rw[List.length_drop]; omega
     cases hg:goodH s.data.toList[i+1] s.data.toList[i+2]with
     |true=>
      rw[hg]at hr
      have:=ih (k-3) (by omega) (i+3) (c++bc [byteH s.data.toList[i+1] s.data.toList[i+2]]) (by omega) (by rw[flatL_append,hc,bc_flat]; rfl) (by rw[List.length_append,bc_length]; simp; omega)
      have e:∀ q,c++bc [byteH s.data.toList[i+1] s.data.toList[i+2]]++bc q=c++bc (byteH s.data.toList[i+1] s.data.toList[i+2]::q):=by
       intro q; rw[List.append_assoc,←bc_append]; rfl
      rw[e]at this
      exact LR.again (engOk ct1) noNum ct1_ok Bbytes_occ (by kernel_rfl) hr this
     |false=>
      rw[hg]at hr
      have:=stop hr
      have e:s.size-((s.data.toList.drop (i+3)).length+3)=i:=by rw[hrest3]; omega
      simp only[e]
      have e2:c++bc []=c:=by simp[bc]
      rw[e2]
      exact this
def bytesC(s:ByteArray)(v1:Value)(bad:Bool)(i:Int)(c:List Value)(e1:TypeId):Bool:=
 atB v1 0 c.length&&!bad&&i == 0&&flatL c&&e1 == 5&&Nat.ble (c.length+s.size) 4194304
def RbytesL:LoopFn:=fun vs bs=>match vs,bs with
 |[.string s,v1, .bool bad, .int .i64 i],[.cells c e1 false]=>some (.ite (bytesC s v1 bad i c e1)
   (.leaf (.normal,[.string s,sl 0 (c++bc (decL s.data.toList).1).length, .bool (decL s.data.toList).2.1, .int .i64 ((s.size-(decL s.data.toList).2.2:Nat):Int)],[.cells (c++bc (decL s.data.toList).1) 5 false])) .fail)
 |_,_=>none
theorem bytes_loopOk:LoopOk P 152 0 Bbytes Hbytes RbytesL where
 occ:=loopAt_occ Bbytes_eq
 ok:=by kernel_rfl
 run:=by
  intro vs bs t hR e vs' bs' hev
  unfold RbytesL at hR
  split at hR
  ·rename_i s v1 bad i c e1
   obtain rfl:=Option.some.inj hR
   cases hc:bytesC s v1 bad i c e1 with
   |false=>rw[hc]at hev; cases hev
   |true=>
    rw[hc]at hev
    simp only[DT.eval,Option.some.injEq,Prod.mk.injEq]at hev
    obtain⟨rfl,rfl,rfl⟩:=hev
    simp only[bytesC,Bool.and_eq_true,beq_iff_eq,Bool.not_eq_true']at hc
    obtain⟨⟨⟨⟨⟨h1,h2⟩,h3⟩,h4⟩,h5⟩,h6⟩:=hc
    have h6:=Nat.le_of_ble_eq_true h6
    rw[atB_eq h1]
    subst h2 h3 h5
    have:=bytes_loop s (by omega) s.size 0 c (by omega) h4 (by omega)
    rw[List.drop_zero]at this
    exact this
  ·cases hR
noncomputable def ct4:Ct:=addLoop 152 0 Hbytes RbytesL ct3
theorem ct4_ok:CtOk P ct4:=addLoop_ok ct3_ok bytes_loopOk
theorem dec_Bytes(s:ByteArray):callQ P E ct4 50 152 [.string s] =
 (iteB (eqS s (ByteArray.mk #[34,34]))
 (some ((Value.tuple (Array.mk [(Value.string (ByteArray.mk #[])),(Value.int IntKind.i64 (0:Int))])),(mkSt [])))
 (needB (bytesC s (Value.slice (Option.some (Addr.mk 0 0 none)) 0 18446744073709551616) Bool.false (0:Int) [] 5)
 (iteB (Prod.fst (Prod.snd (decL (Array.toList (ByteArray.data s)))))
 (some ((Value.tuple (Array.mk [(Value.string (ByteArray.mk #[])),(Value.int IntKind.i64 (5:Int))])),(mkSt [])))
 (iteB (eqI (lenI (List.length (HAppend.hAppend [] (bc (Prod.fst (decL (Array.toList (ByteArray.data s)))))))) (0:Int))
 (some ((Value.tuple (Array.mk [(Value.string (ByteArray.mk #[])),(Value.int IntKind.i64 (5:Int))])),(mkSt [])))
 (needB (Bool.and (Nat.ble (Nat.add 0 (List.length (HAppend.hAppend [] (bc (Prod.fst (decL (Array.toList (ByteArray.data s)))))))) (List.length (HAppend.hAppend [] (bc (Prod.fst (decL (Array.toList (ByteArray.data s)))))))) (allBytes (takeC (List.length (HAppend.hAppend [] (bc (Prod.fst (decL (Array.toList (ByteArray.data s))))))) (dropC 0 (HAppend.hAppend [] (bc (Prod.fst (decL (Array.toList (ByteArray.data s))))))))))
 (some ((Value.tuple (Array.mk [(Value.string (bytesT (takeC (List.length (HAppend.hAppend [] (bc (Prod.fst (decL (Array.toList (ByteArray.data s))))))) (dropC 0 (HAppend.hAppend [] (bc (Prod.fst (decL (Array.toList (ByteArray.data s)))))))))),(Value.int IntKind.i64 (0:Int))])),(mkSt [])))))))):=by kernel_rfl
def bytesM(w:List UInt8):List UInt8×Int:=match w == [34,34]with
 |true=>([],0)
 |false=>match(decL w).2.1,(decL w).1 with
  |true,_=>([],5)
  |false,[]=>([],5)
  |false,l=>(l,0)
def RBytes:CallFn
 |[.string s]=>some (.ite (Nat.ble s.size 4194304) (.leaf (.tuple ⟨[.string ⟨⟨(bytesM s.data.toList).1⟩⟩, .int .i64 (bytesM s.data.toList).2]⟩,[])) .fail)
 |_=>none
theorem Bytes_ok:CallOkR P 152 RBytes:=by
 refine ok_of ct4_ok (n:=50) fun args t hR v bs hev=>?_
 unfold RBytes at hR
 split at hR
 ·rename_i s
  obtain rfl:=Option.some.inj hR
  cases hc:Nat.ble s.size 4194304 with
  |false=>rw[hc]at hev; cases hev
  |true=>
   rw[hc]at hev
   simp only[DT.eval,Option.some.injEq,Prod.mk.injEq]at hev
   obtain⟨rfl,rfl⟩:=hev
   have hsz:=Nat.le_of_ble_eq_true hc
   rw[dec_Bytes]
   unfold bytesM
   cases hq:s.data.toList == [34,34]with
   |true=>exact ite_t (by rw[eqS_eq]; exact hq) rfl
   |false=>
    refine ite_f (by rw[eqS_eq]; exact hq) ?_
    refine need_eq ?_ ?_
    ·have h1:atB (.slice (some ⟨0,0,none⟩) 0 18446744073709551616) 0 ([]:List Value).length=true:=atB_sl 0 0
     have h9:Nat.ble (([]:List Value).length+s.size) 4194304=true:=ble_ok (by simpa using hsz)
     unfold bytesC
     rw[h1,h9]
     rfl
    simp only[List.nil_append,takeC_self,bc_text]
    generalize decL s.data.toList=q
    obtain⟨out,bad,left⟩:=q
    cases bad with
    |true=>exact ite_t rfl rfl
    |false=>
     refine ite_f rfl ?_
     cases out with
     |nil=>exact ite_t rfl rfl
     |cons b l=>
      refine ite_f ?_ ?_
      ·rw[bc_length]
       show((((b::l).length:Nat):Int) == 0)=false
       simp only[List.length_cons,beq_eq_false_iff_ne,ne_eq]
       omega
      refine need_eq (and_ok (ble_ok (by simp)) (bc_all _)) rfl
 ·cases hR
end Go.VS.Tryz
end

section
namespace Go.VS.Tryz
set_option maxRecDepth 1000000
open Go.VS
theorem need_tt{x:Res}:needB true x=x:=rfl
def polD:Pol:=fun _=>none
noncomputable def ctF:Ct:=frzCt P
theorem ctF_ok:CtOk P ctF:=frzCt_ok noNum
theorem dec_Check(p:Bool)(k v:ByteArray):callQ P E noCt 50 153 [.agg ⟨[.bool p, .string k, .string v]⟩] =
 (iteB (ltI (lenI (ByteArray.size k)) (1:Int))
 (some ((Value.int IntKind.i64 (2:Int)),(mkSt [])))
 (iteB (gtI (lenI (ByteArray.size k)) (16:Int))
 (some ((Value.int IntKind.i64 (2:Int)),(mkSt [])))
 (iteB (gtI (lenI (ByteArray.size v)) (32:Int))
 (some ((Value.int IntKind.i64 (2:Int)),(mkSt [])))
 (iteB (notB p)
 (iteB (neS v (ByteArray.mk #[]))
 (some ((Value.int IntKind.i64 (2:Int)),(mkSt [])))
 (some ((Value.int IntKind.i64 (0:Int)),(mkSt []))))
 (some ((Value.int IntKind.i64 (0:Int)),(mkSt []))))))):=by kernel_rfl
def opOk(p:Bool)(k v:ByteArray):Bool:=decide (1≤k.size)&&decide (k.size≤16)&&decide (v.size≤32)&&(p || v.data.toList == [])
def RcheckV(O:Bool→ByteArray→ByteArray→Bool):CallFn
 |[.agg ⟨[.bool p, .string k, .string v]⟩]=>some (.ite (O p k v) (.leaf (.int .i64 0,[])) (.leaf (.int .i64 2,[])))
 |_=>none
def Rcheck:CallFn:=RcheckV opOk
theorem check_tree(p:Bool)(k v:ByteArray):iteB (ltI (lenI k.size) 1) (some (.int .i64 2,mkSt [])) (iteB (gtI (lenI k.size) 16) (some (.int .i64 2,mkSt [])) (iteB (gtI (lenI v.size) 32) (some (.int .i64 2,mkSt []))
  (iteB (notB p) (iteB (neS v ⟨#[]⟩) (some (.int .i64 2,mkSt [])) (some (.int .i64 0,mkSt []))) (some (.int .i64 0,mkSt [])))))=(some (.int .i64 (match opOk p k v with | true=>0 | false=>2),mkSt []):Res):=by
 unfold opOk
 by_cases h1:1≤k.size
 ·refine ite_f (by show decide ((k.size:Int)<1)=false; exact decide_eq_false (by omega)) ?_
  by_cases h2:k.size≤16
  ·refine ite_f (by simp[gtI,lenI]; omega) ?_
   by_cases h3:v.size≤32
   ·refine ite_f (by simp[gtI,lenI]; omega) ?_
    rw[decide_eq_true h1,decide_eq_true h2,decide_eq_true h3]
    cases p with
    |true=>exact ite_f rfl rfl
    |false=>
     refine ite_t rfl ?_
     cases h4:v.data.toList == []with
     |true=>exact ite_f (by rw[neS_eq]; show(!(v.data.toList == []))=false; rw[h4]; rfl) rfl
     |false=>exact ite_t (by rw[neS_eq]; show(!(v.data.toList == []))=true; rw[h4]; rfl) rfl
   ·rw[decide_eq_false h3]
    exact ite_t (by simp[gtI,lenI]; omega) (by simp)
  ·rw[decide_eq_false h2]
   exact ite_t (by simp[gtI,lenI]; omega) (by simp)
 ·rw[decide_eq_false h1]
  exact ite_t (by show decide ((k.size:Int)<1)=true; exact decide_eq_true (by omega)) (by simp)
theorem check_any{F:Nat}(h:∀ p k v,callQ P E noCt 50 F [.agg ⟨[.bool p, .string k, .string v]⟩]=some (.int .i64 (match opOk p k v with | true=>0 | false=>2),mkSt [])):CallOkR P F Rcheck:=by
 refine ok_of (noCt_ok P) (n:=50) fun args t hR v bs hev=>?_
 unfold Rcheck RcheckV at hR
 split at hR
 ·rename_i p k w
  obtain rfl:=Option.some.inj hR
  rw[h]
  cases hc:opOk p k w<;>rw[hc]at hev<;>(simp only[DT.eval,Option.some.injEq,Prod.mk.injEq]at hev; obtain⟨rfl,rfl⟩:=hev; rfl)
 ·cases hR
theorem Check_ok:CallOkR P 153 Rcheck:=check_any fun p k v=>by rw[dec_Check]; exact check_tree p k v
theorem need_at{σ:Type}{k:Con σ}{s:σ}{vs:List Value}{bs:List Blk}{x r:Res}(h1:(k.enc s).1=vs)(h2:(k.enc s).2=bs)(h:x=r):needB (k.at s vs bs) x=r:=by
 rw[k.at_true h1 h2]; exact h
noncomputable def ctBv(O:Bool→ByteArray→ByteArray→Bool):Ct:=addCall P 153 (RcheckV O) ctF
noncomputable def ctB:Ct:=ctBv opOk
theorem ctB_ok:CtOk P ctB:=addCall_ok ctF_ok Check_ok
def Dbc:HeadX:=⟨0,26,[2,14,15,16],[.val, .val, .val, .val],[],polD⟩
noncomputable def Bbc:Code:=(loopAt P 154 1).getD .skip
theorem Bbc_eq:loopAt P 154 1=some Bbc:=by kernel_rfl
theorem Bbc_occ:Occ P 154 (.block 1 (.loop Bbc)):=loopAt_has Bbc_eq
theorem dec_bc(O:Bool→ByteArray→ByteArray→Bool)(n b:Nat)(c:List Value)(r z i:Int):roundQX P E (ctBv O) 50 154 Bbc Dbc [.int .i64 r,mkFz 3 n b c, .int .i64 z, .int .i64 i] [] =
 (iteB (ltI i z)
 (needB (Bool.and (Nat.beq 3 3) (inI i n))
 (needB (Bool.and (Nat.ble (Nat.add (atN i 3) 3) (List.length c)) (etasB [Eta.bool,Eta.string,Eta.string] c (atN i 3)))
 (iteB (O (asB (nthD c (atN i 3))) (asS (nthD c (Nat.add (atN i 3) 1))) (asS (nthD c (Nat.add (Nat.add (atN i 3) 1) 1))))
 (some ((Value.tuple (Array.mk [(Value.int IntKind.i64 (0:Int)),(Value.int IntKind.i64 r),(Value.iface 18446744073709551619 (Value.agg (Array.mk ((Value.slice none n b)::c)))),(Value.int IntKind.i64 z),(Value.int IntKind.i64 (addI IntKind.i64 i (1:Int)))])),(mkSt [])))
 (some ((Value.tuple (Array.mk [(Value.int IntKind.i64 (-1:Int)),(Value.int IntKind.i64 (2:Int)),(Value.iface 18446744073709551619 (Value.agg (Array.mk ((Value.slice none n b)::c)))),(Value.int IntKind.i64 z),(Value.int IntKind.i64 i)])),(mkSt []))))))
 (some ((Value.tuple (Array.mk [(Value.int IntKind.i64 (2:Int)),(Value.int IntKind.i64 r),(Value.iface 18446744073709551619 (Value.agg (Array.mk ((Value.slice none n b)::c)))),(Value.int IntKind.i64 z),(Value.int IntKind.i64 i)])),(mkSt [])))):=by kernel_rfl
theorem dec_bck(C:List Value→List Blk→Bool)(ok:Bool)(r:Int)(z:Value)(y1 y2 y3:Int)(n b:Nat)(c:List Value):callQX P E (addLoopX P 154 1 Dbc (oneL C (.ite ok (.leaf (.normal,[.int .i64 0,z, .int .i64 y1, .int .i64 y2],[])) (.leaf (.ret,[.int .i64 r,z, .int .i64 y1, .int .i64 y3],[])))) ctF) 50 polD [] [] 0 154 [mkFz 3 n b c] [] =
 (iteB (eqI (lenI n) (0:Int))
 (some ((Value.int IntKind.i64 (2:Int)),(mkSt [])))
 (iteB (gtI (lenI n) (8:Int))
 (some ((Value.int IntKind.i64 (3:Int)),(mkSt [])))
 (needB (C [(Value.int IntKind.i64 (0:Int)),(Value.iface 18446744073709551619 (Value.agg (Array.mk ((Value.slice none n b)::c)))),(Value.int IntKind.i64 (lenI n)),(Value.int IntKind.i64 (0:Int))] [])
 (iteB ok
 (some ((Value.int IntKind.i64 (0:Int)),(mkSt [])))
 (some ((Value.int IntKind.i64 r),(mkSt []))))))):=by kernel_rfl
def opOkM(o:OpM):Bool:=opOk o.p o.k o.v
def fzOps(l:List OpM):Value:=mkFz 3 l.length 0 (EOp.all l)
def bcV(r:Int)(l:List OpM)(i:Int):List Value:=[.int .i64 r,fzOps l, .int .i64 (lenI l.length), .int .i64 i]
theorem op_etas{l:List OpM}{i:Nat}(h:i<l.length):etasB [.bool, .string, .string] (EOp.all l) (atN (i:Int) 3)=true:=by
 show and (etaB .bool (nthD (EOp.all l) (atN (i:Int) 3))) (and (etaB .string (nthD (EOp.all l) (Nat.add (atN (i:Int) 3) 1))) (and (etaB .string (nthD (EOp.all l) (Nat.add (Nat.add (atN (i:Int) 3) 1) 1))) true))=true
 rw[op_0 h,op_1 h,op_2 h]; rfl
theorem bc_round{l:List OpM}{i:Nat}(hi:i<l.length)(hl:l.length<4194304):roundQX P E ctB 50 154 Bbc Dbc (bcV 0 l i) []=match opOkM l[i]with
  |true=>some (.tuple ⟨exV .normal::bcV 0 l ((i+1:Nat):Int)⟩,mkSt [])
  |false=>some (.tuple ⟨exV .ret::bcV 2 l i⟩,mkSt []):=by
 unfold bcV fzOps ctB
 rw[dec_bc]
 have n3:∀ l:List OpM,(EOp.all l).length=Nat.mul l.length 3:=fun l=>EOp.all_length l
 have g1:ltI (i:Int) (lenI l.length)=true:=by unfold ltI lenI; exact decide_eq_true (by omega)
 have g2:inI (i:Int) l.length=true:=by unfold inI; exact decide_eq_true (by omega)
 have g3:Nat.ble (Nat.add (atN (i:Int) 3) 3) (Nat.mul l.length 3)=true:=Nat.ble_eq_true_of_le (by
  show(i:Int).toNat*3+3≤l.length*3
  have:(i:Int).toNat=i:=by omega
  omega)
 have g4:=op_etas hi
 have a1:addI .i64 (i:Int) 1=((i+1:Nat):Int):=by unfold addI; rw[wrap64 (by omega) (by omega)]; omega
 have ab:∀ b,asB (.bool b)=b:=fun _=>rfl
 have aS:∀ b,asS (.string b)=b:=fun _=>rfl
 have b3:∀ n,Nat.beq n n=true:=Nat.beq_refl
 simp only[n3,g1,g2,g3,g4,op_0 hi,op_1 hi,op_2 hi,ab,aS,a1,b3,Bool.and_self,ite_tt,need_tt]
 unfold mkFz opOkM
 rw[fzU3]
 cases opOk l[i].p l[i].k l[i].v<;>rfl
theorem bc_end{l:List OpM}:roundQX P E ctB 50 154 Bbc Dbc (bcV 0 l l.length) []=some (.tuple ⟨exV (.exit 1)::bcV 0 l l.length⟩,mkSt []):=by
 unfold bcV fzOps ctB
 rw[dec_bc]
 have g1:ltI (l.length:Int) (lenI l.length)=false:=by unfold ltI lenI; exact decide_eq_false (by omega)
 simp only[g1,ite_ff]
 unfold mkFz
 rw[fzU3]
 rfl
def badM:Nat→List OpM→Option Nat
 |_,[]=>none
 |i,o::l=>match opOkM o with
  |true=>badM (i+1) l
  |false=>some i
theorem bc_loop(l:List OpM)(hl:l.length<4194304):∀ (k i:Nat),i+k=l.length→
  LRX P 154 1 Bbc Dbc.head (bcV 0 l i) [] (match badM i (l.drop i)with | none=> .normal | some _=> .ret) (match badM i (l.drop i)with | none=>bcV 0 l l.length | some j=>bcV 2 l j) []
 |0,i,h=>by
  obtain rfl:i=l.length:=by omega
  rw[List.drop_length]
  exact LRX.stop (n:=50) (engOk ctB) noNum ctB_ok Bbc_occ (e:= .exit 1) bc_end (by intro h; cases h)
 |k+1,i,h=>by
  have hi:i<l.length:=by omega
  have q:=bc_round hi hl
  rw[List.drop_eq_getElem_cons hi]
  simp only[badM]
  cases ho:opOkM l[i]with
  |true=>
   rw[ho]at q
   exact LRX.again (n:=50) (engOk ctB) noNum ctB_ok Bbc_occ q (bc_loop l hl k (i+1) (by omega))
  |false=>
   rw[ho]at q
   exact LRX.stop (n:=50) (engOk ctB) noNum ctB_ok Bbc_occ (e:= .ret) q (by intro h; cases h)
def kBc:Con (List OpM) where
 enc l:=(bcV 0 l 0,[])
 ok l:=l.length<4194304
 inj a b h:=by
  unfold bcV fzOps at h
  simp only[Prod.mk.injEq,List.cons.injEq,Value.int.injEq,true_and,and_true]at h
  exact EOp.all_inj _ _ (fz_inj h.1)
 dflt:=[]
noncomputable def bcRes(l:List OpM):DT (Ex×List Value×List Blk):= .ite (badM 0 l).isNone (.leaf (.normal,bcV 0 l l.length,[])) (.leaf (.ret,bcV 2 l ((badM 0 l).getD 0),[]))
theorem bc_loopOk:LoopOkX P 154 1 Bbc Dbc.head (conL kBc.C kBc.D bcRes):=
 conLX_ok kBc (loopAt_occ Bbc_eq) fun l ho e vs' bs' hev=>by
  have q:=bc_loop l ho l.length 0 (by omega)
  rw[List.drop_zero]at q
  unfold bcRes at hev
  cases hb:badM 0 l with
  |none=>
   rw[hb]at hev q
   simp only[Option.isNone_none,DT.eval,Option.some.injEq,Prod.mk.injEq]at hev
   obtain⟨rfl,rfl,rfl⟩:=hev
   exact q
  |some j=>
   rw[hb]at hev q
   simp only[Option.isNone_some,Option.getD_some,DT.eval,Option.some.injEq,Prod.mk.injEq]at hev
   obtain⟨rfl,rfl,rfl⟩:=hev
   exact q
def checkM(l:List OpM):Int:=match eqI (lenI l.length) 0,gtI (lenI l.length) 8,(badM 0 l).isNone with
 |true,_,_=>2
 |false,true,_=>3
 |false,false,true=>0
 |false,false,false=>2
def kBk:Con (List OpM) where
 enc l:=([fzOps l],[])
 ok l:=l.length<4194304
 inj a b h:=by
  unfold fzOps at h
  simp only[Prod.mk.injEq,List.cons.injEq,true_and,and_true]at h
  exact EOp.all_inj _ _ (fz_inj h)
 dflt:=[]
noncomputable def ctBk(l:List OpM):Ct:=addLoopX P 154 1 Dbc (oneL (kBc.at l) (bcRes l)) ctF
theorem bck_run(l:List OpM):callQX P E (ctBk l) 50 polD [] [] 0 154 (kBk.enc l).1 (kBk.enc l).2=some (.int .i64 (checkM l),mkSt []):=by
 have q:=dec_bck (kBc.at l) (badM 0 l).isNone 2 (fzOps l) (lenI l.length) l.length (((badM 0 l).getD 0:Nat):Int) l.length 0 (EOp.all l)
 refine Eq.trans ?_ (q.trans ?_)
 ·rfl
 clear q
 unfold checkM
 cases eqI (lenI l.length) 0 with
 |true=>rfl
 |false=>
  simp only[ite_ff]
  cases gtI (lenI l.length) 8 with
  |true=>rfl
  |false=>
   simp only[ite_ff]
   refine need_at (k:=kBc) (s:=l) (by show bcV 0 l 0=_; unfold bcV fzOps mkFz; rw[fzU3]) rfl ?_
   cases (badM 0 l).isNone<;>rfl
theorem bck_ok:CallOkX P 0 154 (conM kBk.C kBk.D fun l=> .leaf (.int .i64 (checkM l),[])):=conX_ok kBk fun l ho v bs' hev=>by
 simp only[DT.eval,Option.some.injEq,Prod.mk.injEq]at hev
 obtain⟨rfl,rfl⟩:=hev
 exact CRX.of (engOk (ctBk l)) noNum (addLoopX_ok ctF_ok (oneL_ok kBc bc_loopOk (s:=l) ho)) (bck_run l)
end Go.VS.Tryz
end

section
namespace Go.VS.Tryz
set_option maxRecDepth 1000000
open Go.VS
def byS(s:ByteArray):ByteArray:=⟨⟨(bytesM s.data.toList).1⟩⟩
def byE(s:ByteArray):Int:=(bytesM s.data.toList).2
def RbyV(B:ByteArray→ByteArray)(G:ByteArray→Int):CallFn
 |[.string s]=>some (.ite (Nat.ble s.size 4194304) (.leaf (.tuple ⟨[.string (B s), .int .i64 (G s)]⟩,[])) .fail)
 |_=>none
theorem by_ok:CallOkR P 152 (RbyV byS byE):=by
 refine⟨fun args t hR v bs hev=>Bytes_ok.run args t ?_ v bs hev⟩
 unfold RbyV at hR
 unfold RBytes
 split at hR<;>first | exact hR | cases hR
noncomputable def ctNv(C K:ByteArray→Bool)(V:ByteArray→Int)(R:Int→Bool)(F:Int→ByteArray):Ct:=addCall P 54 (RitoV R F) (addCall P 53 (RatoV C K V) noCt)
noncomputable def ctN:Ct:=ctNv szS atoK atoV inR itoS
theorem ctN_ok:CtOk P ctN:=addCall_ok (addCall_ok (noCt_ok P) ato_ok) ito_ok
theorem dec_number(C K:ByteArray→Bool)(V:ByteArray→Int)(R:Int→Bool)(F:Int→ByteArray)(s:ByteArray)(m:Int):callQ P E (ctNv C K V R F) 50 95 [.string s, .int .i64 m] =
 (needB (C s)
 (iteB (K s)
 (iteB (gtI (lenI (ByteArray.size s)) (9:Int))
 (some ((Value.tuple (Array.mk [(Value.int IntKind.i64 (0:Int)),(Value.bool Bool.false)])),(mkSt [])))
 (iteB (ltI (V s) (0:Int))
 (some ((Value.tuple (Array.mk [(Value.int IntKind.i64 (0:Int)),(Value.bool Bool.false)])),(mkSt [])))
 (iteB (gtI (V s) m)
 (some ((Value.tuple (Array.mk [(Value.int IntKind.i64 (0:Int)),(Value.bool Bool.false)])),(mkSt [])))
 (needB (R (V s))
 (iteB (neS (F (V s)) s)
 (some ((Value.tuple (Array.mk [(Value.int IntKind.i64 (0:Int)),(Value.bool Bool.false)])),(mkSt [])))
 (some ((Value.tuple (Array.mk [(Value.int IntKind.i64 (V s)),(Value.bool Bool.true)])),(mkSt []))))))))
 (some ((Value.tuple (Array.mk [(Value.int IntKind.i64 (0:Int)),(Value.bool Bool.false)])),(mkSt []))))):=by kernel_rfl
noncomputable def ctKv(B:ByteArray→ByteArray)(G:ByteArray→Int)(O:Bool→ByteArray→ByteArray→Bool):Ct:=addCall P 153 (RcheckV O) (addCall P 152 (RbyV B G) noCt)
theorem dec_key(B:ByteArray→ByteArray)(G:ByteArray→Int)(O:Bool→ByteArray→ByteArray→Bool)(s:ByteArray):callQ P E (ctKv B G O) 50 96 [.string s] =
 (needB (Nat.ble (ByteArray.size s) 4194304)
 (iteB (eqI (G s) (0:Int))
 (iteB (O Bool.false (B s) (ByteArray.mk #[]))
 (some ((Value.tuple (Array.mk [(Value.string (B s)),(Value.bool (eqI (0:Int) (0:Int)))])),(mkSt [])))
 (some ((Value.tuple (Array.mk [(Value.string (B s)),(Value.bool (eqI (2:Int) (0:Int)))])),(mkSt []))))
 (some ((Value.tuple (Array.mk [(Value.string (B s)),(Value.bool Bool.false)])),(mkSt []))))):=by kernel_rfl
def numOk(s:ByteArray)(m:Int):Bool:=atoK s&&!(gtI (lenI s.size) 9)&&!(ltI (atoV s) 0)&&!(gtI (atoV s) m)&&!(neS (itoS (atoV s)) s)
def numC(s:ByteArray)(m:Int):Bool:=and (szS s) (leI m 1000000000)
def RnumV(C O:ByteArray→Int→Bool)(V:ByteArray→Int):CallFn
 |[.string s, .int .i64 m]=>some (.ite (C s m) (.ite (O s m) (.leaf (.tuple ⟨[.int .i64 (V s), .bool true]⟩,[])) (.leaf (.tuple ⟨[.int .i64 0, .bool false]⟩,[]))) .fail)
 |_=>none
theorem num_run{s:ByteArray}{m:Int}(hc:numC s m=true):callQ P E ctN 50 95 [.string s, .int .i64 m]=match numOk s m with
  |true=>some (.tuple ⟨[.int .i64 (atoV s), .bool true]⟩,mkSt [])
  |false=>some (.tuple ⟨[.int .i64 0, .bool false]⟩,mkSt []):=by
 unfold ctN
 rw[dec_number]
 simp only[numC,Bool.and_eq_true]at hc
 rw[hc.1]
 have hm:m≤1000000000:=by have:=hc.2; unfold leI at this; exact of_decide_eq_true this
 unfold numOk
 refine Eq.trans need_tt ?_
 cases h1:atoK s with
 |false=>rfl
 |true=>
 cases h2:gtI (lenI s.size) 9 with
 |true=>rfl
 |false=>
 cases h3:ltI (atoV s) 0 with
 |true=>rfl
 |false=>
 cases h4:gtI (atoV s) m with
 |true=>rfl
 |false=>
 have h5:inR (atoV s)=true:=by
  unfold ltI at h3
  unfold gtI at h4
  have h3:=of_decide_eq_false h3
  have h4:=of_decide_eq_false h4
  unfold inR leI
  rw[Bool.and_eq_true,decide_eq_true_eq,decide_eq_true_eq]
  omega
 rw[h5]
 cases h6:neS (itoS (atoV s)) s<;>rfl
theorem num_ok:CallOkR P 95 (RnumV numC numOk atoV):=by
 refine ok_of ctN_ok (n:=50) fun args t hR v bs hev=>?_
 unfold RnumV at hR
 split at hR
 ·rename_i s m
  obtain rfl:=Option.some.inj hR
  cases hc:numC s m with
  |false=>rw[hc]at hev; cases hev
  |true=>
   rw[hc]at hev
   rw[num_run hc]
   cases ho:numOk s m<;>rw[ho]at hev<;>(simp only[DT.eval,Option.some.injEq,Prod.mk.injEq]at hev; obtain⟨rfl,rfl⟩:=hev; rfl)
 ·cases hR
def keyO(s:ByteArray):Bool:=eqI (byE s) 0&&opOk false (byS s) ⟨#[]⟩
def RkeyV(C O:ByteArray→Bool)(B:ByteArray→ByteArray):CallFn
 |[.string s]=>some (.ite (C s) (.leaf (.tuple ⟨[.string (B s), .bool (O s)]⟩,[])) .fail)
 |_=>none
noncomputable def ctK:Ct:=addCall P 153 (RcheckV opOk) (addCall P 152 (RbyV byS byE) noCt)
theorem ctK_ok:CtOk P ctK:=addCall_ok (addCall_ok (noCt_ok P) by_ok) Check_ok
theorem key_ok:CallOkR P 96 (RkeyV szS keyO byS):=by
 refine ok_of ctK_ok (n:=50) fun args t hR v bs hev=>?_
 unfold RkeyV at hR
 split at hR
 ·rename_i s
  obtain rfl:=Option.some.inj hR
  cases hc:szS s with
  |false=>rw[hc]at hev; cases hev
  |true=>
   rw[hc]at hev
   simp only[DT.eval,Option.some.injEq,Prod.mk.injEq]at hev
   obtain⟨rfl,rfl⟩:=hev
   refine Eq.trans ?_ ((dec_key byS byE opOk s).trans ?_)
   ·rfl
   unfold szS at hc
   rw[hc]
   refine Eq.trans need_tt ?_
   unfold keyO
   cases eqI (byE s) 0 with
   |false=>rfl
   |true=>cases opOk false (byS s) ⟨#[]⟩<;>rfl
 ·cases hR
end Go.VS.Tryz
end

section
namespace Go.VS.Tryz
set_option maxRecDepth 1000000
open Go.VS
noncomputable def ctOv(C O:ByteArray→Bool)(B:ByteArray→ByteArray)(G:ByteArray→Int):Ct:=addCall P 96 (RkeyV C O B) (addCall P 152 (RbyV B G) ctF)
def Dop:HeadX:=⟨0,63,[0,2,3,4],[.val, .val, .val, .own],[27,51,4,51],polD⟩
noncomputable def Bop:Code:=(loopAt P 97 0).getD .skip
theorem Bop_eq:loopAt P 97 0=some Bop:=by kernel_rfl
theorem Bop_occ:Occ P 97 (.block 0 (.loop Bop)):=loopAt_has Bop_eq
theorem dec_op(C O:ByteArray→Bool)(B:ByteArray→ByteArray)(G:ByteArray→Int)(n b:Nat)(c:List Value)(z:Value)(m:Nat)(d:List Value):roundQX P E (ctOv C O B G) 50 97 Bop Dop [mkFz 1 n b c,mkFz 3 0 0 [], .bool false, .slice (some ⟨0,0,none⟩) m unk] [.cells d 224 false] =
 (iteB (gtI (lenI n) (0:Int))
 (needB (Bool.and (Nat.beq 1 1) (inI (0:Int) n))
 (needB (Bool.and (Nat.ble 1 (List.length c)) (etaB Eta.string (nthD c 0)))
 (iteB (eqS (asS (nthD c 0)) (ByteArray.mk #[112,117,116]))
 (iteB (ltI (lenI n) (3:Int))
 (needB (Nat.ble (Nat.add 0 (Nat.mul m 3)) (List.length d))
 (some ((Value.tuple (Array.mk [(Value.int IntKind.i64 (-1:Int)),(Value.iface 18446744073709551617 (Value.agg (Array.mk ((Value.slice none n b)::c)))),(Value.iface 18446744073709551619 (Value.agg (Array.mk [(Value.slice none 0 0)]))),(Value.bool Bool.false),(Value.slice (Option.some (Addr.mk 0 0 none)) m 18446744073709551616)])),(mkSt [(Blk.cells (renL Bool.true (rhoO 0 [2]) (takeC (Nat.mul m 3) (dropC 0 d))) 224 Bool.false)]))))
 (needB (Bool.and (Nat.beq 1 1) (inI (1:Int) n))
 (needB (Bool.and (Nat.ble 2 (List.length c)) (etaB Eta.string (nthD c 1)))
 (needB (C (asS (nthD c 1)))
 (iteB (notB (O (asS (nthD c 1))))
 (needB (Nat.ble (Nat.add 0 (Nat.mul m 3)) (List.length d))
 (some ((Value.tuple (Array.mk [(Value.int IntKind.i64 (-1:Int)),(Value.iface 18446744073709551617 (Value.agg (Array.mk ((Value.slice none n b)::c)))),(Value.iface 18446744073709551619 (Value.agg (Array.mk [(Value.slice none 0 0)]))),(Value.bool Bool.false),(Value.slice (Option.some (Addr.mk 0 0 none)) m 18446744073709551616)])),(mkSt [(Blk.cells (renL Bool.true (rhoO 0 [2]) (takeC (Nat.mul m 3) (dropC 0 d))) 224 Bool.false)]))))
 (needB (Bool.and (Nat.beq 1 1) (inI (2:Int) n))
 (needB (Bool.and (Nat.ble 3 (List.length c)) (etaB Eta.string (nthD c 2)))
 (needB (Nat.ble (ByteArray.size (asS (nthD c 2))) 4194304)
 (iteB (neI (G (asS (nthD c 2))) (0:Int))
 (needB (Nat.ble (Nat.add 0 (Nat.mul m 3)) (List.length d))
 (some ((Value.tuple (Array.mk [(Value.int IntKind.i64 (-1:Int)),(Value.iface 18446744073709551617 (Value.agg (Array.mk ((Value.slice none n b)::c)))),(Value.iface 18446744073709551619 (Value.agg (Array.mk [(Value.slice none 0 0)]))),(Value.bool Bool.false),(Value.slice (Option.some (Addr.mk 0 0 none)) m 18446744073709551616)])),(mkSt [(Blk.cells (renL Bool.true (rhoO 0 [2]) (takeC (Nat.mul m 3) (dropC 0 d))) 224 Bool.false)]))))
 (needB (Nat.ble (Nat.add m 1) 4194304)
 (needB (Nat.beq (Nat.add 0 (Nat.mul m 3)) (List.length d))
 (needB (Bool.and (Nat.beq 1 1) (cutI (3:Int) (lenI n) n))
 (needB (Bool.and (Nat.beq 1 1) (cutI (3:Int) (lenI n) n))
 (needB (beqV (Value.iface 18446744073709551617 (Value.agg (Array.mk ((Value.slice none (lapN (3:Int) (lenI n)) (capS b 3))::(takeC (Nat.mul (lapN (3:Int) (lenI n)) 1) (dropC 3 c)))))) (Value.iface 18446744073709551617 (Value.agg (Array.mk ((Value.slice none (lapN (3:Int) (lenI n)) (capS b 3))::(takeC (Nat.mul (lapN (3:Int) (lenI n)) 1) (dropC 3 c)))))))
 (needB (Nat.ble (Nat.add 0 (Nat.mul (Nat.add m 1) 3)) (List.length (List.append (oldC 0 d) [(Value.bool Bool.true),(Value.string (B (asS (nthD c 1)))),(Value.string (B (asS (nthD c 2))))])))
 (some ((Value.tuple (Array.mk [(Value.int IntKind.i64 (0:Int)),(Value.iface 18446744073709551617 (Value.agg (Array.mk ((Value.slice none (lapN (3:Int) (lenI n)) (capS b 3))::(takeC (Nat.mul (lapN (3:Int) (lenI n)) 1) (dropC 3 c)))))),(Value.iface 18446744073709551619 (Value.agg (Array.mk [(Value.slice none 0 0)]))),(Value.bool Bool.false),(Value.slice (Option.some (Addr.mk 0 0 none)) (Nat.add m 1) 18446744073709551616)])),(mkSt [(Blk.cells (renL Bool.true (rhoO 0 [12]) (takeC (Nat.mul (Nat.add m 1) 3) (dropC 0 (List.append (oldC 0 d) [(Value.bool Bool.true),(Value.string (B (asS (nthD c 1)))),(Value.string (B (asS (nthD c 2))))])))) 224 Bool.false)]))))))))))))))))))
 (iteB (eqS (asS (nthD c 0)) (ByteArray.mk #[100,101,108]))
 (iteB (ltI (lenI n) (2:Int))
 (needB (Nat.ble (Nat.add 0 (Nat.mul m 3)) (List.length d))
 (some ((Value.tuple (Array.mk [(Value.int IntKind.i64 (-1:Int)),(Value.iface 18446744073709551617 (Value.agg (Array.mk ((Value.slice none n b)::c)))),(Value.iface 18446744073709551619 (Value.agg (Array.mk [(Value.slice none 0 0)]))),(Value.bool Bool.false),(Value.slice (Option.some (Addr.mk 0 0 none)) m 18446744073709551616)])),(mkSt [(Blk.cells (renL Bool.true (rhoO 0 [2]) (takeC (Nat.mul m 3) (dropC 0 d))) 224 Bool.false)]))))
 (needB (Bool.and (Nat.beq 1 1) (inI (1:Int) n))
 (needB (Bool.and (Nat.ble 2 (List.length c)) (etaB Eta.string (nthD c 1)))
 (needB (C (asS (nthD c 1)))
 (iteB (notB (O (asS (nthD c 1))))
 (needB (Nat.ble (Nat.add 0 (Nat.mul m 3)) (List.length d))
 (some ((Value.tuple (Array.mk [(Value.int IntKind.i64 (-1:Int)),(Value.iface 18446744073709551617 (Value.agg (Array.mk ((Value.slice none n b)::c)))),(Value.iface 18446744073709551619 (Value.agg (Array.mk [(Value.slice none 0 0)]))),(Value.bool Bool.false),(Value.slice (Option.some (Addr.mk 0 0 none)) m 18446744073709551616)])),(mkSt [(Blk.cells (renL Bool.true (rhoO 0 [2]) (takeC (Nat.mul m 3) (dropC 0 d))) 224 Bool.false)]))))
 (needB (Nat.ble (Nat.add m 1) 4194304)
 (needB (Nat.beq (Nat.add 0 (Nat.mul m 3)) (List.length d))
 (needB (Bool.and (Nat.beq 1 1) (cutI (2:Int) (lenI n) n))
 (needB (Bool.and (Nat.beq 1 1) (cutI (2:Int) (lenI n) n))
 (needB (beqV (Value.iface 18446744073709551617 (Value.agg (Array.mk ((Value.slice none (lapN (2:Int) (lenI n)) (capS b 2))::(takeC (Nat.mul (lapN (2:Int) (lenI n)) 1) (dropC 2 c)))))) (Value.iface 18446744073709551617 (Value.agg (Array.mk ((Value.slice none (lapN (2:Int) (lenI n)) (capS b 2))::(takeC (Nat.mul (lapN (2:Int) (lenI n)) 1) (dropC 2 c)))))))
 (needB (Nat.ble (Nat.add 0 (Nat.mul (Nat.add m 1) 3)) (List.length (List.append (oldC 0 d) [(Value.bool Bool.false),(Value.string (B (asS (nthD c 1)))),(Value.string (ByteArray.mk #[]))])))
 (some ((Value.tuple (Array.mk [(Value.int IntKind.i64 (0:Int)),(Value.iface 18446744073709551617 (Value.agg (Array.mk ((Value.slice none (lapN (2:Int) (lenI n)) (capS b 2))::(takeC (Nat.mul (lapN (2:Int) (lenI n)) 1) (dropC 2 c)))))),(Value.iface 18446744073709551619 (Value.agg (Array.mk [(Value.slice none 0 0)]))),(Value.bool Bool.false),(Value.slice (Option.some (Addr.mk 0 0 none)) (Nat.add m 1) 18446744073709551616)])),(mkSt [(Blk.cells (renL Bool.true (rhoO 0 [12]) (takeC (Nat.mul (Nat.add m 1) 3) (dropC 0 (List.append (oldC 0 d) [(Value.bool Bool.false),(Value.string (B (asS (nthD c 1)))),(Value.string (ByteArray.mk #[]))])))) 224 Bool.false)]))))))))))))))
 (needB (Nat.ble (Nat.add 0 (Nat.mul m 3)) (List.length d))
 (some ((Value.tuple (Array.mk [(Value.int IntKind.i64 (-1:Int)),(Value.iface 18446744073709551617 (Value.agg (Array.mk ((Value.slice none n b)::c)))),(Value.iface 18446744073709551619 (Value.agg (Array.mk [(Value.slice none 0 0)]))),(Value.bool Bool.false),(Value.slice (Option.some (Addr.mk 0 0 none)) m 18446744073709551616)])),(mkSt [(Blk.cells (renL Bool.true (rhoO 0 [2]) (takeC (Nat.mul m 3) (dropC 0 d))) 224 Bool.false)]))))))))
 (needB (Nat.ble (Nat.add 0 (Nat.mul m 3)) (List.length d))
 (some ((Value.tuple (Array.mk [(Value.int IntKind.i64 (1:Int)),(Value.iface 18446744073709551617 (Value.agg (Array.mk ((Value.slice none n b)::c)))),(Value.iface 18446744073709551619 (Value.agg (Array.mk [(Value.slice none 0 0)]))),(Value.bool Bool.false),(Value.slice (Option.some (Addr.mk 0 0 none)) m 18446744073709551616)])),(mkSt [(Blk.cells (renL Bool.true (rhoO 0 [1]) (takeC (Nat.mul m 3) (dropC 0 d))) 224 Bool.false)]))))):=by kernel_rfl
end Go.VS.Tryz
end

section
namespace Go.VS.Tryz
set_option maxRecDepth 1000000
open Go.VS
theorem cutStr(l:List ByteArray)(j k:Nat):takeC k (dropC j (l.map Value.string))=((l.drop j).take k).map Value.string:=by
 unfold takeC dropC
 rw[List.map_take,List.map_drop]
theorem cutStr_all{l:List ByteArray}{j k:Nat}(h:l.length-j≤k):takeC k (dropC j (l.map Value.string))=(l.drop j).map Value.string:=by
 rw[cutStr,List.take_of_length_le (by rw[List.length_drop]; omega)]
theorem beqStrs(l:List ByteArray):beqVL (l.map Value.string) (l.map Value.string)=true:=by
 induction l with
 |nil=>rfl
 |cons a l ih=>simp only[List.map_cons,beqVL,beqV,ih,decide_true,Bool.and_self]
theorem beqFzS(t n b:Nat)(l:List ByteArray):beqV (.iface t (.agg ⟨.slice none n b::l.map Value.string⟩)) (.iface t (.agg ⟨.slice none n b::l.map Value.string⟩))=true:=by
 simp only[beqV,beqVA,beqVL,beqStrs,decide_true,Bool.and_self]
theorem strs_inj:∀ {a b:List ByteArray},a.map Value.string=b.map Value.string→a=b
 |[],[],_=>rfl
 |[],_::_,h=>by cases h
 |_::_,[],h=>by cases h
 |x::a,y::b,h=>by
  simp only[List.map_cons,List.cons.injEq,Value.string.injEq]at h
  rw[h.1,strs_inj h.2]
theorem fzS_inj{a b:List ByteArray}(h:fzS a=fzS b):a=b:=strs_inj (fz_inj h)
def putW:ByteArray:=⟨#[112,117,116]⟩
def delW:ByteArray:=⟨#[100,101,108]⟩
def opV(ws:List ByteArray)(n:Nat):List Value:=[fzS ws,fzOps [], .bool false, .slice (some ⟨0,0,none⟩) n unk]
def opBk(out:List OpM):List Blk:=[.cells (EOp.all out) 224 false]
noncomputable def ctO:Ct:=ctOv szS keyO byS byE
theorem ctO_ok:CtOk P ctO:=addCall_ok (addCall_ok ctF_ok by_ok) key_ok
theorem opApp(out:List OpM)(p:Bool)(k v:ByteArray):List.append (oldC 0 (EOp.all out)) [.bool p, .string k, .string v]=EOp.all (out++[(⟨p,k,v⟩:OpM)]):=by
 rw[oldC_zero,EOp.all_append,EOp.all_one]; rfl
theorem opSelf{l:List OpM}{n:Nat}(h:n=l.length):takeC (Nat.mul n 3) (dropC 0 (EOp.all l))=EOp.all l:=by
 subst h; exact EOp.all_self l
theorem opLen(l:List OpM):(EOp.all l).length=Nat.mul l.length 3:=EOp.all_length l
theorem gt0{n:Nat}(h:0<n):gtI (lenI n) 0=true:=by unfold gtI lenI; exact decide_eq_true (by omega)
theorem inI_ok{i n:Nat}(h:i<n):inI (i:Int) n=true:=by unfold inI; exact decide_eq_true (by omega)
theorem szS_of{s:ByteArray}(h:s.size≤4194304):szS s=true:=Nat.ble_eq_true_of_le h
theorem op_put{w0 w1 w2:ByteArray}{r:List ByteArray}{out:List OpM}(h0:eqS w0 putW=true)(h1:w1.size≤4194304)(h2:w2.size≤4194304)(ho:out.length+1≤4194304) :
  roundQX P E ctO 50 97 Bop Dop (opV (w0::w1::w2::r) out.length) (opBk out)=match keyO w1,eqI (byE w2) 0 with
   |true,true=>some (.tuple ⟨exV .normal::opV r (out++[(⟨true,byS w1,byS w2⟩:OpM)]).length⟩,mkSt (opBk (out++[(⟨true,byS w1,byS w2⟩:OpM)])))
   |_,_=>some (.tuple ⟨exV .ret::opV (w0::w1::w2::r) out.length⟩,mkSt (opBk out)):=by
 unfold opV opBk fzS fzOps ctO
 rw[show mkFz 3 ([]:List OpM).length 0 (EOp.all [])=mkFz 3 0 0 [] from rfl]
 rw[dec_op _ _ _ _ _ _ _ .nilFunc]
 have g0:gtI (lenI (w0::w1::w2::r).length) 0=true:=gt0 (by simp)
 have i0:inI 0 (w0::w1::w2::r).length=true:=inI_ok (i:=0) (by simp)
 have i1:inI 1 (w0::w1::w2::r).length=true:=inI_ok (i:=1) (by simp)
 have i2:inI 2 (w0::w1::w2::r).length=true:=inI_ok (i:=2) (by simp)
 have l3:ltI (lenI (w0::w1::w2::r).length) 3=false:=by unfold ltI lenI; exact decide_eq_false (by simp only[List.length_cons]; omega)
 have c3:cutI 3 (lenI (w0::w1::w2::r).length) (w0::w1::w2::r).length=true:=cutI_ok (by omega) (by unfold lenI; simp only[List.length_cons]; omega) (by unfold lenI; omega)
 have n0:nthD ((w0::w1::w2::r).map Value.string) 0 = .string w0:=rfl
 have n1:nthD ((w0::w1::w2::r).map Value.string) 1 = .string w1:=rfl
 have n2:nthD ((w0::w1::w2::r).map Value.string) 2 = .string w2:=rfl
 have aS:∀ b,asS (.string b)=b:=fun _=>rfl
 have eS:∀ b,etaB .string (.string b)=true:=fun _=>rfl
 have cl:((w0::w1::w2::r).map Value.string).length=(w0::w1::w2::r).length:=List.length_map ..
 have k1:Nat.ble 1 (w0::w1::w2::r).length=true:=Nat.ble_eq_true_of_le (by simp)
 have k2:Nat.ble 2 (w0::w1::w2::r).length=true:=Nat.ble_eq_true_of_le (by simp)
 have k3:Nat.ble 3 (w0::w1::w2::r).length=true:=Nat.ble_eq_true_of_le (by simp)
 have s1:=szS_of h1
 have s2:Nat.ble w2.size 4194304=true:=Nat.ble_eq_true_of_le h2
 have b3:∀ n,Nat.beq n n=true:=Nat.beq_refl
 have b2:∀ n,Nat.ble n n=true:=fun n=>Nat.ble_eq_true_of_le (Nat.le_refl n)
 have t1:Nat.ble (Nat.add out.length 1) 4194304=true:=Nat.ble_eq_true_of_le ho
 have lk:lapN 3 (lenI (w0::w1::w2::r).length)=r.length:=by simp only[lapN,lenI,List.length_cons]; omega
 have cut:takeC r.length (dropC 3 ((w0::w1::w2::r).map Value.string))=r.map Value.string:=cutStr_all (by simp)
 have ol:∀ p k v,(out++[(⟨p,k,v⟩:OpM)]).length=Nat.add out.length 1:=fun p k v=>by simp
 have os:∀ p k v,takeC (Nat.mul (Nat.add out.length 1) 3) (dropC 0 (EOp.all (out++[(⟨p,k,v⟩:OpM)])))=EOp.all (out++[⟨p,k,v⟩]):=fun p k v=>opSelf (ol p k v).symm
 have h0:eqS w0 ⟨#[112,117,116]⟩=true:=h0
 simp only[g0,i0,i1,i2,l3,c3,n0,n1,n2,aS,eS,cl,k1,k2,k3,s1,s2,b3,b2,t1,lk,mulOne,cut,cap0,opApp,opLen,ol,os,opSelf rfl,zeroAdd,Enc.all_ren,beqFzS,h0,Bool.and_self,ite_tt,ite_ff,need_tt]
 unfold mkFz
 rw[fzU,fzU3]
 cases keyO w1 with
 |false=>rfl
 |true=>
  have e5:neI (byE w2) 0=!(eqI (byE w2) 0):=rfl
  rw[e5]
  cases eqI (byE w2) 0<;>rfl
theorem op_del{w0 w1:ByteArray}{r:List ByteArray}{out:List OpM}(h00:eqS w0 putW=false)(h0:eqS w0 delW=true)(h1:w1.size≤4194304)(ho:out.length+1≤4194304) :
  roundQX P E ctO 50 97 Bop Dop (opV (w0::w1::r) out.length) (opBk out)=match keyO w1 with
   |true=>some (.tuple ⟨exV .normal::opV r (out++[(⟨false,byS w1,⟨#[]⟩⟩:OpM)]).length⟩,mkSt (opBk (out++[(⟨false,byS w1,⟨#[]⟩⟩:OpM)])))
   |false=>some (.tuple ⟨exV .ret::opV (w0::w1::r) out.length⟩,mkSt (opBk out)):=by
 unfold opV opBk fzS fzOps ctO
 rw[show mkFz 3 ([]:List OpM).length 0 (EOp.all [])=mkFz 3 0 0 [] from rfl]
 rw[dec_op _ _ _ _ _ _ _ .nilFunc]
 have g0:gtI (lenI (w0::w1::r).length) 0=true:=gt0 (by simp)
 have i0:inI 0 (w0::w1::r).length=true:=inI_ok (i:=0) (by simp)
 have i1:inI 1 (w0::w1::r).length=true:=inI_ok (i:=1) (by simp)
 have l3:ltI (lenI (w0::w1::r).length) 2=false:=by unfold ltI lenI; exact decide_eq_false (by simp only[List.length_cons]; omega)
 have c3:cutI 2 (lenI (w0::w1::r).length) (w0::w1::r).length=true:=cutI_ok (by omega) (by unfold lenI; simp only[List.length_cons]; omega) (by unfold lenI; omega)
 have n0:nthD ((w0::w1::r).map Value.string) 0 = .string w0:=rfl
 have n1:nthD ((w0::w1::r).map Value.string) 1 = .string w1:=rfl
 have aS:∀ b,asS (.string b)=b:=fun _=>rfl
 have eS:∀ b,etaB .string (.string b)=true:=fun _=>rfl
 have cl:((w0::w1::r).map Value.string).length=(w0::w1::r).length:=List.length_map ..
 have k1:Nat.ble 1 (w0::w1::r).length=true:=Nat.ble_eq_true_of_le (by simp)
 have k2:Nat.ble 2 (w0::w1::r).length=true:=Nat.ble_eq_true_of_le (by simp)
 have s1:=szS_of h1
 have b3:∀ n,Nat.beq n n=true:=Nat.beq_refl
 have b2:∀ n,Nat.ble n n=true:=fun n=>Nat.ble_eq_true_of_le (Nat.le_refl n)
 have t1:Nat.ble (Nat.add out.length 1) 4194304=true:=Nat.ble_eq_true_of_le ho
 have lk:lapN 2 (lenI (w0::w1::r).length)=r.length:=by simp only[lapN,lenI,List.length_cons]; omega
 have cut:takeC r.length (dropC 2 ((w0::w1::r).map Value.string))=r.map Value.string:=cutStr_all (by simp)
 have ol:∀ p k v,(out++[(⟨p,k,v⟩:OpM)]).length=Nat.add out.length 1:=fun p k v=>by simp
 have os:∀ p k v,takeC (Nat.mul (Nat.add out.length 1) 3) (dropC 0 (EOp.all (out++[(⟨p,k,v⟩:OpM)])))=EOp.all (out++[⟨p,k,v⟩]):=fun p k v=>opSelf (ol p k v).symm
 have h00:eqS w0 ⟨#[112,117,116]⟩=false:=h00
 have h0:eqS w0 ⟨#[100,101,108]⟩=true:=h0
 simp only[g0,i0,i1,l3,c3,n0,n1,aS,eS,cl,k1,k2,s1,b3,b2,t1,lk,mulOne,cut,cap0,opApp,opLen,ol,os,opSelf rfl,zeroAdd,Enc.all_ren,beqFzS,h00,h0,Bool.and_self,ite_tt,ite_ff,need_tt]
 unfold mkFz
 rw[fzU,fzU3]
 cases keyO w1<;>rfl
theorem op_other{w0:ByteArray}{r:List ByteArray}{out:List OpM}(h00:eqS w0 putW=false)(h0:eqS w0 delW=false) :
  roundQX P E ctO 50 97 Bop Dop (opV (w0::r) out.length) (opBk out)=some (.tuple ⟨exV .ret::opV (w0::r) out.length⟩,mkSt (opBk out)):=by
 unfold opV opBk fzS fzOps ctO
 rw[show mkFz 3 ([]:List OpM).length 0 (EOp.all [])=mkFz 3 0 0 [] from rfl]
 rw[dec_op _ _ _ _ _ _ _ .nilFunc]
 have g0:gtI (lenI (w0::r).length) 0=true:=gt0 (by simp)
 have i0:inI 0 (w0::r).length=true:=inI_ok (i:=0) (by simp)
 have n0:nthD ((w0::r).map Value.string) 0 = .string w0:=rfl
 have aS:∀ b,asS (.string b)=b:=fun _=>rfl
 have eS:∀ b,etaB .string (.string b)=true:=fun _=>rfl
 have cl:((w0::r).map Value.string).length=(w0::r).length:=List.length_map ..
 have k1:Nat.ble 1 (w0::r).length=true:=Nat.ble_eq_true_of_le (by simp)
 have b3:∀ n,Nat.beq n n=true:=Nat.beq_refl
 have b2:∀ n,Nat.ble n n=true:=fun n=>Nat.ble_eq_true_of_le (Nat.le_refl n)
 have h00:eqS w0 ⟨#[112,117,116]⟩=false:=h00
 have h0:eqS w0 ⟨#[100,101,108]⟩=false:=h0
 simp only[g0,i0,n0,aS,eS,cl,k1,b3,b2,mulOne,opLen,opSelf rfl,zeroAdd,Enc.all_ren,h00,h0,Bool.and_self,ite_tt,ite_ff,need_tt]
 unfold mkFz
 rw[fzU,fzU3]
 rfl
theorem op_short{w0:ByteArray}{r:List ByteArray}{out:List OpM}(h:eqS w0 putW=true∧r.length<2∨eqS w0 putW=false∧eqS w0 delW=true∧r.length<1) :
  roundQX P E ctO 50 97 Bop Dop (opV (w0::r) out.length) (opBk out)=some (.tuple ⟨exV .ret::opV (w0::r) out.length⟩,mkSt (opBk out)):=by
 unfold opV opBk fzS fzOps ctO
 rw[show mkFz 3 ([]:List OpM).length 0 (EOp.all [])=mkFz 3 0 0 [] from rfl]
 rw[dec_op _ _ _ _ _ _ _ .nilFunc]
 have g0:gtI (lenI (w0::r).length) 0=true:=gt0 (by simp)
 have i0:inI 0 (w0::r).length=true:=inI_ok (i:=0) (by simp)
 have n0:nthD ((w0::r).map Value.string) 0 = .string w0:=rfl
 have aS:∀ b,asS (.string b)=b:=fun _=>rfl
 have eS:∀ b,etaB .string (.string b)=true:=fun _=>rfl
 have cl:((w0::r).map Value.string).length=(w0::r).length:=List.length_map ..
 have k1:Nat.ble 1 (w0::r).length=true:=Nat.ble_eq_true_of_le (by simp)
 have b3:∀ n,Nat.beq n n=true:=Nat.beq_refl
 have b2:∀ n,Nat.ble n n=true:=fun n=>Nat.ble_eq_true_of_le (Nat.le_refl n)
 rcases h with⟨h0,hl⟩ | ⟨h00,h0,hl⟩
 ·have l3:ltI (lenI (w0::r).length) 3=true:=by unfold ltI lenI; exact decide_eq_true (by simp only[List.length_cons]; omega)
  have h0:eqS w0 ⟨#[112,117,116]⟩=true:=h0
  simp only[g0,i0,l3,n0,aS,eS,cl,k1,b3,b2,mulOne,opLen,opSelf rfl,zeroAdd,Enc.all_ren,h0,Bool.and_self,ite_tt,ite_ff,need_tt]
  unfold mkFz
  rw[fzU,fzU3]
  rfl
 ·have l3:ltI (lenI (w0::r).length) 2=true:=by unfold ltI lenI; exact decide_eq_true (by simp only[List.length_cons]; omega)
  have h00:eqS w0 ⟨#[112,117,116]⟩=false:=h00
  have h0:eqS w0 ⟨#[100,101,108]⟩=true:=h0
  simp only[g0,i0,l3,n0,aS,eS,cl,k1,b3,b2,mulOne,opLen,opSelf rfl,zeroAdd,Enc.all_ren,h00,h0,Bool.and_self,ite_tt,ite_ff,need_tt]
  unfold mkFz
  rw[fzU,fzU3]
  rfl
theorem op_end{out:List OpM}:roundQX P E ctO 50 97 Bop Dop (opV [] out.length) (opBk out)=some (.tuple ⟨exV (.exit 0)::opV [] out.length⟩,mkSt (opBk out)):=by
 unfold opV opBk fzS fzOps ctO
 rw[show mkFz 3 ([]:List OpM).length 0 (EOp.all [])=mkFz 3 0 0 [] from rfl]
 rw[dec_op _ _ _ _ _ _ _ .nilFunc]
 have g0:gtI (lenI ([]:List ByteArray).length) 0=false:=rfl
 have b3:∀ n,Nat.beq n n=true:=Nat.beq_refl
 have b2:∀ n,Nat.ble n n=true:=fun n=>Nat.ble_eq_true_of_le (Nat.le_refl n)
 simp only[g0,b3,b2,mulOne,opLen,opSelf rfl,zeroAdd,Enc.all_ren,Bool.and_self,ite_tt,ite_ff,need_tt]
 unfold mkFz
 rw[fzU,fzU3]
 rfl
def opE:List ByteArray→List OpM→Bool×List ByteArray×List OpM
 |[],out=>(true,[],out)
 |[w0],out=>(false,[w0],out)
 |w0::w1::tl,out=>match eqS w0 putW with
  |true=>match tl with
   |[]=>(false,[w0,w1],out)
   |w2::r=>match keyO w1,eqI (byE w2) 0 with
    |true,true=>opE r (out++[⟨true,byS w1,byS w2⟩])
    |_,_=>(false,w0::w1::w2::r,out)
  |false=>match eqS w0 delW with
   |true=>match keyO w1 with
    |true=>opE tl (out++[⟨false,byS w1,⟨#[]⟩⟩])
    |false=>(false,w0::w1::tl,out)
   |false=>(false,w0::w1::tl,out)
def exB:Bool→Ex
 |true=> .normal
 |false=> .ret
theorem op_loop:∀ (k:Nat) (ws:List ByteArray) (out:List OpM),ws.length≤k→(∀ w∈ws,w.size≤4194304)→out.length+ws.length≤4194304→
  LRX P 97 0 Bop Dop.head (opV ws out.length) (opBk out) (exB (opE ws out).1) (opV (opE ws out).2.1 (opE ws out).2.2.length) (opBk (opE ws out).2.2)
 |_,[],out,_,_,_=>LRX.stop (n:=50) (engOk ctO) noNum ctO_ok Bop_occ (e:= .exit 0) op_end (by intro h; cases h)
 |0,_::_,_,h,_,_=>by simp at h
 |k+1,[w0],out,_,_,_=>by
  have q:roundQX P E ctO 50 97 Bop Dop (opV [w0] out.length) (opBk out)=some (.tuple ⟨exV .ret::opV [w0] out.length⟩,mkSt (opBk out)):=by
   cases h0:eqS w0 putW with
   |true=>exact op_short (Or.inl ⟨h0,by simp⟩)
   |false=>
    cases h1:eqS w0 delW with
    |true=>exact op_short (Or.inr ⟨h0,h1,by simp⟩)
    |false=>exact op_other h0 h1
  exact LRX.stop (n:=50) (engOk ctO) noNum ctO_ok Bop_occ (e:= .ret) q (by intro h; cases h)
 |k+1,w0::w1::tl,out,hl,hs,ho=>by
  have s1:=hs w1 (by simp)
  have stop:roundQX P E ctO 50 97 Bop Dop (opV (w0::w1::tl) out.length) (opBk out)=some (.tuple ⟨exV .ret::opV (w0::w1::tl) out.length⟩,mkSt (opBk out))→
    LRX P 97 0 Bop Dop.head (opV (w0::w1::tl) out.length) (opBk out) .ret (opV (w0::w1::tl) out.length) (opBk out):=fun q=>
   LRX.stop (n:=50) (engOk ctO) noNum ctO_ok Bop_occ (e:= .ret) q (by intro h; cases h)
  simp only[List.length_cons]at hl ho
  cases h0:eqS w0 putW with
  |true=>
   cases tl with
   |nil=>
    have q:=stop (op_short (Or.inl ⟨h0,by simp⟩))
    simp only[opE,h0]
    exact q
   |cons w2 r=>
    simp only[List.length_cons]at hl ho
    have q:=op_put (r:=r) (out:=out) h0 s1 (hs w2 (by simp)) (by omega)
    simp only[opE,h0]
    cases h1:keyO w1 with
    |false=>rw[h1]at q; exact stop q
    |true=>
     cases h2:eqI (byE w2) 0 with
     |false=>rw[h1,h2]at q; exact stop q
     |true=>
      rw[h1,h2]at q
      exact LRX.again (n:=50) (engOk ctO) noNum ctO_ok Bop_occ q (op_loop k r _ (by omega) (fun w hw=>hs w (by simp[hw])) (by rw[List.length_append]; simp only[List.length_cons,List.length_nil]; omega))
  |false=>
   cases h1:eqS w0 delW with
   |false=>
    have q:=stop (op_other h0 h1)
    rw[opE.eq_def]
    simp only[h0,h1]
    exact q
   |true=>
    have q:=op_del (r:=tl) (out:=out) h0 h1 s1 (by omega)
    rw[opE.eq_def]
    simp only[h0,h1]
    cases h2:keyO w1 with
    |false=>rw[h2]at q; exact stop q
    |true=>
     rw[h2]at q
     exact LRX.again (n:=50) (engOk ctO) noNum ctO_ok Bop_occ q (op_loop k tl _ (by omega) (fun w hw=>hs w (by simp[hw])) (by rw[List.length_append]; simp only[List.length_cons,List.length_nil]; omega))
end Go.VS.Tryz
end

section
namespace Go.VS.Tryz
set_option maxRecDepth 1000000
open Go.VS
noncomputable def ctPv(C C2:List Value→List Blk→Bool)(ok:Bool)(e:Value)(n1 n2:Nat)(z1 z2:Value)(c1 c2:List Value)(r:Int):Ct:=
 addCall P 154 (fun args=>oneM C2 (.leaf (.int .i64 r,[])) args []) (addLoopX P 97 0 Dop (oneL C (.ite ok (.leaf (.normal,[z1,e, .bool false, .slice (some ⟨0,0,none⟩) n1 unk],[.cells c1 224 false])) (.leaf (.ret,[z2,e, .bool false, .slice (some ⟨0,0,none⟩) n2 unk],[.cells c2 224 false])))) ctF)
theorem dec_ops(C C2:List Value→List Blk→Bool)(ok:Bool)(n1 n2:Nat)(z1 z2:Value)(c1 c2:List Value)(r:Int)(n b:Nat)(c:List Value):callQX P E (ctPv C C2 ok (mkFz 3 0 0 []) n1 n2 z1 z2 c1 c2 r) 50 polD [.val, .val] [51,4] 0 97 [mkFz 1 n b c] [] =
 (needB (C [(Value.iface 18446744073709551617 (Value.agg (Array.mk ((Value.slice none n b)::c)))),(Value.iface 18446744073709551619 (Value.agg (Array.mk [(Value.slice none 0 0)]))),(Value.bool Bool.false),(Value.slice (Option.some (Addr.mk 0 0 none)) 0 18446744073709551616)] [(Blk.cells [] 224 Bool.false)])
 (iteB ok
 (needB (Bool.and (Nat.ble (Nat.add 0 (Nat.mul n1 3)) (List.length (renL Bool.true (backN [] 1) c1))) (Nat.ble 1 3))
 (needB (flatL (takeC (Nat.mul n1 3) (dropC 0 (renL Bool.true (backN [] 1) c1))))
 (needB (C2 [(Value.iface 18446744073709551619 (Value.agg (Array.mk ((Value.slice none n1 0)::(takeC (Nat.mul n1 3) (dropC 0 (renL Bool.true (backN [] 1) c1)))))))] [])
 (needB (frzC P 0 n1 18446744073709551616 (renL Bool.true (backN [] 1) c1) 224)
 (some ((Value.tuple (Array.mk [(Value.iface 18446744073709551619 (Value.agg (Array.mk ((Value.slice none n1 0)::(takeC (Nat.mul n1 3) (dropC 0 (renL Bool.true (backN [] 1) c1))))))),(Value.bool (eqI r (0:Int)))])),(mkSt [])))))))
 (some ((Value.tuple (Array.mk [(Value.iface 18446744073709551619 (Value.agg (Array.mk [(Value.slice none 0 0)]))),(Value.bool Bool.false)])),(mkSt []))))):=by kernel_rfl
theorem flatOps:∀ l:List OpM,flatL (EOp.all l)=true
 |[]=>rfl
 |a::l=>by
  rw[EOp.all_cons]
  show flatL (.bool a.p:: .string a.k:: .string a.v::EOp.all l)=true
  simp only[flatL,flatOps l]
  rfl
theorem frzOps{l:List OpM}:frzC P 0 l.length 18446744073709551616 (EOp.all l) 224=true:=by
 have he:esz P 224=3:=by kernel_rfl
 unfold frzC
 rw[he,EOp.all_nr,opLen]
 have h2:Nat.ble (Nat.add 0 (Nat.mul l.length 3)) (Nat.mul l.length 3)=true:=by rw[zeroAdd]; exact Nat.ble_eq_true_of_le (Nat.le_refl _)
 rw[h2]; rfl
def WsOk(ws:List ByteArray):Prop:=(∀ w∈ws,w.size≤4194304)∧ws.length≤4194304
def kOpL:Con (List ByteArray) where
 enc ws:=(opV ws 0,opBk [])
 ok:=WsOk
 inj a b h:=by
  unfold opV at h
  simp only[Prod.mk.injEq,List.cons.injEq,true_and,and_true]at h
  exact fzS_inj h
 dflt:=[]
noncomputable def opLres(ws:List ByteArray):DT (Ex×List Value×List Blk):= .ite (opE ws []).1 (.leaf (.normal,opV (opE ws []).2.1 (opE ws []).2.2.length,opBk (opE ws []).2.2)) (.leaf (.ret,opV (opE ws []).2.1 (opE ws []).2.2.length,opBk (opE ws []).2.2))
theorem op_loopOk:LoopOkX P 97 0 Bop Dop.head (conL kOpL.C kOpL.D opLres):=
 conLX_ok kOpL (loopAt_occ Bop_eq) fun ws ho e vs' bs' hev=>by
  have q:=op_loop ws.length ws [] (Nat.le_refl _) ho.1 (by have:=ho.2; simp only[List.length_nil]; omega)
  unfold opLres at hev
  cases hb:(opE ws []).1 with
  |true=>
   rw[hb]at hev q
   simp only[DT.eval,Option.some.injEq,Prod.mk.injEq]at hev
   obtain⟨rfl,rfl,rfl⟩:=hev
   exact q
  |false=>
   rw[hb]at hev q
   simp only[DT.eval,Option.some.injEq,Prod.mk.injEq]at hev
   obtain⟨rfl,rfl,rfl⟩:=hev
   exact q
def opsV(ws:List ByteArray):List OpM:=match(opE ws []).1 with
 |true=>(opE ws []).2.2
 |false=>[]
def opsB(ws:List ByteArray):Bool:=match(opE ws []).1 with
 |true=>eqI (checkM (opE ws []).2.2) 0
 |false=>false
theorem opE_len:∀ (k:Nat) (ws:List ByteArray) (out:List OpM),ws.length≤k→(opE ws out).2.2.length≤out.length+ws.length
 |_,[],out,_=>by simp[opE]
 |_,[w0],out,_=>by simp[opE]
 |0,_::_::_,_,h=>by simp at h
 |k+1,w0::w1::tl,out,hl=>by
  rw[opE.eq_def]
  simp only[List.length_cons]at hl ⊢
  cases eqS w0 putW with
  |true=>
   cases tl with
   |nil=>simp
   |cons w2 r=>
    simp only[List.length_cons]at hl ⊢
    cases keyO w1 with
    |false=>simp
    |true=>
     cases eqI (byE w2) 0 with
     |false=>simp
     |true=>
      have:=opE_len k r (out++[(⟨true,byS w1,byS w2⟩:OpM)]) (by omega)
      rw[List.length_append]at this
      simp only[List.length_cons,List.length_nil]at this
      simp only
      omega
  |false=>
   cases eqS w0 delW with
   |false=>simp
   |true=>
    cases keyO w1 with
    |false=>simp
    |true=>
     have:=opE_len k tl (out++[(⟨false,byS w1,⟨#[]⟩⟩:OpM)]) (by omega)
     rw[List.length_append]at this
     simp only[List.length_cons,List.length_nil]at this
     simp only
     omega
def kOps:Con (List ByteArray) where
 enc ws:=([fzS ws],[])
 ok ws:=WsOk ws∧ws.length<4194304
 inj a b h:=by
  simp only[Prod.mk.injEq,List.cons.injEq,and_true]at h
  exact fzS_inj h
 dflt:=[]
noncomputable def ctP(ws:List ByteArray):Ct:=
 addCall P 154 (fun args=>oneM (kBk.at (opE ws []).2.2) (.leaf (.int .i64 (checkM (opE ws []).2.2),[])) args []) (addLoopX P 97 0 Dop (oneL (kOpL.at ws) (opLres ws)) ctF)
theorem ops_run(ws:List ByteArray):callQX P E (ctP ws) 50 polD [.val, .val] [51,4] 0 97 (kOps.enc ws).1 (kOps.enc ws).2=some (.tuple ⟨[fzOps (opsV ws), .bool (opsB ws)]⟩,mkSt []):=by
 have q:=dec_ops (kOpL.at ws) (kBk.at (opE ws []).2.2) (opE ws []).1 (opE ws []).2.2.length (opE ws []).2.2.length (fzS (opE ws []).2.1) (fzS (opE ws []).2.1) (EOp.all (opE ws []).2.2) (EOp.all (opE ws []).2.2) (checkM (opE ws []).2.2) ws.length 0 (ws.map Value.string)
 refine Eq.trans ?_ (q.trans ?_)
 ·rfl
 clear q
 refine need_at (k:=kOpL) (s:=ws) (by show opV ws 0=_; unfold opV fzS fzOps mkFz; rw[fzU,fzU3]; rfl) rfl ?_
 unfold opsV opsB
 cases (opE ws []).1 with
 |false=>
  simp only[ite_ff]
  unfold fzOps mkFz
  rw[fzU3]
  rfl
 |true=>
  have b2:∀ n,Nat.ble n n=true:=fun n=>Nat.ble_eq_true_of_le (Nat.le_refl n)
  have b13:Nat.ble 1 3=true:=rfl
  simp only[ite_tt,Enc.all_ren,opLen,zeroAdd,b2,b13,Bool.and_self,need_tt,opSelf rfl,flatOps,frzOps]
  refine need_at (k:=kBk) (s:=(opE ws []).2.2) (by show [fzOps _]=_; unfold fzOps mkFz; rw[fzU3]) rfl ?_
  unfold fzOps mkFz
  rw[fzU3]
theorem ops_ok:CallOkX P 0 97 (conM kOps.C kOps.D fun ws=> .leaf (.tuple ⟨[fzOps (opsV ws), .bool (opsB ws)]⟩,[])):=conX_ok kOps fun ws ho v bs' hev=>by
 simp only[DT.eval,Option.some.injEq,Prod.mk.injEq]at hev
 obtain⟨rfl,rfl⟩:=hev
 have hl:=opE_len ws.length ws [] (Nat.le_refl _)
 simp only[List.length_nil]at hl
 exact CRX.of (engOk (ctP ws)) noNum (addCall_ok (addLoopX_ok ctF_ok (oneL_ok kOpL op_loopOk (s:=ws) ho.1)) (CallOkR.ofX (oneM_ok kBk bck_ok (s:=(opE ws []).2.2) (by show _<_; have:=ho.2; omega)))) (ops_run ws)
end Go.VS.Tryz
end

section
namespace Go.VS
open Go.RowKit
section
variable{P:Program}{ct:Ct}
theorem choose_some{n:Nat}(hn:0<n)(w:World):∃ (j:Nat) (w1:World),j<n∧(w1=w∨w1=w.drew)∧(choose (Question.mapNext n)).run P w = .ok j w1:=by
 by_cases hf:n≤1
 ·exact⟨0,w,hn,Or.inl rfl,by simp[choose,Sem.run,Question.forced,hf]⟩
 ·exact⟨_,w.drew,Nat.mod_lt _ (by omega),Or.inr rfl,by
   simp only[choose,Sem.run,Question.forced,decide_eq_true_eq,hf,if_false,Question.cut]
   rfl⟩
theorem ERL.get:∀ {β:Env} {a b:List MapEntry},ERL β a b→∀ {j:Nat} {y:MapEntry},b[j]? = some y→∃ x,a[j]? = some x∧x.born=y.born∧VR β x.key y.key∧VR β x.val y.val
 |_,[],_,h,j,y,hy=>by have h:_=[]:=h; subst h; simp at hy
 |_,x::xs,_,⟨z,ys,e,h1,h2,h3,h4⟩,0,y,hy=>by
  subst e
  simp only[List.getElem?_cons_zero,Option.some.injEq]at hy
  subst hy
  exact⟨x,rfl,h1,h2,h3⟩
 |_,x::xs,_,⟨z,ys,e,h1,h2,h3,h4⟩,j+1,y,hy=>by
  subst e
  simp only[List.getElem?_cons_succ]at hy ⊢
  exact h4.get hy
theorem ERL.length':∀ {β:Env} {a b:List MapEntry},ERL β a b→a.length=b.length
 |_,[],_,h=>by have h:_=[]:=h; subst h; rfl
 |_,x::xs,_,⟨z,ys,e,h1,h2,h3,h4⟩=>by subst e; simp only[List.length_cons]; rw[h4.length']
def leftM(seen:List Nat)(es:List MapEntry):List MapEntry:=es.filter fun e=>!seen.contains e.born
theorem next_pick{K:Prot}{β:Env}{st:St}{w:World}(hr:Rel P K β st w){ρ ρ':Operand→Value}(hρ:∀ x,VR β (ρ x) (ρ' x)){o:Oper}{it:Operand}(ho:o.op = .next it false){r m since last clock:Nat}{seen:List Nat}{es:List MapEntry}
  (hv:ρ it = .pointer (some ⟨r,0,none⟩)) (hg:st.heap.get r=some (.miter (some m) since seen last)) (hgm:st.heap.get m=some (.map es clock)) (hguard:es.all (fun e=>decide (e.born≥last))=false∨seen=[])
  (hold:∀ e∈es,e.born<since) (hne:leftM seen es≠[]) :
  ∃ e,e∈leftM seen es∧∃ v' w',(execOp ρ' o).run P w = .ok (.value v') w'∧Rel P K β { st with heap:=st.heap.set r (.miter (some m) since (e.born::seen) clock) } w'∧VR β (.tuple #[.bool true,e.key,e.val]) v'∧Bel K w w':=by
 have hx:=hρ it
 rw[hv]at hx
 obtain⟨hs,l,hl,hx⟩:=hx.ptr'
 obtain⟨l',g1,g2,g3⟩:=hr.blk _ _ hg rfl
 obtain rfl:l'=l:=by rw[g1]at hl; exact Option.some.inj hl
 obtain⟨hvt,hbase,m',hm,g3⟩:=g3
 obtain⟨lm,hlm,hm⟩:=hm
 have hm:m'=some lm.blk:=by simpa using hm
 subst hm
 obtain⟨lm',es',k1,k2,k3,k4⟩:=hr.get_map hgm
 obtain rfl:lm'=lm:=by rw[k1]at hlm; exact Option.some.inj hlm
 have hguard':(!seen.isEmpty&&!es'.isEmpty&&es'.all (fun e=>decide (e.born≥last)))=false:=by
  have e2:=all_rel (fun b=>decide (b≥last)) k4
  have e4:es'.all (fun e=>decide (e.born≥last))=es'.toList.all (fun e=>decide (e.born≥last)):=by simp
  rw[e4,←e2]
  rcases hguard with h | h
  ·rw[h,Bool.and_false]
  ·rw[h]; rfl
 have hleft:=filter_rel (fun b=>!seen.contains b) k4
 have hold2:(leftM seen es).filter (fun e=>decide (e.born<since))=leftM seen es:=by
  apply List.filter_eq_self.2
  intro e he
  exact decide_eq_true (hold e (List.mem_filter.1 he).1)
 have hnew2:(leftM seen es).filter (fun e=>decide (e.born≥since))=[]:=by
  apply List.filter_eq_nil_iff.2
  intro e he
  have:=hold e (List.mem_filter.1 he).1
  simp only[decide_eq_true_eq]; omega
 have hold3:=filter_rel (fun b=>decide (b<since)) hleft
 have hnew3:=filter_rel (fun b=>decide (b≥since)) hleft
 have hL':(es'.filter fun e=>!(⟨seen.reverse⟩:Array Nat).contains e.born)=⟨es'.toList.filter fun e=>!seen.contains e.born⟩:=by
  apply Array.ext'; simp
 generalize hLc:es'.toList.filter (fun e=>!seen.contains e.born)=left' at *
 change ERL β ((leftM seen es).filter _) _ at hold3
 change ERL β ((leftM seen es).filter _) _ at hnew3
 change ERL β (leftM seen es) _ at hleft
 rw[hold2]at hold3
 rw[hnew2]at hnew3
 have hnew3:left'.filter (fun e=>decide (e.born≥since))=[]:=hnew3
 generalize hO:left'.filter (fun e=>decide (e.born<since))=old' at *
 have hlen:=hold3.length'
 have hpos:0<old'.length:=by
  rw[←hlen]
  exact List.length_pos_iff.2 hne
 obtain⟨j,w1,hj,hw1,hch⟩:=choose_some (P:=P) hpos w
 have hje:old'[j]? = some old'[j]:=List.getElem?_eq_getElem hj
 obtain⟨e,q1,q2,q3,q4⟩:=hold3.get hje
 have hemp:old'.isEmpty=false:=by cases old' with
  |nil=>simp at hpos
  |cons _ _=>rfl
 have hr1:Rel P K β st w1:=by rcases hw1 with rfl | rfl; exact hr; exact hr.drew
 have hb1:Bel K w w1:=by rcases hw1 with rfl | rfl; exact Bel.refl _ _; exact(Bel.refl _ _).drew
 have hh1:w1.heap=w.heap:=by rcases hw1 with rfl | rfl<;>rfl
 have hbk:BlkR P β l' (.miter (some m) since (e.born::seen) clock) (some (.mapIter (some lm'.blk) since ((⟨seen.reverse⟩:Array Nat).push old'[j].born) clock)):=
  ⟨hvt,hbase,some lm'.blk,⟨lm',k1,rfl⟩,by simp[q2]⟩
 obtain⟨p1,p2⟩:=hr1.putObj hg rfl g1 hbk
 refine⟨e,List.mem_of_getElem? q1, .tuple #[.bool true,old'[j].key,old'[j].val],_,?_,p1,⟨_,rfl,VRL.cons rfl (VRL.cons q3 (VRL.cons q4 VRL.nil))⟩,hb1.trans p2⟩
 simp only[execOp,ho]
 refine run_v ?_
 simp only[Instr.next,hx,hbase,Nat.zero_add]
 simp only[Sem.run_bind,run_getObj_of g3 (by intros; simp),Result.andThen,MapKept.run_getObj_map k3]
 have hg2:(!(⟨seen.reverse⟩:Array Nat).isEmpty&&!es'.isEmpty&&es'.all (fun e=>decide (e.born≥last)))=false:=by simpa using hguard'
 simp only[hg2,Bool.false_eq_true,if_false,hL']
 simp only[List.filter_toArray,hO,hnew3,List.append_toArray,List.append_nil,List.map_toArray,List.map_nil,List.isEmpty_toArray,hemp,List.nil_append,if_false,Bool.false_eq_true]
 have hsz:(⟨old'.map some⟩:Array (Option MapEntry)).size=old'.length:=by simp
 rw[hsz]
 rw[Sem.run_bind,hch]
 simp only[Result.andThen,List.getElem?_toArray,List.getElem?_map,hje,Option.map_some]
 rw[←hh1]at g3
 simp[run_setObj_of g3 (by intros; simp)]
theorem rel_same{K:Prot}{β:Env}{w:World}{st st':St}(hg:∀ i,st'.heap.get i=st.heap.get i)(hn:st'.next=st.next)(h:Rel P K β st w):Rel P K β st' w:=by
 refine⟨h.base,fun i l hi=>by rw[hn]; exact h.dom i l hi,fun i b hi=>h.blk i b (by rw[←hg]; exact hi),fun i j bi bj li lj hi hbi hj=>h.inj i j bi bj li lj (by rw[←hg]; exact hi) hbi (by rw[←hg]; exact hj),fun i hi=>by rw[hn]; exact h.res i hi,h.nofz,fun k l hk=>?_,?_⟩
 ·obtain⟨f1,f2,f3⟩:=h.frz k l hk
  exact⟨f1,f2,fun j bj lj hj=>f3 j bj lj (by rw[←hg]; exact hj)⟩
 ·exact h.objs.step rfl (Env.le.refl _) (Nat.le_refl _) (fun _ _ _=>rfl) (fun i o=>by rw[hg]) (fun i k o l _ _ hk hK hf hj=>⟨rfl,hK,hf,fun j bj lj hj1=>hj j bj lj (by rw[←hg]; exact hj1)⟩)
noncomputable def pickQ(P:Program)(E:Eng)(ct:Ct)(n fid:Nat)(B:Code)(H:Head)(vs:List Value)(bs:List Blk)(k v:Value):Res:=
 match B with
 | .seq (.region _ ops false) rest=>match ops.toList with
  |o::os=>match o.dst with
   |some d=>opsF P E ct (knotQ P E ct n n) H.nt none ops os (setP (path d) (mkS H.nt H.L vs) (.tuple ⟨[.bool true,k,v]⟩)) [] (mkSt bs) fun s d st=>codeQ P E ct n (knotQ P E ct n n) fid H.nt none rest s d st (kontL H)
   |none=>none
  |[]=>none
 |_=>none
/-- A loop's first operation. -/
structure FirstNext(B:Code)(H:Head)(it:Operand):Prop where
 first:∃ id ops rest o os d,B = .seq (.region id ops false) rest∧ops.toList=o::os∧o.op = .next it false∧o.guard=none∧o.dst=some d∧d<H.nt
def firstNext(B:Code)(H:Head):Option Tmp:=match B with
 | .seq (.region _ ops false) _=>match ops.toList with
  |o::_=>match o.op,o.guard,o.dst with
   | .next (.tmp t) false,none,some d=>match Nat.ble (d+1) H.nt with
    |true=>some t
    |false=>none
   |_,_,_=>none
  |[]=>none
 |_=>none
theorem FirstNext.of{B:Code}{H:Head}{t:Tmp}(h:firstNext B H=some t):FirstNext B H (.tmp t):=by
 unfold firstNext at h
 split at h
 ·rename_i id ops rest
  split at h
  ·rename_i o os hos
   split at h
   ·rename_i t' d h1 h2 h3
    split at h
    ·rename_i hb
     obtain rfl:=Option.some.inj h
     exact⟨id,ops,rest,o,os,d,rfl,hos,h1,h2,h3,Nat.le_of_ble_eq_true hb⟩
    ·cases h
   ·cases h
  ·cases h
 ·cases h
/-- What a map's iterator has in a memory. -/
structure IterAt(bs:List Blk)(r m since last clock:Nat)(seen:List Nat)(es:List MapEntry):Prop where
 it:bs[r]? = some (.miter (some m) since seen last)
 map:bs[m]? = some (.map es clock)
 new:es.all (fun e=>decide (e.born≥last))=false∨seen=[]
 old:∀ e∈es,e.born<since
 some:leftM seen es≠[]
theorem pick_reach{E:Eng}(hE:EngOk P ct E)(hN:noNum P=true)(hct:CtOk P ct){n fid id:Nat}{B:Code}{H:Head}(hocc:Occ P fid (.block id (.loop B)))(hL:okL H=true){it:Operand}(hB:FirstNext B H it){vs:List Value}{bs:List Blk}{r m since last clock:Nat}{seen:List Nat}{es:List MapEntry}
  (hit:(H.fr vs).eval it = .pointer (some ⟨r,0,none⟩)) (hI:IterAt bs r m since last clock seen es) {ex:MapEntry→Ex} {vs1:MapEntry→List Value} {bs1:MapEntry→List Blk}
  (h:∀ e∈leftM seen es,pickQ P E ct n fid B H vs (bs.set r (.miter (some m) since (e.born::seen) clock)) e.key e.val=some (.tuple ⟨exV (ex e)::vs1 e⟩,mkSt (bs1 e)))
  (K:Prot) (β:Env) (w:World) (fr:Frame) (cs:List Frame) (k:List Item) (hid:∀ i,K.id i→i<H.N) (ht:fr.todo = .code B::k) (hfid:fr.fn=fid) (hf:FrR β (H.fr vs) fr) (hr:Rel P K β (mkSt bs) w) :
  ∃ e∈leftM seen es,ReachN H.N P K β fr cs w (ex e) k (H.fr (vs1 e)) (mkSt (bs1 e)):=by
 obtain⟨⟨rid,ops,rest,o,os,d,rfl,hops,ho,hg,hd,hdn⟩⟩:=hB
 have g1:(mkSt bs).heap.get r=some (.miter (some m) since seen last):=by rw[mkSt_get]; exact hI.it
 have g2:(mkSt bs).heap.get m=some (.map es clock):=by rw[mkSt_get]; exact hI.map
 have s1:=s_seq (P:=P) (cs:=cs) (w:=w) hf.mode ht
 have s2:=s_region (P:=P) (fr:={ fr with todo:= .code (.region rid ops false):: .code rest::k }) (cs:=cs) (w:=w) hf.mode rfl
 have hsz:ops.size=os.length+1:=by have:=congrArg List.length hops; simpa using this
 have hrg:List.range ops.size=0::List.range' 1 os.length:=by rw[hsz,range_eq,List.range'_succ]
 have ho0:ops[0]? = some o:=by
  have:ops.toList[0]? = some o:=by rw[hops]; rfl
  simpa using this
 obtain⟨e,he,v',w1,a1,a2,a3,a4⟩:=next_pick (ρ:=(H.fr vs).eval) (ρ':=fr.eval) hr hf.eval ho hit g1 g2 hI.new hI.old hI.some
 refine⟨e,he,?_⟩
 have hq:=h e he
 unfold pickQ at hq
 simp only[hops,hd]at hq
 have hw:Region.wanted o (yielded ops ({ fr with todo:= .inRegion ops (List.range ops.size):: .code rest::k }:Frame).tmps)=true:=
  wantedF_eq (f:=H.fr vs) (β:=β) (fr:={ fr with todo:= .inRegion ops (List.range ops.size):: .code rest::k }) ⟨hf.slots,hf.defers,hf.round,hf.mode⟩ ops (by unfold wantedF; rw[hg])
 have s3:=s_op_value (P:=P) (fr:={ fr with todo:= .inRegion ops (List.range ops.size):: .code rest::k }) (cs:=cs) (w:=w) (ops:=ops) (i:=0) (rest:=List.range' 1 os.length) (o:=o) (k:= .code rest::k) hf.mode (by rw[hrg]) ho0 hw (Or.inl (by have:=hf.round; exact this)) a1
 have hput:(H.fr vs).put o.dst (.tuple #[.bool true,e.key,e.val])=some { H.fr vs with slots:=(H.fr vs).slots.set d (.tuple #[.bool true,e.key,e.val]) }:=by
  unfold Fr.put
  rw[hd]
  exact if_pos hdn
 have hf3:=(FrR.put (o:=o) ⟨hf.slots,hf.defers,hf.round,hf.mode⟩ hput a3 (.inRegion ops (List.range' 1 os.length):: .code rest::k):FrR β _ (putF fr o v' _))
 obtain⟨n1,s',d',st',b1,b2⟩:=opsF_spec hE (knotQ_ok hE n n) os 1 _ _ _ _ _ (by
  intro j
  have:ops.toList[j+1]? = os[j]?:=by rw[hops]; rfl
  rw[←this,Nat.add_comm 1 j]; simp) hq
 obtain⟨n2,e2,s2',d2',st2',c1,c2⟩:=codeQ_ok hE (knotQ_ok hE n n) n fid H.nt none rest _ _ _ _ _ b2
 have a2:Rel P K β (mkSt (bs.set r (.miter (some m) since (e.born::seen) clock))) w1:=by
  have hlt:r<bs.length:=by
   have:=hI.it
   rw[List.getElem?_eq_some_iff]at this
   exact this.1
  refine rel_same (fun i=>?_) ?_ a2
  ·rw[mkSt_get,List.getElem?_set]
   simp only[Trie.get_set,mkSt_get]
   by_cases hi:r=i
   ·subst hi
    rw[if_pos rfl,if_pos rfl,if_pos hlt]
   ·rw[if_neg hi,if_neg (fun e=>hi e.symm)]
  ·show(bs.set r _).length=bs.length
   simp
 have hsp:setP (path d) (mkS H.nt H.L vs) (.tuple ⟨[.bool true,e.key,e.val]⟩)=(H.fr vs).slots.set d (.tuple #[.bool true,e.key,e.val]):=setP_path _ _ _
 rw[hsp]at b1
 have r1:=(sound_all hN hct n1 K).ops ops _ _ _ _ _ b1 β w1 (putF fr o v' (.inRegion ops (List.range' 1 os.length):: .code rest::k)) cs (.code rest::k) rfl hf3 a2
 have r2:=r1.andThen (e:=e2) (k2:=k) (f2:=⟨s2',H.nt,d2',none⟩) (st2:=st2') fun β2 fr2 w2 t2 f2 q2 q3=>
  (sound_all hN hct n2 K).code fid rest _ _ _ _ _ c1 (hocc.sub (.block (.loop (.seqr (.refl _))))) β2 w2 fr2 cs k t2 (f2.trans hfid) q2 q3
 obtain⟨β1,fr1,w2,p1,p2,p3,p4,p5,p6,p7,p8,p9⟩:=r2
 unfold kontL at c2
 split at c2
 ·split at c2
  ·rename_i rr hc
   obtain⟨vs2,bs2⟩:=rr
   simp only[Option.some.injEq,Prod.mk.injEq,Value.tuple.injEq,Array.mk.injEq,List.cons.injEq]at c2
   obtain⟨⟨hee,rfl⟩,hst⟩:=c2
   obtain rfl:=exV_inj hee
   obtain⟨β2,z1,z2,z3⟩:=canon_rel hc p3 p5.slots hid (fun t ht=>by
    unfold okL at hL
    exact Nat.le_of_ble_eq_true (List.all_eq_true.1 hL t ht))
   refine⟨β2,fr1,w2, .head s1 (.head s2 (.head s3 p1)),(p2.leN _).trans z1,by rw[←hst]; exact z2,a4.trans p4,⟨z3,by have:=p5.defers; unfold DefsR at this; rw[this]; rfl,by have:=p5.round; exact this,p5.mode⟩,p6,p7,p8,p9⟩
  ·cases c2
 ·cases c2
theorem LR.pick{E:Eng}(hE:EngOk P ct E)(hN:noNum P=true)(hct:CtOk P ct){n fid id:Nat}{B:Code}{H:Head}(hocc:Occ P fid (.block id (.loop B)))(hL:okL H=true){it:Operand}(hB:FirstNext B H it){vs:List Value}{bs:List Blk}{r m since last clock:Nat}{seen:List Nat}{es:List MapEntry}
  (hit:(H.fr vs).eval it = .pointer (some ⟨r,0,none⟩)) (hI:IterAt bs r m since last clock seen es) {ex:MapEntry→Ex} {vs1:MapEntry→List Value} {bs1:MapEntry→List Blk}
  (h:∀ e∈leftM seen es,pickQ P E ct n fid B H vs (bs.set r (.miter (some m) since (e.born::seen) clock)) e.key e.val=some (.tuple ⟨exV (ex e)::vs1 e⟩,mkSt (bs1 e))) {x:Ex} {vs':List Value} {bs':List Blk}
  (hend:∀ e∈leftM seen es,(ex e = .normal∧LR P fid id B H (vs1 e) (bs1 e) x vs' bs')∨(ex e≠ .normal∧exitE id (ex e)=x∧vs1 e=vs'∧∀ K β w,Rel P K β (mkSt (bs1 e)) w→Rel P K β (mkSt bs') w)):LR P fid id B H vs bs x vs' bs':=by
 intro K β w fr cs k hid ht hfid hf hr
 obtain⟨e,he,β1,fr1,w1,a1,a2,a3,a4,a5,a6,a7,a8,a9⟩:=pick_reach hE hN hct hocc hL hB hit hI h K β w fr cs _ hid ht hfid hf hr
 rcases hend e he with⟨hx,hl⟩ | ⟨hx,rfl,rfl,hb⟩
 ·rw[hx]at a9
  have a9:fr1.todo = .inLoop B:: .inBlock id::k:=a9
  have hs:=s_inLoop (P:=P) (cs:=cs) (w:=w1) a5.mode a9
  obtain⟨β2,fr2,w2,b1,b2,b3,b4,b5,b6,b7,b8,b9⟩:=hl K β1 w1 { fr1 with todo:= .code B:: .inLoop B:: .inBlock id::k } cs k hid rfl (a7.trans hfid) ⟨a5.slots,a5.defers,a5.round,a5.mode⟩ a3
  exact⟨β2,fr2,w2,a1.trans (.head hs b1),a2.trans b2,b3,a4.trans b4,b5,b6.trans a6,b7.trans a7,b8.trans a8,b9⟩
 ·have a3:=hb _ _ _ a3
  have a9:=a9.under hx (fun i e=>by cases e)
  cases hex:ex e with
  |normal=>exact absurd hex hx
  |ret=>rw[hex]at a9; exact⟨β1,fr1,w1,a1,a2,a3,a4,a5,a6,a7,a8,a9⟩
  |exit i=>
   rw[hex]at a9
   obtain⟨k2,h1,h2⟩:=a9
   cases hbq:Nat.beq i id with
   |true=>
    have hx2:exitE id (.exit i) = .normal:=by simp only[exitE,hbq]
    rw[hx2]
    have:=Nat.eq_of_beq_eq_true hbq
    subst this
    have hx:exitTo i k2=some k:=by rw[h2]; simp[exitTo]
    exact⟨β1,{ fr1 with todo:=k },w1,a1.trans (.one (s_exit a5.mode h1 hx)),a2,a3,a4,a5.todo k,a6,a7,a8,rfl⟩
   |false=>
    have hx2:exitE id (.exit i) = .exit i:=by simp only[exitE,hbq]
    rw[hx2]
    have:=Nat.ne_of_beq_eq_false hbq
    refine⟨β1,fr1,w1,a1,a2,a3,a4,a5,a6,a7,a8,k2,h1,?_⟩
    rw[h2]
    have:(id == i)=false:=by simp; exact fun ee=>this ee.symm
    simp[exitTo,this]
theorem rel_dead{K:Prot}{β:Env}{w:World}{bs:List Blk}(r:Nat)(hb:∀ b,bs[r]? = some b→b.isObj=false)(hr:Rel P K β (mkSt bs) w):Rel P K β (mkSt (bs.set r .dead)) w:=by
 have hget:∀ (i:Nat) b,(mkSt (bs.set r .dead)).heap.get i=some b→b.live=true→(mkSt bs).heap.get i=some b:=by
  intro i b hi hl
  rw[mkSt_get]at hi ⊢
  rw[List.getElem?_set]at hi
  split at hi
  ·split at hi
   ·cases hi; cases hl
   ·cases hi
  ·exact hi
 refine⟨hr.base,fun i l hi=>?_,fun i b hi hl=>hr.blk i b (hget i b hi hl) hl,fun i j bi bj li lj hi hbi hj hbj=>hr.inj i j bi bj li lj (hget i bi hi hbi) hbi (hget j bj hj hbj) hbj,fun i hi=>?_,hr.nofz,fun k l hk=>?_,?_⟩
 ·have:=hr.dom i l hi
  have e:(mkSt (bs.set r .dead)).next=(mkSt bs).next:=by show(bs.set r .dead).length=bs.length; simp
  rw[e]; exact this
 ·have:=hr.res i hi
  have e:(mkSt (bs.set r .dead)).next=(mkSt bs).next:=by show(bs.set r .dead).length=bs.length; simp
  rw[e]; exact this
 ·obtain⟨f1,f2,f3⟩:=hr.frz k l hk
  exact⟨f1,f2,fun j bj lj hj hbj=>f3 j bj lj (hget j bj hj hbj) hbj⟩
 ·refine hr.objs.step rfl (Env.le.refl _) (Nat.le_refl _) (fun _ _ _=>rfl) (fun i o=>⟨fun hi=>hget i _ hi rfl,fun hi=>?_⟩) (fun i k o l _ _ hk hK hf hj=>⟨rfl,hK,hf,fun j bj lj hj1 hj2=>hj j bj lj (hget j bj hj1 hj2) hj2⟩)
  rw[mkSt_get]at hi ⊢
  rw[List.getElem?_set]
  split
  ·rename_i e
   subst e
   have:=hb _ hi
   cases this
  ·exact hi
theorem rel_weak{K:Prot}{β:Env}{w:World}{bs:List Blk}{r:Nat}{c c':List Value}{e:TypeId}{x:Bool}(hb:bs[r]? = some (.cells c e x))(hl':c'.length=c.length)(hv:∀ β l,VRL β c l→VRL β c' l)(hr:Rel P K β (mkSt bs) w):Rel P K β (mkSt (bs.set r (.cells c' e x))) w:=by
 have hlt:r<bs.length:=(List.getElem?_eq_some_iff.1 hb).1
 have hget:∀ (i:Nat) b,(mkSt (bs.set r (.cells c' e x))).heap.get i=some b→∃ b0,(mkSt bs).heap.get i=some b0∧(b0=b∨(i=r∧b0 = .cells c e x∧b = .cells c' e x)):=by
  intro i b hi
  rw[mkSt_get,List.getElem?_set]at hi
  split at hi
  ·rename_i hir
   subst hir
   exact⟨_,by rw[mkSt_get]; exact hb,Or.inr ⟨rfl,rfl,(Option.some.inj hi).symm⟩⟩
  ·exact⟨b,by rw[mkSt_get]; exact hi,Or.inl rfl⟩
 have hlive:∀ (i:Nat) b,(mkSt (bs.set r (.cells c' e x))).heap.get i=some b→b.live=true→∃ b0,(mkSt bs).heap.get i=some b0∧b0.live=true∧(b0=b∨(b0 = .cells c e x∧b = .cells c' e x)):=by
  intro i b hi hl
  obtain⟨b0,h1,h2 | ⟨_,h2,h3⟩⟩:=hget i b hi
  ·exact⟨b0,h1,by rw[h2]; exact hl,Or.inl h2⟩
  ·exact⟨b0,h1,by rw[h2]; rfl,Or.inr ⟨h2,h3⟩⟩
 have hnx:(mkSt (bs.set r (.cells c' e x))).next=(mkSt bs).next:=by show(bs.set r _).length=bs.length; simp
 refine⟨hr.base,fun i l hi=>by rw[hnx]; exact hr.dom i l hi,fun i b hi hl=>?_,fun i j bi bj li lj hi hbi hj hbj=>?_,fun i hi=>by rw[hnx]; exact hr.res i hi,hr.nofz,fun k l hk=>?_,?_⟩
 ·obtain⟨b0,h1,h2,h3⟩:=hlive i b hi hl
  obtain⟨l,a1,a2,a3⟩:=hr.blk i b0 h1 h2
  refine⟨l,a1,a2,?_⟩
  rcases h3 with rfl | ⟨rfl,rfl⟩
  ·exact a3
  ·rcases a3 with⟨q1,q2,q3⟩ | ⟨q0,cc,f,q1,q2,q3,q4,q5,q6,q7⟩
   ·subst q2
    exact Or.inl ⟨q1,List.length_eq_zero_iff.1 (by simpa using hl'),q3⟩
   ·exact Or.inr ⟨q0,cc,f,q1,q2,q3,by rw[hl']; exact q4,fun hx=>by rw[hl']; exact q5 hx,by rw[hl']; exact hv _ _ q6,q7⟩
 ·obtain⟨b0,h1,h2,_⟩:=hlive i bi hi hbi
  obtain⟨b1,k1,k2,_⟩:=hlive j bj hj hbj
  exact hr.inj i j b0 b1 li lj h1 h2 k1 k2
 ·obtain⟨f1,f2,f3⟩:=hr.frz k l hk
  refine⟨f1,f2,fun j bj lj hj hbj=>?_⟩
  obtain⟨b1,k1,k2,_⟩:=hlive j bj hj hbj
  exact f3 j b1 lj k1 k2
 ·refine hr.objs.step rfl (Env.le.refl _) (Nat.le_refl _) (fun _ _ _=>rfl) (fun i o=>⟨fun hi=>?_,fun hi=>?_⟩) (fun i k o l _ _ hk hK hf hj=>⟨rfl,hK,hf,fun j bj lj hj1 hj2=>?_⟩)
  ·obtain⟨b0,h1,h2 | ⟨_,_,h3⟩⟩:=hget i _ hi
   ·rw[h2]at h1; exact h1
   ·cases h3
  ·rw[mkSt_get]at hi ⊢
   rw[List.getElem?_set]
   split
   ·rename_i hir
    subst hir
    rw[hb]at hi; cases hi
   ·exact hi
  ·obtain⟨b1,k1,k2,_⟩:=hlive j bj hj1 hj2
   exact hj j b1 lj k1 k2
noncomputable def overQ(P:Program)(E:Eng)(ct:Ct)(n fid:Nat)(B:Code)(H:Head)(vs:List Value)(bs:List Blk):Res:=
 match B with
 | .seq (.region _ ops false) rest=>match ops.toList with
  |o::os=>match o.dst with
   |some d=>opsF P E ct (knotQ P E ct n n) H.nt none ops os (setP (path d) (mkS H.nt H.L vs) (.tuple ⟨[.bool false]⟩)) [] (mkSt bs) fun s d st=>codeQ P E ct n (knotQ P E ct n n) fid H.nt none rest s d st (kontL H)
   |none=>none
  |[]=>none
 |_=>none
theorem over_reach{E:Eng}(hE:EngOk P ct E)(hN:noNum P=true)(hct:CtOk P ct){n fid id:Nat}{B:Code}{H:Head}(hocc:Occ P fid (.block id (.loop B)))(hL:okL H=true){it:Operand}(hB:FirstNext B H it){vs vs1:List Value}{bs bs1:List Blk}{r m since last clock:Nat}{seen:List Nat}{es:List MapEntry}{ex:Ex}
  (hit:(H.fr vs).eval it = .pointer (some ⟨r,0,none⟩)) (h1:bs[r]? = some (.miter (some m) since seen last)) (h2:bs[m]? = some (.map es clock)) (hnew:es.all (fun e=>decide (e.born≥last))=false∨seen=[]) (hleft:leftM seen es=[])
  (h:overQ P E ct n fid B H vs bs=some (.tuple ⟨exV ex::vs1⟩,mkSt bs1))
  (K:Prot) (β:Env) (w:World) (fr:Frame) (cs:List Frame) (k:List Item) (hid:∀ i,K.id i→i<H.N) (ht:fr.todo = .code B::k) (hfid:fr.fn=fid) (hf:FrR β (H.fr vs) fr) (hr:Rel P K β (mkSt bs) w) :
  ReachN H.N P K β fr cs w ex k (H.fr vs1) (mkSt bs1):=by
 obtain⟨⟨rid,ops,rest,o,os,d,rfl,hops,ho,hg,hd,hdn⟩⟩:=hB
 have g1:(mkSt bs).heap.get r=some (.miter (some m) since seen last):=by rw[mkSt_get]; exact h1
 have g2:(mkSt bs).heap.get m=some (.map es clock):=by rw[mkSt_get]; exact h2
 have s1:=s_seq (P:=P) (cs:=cs) (w:=w) hf.mode ht
 have s2:=s_region (P:=P) (fr:={ fr with todo:= .code (.region rid ops false):: .code rest::k }) (cs:=cs) (w:=w) hf.mode rfl
 have hsz:ops.size=os.length+1:=by have:=congrArg List.length hops; simpa using this
 have hrg:List.range ops.size=0::List.range' 1 os.length:=by rw[hsz,range_eq,List.range'_succ]
 have ho0:ops[0]? = some o:=by
  have:ops.toList[0]? = some o:=by rw[hops]; rfl
  simpa using this
 have hev:evOp P (H.fr vs).eval o (mkSt bs)=some (.val (.tuple #[.bool false]) (mkSt bs)):=by
  have hgd:(!seen.isEmpty&&!es.isEmpty&&es.all (fun e=>decide (e.born≥last)))=false:=by
   rcases hnew with h | h
   ·rw[h,Bool.and_false]
   ·rw[h]; rfl
  simp only[evOp,ho,hit,g1,g2]
  have hl:es.filter (fun e=>!seen.contains e.born)=[]:=hleft
  rw[hgd,hl]
  rfl
 obtain⟨β1,w1,v',a1,a2,a3,a4,a5⟩:=sound_next_map (ρ:=(H.fr vs).eval) (ρ':=fr.eval) hr hf.eval ho hev
 unfold overQ at h
 simp only[hops,hd]at h
 have hw:Region.wanted o (yielded ops ({ fr with todo:= .inRegion ops (List.range ops.size):: .code rest::k }:Frame).tmps)=true:=
  wantedF_eq (f:=H.fr vs) (β:=β) (fr:={ fr with todo:= .inRegion ops (List.range ops.size):: .code rest::k }) ⟨hf.slots,hf.defers,hf.round,hf.mode⟩ ops (by unfold wantedF; rw[hg])
 have s3:=s_op_value (P:=P) (fr:={ fr with todo:= .inRegion ops (List.range ops.size):: .code rest::k }) (cs:=cs) (w:=w) (ops:=ops) (i:=0) (rest:=List.range' 1 os.length) (o:=o) (k:= .code rest::k) hf.mode (by rw[hrg]) ho0 hw (Or.inl (by have:=hf.round; exact this)) a1
 have hput:(H.fr vs).put o.dst (.tuple #[.bool false])=some { H.fr vs with slots:=(H.fr vs).slots.set d (.tuple #[.bool false]) }:=by
  unfold Fr.put
  rw[hd]
  exact if_pos hdn
 have hf3:=(FrR.put (o:=o) (FrR.mono a2 ⟨hf.slots,hf.defers,hf.round,hf.mode⟩) hput a4 (.inRegion ops (List.range' 1 os.length):: .code rest::k):FrR β1 _ (putF fr o v' _))
 obtain⟨n1,s',d',st',b1,b2⟩:=opsF_spec hE (knotQ_ok hE n n) os 1 _ _ _ _ _ (by
  intro j
  have:ops.toList[j+1]? = os[j]?:=by rw[hops]; rfl
  rw[←this,Nat.add_comm 1 j]; simp) h
 obtain⟨n2,e2,s2',d2',st2',c1,c2⟩:=codeQ_ok hE (knotQ_ok hE n n) n fid H.nt none rest _ _ _ _ _ b2
 have hsp:setP (path d) (mkS H.nt H.L vs) (.tuple ⟨[.bool false]⟩)=(H.fr vs).slots.set d (.tuple #[.bool false]):=setP_path _ _ _
 rw[hsp]at b1
 have r1:=(sound_all hN hct n1 K).ops ops _ _ _ _ _ b1 β1 w1 (putF fr o v' (.inRegion ops (List.range' 1 os.length):: .code rest::k)) cs (.code rest::k) rfl hf3 a3
 have r2:=r1.andThen (e:=e2) (k2:=k) (f2:=⟨s2',H.nt,d2',none⟩) (st2:=st2') fun β2 fr2 w2 t2 f2 q2 q3=>
  (sound_all hN hct n2 K).code fid rest _ _ _ _ _ c1 (hocc.sub (.block (.loop (.seqr (.refl _))))) β2 w2 fr2 cs k t2 (f2.trans hfid) q2 q3
 obtain⟨β2,fr1,w2,p1,p2,p3,p4,p5,p6,p7,p8,p9⟩:=r2
 unfold kontL at c2
 split at c2
 ·split at c2
  ·rename_i rr hc
   obtain⟨vs2,bs2⟩:=rr
   simp only[Option.some.injEq,Prod.mk.injEq,Value.tuple.injEq,Array.mk.injEq,List.cons.injEq]at c2
   obtain⟨⟨hee,rfl⟩,hst⟩:=c2
   obtain rfl:=exV_inj hee
   obtain⟨β3,z1,z2,z3⟩:=canon_rel hc p3 p5.slots hid (fun t ht=>by
    unfold okL at hL
    exact Nat.le_of_ble_eq_true (List.all_eq_true.1 hL t ht))
   refine⟨β3,fr1,w2, .head s1 (.head s2 (.head s3 p1)),((a2.trans p2).leN _).trans z1,by rw[←hst]; exact z2,a5.trans p4,⟨z3,by have:=p5.defers; unfold DefsR at this; rw[this]; rfl,by have:=p5.round; exact this,p5.mode⟩,p6,p7,p8,p9⟩
  ·cases c2
 ·cases c2
theorem LR.over{E:Eng}(hE:EngOk P ct E)(hN:noNum P=true)(hct:CtOk P ct){n fid id:Nat}{B:Code}{H:Head}(hocc:Occ P fid (.block id (.loop B)))(hL:okL H=true){it:Operand}(hB:FirstNext B H it){vs vs1:List Value}{bs bs1 bs':List Blk}{r m since last clock:Nat}{seen:List Nat}{es:List MapEntry}{j:Nat}
  (hit:(H.fr vs).eval it = .pointer (some ⟨r,0,none⟩)) (h1:bs[r]? = some (.miter (some m) since seen last)) (h2:bs[m]? = some (.map es clock)) (hnew:es.all (fun e=>decide (e.born≥last))=false∨seen=[]) (hleft:leftM seen es=[])
  (h:overQ P E ct n fid B H vs bs=some (.tuple ⟨exV (.exit j)::vs1⟩,mkSt bs1)) (hj:Nat.beq j id=true) (hb:∀ K β w,Rel P K β (mkSt bs1) w→Rel P K β (mkSt bs') w):LR P fid id B H vs bs .normal vs1 bs':=by
 intro K β w fr cs k hid ht hfid hf hr
 obtain⟨β1,fr1,w1,a1,a2,a3,a4,a5,a6,a7,a8,a9⟩:=over_reach hE hN hct hocc hL hB hit h1 h2 hnew hleft h K β w fr cs _ hid ht hfid hf hr
 have a9:=a9.under (by intro h; cases h) (fun i e=>by cases e)
 obtain⟨k2,q1,q2⟩:=a9
 obtain rfl:=Nat.eq_of_beq_eq_true hj
 have hx:exitTo j k2=some k:=by rw[q2]; simp[exitTo]
 exact⟨β1,{ fr1 with todo:=k },w1,a1.trans (.one (s_exit a5.mode q1 hx)),a2,hb _ _ _ a3,a4,a5.todo k,a6,a7,a8,rfl⟩
theorem oneLP_ok{σ:Type}(k:Con σ){fid id:Nat}{B:Code}{H:Head}(hocc:∀ c,Occ P fid (.block id c)→c = .loop B)(hL:okL H=true){s:σ}{t:DT (Ex×List Value×List Blk)}
  (h:∀ e vs' bs',t.eval=some (e,vs',bs')→LR P fid id B H (k.enc s).1 (k.enc s).2 e vs' bs'):LoopOk P fid id B H (oneL (k.at s) t) where
 occ:=hocc
 ok:=hL
 run:=by
  intro vs bs t' hR e vs' bs' hev
  unfold oneL at hR
  obtain rfl:=Option.some.inj hR
  cases hc:k.at s vs bs with
  |false=>rw[hc]at hev; cases hev
  |true=>
   rw[hc]at hev
   have hev:t.eval=some (e,vs',bs'):=hev
   have:=h e vs' bs' hev
   rwa [k.at_of hc]at this
end
end Go.VS
end

section
namespace Go.VS.Tryz
set_option maxRecDepth 1000000
open Go.VS
noncomputable def ctLv(NC NO:ByteArray→Int→Bool)(NV:ByteArray→Int)(KC KO:ByteArray→Bool)(KV:ByteArray→ByteArray)(OC:List Value→List Blk→Bool)(ov:Value)(ob:Bool):Ct:=
 addCallX P polD 0 97 (oneM OC (.leaf (.tuple ⟨[ov, .bool ob]⟩,[]))) (addCall P 96 (RkeyV KC KO KV) (addCall P 95 (RnumV NC NO NV) ctF))
def Hli:Head:=⟨3,53,[0,2,3,4,5,30],[]⟩
noncomputable def Bli:Code:=(loopAt P 32 0).getD .skip
theorem Bli_eq:loopAt P 32 0=some Bli:=by kernel_rfl
theorem Bli_occ:Occ P 32 (.block 0 (.loop Bli)):=loopAt_has Bli_eq
theorem Bli_first:firstNext Bli Hli=some 30:=by kernel_rfl
def formV(w s:ByteArray):Value:= .agg ⟨[.string w, .string s]⟩
def liV(s:ByteArray)(n b:Nat)(c:List Value):List Value:=[.string s, .pointer (some ⟨0,0,none⟩), .bool false, .int .i64 0,mkFz 1 n b c, .pointer (some ⟨2,0,none⟩)]
def liB(a:List Value)(m i:Blk):List Blk:=[.cells a 53 true,m,i]
def act0:List Value:=[.int .i64 0, .int .i64 0, .int .i64 0, .int .i64 0, .string ⟨#[]⟩, .slice none 0 0]
def kkForms:List MapEntry:=[⟨.int .i64 1,formV ⟨#[99,111,109,109,105,116]⟩ ⟨#[110,111]⟩,0⟩,⟨.int .i64 2,formV ⟨#[114,101,97,100]⟩ ⟨#[110,107]⟩,1⟩,⟨.int .i64 3,formV ⟨#[116,105,99,107]⟩ ⟨#[110]⟩,2⟩,⟨.int .i64 4,formV ⟨#[112,114,111,109,111,116,101]⟩ ⟨#[110]⟩,3⟩,⟨.int .i64 5,formV ⟨#[102,108,117,115,104]⟩ ⟨#[110]⟩,4⟩,⟨.int .i64 6,formV ⟨#[100,101,108,105,118,101,114]⟩ ⟨#[97]⟩,5⟩,⟨.int .i64 7,formV ⟨#[116,119,105,99,101]⟩ ⟨#[97]⟩,6⟩,⟨.int .i64 8,formV ⟨#[100,114,111,112]⟩ ⟨#[97]⟩,7⟩,⟨.int .i64 9,formV ⟨#[102,117,115,101]⟩ ⟨#[110,97]⟩,8⟩,⟨.int .i64 10,formV ⟨#[112,117,108,108]⟩ ⟨#[110]⟩,9⟩,⟨.int .i64 11,formV ⟨#[115,116,97,114,116]⟩ ⟨#[110,97,116]⟩,10⟩,⟨.int .i64 12,formV ⟨#[114,111,117,110,100]⟩ ⟨#[]⟩,11⟩]
theorem dec_li1(NC NO:ByteArray→Int→Bool)(NV:ByteArray→Int)(KC KO:ByteArray→Bool)(KV:ByteArray→ByteArray)(OC:List Value→List Blk→Bool)(on:Nat)(oc:List Value)(ob:Bool)(s:ByteArray)(n b:Nat)(c:List Value)(se:List Nat):pickQ P E (ctLv NC NO NV KC KO KV OC (mkFz 3 on 0 oc) ob) 50 32 Bli Hli (liV s n b c) (liB act0 (.map kkForms 12) (.miter (some 1) 12 (0::se) 12)) (.int .i64 1) (formV ⟨#[99,111,109,109,105,116]⟩ ⟨#[110,111]⟩) =
 (needB (Bool.and (Nat.beq 1 1) (inI (0:Int) n))
 (needB (Bool.and (Nat.ble 1 (List.length c)) (etaB Eta.string (nthD c 0)))
 (iteB (eqS (ByteArray.mk #[99,111,109,109,105,116]) (asS (nthD c 0)))
 (needB (Bool.and (Nat.beq 1 1) (cutI (1:Int) (lenI n) n))
 (iteB (notB (ltI (0:Int) (lenI (lapN (1:Int) (lenI n)))))
 (some ((Value.tuple (Array.mk [(Value.int IntKind.i64 (0:Int)),(Value.string s),(Value.pointer (Option.some (Addr.mk 0 0 none))),(Value.bool Bool.false),(Value.int IntKind.i64 (0:Int)),(Value.iface 18446744073709551617 (Value.agg (Array.mk ((Value.slice none n b)::c)))),(Value.pointer (Option.some (Addr.mk 2 0 none)))])),(mkSt [(Blk.cells [(Value.int IntKind.i64 (0:Int)),(Value.int IntKind.i64 (0:Int)),(Value.int IntKind.i64 (0:Int)),(Value.int IntKind.i64 (0:Int)),(Value.string (ByteArray.mk #[])),(Value.slice none 0 0)] 53 Bool.true),(Blk.map kkForms 12),(Blk.miter (Option.some 1) 12 (0::se) 12)])))
 (needB (Bool.and (Nat.beq 1 1) (inI (0:Int) (lapN (1:Int) (lenI n))))
 (needB (Bool.and (Nat.ble 1 (List.length (takeC (Nat.mul (lapN (1:Int) (lenI n)) 1) (dropC 1 c)))) (etaB Eta.string (nthD (takeC (Nat.mul (lapN (1:Int) (lenI n)) 1) (dropC 1 c)) 0)))
 (needB (NC (asS (nthD (takeC (Nat.mul (lapN (1:Int) (lenI n)) 1) (dropC 1 c)) 0)) (1:Int))
 (iteB (NO (asS (nthD (takeC (Nat.mul (lapN (1:Int) (lenI n)) 1) (dropC 1 c)) 0)) (1:Int))
 (iteB (notB (ltI (1:Int) (lenI (lapN (1:Int) (lenI n)))))
 (some ((Value.tuple (Array.mk [(Value.int IntKind.i64 (0:Int)),(Value.string s),(Value.pointer (Option.some (Addr.mk 0 0 none))),(Value.bool Bool.false),(Value.int IntKind.i64 (0:Int)),(Value.iface 18446744073709551617 (Value.agg (Array.mk ((Value.slice none n b)::c)))),(Value.pointer (Option.some (Addr.mk 2 0 none)))])),(mkSt [(Blk.cells [(Value.int IntKind.i64 (0:Int)),(Value.int IntKind.i64 (0:Int)),(Value.int IntKind.i64 (0:Int)),(Value.int IntKind.i64 (0:Int)),(Value.string (ByteArray.mk #[])),(Value.slice none 0 0)] 53 Bool.true),(Blk.map kkForms 12),(Blk.miter (Option.some 1) 12 (0::se) 12)])))
 (needB (Bool.and (Nat.beq 1 1) (cutI (1:Int) (lenI (lapN (1:Int) (lenI n))) (lapN (1:Int) (lenI n))))
 (needB (OC [(Value.iface 18446744073709551617 (Value.agg (Array.mk ((Value.slice none (lapN (1:Int) (lenI (lapN (1:Int) (lenI n)))) (capS (capS b 1) 1))::(takeC (Nat.mul (lapN (1:Int) (lenI (lapN (1:Int) (lenI n)))) 1) (dropC 1 (takeC (Nat.mul (lapN (1:Int) (lenI n)) 1) (dropC 1 c))))))))] [])
 (needB (Bool.and (Nat.beq 1 1) (cutI (0:Int) (2:Int) (lapN (1:Int) (lenI n))))
 (iteB (notB ob)
 (some ((Value.tuple (Array.mk [(Value.int IntKind.i64 (0:Int)),(Value.string s),(Value.pointer (Option.some (Addr.mk 0 0 none))),(Value.bool Bool.false),(Value.int IntKind.i64 (0:Int)),(Value.iface 18446744073709551617 (Value.agg (Array.mk ((Value.slice none n b)::c)))),(Value.pointer (Option.some (Addr.mk 2 0 none)))])),(mkSt [(Blk.cells [(Value.int IntKind.i64 (0:Int)),(Value.int IntKind.i64 (0:Int)),(Value.int IntKind.i64 (0:Int)),(Value.int IntKind.i64 (0:Int)),(Value.string (ByteArray.mk #[])),(Value.slice none 0 0)] 53 Bool.true),(Blk.map kkForms 12),(Blk.miter (Option.some 1) 12 (0::se) 12)])))
 (some ((Value.tuple (Array.mk [(Value.int IntKind.i64 (-1:Int)),(Value.string s),(Value.pointer (Option.some (Addr.mk 0 0 none))),(Value.bool Bool.true),(Value.int IntKind.i64 (0:Int)),(Value.iface 18446744073709551617 (Value.agg (Array.mk ((Value.slice none n b)::c)))),(Value.pointer (Option.some (Addr.mk 2 0 none)))])),(mkSt [(Blk.cells [(Value.int IntKind.i64 (1:Int)),(Value.int IntKind.i64 (NV (asS (nthD (takeC (Nat.mul (lapN (1:Int) (lenI n)) 1) (dropC 1 c)) 0)))),(Value.int IntKind.i64 (0:Int)),(Value.int IntKind.i64 (0:Int)),(Value.string (ByteArray.mk #[])),(Value.iface 18446744073709551619 (Value.agg (Array.mk ((Value.slice none on 0)::oc))))] 53 Bool.true),(Blk.map kkForms 12),(Blk.miter (Option.some 1) 12 (0::se) 12)]))))))))
 (some ((Value.tuple (Array.mk [(Value.int IntKind.i64 (0:Int)),(Value.string s),(Value.pointer (Option.some (Addr.mk 0 0 none))),(Value.bool Bool.false),(Value.int IntKind.i64 (0:Int)),(Value.iface 18446744073709551617 (Value.agg (Array.mk ((Value.slice none n b)::c)))),(Value.pointer (Option.some (Addr.mk 2 0 none)))])),(mkSt [(Blk.cells [(Value.int IntKind.i64 (0:Int)),(Value.int IntKind.i64 (0:Int)),(Value.int IntKind.i64 (0:Int)),(Value.int IntKind.i64 (0:Int)),(Value.string (ByteArray.mk #[])),(Value.slice none 0 0)] 53 Bool.true),(Blk.map kkForms 12),(Blk.miter (Option.some 1) 12 (0::se) 12)])))))))))
 (some ((Value.tuple (Array.mk [(Value.int IntKind.i64 (0:Int)),(Value.string s),(Value.pointer (Option.some (Addr.mk 0 0 none))),(Value.bool Bool.false),(Value.int IntKind.i64 (0:Int)),(Value.iface 18446744073709551617 (Value.agg (Array.mk ((Value.slice none n b)::c)))),(Value.pointer (Option.some (Addr.mk 2 0 none)))])),(mkSt [(Blk.cells [(Value.int IntKind.i64 (0:Int)),(Value.int IntKind.i64 (0:Int)),(Value.int IntKind.i64 (0:Int)),(Value.int IntKind.i64 (0:Int)),(Value.string (ByteArray.mk #[])),(Value.slice none 0 0)] 53 Bool.true),(Blk.map kkForms 12),(Blk.miter (Option.some 1) 12 (0::se) 12)])))))):=by kernel_rfl
theorem dec_li2(NC NO:ByteArray→Int→Bool)(NV:ByteArray→Int)(KC KO:ByteArray→Bool)(KV:ByteArray→ByteArray)(OC:List Value→List Blk→Bool)(on:Nat)(oc:List Value)(ob:Bool)(s:ByteArray)(n b:Nat)(c:List Value)(se:List Nat):pickQ P E (ctLv NC NO NV KC KO KV OC (mkFz 3 on 0 oc) ob) 50 32 Bli Hli (liV s n b c) (liB act0 (.map kkForms 12) (.miter (some 1) 12 (1::se) 12)) (.int .i64 2) (formV ⟨#[114,101,97,100]⟩ ⟨#[110,107]⟩) =
 (needB (Bool.and (Nat.beq 1 1) (inI (0:Int) n))
 (needB (Bool.and (Nat.ble 1 (List.length c)) (etaB Eta.string (nthD c 0)))
 (iteB (eqS (ByteArray.mk #[114,101,97,100]) (asS (nthD c 0)))
 (needB (Bool.and (Nat.beq 1 1) (cutI (1:Int) (lenI n) n))
 (iteB (notB (ltI (0:Int) (lenI (lapN (1:Int) (lenI n)))))
 (some ((Value.tuple (Array.mk [(Value.int IntKind.i64 (0:Int)),(Value.string s),(Value.pointer (Option.some (Addr.mk 0 0 none))),(Value.bool Bool.false),(Value.int IntKind.i64 (0:Int)),(Value.iface 18446744073709551617 (Value.agg (Array.mk ((Value.slice none n b)::c)))),(Value.pointer (Option.some (Addr.mk 2 0 none)))])),(mkSt [(Blk.cells [(Value.int IntKind.i64 (0:Int)),(Value.int IntKind.i64 (0:Int)),(Value.int IntKind.i64 (0:Int)),(Value.int IntKind.i64 (0:Int)),(Value.string (ByteArray.mk #[])),(Value.slice none 0 0)] 53 Bool.true),(Blk.map kkForms 12),(Blk.miter (Option.some 1) 12 (1::se) 12)])))
 (needB (Bool.and (Nat.beq 1 1) (inI (0:Int) (lapN (1:Int) (lenI n))))
 (needB (Bool.and (Nat.ble 1 (List.length (takeC (Nat.mul (lapN (1:Int) (lenI n)) 1) (dropC 1 c)))) (etaB Eta.string (nthD (takeC (Nat.mul (lapN (1:Int) (lenI n)) 1) (dropC 1 c)) 0)))
 (needB (NC (asS (nthD (takeC (Nat.mul (lapN (1:Int) (lenI n)) 1) (dropC 1 c)) 0)) (1:Int))
 (iteB (NO (asS (nthD (takeC (Nat.mul (lapN (1:Int) (lenI n)) 1) (dropC 1 c)) 0)) (1:Int))
 (iteB (notB (ltI (1:Int) (lenI (lapN (1:Int) (lenI n)))))
 (some ((Value.tuple (Array.mk [(Value.int IntKind.i64 (0:Int)),(Value.string s),(Value.pointer (Option.some (Addr.mk 0 0 none))),(Value.bool Bool.false),(Value.int IntKind.i64 (0:Int)),(Value.iface 18446744073709551617 (Value.agg (Array.mk ((Value.slice none n b)::c)))),(Value.pointer (Option.some (Addr.mk 2 0 none)))])),(mkSt [(Blk.cells [(Value.int IntKind.i64 (0:Int)),(Value.int IntKind.i64 (0:Int)),(Value.int IntKind.i64 (0:Int)),(Value.int IntKind.i64 (0:Int)),(Value.string (ByteArray.mk #[])),(Value.slice none 0 0)] 53 Bool.true),(Blk.map kkForms 12),(Blk.miter (Option.some 1) 12 (1::se) 12)])))
 (needB (Bool.and (Nat.beq 1 1) (inI (1:Int) (lapN (1:Int) (lenI n))))
 (needB (Bool.and (Nat.ble 2 (List.length (takeC (Nat.mul (lapN (1:Int) (lenI n)) 1) (dropC 1 c)))) (etaB Eta.string (nthD (takeC (Nat.mul (lapN (1:Int) (lenI n)) 1) (dropC 1 c)) 1)))
 (needB (KC (asS (nthD (takeC (Nat.mul (lapN (1:Int) (lenI n)) 1) (dropC 1 c)) 1)))
 (iteB (notB (KO (asS (nthD (takeC (Nat.mul (lapN (1:Int) (lenI n)) 1) (dropC 1 c)) 1))))
 (some ((Value.tuple (Array.mk [(Value.int IntKind.i64 (0:Int)),(Value.string s),(Value.pointer (Option.some (Addr.mk 0 0 none))),(Value.bool Bool.false),(Value.int IntKind.i64 (0:Int)),(Value.iface 18446744073709551617 (Value.agg (Array.mk ((Value.slice none n b)::c)))),(Value.pointer (Option.some (Addr.mk 2 0 none)))])),(mkSt [(Blk.cells [(Value.int IntKind.i64 (0:Int)),(Value.int IntKind.i64 (0:Int)),(Value.int IntKind.i64 (0:Int)),(Value.int IntKind.i64 (0:Int)),(Value.string (ByteArray.mk #[])),(Value.slice none 0 0)] 53 Bool.true),(Blk.map kkForms 12),(Blk.miter (Option.some 1) 12 (1::se) 12)])))
 (iteB (eqI (lenI (lapN (1:Int) (lenI n))) (2:Int))
 (some ((Value.tuple (Array.mk [(Value.int IntKind.i64 (-1:Int)),(Value.string s),(Value.pointer (Option.some (Addr.mk 0 0 none))),(Value.bool Bool.true),(Value.int IntKind.i64 (0:Int)),(Value.iface 18446744073709551617 (Value.agg (Array.mk ((Value.slice none n b)::c)))),(Value.pointer (Option.some (Addr.mk 2 0 none)))])),(mkSt [(Blk.cells [(Value.int IntKind.i64 (2:Int)),(Value.int IntKind.i64 (NV (asS (nthD (takeC (Nat.mul (lapN (1:Int) (lenI n)) 1) (dropC 1 c)) 0)))),(Value.int IntKind.i64 (0:Int)),(Value.int IntKind.i64 (0:Int)),(Value.string (KV (asS (nthD (takeC (Nat.mul (lapN (1:Int) (lenI n)) 1) (dropC 1 c)) 1)))),(Value.slice none 0 0)] 53 Bool.true),(Blk.map kkForms 12),(Blk.miter (Option.some 1) 12 (1::se) 12)])))
 (some ((Value.tuple (Array.mk [(Value.int IntKind.i64 (0:Int)),(Value.string s),(Value.pointer (Option.some (Addr.mk 0 0 none))),(Value.bool Bool.false),(Value.int IntKind.i64 (0:Int)),(Value.iface 18446744073709551617 (Value.agg (Array.mk ((Value.slice none n b)::c)))),(Value.pointer (Option.some (Addr.mk 2 0 none)))])),(mkSt [(Blk.cells [(Value.int IntKind.i64 (0:Int)),(Value.int IntKind.i64 (0:Int)),(Value.int IntKind.i64 (0:Int)),(Value.int IntKind.i64 (0:Int)),(Value.string (ByteArray.mk #[])),(Value.slice none 0 0)] 53 Bool.true),(Blk.map kkForms 12),(Blk.miter (Option.some 1) 12 (1::se) 12)])))))))))
 (some ((Value.tuple (Array.mk [(Value.int IntKind.i64 (0:Int)),(Value.string s),(Value.pointer (Option.some (Addr.mk 0 0 none))),(Value.bool Bool.false),(Value.int IntKind.i64 (0:Int)),(Value.iface 18446744073709551617 (Value.agg (Array.mk ((Value.slice none n b)::c)))),(Value.pointer (Option.some (Addr.mk 2 0 none)))])),(mkSt [(Blk.cells [(Value.int IntKind.i64 (0:Int)),(Value.int IntKind.i64 (0:Int)),(Value.int IntKind.i64 (0:Int)),(Value.int IntKind.i64 (0:Int)),(Value.string (ByteArray.mk #[])),(Value.slice none 0 0)] 53 Bool.true),(Blk.map kkForms 12),(Blk.miter (Option.some 1) 12 (1::se) 12)])))))))))
 (some ((Value.tuple (Array.mk [(Value.int IntKind.i64 (0:Int)),(Value.string s),(Value.pointer (Option.some (Addr.mk 0 0 none))),(Value.bool Bool.false),(Value.int IntKind.i64 (0:Int)),(Value.iface 18446744073709551617 (Value.agg (Array.mk ((Value.slice none n b)::c)))),(Value.pointer (Option.some (Addr.mk 2 0 none)))])),(mkSt [(Blk.cells [(Value.int IntKind.i64 (0:Int)),(Value.int IntKind.i64 (0:Int)),(Value.int IntKind.i64 (0:Int)),(Value.int IntKind.i64 (0:Int)),(Value.string (ByteArray.mk #[])),(Value.slice none 0 0)] 53 Bool.true),(Blk.map kkForms 12),(Blk.miter (Option.some 1) 12 (1::se) 12)])))))):=by kernel_rfl
noncomputable def treeN(NC NO:ByteArray→Int→Bool)(NV:ByteArray→Int)(KC KO:ByteArray→Bool)(KV:ByteArray→ByteArray)(OC:List Value→List Blk→Bool)(on:Nat)(oc:List Value)(ob:Bool)(s:ByteArray)(n b:Nat)(c:List Value)(se:List Nat)(W:ByteArray)(kd:Int)(sq:List Nat):Res:=
 (needB (Bool.and (Nat.beq 1 1) (inI (0:Int) n))
 (needB (Bool.and (Nat.ble 1 (List.length c)) (etaB Eta.string (nthD c 0)))
 (iteB (eqS W (asS (nthD c 0)))
 (needB (Bool.and (Nat.beq 1 1) (cutI (1:Int) (lenI n) n))
 (iteB (notB (ltI (0:Int) (lenI (lapN (1:Int) (lenI n)))))
 (some ((Value.tuple (Array.mk [(Value.int IntKind.i64 (0:Int)),(Value.string s),(Value.pointer (Option.some (Addr.mk 0 0 none))),(Value.bool Bool.false),(Value.int IntKind.i64 (0:Int)),(Value.iface 18446744073709551617 (Value.agg (Array.mk ((Value.slice none n b)::c)))),(Value.pointer (Option.some (Addr.mk 2 0 none)))])),(mkSt [(Blk.cells [(Value.int IntKind.i64 (0:Int)),(Value.int IntKind.i64 (0:Int)),(Value.int IntKind.i64 (0:Int)),(Value.int IntKind.i64 (0:Int)),(Value.string (ByteArray.mk #[])),(Value.slice none 0 0)] 53 Bool.true),(Blk.map kkForms 12),(Blk.miter (Option.some 1) 12 sq 12)])))
 (needB (Bool.and (Nat.beq 1 1) (inI (0:Int) (lapN (1:Int) (lenI n))))
 (needB (Bool.and (Nat.ble 1 (List.length (takeC (Nat.mul (lapN (1:Int) (lenI n)) 1) (dropC 1 c)))) (etaB Eta.string (nthD (takeC (Nat.mul (lapN (1:Int) (lenI n)) 1) (dropC 1 c)) 0)))
 (needB (NC (asS (nthD (takeC (Nat.mul (lapN (1:Int) (lenI n)) 1) (dropC 1 c)) 0)) (1:Int))
 (iteB (NO (asS (nthD (takeC (Nat.mul (lapN (1:Int) (lenI n)) 1) (dropC 1 c)) 0)) (1:Int))
 (iteB (eqI (lenI (lapN (1:Int) (lenI n))) (1:Int))
 (some ((Value.tuple (Array.mk [(Value.int IntKind.i64 (-1:Int)),(Value.string s),(Value.pointer (Option.some (Addr.mk 0 0 none))),(Value.bool Bool.true),(Value.int IntKind.i64 (0:Int)),(Value.iface 18446744073709551617 (Value.agg (Array.mk ((Value.slice none n b)::c)))),(Value.pointer (Option.some (Addr.mk 2 0 none)))])),(mkSt [(Blk.cells [(Value.int IntKind.i64 kd),(Value.int IntKind.i64 (NV (asS (nthD (takeC (Nat.mul (lapN (1:Int) (lenI n)) 1) (dropC 1 c)) 0)))),(Value.int IntKind.i64 (0:Int)),(Value.int IntKind.i64 (0:Int)),(Value.string (ByteArray.mk #[])),(Value.slice none 0 0)] 53 Bool.true),(Blk.map kkForms 12),(Blk.miter (Option.some 1) 12 sq 12)])))
 (some ((Value.tuple (Array.mk [(Value.int IntKind.i64 (0:Int)),(Value.string s),(Value.pointer (Option.some (Addr.mk 0 0 none))),(Value.bool Bool.false),(Value.int IntKind.i64 (0:Int)),(Value.iface 18446744073709551617 (Value.agg (Array.mk ((Value.slice none n b)::c)))),(Value.pointer (Option.some (Addr.mk 2 0 none)))])),(mkSt [(Blk.cells [(Value.int IntKind.i64 (0:Int)),(Value.int IntKind.i64 (0:Int)),(Value.int IntKind.i64 (0:Int)),(Value.int IntKind.i64 (0:Int)),(Value.string (ByteArray.mk #[])),(Value.slice none 0 0)] 53 Bool.true),(Blk.map kkForms 12),(Blk.miter (Option.some 1) 12 sq 12)]))))
 (some ((Value.tuple (Array.mk [(Value.int IntKind.i64 (0:Int)),(Value.string s),(Value.pointer (Option.some (Addr.mk 0 0 none))),(Value.bool Bool.false),(Value.int IntKind.i64 (0:Int)),(Value.iface 18446744073709551617 (Value.agg (Array.mk ((Value.slice none n b)::c)))),(Value.pointer (Option.some (Addr.mk 2 0 none)))])),(mkSt [(Blk.cells [(Value.int IntKind.i64 (0:Int)),(Value.int IntKind.i64 (0:Int)),(Value.int IntKind.i64 (0:Int)),(Value.int IntKind.i64 (0:Int)),(Value.string (ByteArray.mk #[])),(Value.slice none 0 0)] 53 Bool.true),(Blk.map kkForms 12),(Blk.miter (Option.some 1) 12 sq 12)])))))))))
 (some ((Value.tuple (Array.mk [(Value.int IntKind.i64 (0:Int)),(Value.string s),(Value.pointer (Option.some (Addr.mk 0 0 none))),(Value.bool Bool.false),(Value.int IntKind.i64 (0:Int)),(Value.iface 18446744073709551617 (Value.agg (Array.mk ((Value.slice none n b)::c)))),(Value.pointer (Option.some (Addr.mk 2 0 none)))])),(mkSt [(Blk.cells [(Value.int IntKind.i64 (0:Int)),(Value.int IntKind.i64 (0:Int)),(Value.int IntKind.i64 (0:Int)),(Value.int IntKind.i64 (0:Int)),(Value.string (ByteArray.mk #[])),(Value.slice none 0 0)] 53 Bool.true),(Blk.map kkForms 12),(Blk.miter (Option.some 1) 12 sq 12)]))))))
theorem dec_li3(NC NO:ByteArray→Int→Bool)(NV:ByteArray→Int)(KC KO:ByteArray→Bool)(KV:ByteArray→ByteArray)(OC:List Value→List Blk→Bool)(on:Nat)(oc:List Value)(ob:Bool)(s:ByteArray)(n b:Nat)(c:List Value)(se:List Nat):pickQ P E (ctLv NC NO NV KC KO KV OC (mkFz 3 on 0 oc) ob) 50 32 Bli Hli (liV s n b c) (liB act0 (.map kkForms 12) (.miter (some 1) 12 (2::se) 12)) (.int .i64 3) (formV ⟨#[116,105,99,107]⟩ ⟨#[110]⟩)=treeN NC NO NV KC KO KV OC on oc ob s n b c se (ByteArray.mk #[116,105,99,107]) (3:Int) (2::se):=by kernel_rfl
theorem dec_li4(NC NO:ByteArray→Int→Bool)(NV:ByteArray→Int)(KC KO:ByteArray→Bool)(KV:ByteArray→ByteArray)(OC:List Value→List Blk→Bool)(on:Nat)(oc:List Value)(ob:Bool)(s:ByteArray)(n b:Nat)(c:List Value)(se:List Nat):pickQ P E (ctLv NC NO NV KC KO KV OC (mkFz 3 on 0 oc) ob) 50 32 Bli Hli (liV s n b c) (liB act0 (.map kkForms 12) (.miter (some 1) 12 (3::se) 12)) (.int .i64 4) (formV ⟨#[112,114,111,109,111,116,101]⟩ ⟨#[110]⟩)=treeN NC NO NV KC KO KV OC on oc ob s n b c se (ByteArray.mk #[112,114,111,109,111,116,101]) 4 (3::se):=by kernel_rfl
theorem dec_li5(NC NO:ByteArray→Int→Bool)(NV:ByteArray→Int)(KC KO:ByteArray→Bool)(KV:ByteArray→ByteArray)(OC:List Value→List Blk→Bool)(on:Nat)(oc:List Value)(ob:Bool)(s:ByteArray)(n b:Nat)(c:List Value)(se:List Nat):pickQ P E (ctLv NC NO NV KC KO KV OC (mkFz 3 on 0 oc) ob) 50 32 Bli Hli (liV s n b c) (liB act0 (.map kkForms 12) (.miter (some 1) 12 (4::se) 12)) (.int .i64 5) (formV ⟨#[102,108,117,115,104]⟩ ⟨#[110]⟩)=treeN NC NO NV KC KO KV OC on oc ob s n b c se (ByteArray.mk #[102,108,117,115,104]) 5 (4::se):=by kernel_rfl
noncomputable def treeA(NC NO:ByteArray→Int→Bool)(NV:ByteArray→Int)(KC KO:ByteArray→Bool)(KV:ByteArray→ByteArray)(OC:List Value→List Blk→Bool)(on:Nat)(oc:List Value)(ob:Bool)(s:ByteArray)(n b:Nat)(c:List Value)(se:List Nat)(W:ByteArray)(kd:Int)(sq:List Nat):Res:=
 (needB (Bool.and (Nat.beq 1 1) (inI (0:Int) n))
 (needB (Bool.and (Nat.ble 1 (List.length c)) (etaB Eta.string (nthD c 0)))
 (iteB (eqS W (asS (nthD c 0)))
 (needB (Bool.and (Nat.beq 1 1) (cutI (1:Int) (lenI n) n))
 (iteB (notB (ltI (0:Int) (lenI (lapN (1:Int) (lenI n)))))
 (some ((Value.tuple (Array.mk [(Value.int IntKind.i64 (0:Int)),(Value.string s),(Value.pointer (Option.some (Addr.mk 0 0 none))),(Value.bool Bool.false),(Value.int IntKind.i64 (0:Int)),(Value.iface 18446744073709551617 (Value.agg (Array.mk ((Value.slice none n b)::c)))),(Value.pointer (Option.some (Addr.mk 2 0 none)))])),(mkSt [(Blk.cells [(Value.int IntKind.i64 (0:Int)),(Value.int IntKind.i64 (0:Int)),(Value.int IntKind.i64 (0:Int)),(Value.int IntKind.i64 (0:Int)),(Value.string (ByteArray.mk #[])),(Value.slice none 0 0)] 53 Bool.true),(Blk.map kkForms 12),(Blk.miter (Option.some 1) 12 sq 12)])))
 (needB (Bool.and (Nat.beq 1 1) (inI (0:Int) (lapN (1:Int) (lenI n))))
 (needB (Bool.and (Nat.ble 1 (List.length (takeC (Nat.mul (lapN (1:Int) (lenI n)) 1) (dropC 1 c)))) (etaB Eta.string (nthD (takeC (Nat.mul (lapN (1:Int) (lenI n)) 1) (dropC 1 c)) 0)))
 (needB (NC (asS (nthD (takeC (Nat.mul (lapN (1:Int) (lenI n)) 1) (dropC 1 c)) 0)) (999999999:Int))
 (iteB (NO (asS (nthD (takeC (Nat.mul (lapN (1:Int) (lenI n)) 1) (dropC 1 c)) 0)) (999999999:Int))
 (iteB (eqI (lenI (lapN (1:Int) (lenI n))) (1:Int))
 (some ((Value.tuple (Array.mk [(Value.int IntKind.i64 (-1:Int)),(Value.string s),(Value.pointer (Option.some (Addr.mk 0 0 none))),(Value.bool Bool.true),(Value.int IntKind.i64 (0:Int)),(Value.iface 18446744073709551617 (Value.agg (Array.mk ((Value.slice none n b)::c)))),(Value.pointer (Option.some (Addr.mk 2 0 none)))])),(mkSt [(Blk.cells [(Value.int IntKind.i64 kd),(Value.int IntKind.i64 (0:Int)),(Value.int IntKind.i64 (NV (asS (nthD (takeC (Nat.mul (lapN (1:Int) (lenI n)) 1) (dropC 1 c)) 0)))),(Value.int IntKind.i64 (0:Int)),(Value.string (ByteArray.mk #[])),(Value.slice none 0 0)] 53 Bool.true),(Blk.map kkForms 12),(Blk.miter (Option.some 1) 12 sq 12)])))
 (some ((Value.tuple (Array.mk [(Value.int IntKind.i64 (0:Int)),(Value.string s),(Value.pointer (Option.some (Addr.mk 0 0 none))),(Value.bool Bool.false),(Value.int IntKind.i64 (0:Int)),(Value.iface 18446744073709551617 (Value.agg (Array.mk ((Value.slice none n b)::c)))),(Value.pointer (Option.some (Addr.mk 2 0 none)))])),(mkSt [(Blk.cells [(Value.int IntKind.i64 (0:Int)),(Value.int IntKind.i64 (0:Int)),(Value.int IntKind.i64 (0:Int)),(Value.int IntKind.i64 (0:Int)),(Value.string (ByteArray.mk #[])),(Value.slice none 0 0)] 53 Bool.true),(Blk.map kkForms 12),(Blk.miter (Option.some 1) 12 sq 12)]))))
 (some ((Value.tuple (Array.mk [(Value.int IntKind.i64 (0:Int)),(Value.string s),(Value.pointer (Option.some (Addr.mk 0 0 none))),(Value.bool Bool.false),(Value.int IntKind.i64 (0:Int)),(Value.iface 18446744073709551617 (Value.agg (Array.mk ((Value.slice none n b)::c)))),(Value.pointer (Option.some (Addr.mk 2 0 none)))])),(mkSt [(Blk.cells [(Value.int IntKind.i64 (0:Int)),(Value.int IntKind.i64 (0:Int)),(Value.int IntKind.i64 (0:Int)),(Value.int IntKind.i64 (0:Int)),(Value.string (ByteArray.mk #[])),(Value.slice none 0 0)] 53 Bool.true),(Blk.map kkForms 12),(Blk.miter (Option.some 1) 12 sq 12)])))))))))
 (some ((Value.tuple (Array.mk [(Value.int IntKind.i64 (0:Int)),(Value.string s),(Value.pointer (Option.some (Addr.mk 0 0 none))),(Value.bool Bool.false),(Value.int IntKind.i64 (0:Int)),(Value.iface 18446744073709551617 (Value.agg (Array.mk ((Value.slice none n b)::c)))),(Value.pointer (Option.some (Addr.mk 2 0 none)))])),(mkSt [(Blk.cells [(Value.int IntKind.i64 (0:Int)),(Value.int IntKind.i64 (0:Int)),(Value.int IntKind.i64 (0:Int)),(Value.int IntKind.i64 (0:Int)),(Value.string (ByteArray.mk #[])),(Value.slice none 0 0)] 53 Bool.true),(Blk.map kkForms 12),(Blk.miter (Option.some 1) 12 sq 12)]))))))
theorem dec_li6(NC NO:ByteArray→Int→Bool)(NV:ByteArray→Int)(KC KO:ByteArray→Bool)(KV:ByteArray→ByteArray)(OC:List Value→List Blk→Bool)(on:Nat)(oc:List Value)(ob:Bool)(s:ByteArray)(n b:Nat)(c:List Value)(se:List Nat):pickQ P E (ctLv NC NO NV KC KO KV OC (mkFz 3 on 0 oc) ob) 50 32 Bli Hli (liV s n b c) (liB act0 (.map kkForms 12) (.miter (some 1) 12 (5::se) 12)) (.int .i64 6) (formV ⟨#[100,101,108,105,118,101,114]⟩ ⟨#[97]⟩)=treeA NC NO NV KC KO KV OC on oc ob s n b c se (ByteArray.mk #[100,101,108,105,118,101,114]) (6:Int) (5::se):=by kernel_rfl
theorem dec_li7(NC NO:ByteArray→Int→Bool)(NV:ByteArray→Int)(KC KO:ByteArray→Bool)(KV:ByteArray→ByteArray)(OC:List Value→List Blk→Bool)(on:Nat)(oc:List Value)(ob:Bool)(s:ByteArray)(n b:Nat)(c:List Value)(se:List Nat):pickQ P E (ctLv NC NO NV KC KO KV OC (mkFz 3 on 0 oc) ob) 50 32 Bli Hli (liV s n b c) (liB act0 (.map kkForms 12) (.miter (some 1) 12 (6::se) 12)) (.int .i64 7) (formV ⟨#[116,119,105,99,101]⟩ ⟨#[97]⟩)=treeA NC NO NV KC KO KV OC on oc ob s n b c se (ByteArray.mk #[116,119,105,99,101]) 7 (6::se):=by kernel_rfl
theorem dec_li8(NC NO:ByteArray→Int→Bool)(NV:ByteArray→Int)(KC KO:ByteArray→Bool)(KV:ByteArray→ByteArray)(OC:List Value→List Blk→Bool)(on:Nat)(oc:List Value)(ob:Bool)(s:ByteArray)(n b:Nat)(c:List Value)(se:List Nat):pickQ P E (ctLv NC NO NV KC KO KV OC (mkFz 3 on 0 oc) ob) 50 32 Bli Hli (liV s n b c) (liB act0 (.map kkForms 12) (.miter (some 1) 12 (7::se) 12)) (.int .i64 8) (formV ⟨#[100,114,111,112]⟩ ⟨#[97]⟩)=treeA NC NO NV KC KO KV OC on oc ob s n b c se (ByteArray.mk #[100,114,111,112]) 8 (7::se):=by kernel_rfl
theorem dec_li9(NC NO:ByteArray→Int→Bool)(NV:ByteArray→Int)(KC KO:ByteArray→Bool)(KV:ByteArray→ByteArray)(OC:List Value→List Blk→Bool)(on:Nat)(oc:List Value)(ob:Bool)(s:ByteArray)(n b:Nat)(c:List Value)(se:List Nat):pickQ P E (ctLv NC NO NV KC KO KV OC (mkFz 3 on 0 oc) ob) 50 32 Bli Hli (liV s n b c) (liB act0 (.map kkForms 12) (.miter (some 1) 12 (8::se) 12)) (.int .i64 9) (formV ⟨#[102,117,115,101]⟩ ⟨#[110,97]⟩) =
 (needB (Bool.and (Nat.beq 1 1) (inI (0:Int) n))
 (needB (Bool.and (Nat.ble 1 (List.length c)) (etaB Eta.string (nthD c 0)))
 (iteB (eqS (ByteArray.mk #[102,117,115,101]) (asS (nthD c 0)))
 (needB (Bool.and (Nat.beq 1 1) (cutI (1:Int) (lenI n) n))
 (iteB (notB (ltI (0:Int) (lenI (lapN (1:Int) (lenI n)))))
 (some ((Value.tuple (Array.mk [(Value.int IntKind.i64 (0:Int)),(Value.string s),(Value.pointer (Option.some (Addr.mk 0 0 none))),(Value.bool Bool.false),(Value.int IntKind.i64 (0:Int)),(Value.iface 18446744073709551617 (Value.agg (Array.mk ((Value.slice none n b)::c)))),(Value.pointer (Option.some (Addr.mk 2 0 none)))])),(mkSt [(Blk.cells [(Value.int IntKind.i64 (0:Int)),(Value.int IntKind.i64 (0:Int)),(Value.int IntKind.i64 (0:Int)),(Value.int IntKind.i64 (0:Int)),(Value.string (ByteArray.mk #[])),(Value.slice none 0 0)] 53 Bool.true),(Blk.map kkForms 12),(Blk.miter (Option.some 1) 12 (8::se) 12)])))
 (needB (Bool.and (Nat.beq 1 1) (inI (0:Int) (lapN (1:Int) (lenI n))))
 (needB (Bool.and (Nat.ble 1 (List.length (takeC (Nat.mul (lapN (1:Int) (lenI n)) 1) (dropC 1 c)))) (etaB Eta.string (nthD (takeC (Nat.mul (lapN (1:Int) (lenI n)) 1) (dropC 1 c)) 0)))
 (needB (NC (asS (nthD (takeC (Nat.mul (lapN (1:Int) (lenI n)) 1) (dropC 1 c)) 0)) (1:Int))
 (iteB (NO (asS (nthD (takeC (Nat.mul (lapN (1:Int) (lenI n)) 1) (dropC 1 c)) 0)) (1:Int))
 (iteB (notB (ltI (1:Int) (lenI (lapN (1:Int) (lenI n)))))
 (some ((Value.tuple (Array.mk [(Value.int IntKind.i64 (0:Int)),(Value.string s),(Value.pointer (Option.some (Addr.mk 0 0 none))),(Value.bool Bool.false),(Value.int IntKind.i64 (0:Int)),(Value.iface 18446744073709551617 (Value.agg (Array.mk ((Value.slice none n b)::c)))),(Value.pointer (Option.some (Addr.mk 2 0 none)))])),(mkSt [(Blk.cells [(Value.int IntKind.i64 (0:Int)),(Value.int IntKind.i64 (0:Int)),(Value.int IntKind.i64 (0:Int)),(Value.int IntKind.i64 (0:Int)),(Value.string (ByteArray.mk #[])),(Value.slice none 0 0)] 53 Bool.true),(Blk.map kkForms 12),(Blk.miter (Option.some 1) 12 (8::se) 12)])))
 (needB (Bool.and (Nat.beq 1 1) (inI (1:Int) (lapN (1:Int) (lenI n))))
 (needB (Bool.and (Nat.ble 2 (List.length (takeC (Nat.mul (lapN (1:Int) (lenI n)) 1) (dropC 1 c)))) (etaB Eta.string (nthD (takeC (Nat.mul (lapN (1:Int) (lenI n)) 1) (dropC 1 c)) 1)))
 (needB (NC (asS (nthD (takeC (Nat.mul (lapN (1:Int) (lenI n)) 1) (dropC 1 c)) 1)) (999999999:Int))
 (iteB (NO (asS (nthD (takeC (Nat.mul (lapN (1:Int) (lenI n)) 1) (dropC 1 c)) 1)) (999999999:Int))
 (iteB (eqI (lenI (lapN (1:Int) (lenI n))) (2:Int))
 (some ((Value.tuple (Array.mk [(Value.int IntKind.i64 (-1:Int)),(Value.string s),(Value.pointer (Option.some (Addr.mk 0 0 none))),(Value.bool Bool.true),(Value.int IntKind.i64 (0:Int)),(Value.iface 18446744073709551617 (Value.agg (Array.mk ((Value.slice none n b)::c)))),(Value.pointer (Option.some (Addr.mk 2 0 none)))])),(mkSt [(Blk.cells [(Value.int IntKind.i64 (9:Int)),(Value.int IntKind.i64 (NV (asS (nthD (takeC (Nat.mul (lapN (1:Int) (lenI n)) 1) (dropC 1 c)) 0)))),(Value.int IntKind.i64 (NV (asS (nthD (takeC (Nat.mul (lapN (1:Int) (lenI n)) 1) (dropC 1 c)) 1)))),(Value.int IntKind.i64 (0:Int)),(Value.string (ByteArray.mk #[])),(Value.slice none 0 0)] 53 Bool.true),(Blk.map kkForms 12),(Blk.miter (Option.some 1) 12 (8::se) 12)])))
 (some ((Value.tuple (Array.mk [(Value.int IntKind.i64 (0:Int)),(Value.string s),(Value.pointer (Option.some (Addr.mk 0 0 none))),(Value.bool Bool.false),(Value.int IntKind.i64 (0:Int)),(Value.iface 18446744073709551617 (Value.agg (Array.mk ((Value.slice none n b)::c)))),(Value.pointer (Option.some (Addr.mk 2 0 none)))])),(mkSt [(Blk.cells [(Value.int IntKind.i64 (0:Int)),(Value.int IntKind.i64 (0:Int)),(Value.int IntKind.i64 (0:Int)),(Value.int IntKind.i64 (0:Int)),(Value.string (ByteArray.mk #[])),(Value.slice none 0 0)] 53 Bool.true),(Blk.map kkForms 12),(Blk.miter (Option.some 1) 12 (8::se) 12)]))))
 (some ((Value.tuple (Array.mk [(Value.int IntKind.i64 (0:Int)),(Value.string s),(Value.pointer (Option.some (Addr.mk 0 0 none))),(Value.bool Bool.false),(Value.int IntKind.i64 (0:Int)),(Value.iface 18446744073709551617 (Value.agg (Array.mk ((Value.slice none n b)::c)))),(Value.pointer (Option.some (Addr.mk 2 0 none)))])),(mkSt [(Blk.cells [(Value.int IntKind.i64 (0:Int)),(Value.int IntKind.i64 (0:Int)),(Value.int IntKind.i64 (0:Int)),(Value.int IntKind.i64 (0:Int)),(Value.string (ByteArray.mk #[])),(Value.slice none 0 0)] 53 Bool.true),(Blk.map kkForms 12),(Blk.miter (Option.some 1) 12 (8::se) 12)]))))))))
 (some ((Value.tuple (Array.mk [(Value.int IntKind.i64 (0:Int)),(Value.string s),(Value.pointer (Option.some (Addr.mk 0 0 none))),(Value.bool Bool.false),(Value.int IntKind.i64 (0:Int)),(Value.iface 18446744073709551617 (Value.agg (Array.mk ((Value.slice none n b)::c)))),(Value.pointer (Option.some (Addr.mk 2 0 none)))])),(mkSt [(Blk.cells [(Value.int IntKind.i64 (0:Int)),(Value.int IntKind.i64 (0:Int)),(Value.int IntKind.i64 (0:Int)),(Value.int IntKind.i64 (0:Int)),(Value.string (ByteArray.mk #[])),(Value.slice none 0 0)] 53 Bool.true),(Blk.map kkForms 12),(Blk.miter (Option.some 1) 12 (8::se) 12)])))))))))
 (some ((Value.tuple (Array.mk [(Value.int IntKind.i64 (0:Int)),(Value.string s),(Value.pointer (Option.some (Addr.mk 0 0 none))),(Value.bool Bool.false),(Value.int IntKind.i64 (0:Int)),(Value.iface 18446744073709551617 (Value.agg (Array.mk ((Value.slice none n b)::c)))),(Value.pointer (Option.some (Addr.mk 2 0 none)))])),(mkSt [(Blk.cells [(Value.int IntKind.i64 (0:Int)),(Value.int IntKind.i64 (0:Int)),(Value.int IntKind.i64 (0:Int)),(Value.int IntKind.i64 (0:Int)),(Value.string (ByteArray.mk #[])),(Value.slice none 0 0)] 53 Bool.true),(Blk.map kkForms 12),(Blk.miter (Option.some 1) 12 (8::se) 12)])))))):=by kernel_rfl
theorem dec_li10(NC NO:ByteArray→Int→Bool)(NV:ByteArray→Int)(KC KO:ByteArray→Bool)(KV:ByteArray→ByteArray)(OC:List Value→List Blk→Bool)(on:Nat)(oc:List Value)(ob:Bool)(s:ByteArray)(n b:Nat)(c:List Value)(se:List Nat):pickQ P E (ctLv NC NO NV KC KO KV OC (mkFz 3 on 0 oc) ob) 50 32 Bli Hli (liV s n b c) (liB act0 (.map kkForms 12) (.miter (some 1) 12 (9::se) 12)) (.int .i64 10) (formV ⟨#[112,117,108,108]⟩ ⟨#[110]⟩)=treeN NC NO NV KC KO KV OC on oc ob s n b c se (ByteArray.mk #[112,117,108,108]) 10 (9::se):=by kernel_rfl
theorem dec_li11(NC NO:ByteArray→Int→Bool)(NV:ByteArray→Int)(KC KO:ByteArray→Bool)(KV:ByteArray→ByteArray)(OC:List Value→List Blk→Bool)(on:Nat)(oc:List Value)(ob:Bool)(s:ByteArray)(n b:Nat)(c:List Value)(se:List Nat):pickQ P E (ctLv NC NO NV KC KO KV OC (mkFz 3 on 0 oc) ob) 50 32 Bli Hli (liV s n b c) (liB act0 (.map kkForms 12) (.miter (some 1) 12 (10::se) 12)) (.int .i64 11) (formV ⟨#[115,116,97,114,116]⟩ ⟨#[110,97,116]⟩) =
 (needB (Bool.and (Nat.beq 1 1) (inI (0:Int) n))
 (needB (Bool.and (Nat.ble 1 (List.length c)) (etaB Eta.string (nthD c 0)))
 (iteB (eqS (ByteArray.mk #[115,116,97,114,116]) (asS (nthD c 0)))
 (needB (Bool.and (Nat.beq 1 1) (cutI (1:Int) (lenI n) n))
 (iteB (notB (ltI (0:Int) (lenI (lapN (1:Int) (lenI n)))))
 (some ((Value.tuple (Array.mk [(Value.int IntKind.i64 (0:Int)),(Value.string s),(Value.pointer (Option.some (Addr.mk 0 0 none))),(Value.bool Bool.false),(Value.int IntKind.i64 (0:Int)),(Value.iface 18446744073709551617 (Value.agg (Array.mk ((Value.slice none n b)::c)))),(Value.pointer (Option.some (Addr.mk 2 0 none)))])),(mkSt [(Blk.cells [(Value.int IntKind.i64 (0:Int)),(Value.int IntKind.i64 (0:Int)),(Value.int IntKind.i64 (0:Int)),(Value.int IntKind.i64 (0:Int)),(Value.string (ByteArray.mk #[])),(Value.slice none 0 0)] 53 Bool.true),(Blk.map kkForms 12),(Blk.miter (Option.some 1) 12 (10::se) 12)])))
 (needB (Bool.and (Nat.beq 1 1) (inI (0:Int) (lapN (1:Int) (lenI n))))
 (needB (Bool.and (Nat.ble 1 (List.length (takeC (Nat.mul (lapN (1:Int) (lenI n)) 1) (dropC 1 c)))) (etaB Eta.string (nthD (takeC (Nat.mul (lapN (1:Int) (lenI n)) 1) (dropC 1 c)) 0)))
 (needB (NC (asS (nthD (takeC (Nat.mul (lapN (1:Int) (lenI n)) 1) (dropC 1 c)) 0)) (1:Int))
 (iteB (NO (asS (nthD (takeC (Nat.mul (lapN (1:Int) (lenI n)) 1) (dropC 1 c)) 0)) (1:Int))
 (iteB (notB (ltI (1:Int) (lenI (lapN (1:Int) (lenI n)))))
 (some ((Value.tuple (Array.mk [(Value.int IntKind.i64 (0:Int)),(Value.string s),(Value.pointer (Option.some (Addr.mk 0 0 none))),(Value.bool Bool.false),(Value.int IntKind.i64 (0:Int)),(Value.iface 18446744073709551617 (Value.agg (Array.mk ((Value.slice none n b)::c)))),(Value.pointer (Option.some (Addr.mk 2 0 none)))])),(mkSt [(Blk.cells [(Value.int IntKind.i64 (0:Int)),(Value.int IntKind.i64 (0:Int)),(Value.int IntKind.i64 (0:Int)),(Value.int IntKind.i64 (0:Int)),(Value.string (ByteArray.mk #[])),(Value.slice none 0 0)] 53 Bool.true),(Blk.map kkForms 12),(Blk.miter (Option.some 1) 12 (10::se) 12)])))
 (needB (Bool.and (Nat.beq 1 1) (inI (1:Int) (lapN (1:Int) (lenI n))))
 (needB (Bool.and (Nat.ble 2 (List.length (takeC (Nat.mul (lapN (1:Int) (lenI n)) 1) (dropC 1 c)))) (etaB Eta.string (nthD (takeC (Nat.mul (lapN (1:Int) (lenI n)) 1) (dropC 1 c)) 1)))
 (needB (NC (asS (nthD (takeC (Nat.mul (lapN (1:Int) (lenI n)) 1) (dropC 1 c)) 1)) (999999999:Int))
 (iteB (NO (asS (nthD (takeC (Nat.mul (lapN (1:Int) (lenI n)) 1) (dropC 1 c)) 1)) (999999999:Int))
 (iteB (notB (ltI (2:Int) (lenI (lapN (1:Int) (lenI n)))))
 (some ((Value.tuple (Array.mk [(Value.int IntKind.i64 (0:Int)),(Value.string s),(Value.pointer (Option.some (Addr.mk 0 0 none))),(Value.bool Bool.false),(Value.int IntKind.i64 (0:Int)),(Value.iface 18446744073709551617 (Value.agg (Array.mk ((Value.slice none n b)::c)))),(Value.pointer (Option.some (Addr.mk 2 0 none)))])),(mkSt [(Blk.cells [(Value.int IntKind.i64 (0:Int)),(Value.int IntKind.i64 (0:Int)),(Value.int IntKind.i64 (0:Int)),(Value.int IntKind.i64 (0:Int)),(Value.string (ByteArray.mk #[])),(Value.slice none 0 0)] 53 Bool.true),(Blk.map kkForms 12),(Blk.miter (Option.some 1) 12 (10::se) 12)])))
 (needB (Bool.and (Nat.beq 1 1) (inI (2:Int) (lapN (1:Int) (lenI n))))
 (needB (Bool.and (Nat.ble 3 (List.length (takeC (Nat.mul (lapN (1:Int) (lenI n)) 1) (dropC 1 c)))) (etaB Eta.string (nthD (takeC (Nat.mul (lapN (1:Int) (lenI n)) 1) (dropC 1 c)) 2)))
 (needB (NC (asS (nthD (takeC (Nat.mul (lapN (1:Int) (lenI n)) 1) (dropC 1 c)) 2)) (999999999:Int))
 (iteB (NO (asS (nthD (takeC (Nat.mul (lapN (1:Int) (lenI n)) 1) (dropC 1 c)) 2)) (999999999:Int))
 (iteB (eqI (lenI (lapN (1:Int) (lenI n))) (3:Int))
 (some ((Value.tuple (Array.mk [(Value.int IntKind.i64 (-1:Int)),(Value.string s),(Value.pointer (Option.some (Addr.mk 0 0 none))),(Value.bool Bool.true),(Value.int IntKind.i64 (0:Int)),(Value.iface 18446744073709551617 (Value.agg (Array.mk ((Value.slice none n b)::c)))),(Value.pointer (Option.some (Addr.mk 2 0 none)))])),(mkSt [(Blk.cells [(Value.int IntKind.i64 (11:Int)),(Value.int IntKind.i64 (NV (asS (nthD (takeC (Nat.mul (lapN (1:Int) (lenI n)) 1) (dropC 1 c)) 0)))),(Value.int IntKind.i64 (NV (asS (nthD (takeC (Nat.mul (lapN (1:Int) (lenI n)) 1) (dropC 1 c)) 1)))),(Value.int IntKind.i64 (NV (asS (nthD (takeC (Nat.mul (lapN (1:Int) (lenI n)) 1) (dropC 1 c)) 2)))),(Value.string (ByteArray.mk #[])),(Value.slice none 0 0)] 53 Bool.true),(Blk.map kkForms 12),(Blk.miter (Option.some 1) 12 (10::se) 12)])))
 (some ((Value.tuple (Array.mk [(Value.int IntKind.i64 (0:Int)),(Value.string s),(Value.pointer (Option.some (Addr.mk 0 0 none))),(Value.bool Bool.false),(Value.int IntKind.i64 (0:Int)),(Value.iface 18446744073709551617 (Value.agg (Array.mk ((Value.slice none n b)::c)))),(Value.pointer (Option.some (Addr.mk 2 0 none)))])),(mkSt [(Blk.cells [(Value.int IntKind.i64 (0:Int)),(Value.int IntKind.i64 (0:Int)),(Value.int IntKind.i64 (0:Int)),(Value.int IntKind.i64 (0:Int)),(Value.string (ByteArray.mk #[])),(Value.slice none 0 0)] 53 Bool.true),(Blk.map kkForms 12),(Blk.miter (Option.some 1) 12 (10::se) 12)]))))
 (some ((Value.tuple (Array.mk [(Value.int IntKind.i64 (0:Int)),(Value.string s),(Value.pointer (Option.some (Addr.mk 0 0 none))),(Value.bool Bool.false),(Value.int IntKind.i64 (0:Int)),(Value.iface 18446744073709551617 (Value.agg (Array.mk ((Value.slice none n b)::c)))),(Value.pointer (Option.some (Addr.mk 2 0 none)))])),(mkSt [(Blk.cells [(Value.int IntKind.i64 (0:Int)),(Value.int IntKind.i64 (0:Int)),(Value.int IntKind.i64 (0:Int)),(Value.int IntKind.i64 (0:Int)),(Value.string (ByteArray.mk #[])),(Value.slice none 0 0)] 53 Bool.true),(Blk.map kkForms 12),(Blk.miter (Option.some 1) 12 (10::se) 12)]))))))))
 (some ((Value.tuple (Array.mk [(Value.int IntKind.i64 (0:Int)),(Value.string s),(Value.pointer (Option.some (Addr.mk 0 0 none))),(Value.bool Bool.false),(Value.int IntKind.i64 (0:Int)),(Value.iface 18446744073709551617 (Value.agg (Array.mk ((Value.slice none n b)::c)))),(Value.pointer (Option.some (Addr.mk 2 0 none)))])),(mkSt [(Blk.cells [(Value.int IntKind.i64 (0:Int)),(Value.int IntKind.i64 (0:Int)),(Value.int IntKind.i64 (0:Int)),(Value.int IntKind.i64 (0:Int)),(Value.string (ByteArray.mk #[])),(Value.slice none 0 0)] 53 Bool.true),(Blk.map kkForms 12),(Blk.miter (Option.some 1) 12 (10::se) 12)]))))))))
 (some ((Value.tuple (Array.mk [(Value.int IntKind.i64 (0:Int)),(Value.string s),(Value.pointer (Option.some (Addr.mk 0 0 none))),(Value.bool Bool.false),(Value.int IntKind.i64 (0:Int)),(Value.iface 18446744073709551617 (Value.agg (Array.mk ((Value.slice none n b)::c)))),(Value.pointer (Option.some (Addr.mk 2 0 none)))])),(mkSt [(Blk.cells [(Value.int IntKind.i64 (0:Int)),(Value.int IntKind.i64 (0:Int)),(Value.int IntKind.i64 (0:Int)),(Value.int IntKind.i64 (0:Int)),(Value.string (ByteArray.mk #[])),(Value.slice none 0 0)] 53 Bool.true),(Blk.map kkForms 12),(Blk.miter (Option.some 1) 12 (10::se) 12)])))))))))
 (some ((Value.tuple (Array.mk [(Value.int IntKind.i64 (0:Int)),(Value.string s),(Value.pointer (Option.some (Addr.mk 0 0 none))),(Value.bool Bool.false),(Value.int IntKind.i64 (0:Int)),(Value.iface 18446744073709551617 (Value.agg (Array.mk ((Value.slice none n b)::c)))),(Value.pointer (Option.some (Addr.mk 2 0 none)))])),(mkSt [(Blk.cells [(Value.int IntKind.i64 (0:Int)),(Value.int IntKind.i64 (0:Int)),(Value.int IntKind.i64 (0:Int)),(Value.int IntKind.i64 (0:Int)),(Value.string (ByteArray.mk #[])),(Value.slice none 0 0)] 53 Bool.true),(Blk.map kkForms 12),(Blk.miter (Option.some 1) 12 (10::se) 12)])))))):=by kernel_rfl
theorem dec_li12(NC NO:ByteArray→Int→Bool)(NV:ByteArray→Int)(KC KO:ByteArray→Bool)(KV:ByteArray→ByteArray)(OC:List Value→List Blk→Bool)(on:Nat)(oc:List Value)(ob:Bool)(s:ByteArray)(n b:Nat)(c:List Value)(se:List Nat):pickQ P E (ctLv NC NO NV KC KO KV OC (mkFz 3 on 0 oc) ob) 50 32 Bli Hli (liV s n b c) (liB act0 (.map kkForms 12) (.miter (some 1) 12 (11::se) 12)) (.int .i64 12) (formV ⟨#[114,111,117,110,100]⟩ ⟨#[]⟩) =
 (needB (Bool.and (Nat.beq 1 1) (inI (0:Int) n))
 (needB (Bool.and (Nat.ble 1 (List.length c)) (etaB Eta.string (nthD c 0)))
 (iteB (eqS (ByteArray.mk #[114,111,117,110,100]) (asS (nthD c 0)))
 (needB (Bool.and (Nat.beq 1 1) (cutI (1:Int) (lenI n) n))
 (iteB (eqI (lenI (lapN (1:Int) (lenI n))) (0:Int))
 (some ((Value.tuple (Array.mk [(Value.int IntKind.i64 (-1:Int)),(Value.string s),(Value.pointer (Option.some (Addr.mk 0 0 none))),(Value.bool Bool.true),(Value.int IntKind.i64 (0:Int)),(Value.iface 18446744073709551617 (Value.agg (Array.mk ((Value.slice none n b)::c)))),(Value.pointer (Option.some (Addr.mk 2 0 none)))])),(mkSt [(Blk.cells [(Value.int IntKind.i64 (12:Int)),(Value.int IntKind.i64 (0:Int)),(Value.int IntKind.i64 (0:Int)),(Value.int IntKind.i64 (0:Int)),(Value.string (ByteArray.mk #[])),(Value.slice none 0 0)] 53 Bool.true),(Blk.map kkForms 12),(Blk.miter (Option.some 1) 12 (11::se) 12)])))
 (some ((Value.tuple (Array.mk [(Value.int IntKind.i64 (0:Int)),(Value.string s),(Value.pointer (Option.some (Addr.mk 0 0 none))),(Value.bool Bool.false),(Value.int IntKind.i64 (0:Int)),(Value.iface 18446744073709551617 (Value.agg (Array.mk ((Value.slice none n b)::c)))),(Value.pointer (Option.some (Addr.mk 2 0 none)))])),(mkSt [(Blk.cells [(Value.int IntKind.i64 (0:Int)),(Value.int IntKind.i64 (0:Int)),(Value.int IntKind.i64 (0:Int)),(Value.int IntKind.i64 (0:Int)),(Value.string (ByteArray.mk #[])),(Value.slice none 0 0)] 53 Bool.true),(Blk.map kkForms 12),(Blk.miter (Option.some 1) 12 (11::se) 12)])))))
 (some ((Value.tuple (Array.mk [(Value.int IntKind.i64 (0:Int)),(Value.string s),(Value.pointer (Option.some (Addr.mk 0 0 none))),(Value.bool Bool.false),(Value.int IntKind.i64 (0:Int)),(Value.iface 18446744073709551617 (Value.agg (Array.mk ((Value.slice none n b)::c)))),(Value.pointer (Option.some (Addr.mk 2 0 none)))])),(mkSt [(Blk.cells [(Value.int IntKind.i64 (0:Int)),(Value.int IntKind.i64 (0:Int)),(Value.int IntKind.i64 (0:Int)),(Value.int IntKind.i64 (0:Int)),(Value.string (ByteArray.mk #[])),(Value.slice none 0 0)] 53 Bool.true),(Blk.map kkForms 12),(Blk.miter (Option.some 1) 12 (11::se) 12)])))))):=by kernel_rfl
theorem dec_li0(s:ByteArray)(n b:Nat)(c:List Value)(se:List Nat):overQ P E ctF 50 32 Bli Hli (liV s n b c) (liB act0 (.map kkForms 12) (.miter (some 1) 12 se 12)) =
 (some ((Value.tuple (Array.mk [(Value.int IntKind.i64 (1:Int)),(Value.string s),(Value.pointer (Option.some (Addr.mk 0 0 none))),(Value.bool Bool.false),(Value.int IntKind.i64 (0:Int)),(Value.iface 18446744073709551617 (Value.agg (Array.mk ((Value.slice none n b)::c)))),(Value.pointer (Option.some (Addr.mk 2 0 none)))])),(mkSt [(Blk.cells [(Value.int IntKind.i64 (0:Int)),(Value.int IntKind.i64 (0:Int)),(Value.int IntKind.i64 (0:Int)),(Value.int IntKind.i64 (0:Int)),(Value.string (ByteArray.mk #[])),(Value.slice none 0 0)] 53 Bool.true),(Blk.map kkForms 12),(Blk.miter (Option.some 1) 12 se 12)]))):=by kernel_rfl
end Go.VS.Tryz
end

section
namespace Go.VS.Tryz
set_option maxRecDepth 1000000
open Go.VS
structure ActM where
 kind:Int
 node:Int
 n:Int
 t:Int
 key:ByteArray
 ops:List OpM
def actC(a:ActM)(o:Value):List Value:=[.int .i64 a.kind, .int .i64 a.node, .int .i64 a.n, .int .i64 a.t, .string a.key,o]
def nilS:Value:= .slice none 0 0
noncomputable def liR(ex:Ex)(s:ByteArray)(ws:List ByteArray)(a:List Value)(th:Bool)(se:List Nat):Res:=
 some (.tuple ⟨exV ex::[.string s, .pointer (some ⟨0,0,none⟩), .bool th, .int .i64 0,fzS ws, .pointer (some ⟨2,0,none⟩)]⟩,mkSt (liB a (.map kkForms 12) (.miter (some 1) 12 se 12)))
noncomputable def again(s:ByteArray)(ws:List ByteArray)(se:List Nat):Res:=liR .normal s ws act0 false se
noncomputable def found(s:ByteArray)(ws:List ByteArray)(se:List Nat)(a:ActM)(o:Value):Res:=liR .ret s ws (actC a o) true se
theorem numC_of{a:ByteArray}{m:Int}(h:a.size≤4194304)(hm:m≤1000000000):numC a m=true:=by
 unfold numC leI
 rw[szS_of h,decide_eq_true hm]; rfl
section
variable{w0:ByteArray}{r:List ByteArray}
theorem l_in:inI 0 (w0::r).length=true:=inI_ok (i:=0) (by simp)
theorem l_cl(l:List ByteArray):(l.map Value.string).length=l.length:=List.length_map ..
theorem l_b1:Nat.ble 1 (w0::r).length=true:=Nat.ble_eq_true_of_le (by simp)
theorem l_n0:nthD ((w0::r).map Value.string) 0 = .string w0:=rfl
theorem l_aS(b:ByteArray):asS (.string b)=b:=rfl
theorem l_eS(b:ByteArray):etaB .string (.string b)=true:=rfl
theorem l_cut:cutI 1 (lenI (w0::r).length) (w0::r).length=true:=cutI_ok (by omega) (by unfold lenI; simp only[List.length_cons]; omega) (by unfold lenI; omega)
theorem l_lap:lapN 1 (lenI (w0::r).length)=r.length:=by simp only[lapN,lenI,List.length_cons]; omega
theorem l_tl:takeC r.length (dropC 1 ((w0::r).map Value.string))=r.map Value.string:=cutStr_all (by simp)
theorem l_bb(n:Nat):Nat.beq n n=true:=Nat.beq_refl n
end
theorem len_lt{i:Nat}{l:List ByteArray}(h:i<l.length):ltI (i:Int) (lenI l.length)=true:=by unfold ltI lenI; exact decide_eq_true (by omega)
theorem len_ne{k:Nat}{l:List ByteArray}(h:l.length≠k):eqI (lenI l.length) (k:Int)=false:=by unfold eqI lenI; exact decide_eq_false (by omega)
theorem len_ble{k:Nat}{l:List ByteArray}(h:k≤l.length):Nat.ble k l.length=true:=Nat.ble_eq_true_of_le h
def SzW(ws:List ByteArray):Prop:=∀ w∈ws,w.size≤4194304
theorem l_not:notB true=false:=rfl
noncomputable def resA(s:ByteArray)(ws:List ByteArray)(se:List Nat):Option (ActM×Value)→Res
 |some p=>found s ws se p.1 p.2
 |none=>again s ws se
def formN(W:ByteArray)(kd:Int)(w0:ByteArray)(r:List ByteArray):Option (ActM×Value):=match eqS W w0,r with
   |true,[a]=>(match numOk a 1 with
    |true=>some (⟨kd,atoV a,0,0,⟨#[]⟩,[]⟩,nilS)
    |_=>none)
   |_,_=>none
def formA(W:ByteArray)(kd:Int)(w0:ByteArray)(r:List ByteArray):Option (ActM×Value):=match eqS W w0,r with
   |true,[a]=>(match numOk a 999999999 with
    |true=>some (⟨kd,0,atoV a,0,⟨#[]⟩,[]⟩,nilS)
    |_=>none)
   |_,_=>none
def formNK(W:ByteArray)(kd:Int)(w0:ByteArray)(r:List ByteArray):Option (ActM×Value):=match eqS W w0,r with
   |true,[a,b]=>(match numOk a 1,keyO b with
    |true,true=>some (⟨kd,atoV a,0,0,byS b,[]⟩,nilS)
    |_,_=>none)
   |_,_=>none
def formNA(W:ByteArray)(kd:Int)(w0:ByteArray)(r:List ByteArray):Option (ActM×Value):=match eqS W w0,r with
   |true,[a,b]=>(match numOk a 1,numOk b 999999999 with
    |true,true=>some (⟨kd,atoV a,atoV b,0,⟨#[]⟩,[]⟩,nilS)
    |_,_=>none)
   |_,_=>none
def formNAT(W:ByteArray)(kd:Int)(w0:ByteArray)(r:List ByteArray):Option (ActM×Value):=match eqS W w0,r with
   |true,[a,b,c]=>(match numOk a 1,numOk b 999999999,numOk c 999999999 with
    |true,true,true=>some (⟨kd,atoV a,atoV b,atoV c,⟨#[]⟩,[]⟩,nilS)
    |_,_,_=>none)
   |_,_=>none
def form0(W:ByteArray)(kd:Int)(w0:ByteArray)(r:List ByteArray):Option (ActM×Value):=match eqS W w0,r with
   |true,[]=>some (⟨kd,0,0,0,⟨#[]⟩,[]⟩,nilS)
   |_,_=>none
theorem treeN_eq{OC:List Value→List Blk→Bool}{on:Nat}{oc:List Value}{ob:Bool}{s w0:ByteArray}{r:List ByteArray}{se:List Nat}(hs:SzW r){W:ByteArray}{kd:Int}{sq:List Nat}:treeN numC numOk atoV szS keyO byS OC on oc ob s (w0::r).length 0 ((w0::r).map Value.string) se W kd sq=resA s (w0::r) sq (formN W kd w0 r):=by
 unfold treeN
 unfold resA again found liR formN fzS mkFz
 rw[fzU]
 simp only[l_in,l_cl,l_b1,l_n0,l_aS,l_eS,l_cut,l_lap,mulOne,l_tl,l_bb,Bool.and_self,need_tt]
 cases eqS _ w0 with
 |false=>rfl
 |true=>
  match r,hs with
  |[],hs=>
   rfl
  |[a],hs=>
   have h0:=numC_of (m:=1) (hs a (by simp)) (by omega)
   have n0:nthD ([a].map Value.string) 0 = .string a:=rfl
   have i0:inI 0 [a].length=true:=inI_ok (i:=0) (by simp)
   have g0:ltI 0 (lenI [a].length)=true:=len_lt (i:=0) (by simp)
   have b0:Nat.ble 1 [a].length=true:=len_ble (by simp)
   simp only[l_aS,l_eS,l_not,h0,n0,i0,g0,b0,Bool.and_self,need_tt,ite_tt,ite_ff]
   cases numOk a 1<;>rfl
  |a::b::t,hs=>
   have h0:=numC_of (m:=1) (hs a (by simp)) (by omega)
   have n0:nthD ((a::b::t).map Value.string) 0 = .string a:=rfl
   have i0:inI 0 (a::b::t).length=true:=inI_ok (i:=0) (by simp)
   have g0:ltI 0 (lenI (a::b::t).length)=true:=len_lt (i:=0) (by simp)
   have b0:Nat.ble 1 (a::b::t).length=true:=len_ble (by simp)
   have e:eqI (lenI (a::b::t).length) 1=false:=len_ne (k:=1) (by simp)
   simp only[l_aS,l_eS,l_not,h0,n0,i0,g0,b0,e,Bool.and_self,need_tt,ite_tt,ite_ff]
   cases numOk a 1<;>rfl
theorem treeA_eq{OC:List Value→List Blk→Bool}{on:Nat}{oc:List Value}{ob:Bool}{s w0:ByteArray}{r:List ByteArray}{se:List Nat}(hs:SzW r){W:ByteArray}{kd:Int}{sq:List Nat}:treeA numC numOk atoV szS keyO byS OC on oc ob s (w0::r).length 0 ((w0::r).map Value.string) se W kd sq=resA s (w0::r) sq (formA W kd w0 r):=by
 unfold treeA
 unfold resA again found liR formA fzS mkFz
 rw[fzU]
 simp only[l_in,l_cl,l_b1,l_n0,l_aS,l_eS,l_cut,l_lap,mulOne,l_tl,l_bb,Bool.and_self,need_tt]
 cases eqS _ w0 with
 |false=>rfl
 |true=>
  match r,hs with
  |[],hs=>
   rfl
  |[a],hs=>
   have h0:=numC_of (m:=999999999) (hs a (by simp)) (by omega)
   have n0:nthD ([a].map Value.string) 0 = .string a:=rfl
   have i0:inI 0 [a].length=true:=inI_ok (i:=0) (by simp)
   have g0:ltI 0 (lenI [a].length)=true:=len_lt (i:=0) (by simp)
   have b0:Nat.ble 1 [a].length=true:=len_ble (by simp)
   simp only[l_aS,l_eS,l_not,h0,n0,i0,g0,b0,Bool.and_self,need_tt,ite_tt,ite_ff]
   cases numOk a 999999999<;>rfl
  |a::b::t,hs=>
   have h0:=numC_of (m:=999999999) (hs a (by simp)) (by omega)
   have n0:nthD ((a::b::t).map Value.string) 0 = .string a:=rfl
   have i0:inI 0 (a::b::t).length=true:=inI_ok (i:=0) (by simp)
   have g0:ltI 0 (lenI (a::b::t).length)=true:=len_lt (i:=0) (by simp)
   have b0:Nat.ble 1 (a::b::t).length=true:=len_ble (by simp)
   have e:eqI (lenI (a::b::t).length) 1=false:=len_ne (k:=1) (by simp)
   simp only[l_aS,l_eS,l_not,h0,n0,i0,g0,b0,e,Bool.and_self,need_tt,ite_tt,ite_ff]
   cases numOk a 999999999<;>rfl
theorem li_1{OC:List Value→List Blk→Bool}{on:Nat}{oc:List Value}{ob:Bool}{s w0:ByteArray}{r:List ByteArray}{se:List Nat}(hs:SzW r):pickQ P E (ctLv numC numOk atoV szS keyO byS OC (mkFz 3 on 0 oc) ob) 50 32 Bli Hli (liV s (w0::r).length 0 ((w0::r).map Value.string)) (liB act0 (.map kkForms 12) (.miter (some 1) 12 (1::se) 12)) (.int .i64 2) (formV ⟨#[114,101,97,100]⟩ ⟨#[110,107]⟩)=resA s (w0::r) (1::se) (formNK ⟨#[114,101,97,100]⟩ 2 w0 r):=by
 rw[dec_li2]
 unfold resA again found liR formNK fzS mkFz
 rw[fzU]
 simp only[l_in,l_cl,l_b1,l_n0,l_aS,l_eS,l_cut,l_lap,mulOne,l_tl,l_bb,Bool.and_self,need_tt]
 cases eqS _ w0 with
 |false=>rfl
 |true=>
  match r,hs with
  |[],hs=>
   rfl
  |[a],hs=>
   have h0:=numC_of (m:=1) (hs a (by simp)) (by omega)
   have n0:nthD ([a].map Value.string) 0 = .string a:=rfl
   have i0:inI 0 [a].length=true:=inI_ok (i:=0) (by simp)
   have g0:ltI 0 (lenI [a].length)=true:=len_lt (i:=0) (by simp)
   have b0:Nat.ble 1 [a].length=true:=len_ble (by simp)
   simp only[l_aS,l_eS,l_not,h0,n0,i0,g0,b0,Bool.and_self,need_tt,ite_tt,ite_ff]
   cases numOk a 1<;>rfl
  |[a,b],hs=>
   have h0:=numC_of (m:=1) (hs a (by simp)) (by omega)
   have n0:nthD ([a,b].map Value.string) 0 = .string a:=rfl
   have i0:inI 0 [a,b].length=true:=inI_ok (i:=0) (by simp)
   have g0:ltI 0 (lenI [a,b].length)=true:=len_lt (i:=0) (by simp)
   have b0:Nat.ble 1 [a,b].length=true:=len_ble (by simp)
   have h1:=szS_of (hs b (by simp))
   have n1:nthD ([a,b].map Value.string) 1 = .string b:=rfl
   have i1:inI 1 [a,b].length=true:=inI_ok (i:=1) (by simp)
   have g1:ltI 1 (lenI [a,b].length)=true:=len_lt (i:=1) (by simp)
   have b1:Nat.ble 2 [a,b].length=true:=len_ble (by simp)
   simp only[l_aS,l_eS,l_not,h0,n0,i0,g0,b0,h1,n1,i1,g1,b1,Bool.and_self,need_tt,ite_tt,ite_ff]
   cases numOk a 1<;>cases keyO b<;>rfl
  |a::b::c::t,hs=>
   have h0:=numC_of (m:=1) (hs a (by simp)) (by omega)
   have n0:nthD ((a::b::c::t).map Value.string) 0 = .string a:=rfl
   have i0:inI 0 (a::b::c::t).length=true:=inI_ok (i:=0) (by simp)
   have g0:ltI 0 (lenI (a::b::c::t).length)=true:=len_lt (i:=0) (by simp)
   have b0:Nat.ble 1 (a::b::c::t).length=true:=len_ble (by simp)
   have h1:=szS_of (hs b (by simp))
   have n1:nthD ((a::b::c::t).map Value.string) 1 = .string b:=rfl
   have i1:inI 1 (a::b::c::t).length=true:=inI_ok (i:=1) (by simp)
   have g1:ltI 1 (lenI (a::b::c::t).length)=true:=len_lt (i:=1) (by simp)
   have b1:Nat.ble 2 (a::b::c::t).length=true:=len_ble (by simp)
   have e:eqI (lenI (a::b::c::t).length) 2=false:=len_ne (k:=2) (by simp)
   simp only[l_aS,l_eS,l_not,h0,n0,i0,g0,b0,h1,n1,i1,g1,b1,e,Bool.and_self,need_tt,ite_tt,ite_ff]
   cases numOk a 1<;>cases keyO b<;>rfl
theorem li_2{OC:List Value→List Blk→Bool}{on:Nat}{oc:List Value}{ob:Bool}{s w0:ByteArray}{r:List ByteArray}{se:List Nat}(hs:SzW r):pickQ P E (ctLv numC numOk atoV szS keyO byS OC (mkFz 3 on 0 oc) ob) 50 32 Bli Hli (liV s (w0::r).length 0 ((w0::r).map Value.string)) (liB act0 (.map kkForms 12) (.miter (some 1) 12 (2::se) 12)) (.int .i64 3) (formV ⟨#[116,105,99,107]⟩ ⟨#[110]⟩)=resA s (w0::r) (2::se) (formN ⟨#[116,105,99,107]⟩ 3 w0 r):=by
 rw[dec_li3]
 exact treeN_eq hs
theorem li_3{OC:List Value→List Blk→Bool}{on:Nat}{oc:List Value}{ob:Bool}{s w0:ByteArray}{r:List ByteArray}{se:List Nat}(hs:SzW r):pickQ P E (ctLv numC numOk atoV szS keyO byS OC (mkFz 3 on 0 oc) ob) 50 32 Bli Hli (liV s (w0::r).length 0 ((w0::r).map Value.string)) (liB act0 (.map kkForms 12) (.miter (some 1) 12 (3::se) 12)) (.int .i64 4) (formV ⟨#[112,114,111,109,111,116,101]⟩ ⟨#[110]⟩)=resA s (w0::r) (3::se) (formN ⟨#[112,114,111,109,111,116,101]⟩ 4 w0 r):=by
 rw[dec_li4]
 exact treeN_eq hs
theorem li_4{OC:List Value→List Blk→Bool}{on:Nat}{oc:List Value}{ob:Bool}{s w0:ByteArray}{r:List ByteArray}{se:List Nat}(hs:SzW r):pickQ P E (ctLv numC numOk atoV szS keyO byS OC (mkFz 3 on 0 oc) ob) 50 32 Bli Hli (liV s (w0::r).length 0 ((w0::r).map Value.string)) (liB act0 (.map kkForms 12) (.miter (some 1) 12 (4::se) 12)) (.int .i64 5) (formV ⟨#[102,108,117,115,104]⟩ ⟨#[110]⟩)=resA s (w0::r) (4::se) (formN ⟨#[102,108,117,115,104]⟩ 5 w0 r):=by
 rw[dec_li5]
 exact treeN_eq hs
theorem li_5{OC:List Value→List Blk→Bool}{on:Nat}{oc:List Value}{ob:Bool}{s w0:ByteArray}{r:List ByteArray}{se:List Nat}(hs:SzW r):pickQ P E (ctLv numC numOk atoV szS keyO byS OC (mkFz 3 on 0 oc) ob) 50 32 Bli Hli (liV s (w0::r).length 0 ((w0::r).map Value.string)) (liB act0 (.map kkForms 12) (.miter (some 1) 12 (5::se) 12)) (.int .i64 6) (formV ⟨#[100,101,108,105,118,101,114]⟩ ⟨#[97]⟩)=resA s (w0::r) (5::se) (formA ⟨#[100,101,108,105,118,101,114]⟩ 6 w0 r):=by
 rw[dec_li6]
 exact treeA_eq hs
theorem li_6{OC:List Value→List Blk→Bool}{on:Nat}{oc:List Value}{ob:Bool}{s w0:ByteArray}{r:List ByteArray}{se:List Nat}(hs:SzW r):pickQ P E (ctLv numC numOk atoV szS keyO byS OC (mkFz 3 on 0 oc) ob) 50 32 Bli Hli (liV s (w0::r).length 0 ((w0::r).map Value.string)) (liB act0 (.map kkForms 12) (.miter (some 1) 12 (6::se) 12)) (.int .i64 7) (formV ⟨#[116,119,105,99,101]⟩ ⟨#[97]⟩)=resA s (w0::r) (6::se) (formA ⟨#[116,119,105,99,101]⟩ 7 w0 r):=by
 rw[dec_li7]
 exact treeA_eq hs
theorem li_7{OC:List Value→List Blk→Bool}{on:Nat}{oc:List Value}{ob:Bool}{s w0:ByteArray}{r:List ByteArray}{se:List Nat}(hs:SzW r):pickQ P E (ctLv numC numOk atoV szS keyO byS OC (mkFz 3 on 0 oc) ob) 50 32 Bli Hli (liV s (w0::r).length 0 ((w0::r).map Value.string)) (liB act0 (.map kkForms 12) (.miter (some 1) 12 (7::se) 12)) (.int .i64 8) (formV ⟨#[100,114,111,112]⟩ ⟨#[97]⟩)=resA s (w0::r) (7::se) (formA ⟨#[100,114,111,112]⟩ 8 w0 r):=by
 rw[dec_li8]
 exact treeA_eq hs
theorem li_8{OC:List Value→List Blk→Bool}{on:Nat}{oc:List Value}{ob:Bool}{s w0:ByteArray}{r:List ByteArray}{se:List Nat}(hs:SzW r):pickQ P E (ctLv numC numOk atoV szS keyO byS OC (mkFz 3 on 0 oc) ob) 50 32 Bli Hli (liV s (w0::r).length 0 ((w0::r).map Value.string)) (liB act0 (.map kkForms 12) (.miter (some 1) 12 (8::se) 12)) (.int .i64 9) (formV ⟨#[102,117,115,101]⟩ ⟨#[110,97]⟩)=resA s (w0::r) (8::se) (formNA ⟨#[102,117,115,101]⟩ 9 w0 r):=by
 rw[dec_li9]
 unfold resA again found liR formNA fzS mkFz
 rw[fzU]
 simp only[l_in,l_cl,l_b1,l_n0,l_aS,l_eS,l_cut,l_lap,mulOne,l_tl,l_bb,Bool.and_self,need_tt]
 cases eqS _ w0 with
 |false=>rfl
 |true=>
  match r,hs with
  |[],hs=>
   rfl
  |[a],hs=>
   have h0:=numC_of (m:=1) (hs a (by simp)) (by omega)
   have n0:nthD ([a].map Value.string) 0 = .string a:=rfl
   have i0:inI 0 [a].length=true:=inI_ok (i:=0) (by simp)
   have g0:ltI 0 (lenI [a].length)=true:=len_lt (i:=0) (by simp)
   have b0:Nat.ble 1 [a].length=true:=len_ble (by simp)
   simp only[l_aS,l_eS,l_not,h0,n0,i0,g0,b0,Bool.and_self,need_tt,ite_tt,ite_ff]
   cases numOk a 1<;>rfl
  |[a,b],hs=>
   have h0:=numC_of (m:=1) (hs a (by simp)) (by omega)
   have n0:nthD ([a,b].map Value.string) 0 = .string a:=rfl
   have i0:inI 0 [a,b].length=true:=inI_ok (i:=0) (by simp)
   have g0:ltI 0 (lenI [a,b].length)=true:=len_lt (i:=0) (by simp)
   have b0:Nat.ble 1 [a,b].length=true:=len_ble (by simp)
   have h1:=numC_of (m:=999999999) (hs b (by simp)) (by omega)
   have n1:nthD ([a,b].map Value.string) 1 = .string b:=rfl
   have i1:inI 1 [a,b].length=true:=inI_ok (i:=1) (by simp)
   have g1:ltI 1 (lenI [a,b].length)=true:=len_lt (i:=1) (by simp)
   have b1:Nat.ble 2 [a,b].length=true:=len_ble (by simp)
   simp only[l_aS,l_eS,l_not,h0,n0,i0,g0,b0,h1,n1,i1,g1,b1,Bool.and_self,need_tt,ite_tt,ite_ff]
   cases numOk a 1<;>cases numOk b 999999999<;>rfl
  |a::b::c::t,hs=>
   have h0:=numC_of (m:=1) (hs a (by simp)) (by omega)
   have n0:nthD ((a::b::c::t).map Value.string) 0 = .string a:=rfl
   have i0:inI 0 (a::b::c::t).length=true:=inI_ok (i:=0) (by simp)
   have g0:ltI 0 (lenI (a::b::c::t).length)=true:=len_lt (i:=0) (by simp)
   have b0:Nat.ble 1 (a::b::c::t).length=true:=len_ble (by simp)
   have h1:=numC_of (m:=999999999) (hs b (by simp)) (by omega)
   have n1:nthD ((a::b::c::t).map Value.string) 1 = .string b:=rfl
   have i1:inI 1 (a::b::c::t).length=true:=inI_ok (i:=1) (by simp)
   have g1:ltI 1 (lenI (a::b::c::t).length)=true:=len_lt (i:=1) (by simp)
   have b1:Nat.ble 2 (a::b::c::t).length=true:=len_ble (by simp)
   have e:eqI (lenI (a::b::c::t).length) 2=false:=len_ne (k:=2) (by simp)
   simp only[l_aS,l_eS,l_not,h0,n0,i0,g0,b0,h1,n1,i1,g1,b1,e,Bool.and_self,need_tt,ite_tt,ite_ff]
   cases numOk a 1<;>cases numOk b 999999999<;>rfl
theorem li_9{OC:List Value→List Blk→Bool}{on:Nat}{oc:List Value}{ob:Bool}{s w0:ByteArray}{r:List ByteArray}{se:List Nat}(hs:SzW r):pickQ P E (ctLv numC numOk atoV szS keyO byS OC (mkFz 3 on 0 oc) ob) 50 32 Bli Hli (liV s (w0::r).length 0 ((w0::r).map Value.string)) (liB act0 (.map kkForms 12) (.miter (some 1) 12 (9::se) 12)) (.int .i64 10) (formV ⟨#[112,117,108,108]⟩ ⟨#[110]⟩)=resA s (w0::r) (9::se) (formN ⟨#[112,117,108,108]⟩ 10 w0 r):=by
 rw[dec_li10]
 exact treeN_eq hs
theorem li_10{OC:List Value→List Blk→Bool}{on:Nat}{oc:List Value}{ob:Bool}{s w0:ByteArray}{r:List ByteArray}{se:List Nat}(hs:SzW r):pickQ P E (ctLv numC numOk atoV szS keyO byS OC (mkFz 3 on 0 oc) ob) 50 32 Bli Hli (liV s (w0::r).length 0 ((w0::r).map Value.string)) (liB act0 (.map kkForms 12) (.miter (some 1) 12 (10::se) 12)) (.int .i64 11) (formV ⟨#[115,116,97,114,116]⟩ ⟨#[110,97,116]⟩)=resA s (w0::r) (10::se) (formNAT ⟨#[115,116,97,114,116]⟩ 11 w0 r):=by
 rw[dec_li11]
 unfold resA again found liR formNAT fzS mkFz
 rw[fzU]
 simp only[l_in,l_cl,l_b1,l_n0,l_aS,l_eS,l_cut,l_lap,mulOne,l_tl,l_bb,Bool.and_self,need_tt]
 cases eqS _ w0 with
 |false=>rfl
 |true=>
  match r,hs with
  |[],hs=>
   rfl
  |[a],hs=>
   have h0:=numC_of (m:=1) (hs a (by simp)) (by omega)
   have n0:nthD ([a].map Value.string) 0 = .string a:=rfl
   have i0:inI 0 [a].length=true:=inI_ok (i:=0) (by simp)
   have g0:ltI 0 (lenI [a].length)=true:=len_lt (i:=0) (by simp)
   have b0:Nat.ble 1 [a].length=true:=len_ble (by simp)
   simp only[l_aS,l_eS,l_not,h0,n0,i0,g0,b0,Bool.and_self,need_tt,ite_tt,ite_ff]
   cases numOk a 1<;>rfl
  |[a,b],hs=>
   have h0:=numC_of (m:=1) (hs a (by simp)) (by omega)
   have n0:nthD ([a,b].map Value.string) 0 = .string a:=rfl
   have i0:inI 0 [a,b].length=true:=inI_ok (i:=0) (by simp)
   have g0:ltI 0 (lenI [a,b].length)=true:=len_lt (i:=0) (by simp)
   have b0:Nat.ble 1 [a,b].length=true:=len_ble (by simp)
   have h1:=numC_of (m:=999999999) (hs b (by simp)) (by omega)
   have n1:nthD ([a,b].map Value.string) 1 = .string b:=rfl
   have i1:inI 1 [a,b].length=true:=inI_ok (i:=1) (by simp)
   have g1:ltI 1 (lenI [a,b].length)=true:=len_lt (i:=1) (by simp)
   have b1:Nat.ble 2 [a,b].length=true:=len_ble (by simp)
   simp only[l_aS,l_eS,l_not,h0,n0,i0,g0,b0,h1,n1,i1,g1,b1,Bool.and_self,need_tt,ite_tt,ite_ff]
   cases numOk a 1<;>cases numOk b 999999999<;>rfl
  |[a,b,c],hs=>
   have h0:=numC_of (m:=1) (hs a (by simp)) (by omega)
   have n0:nthD ([a,b,c].map Value.string) 0 = .string a:=rfl
   have i0:inI 0 [a,b,c].length=true:=inI_ok (i:=0) (by simp)
   have g0:ltI 0 (lenI [a,b,c].length)=true:=len_lt (i:=0) (by simp)
   have b0:Nat.ble 1 [a,b,c].length=true:=len_ble (by simp)
   have h1:=numC_of (m:=999999999) (hs b (by simp)) (by omega)
   have n1:nthD ([a,b,c].map Value.string) 1 = .string b:=rfl
   have i1:inI 1 [a,b,c].length=true:=inI_ok (i:=1) (by simp)
   have g1:ltI 1 (lenI [a,b,c].length)=true:=len_lt (i:=1) (by simp)
   have b1:Nat.ble 2 [a,b,c].length=true:=len_ble (by simp)
   have h2:=numC_of (m:=999999999) (hs c (by simp)) (by omega)
   have n2:nthD ([a,b,c].map Value.string) 2 = .string c:=rfl
   have i2:inI 2 [a,b,c].length=true:=inI_ok (i:=2) (by simp)
   have g2:ltI 2 (lenI [a,b,c].length)=true:=len_lt (i:=2) (by simp)
   have b2:Nat.ble 3 [a,b,c].length=true:=len_ble (by simp)
   simp only[l_aS,l_eS,l_not,h0,n0,i0,g0,b0,h1,n1,i1,g1,b1,h2,n2,i2,g2,b2,Bool.and_self,need_tt,ite_tt,ite_ff]
   cases numOk a 1<;>cases numOk b 999999999<;>cases numOk c 999999999<;>rfl
  |a::b::c::d::t,hs=>
   have h0:=numC_of (m:=1) (hs a (by simp)) (by omega)
   have n0:nthD ((a::b::c::d::t).map Value.string) 0 = .string a:=rfl
   have i0:inI 0 (a::b::c::d::t).length=true:=inI_ok (i:=0) (by simp)
   have g0:ltI 0 (lenI (a::b::c::d::t).length)=true:=len_lt (i:=0) (by simp)
   have b0:Nat.ble 1 (a::b::c::d::t).length=true:=len_ble (by simp)
   have h1:=numC_of (m:=999999999) (hs b (by simp)) (by omega)
   have n1:nthD ((a::b::c::d::t).map Value.string) 1 = .string b:=rfl
   have i1:inI 1 (a::b::c::d::t).length=true:=inI_ok (i:=1) (by simp)
   have g1:ltI 1 (lenI (a::b::c::d::t).length)=true:=len_lt (i:=1) (by simp)
   have b1:Nat.ble 2 (a::b::c::d::t).length=true:=len_ble (by simp)
   have h2:=numC_of (m:=999999999) (hs c (by simp)) (by omega)
   have n2:nthD ((a::b::c::d::t).map Value.string) 2 = .string c:=rfl
   have i2:inI 2 (a::b::c::d::t).length=true:=inI_ok (i:=2) (by simp)
   have g2:ltI 2 (lenI (a::b::c::d::t).length)=true:=len_lt (i:=2) (by simp)
   have b2:Nat.ble 3 (a::b::c::d::t).length=true:=len_ble (by simp)
   have e:eqI (lenI (a::b::c::d::t).length) 3=false:=len_ne (k:=3) (by simp)
   simp only[l_aS,l_eS,l_not,h0,n0,i0,g0,b0,h1,n1,i1,g1,b1,h2,n2,i2,g2,b2,e,Bool.and_self,need_tt,ite_tt,ite_ff]
   cases numOk a 1<;>cases numOk b 999999999<;>cases numOk c 999999999<;>rfl
theorem li_11{OC:List Value→List Blk→Bool}{on:Nat}{oc:List Value}{ob:Bool}{s w0:ByteArray}{r:List ByteArray}{se:List Nat}(hs:SzW r):pickQ P E (ctLv numC numOk atoV szS keyO byS OC (mkFz 3 on 0 oc) ob) 50 32 Bli Hli (liV s (w0::r).length 0 ((w0::r).map Value.string)) (liB act0 (.map kkForms 12) (.miter (some 1) 12 (11::se) 12)) (.int .i64 12) (formV ⟨#[114,111,117,110,100]⟩ ⟨#[]⟩)=resA s (w0::r) (11::se) (form0 ⟨#[114,111,117,110,100]⟩ 12 w0 r):=by
 rw[dec_li12]
 unfold resA again found liR form0 fzS mkFz
 rw[fzU]
 simp only[l_in,l_cl,l_b1,l_n0,l_aS,l_eS,l_cut,l_lap,mulOne,l_tl,l_bb,Bool.and_self,need_tt]
 cases eqS _ w0 with
 |false=>rfl
 |true=>
  match r,hs with
  |[],hs=>
   rfl
  |a::t,hs=>
   have e:eqI (lenI (a::t).length) 0=false:=len_ne (k:=0) (by simp)
   simp only[l_aS,l_eS,l_not,e,Bool.and_self,need_tt,ite_tt,ite_ff]
   rfl
end Go.VS.Tryz
end

section
namespace Go.VS.Tryz
set_option maxRecDepth 1000000
open Go.VS
def commitW:ByteArray:=⟨#[99,111,109,109,105,116]⟩
def formNO(w0:ByteArray)(r:List ByteArray):Option (ActM×Value):=match eqS commitW w0,r with
 |true,a::b::t=>(match numOk a 1,opsB (b::t)with
  |true,true=>some (⟨1,atoV a,0,0,⟨#[]⟩,opsV (b::t)⟩,fzOps (opsV (b::t)))
  |_,_=>none)
 |_,_=>none
theorem li_0{s w0:ByteArray}{r:List ByteArray}{se:List Nat}(hs:SzW r):pickQ P E (ctLv numC numOk atoV szS keyO byS (kOps.at (r.drop 1)) (mkFz 3 (opsV (r.drop 1)).length 0 (EOp.all (opsV (r.drop 1)))) (opsB (r.drop 1))) 50 32 Bli Hli (liV s (w0::r).length 0 ((w0::r).map Value.string)) (liB act0 (.map kkForms 12) (.miter (some 1) 12 (0::se) 12)) (.int .i64 1) (formV ⟨#[99,111,109,109,105,116]⟩ ⟨#[110,111]⟩)=resA s (w0::r) (0::se) (formNO w0 r):=by
 rw[dec_li1]
 unfold resA again found liR formNO fzS
 rw[show commitW=⟨#[99,111,109,109,105,116]⟩ from rfl]
 simp only[l_in,l_cl,l_b1,l_n0,l_aS,l_eS,l_cut,l_lap,mulOne,l_tl,l_bb,Bool.and_self,need_tt]
 cases eqS _ w0 with
 |false=>unfold mkFz; rw[fzU]; rfl
 |true=>
  match r,hs with
  |[],hs=>unfold mkFz; rw[fzU]; rfl
  |[a],hs=>
   have h0:=numC_of (m:=1) (hs a (by simp)) (by omega)
   have n0:nthD ([a].map Value.string) 0 = .string a:=rfl
   have i0:inI 0 [a].length=true:=inI_ok (i:=0) (by simp)
   have g0:ltI 0 (lenI [a].length)=true:=len_lt (i:=0) (by simp)
   have b0:Nat.ble 1 [a].length=true:=len_ble (by simp)
   simp only[l_aS,l_eS,l_not,h0,n0,i0,g0,b0,Bool.and_self,need_tt,ite_tt,ite_ff]
   unfold mkFz; rw[fzU]
   cases numOk a 1<;>rfl
  |a::b::t,hs=>
   have h0:=numC_of (m:=1) (hs a (by simp)) (by omega)
   have n0:nthD ((a::b::t).map Value.string) 0 = .string a:=rfl
   have i0:inI 0 (a::b::t).length=true:=inI_ok (i:=0) (by simp)
   have g0:ltI 0 (lenI (a::b::t).length)=true:=len_lt (i:=0) (by simp)
   have g1:ltI 1 (lenI (a::b::t).length)=true:=len_lt (i:=1) (by simp)
   have b0:Nat.ble 1 (a::b::t).length=true:=len_ble (by simp)
   have c2:cutI 0 2 (a::b::t).length=true:=cutI_ok (by omega) (by omega) (by simp only[List.length_cons]; omega)
   have d1:(a::b::t).drop 1=b::t:=rfl
   simp only[l_aS,l_eS,l_not,h0,n0,i0,g0,g1,b0,c2,d1,l_cut,l_lap,mulOne,l_tl,cap0,Bool.and_self,need_tt,ite_tt,ite_ff]
   cases numOk a 1 with
   |false=>unfold mkFz; rw[fzU]; rfl
   |true=>
    simp only[ite_tt]
    refine need_at (k:=kOps) (s:=b::t) (by show [fzS _]=_; unfold fzS mkFz; rw[fzU]) rfl ?_
    unfold fzOps mkFz
    rw[fzU,fzU3]
    cases opsB (b::t)<;>rfl
noncomputable def ctL(ws:List ByteArray):Ct:=ctLv numC numOk atoV szS keyO byS (kOps.at (ws.drop 2)) (fzOps (opsV (ws.drop 2))) (opsB (ws.drop 2))
theorem ctL_ok{ws:List ByteArray}(h:WsOk ws)(hl:ws.length<4194304):CtOk P (ctL ws):=
 addCallX_ok (addCall_ok (addCall_ok ctF_ok num_ok) key_ok) (oneM_ok kOps ops_ok (s:=ws.drop 2) ⟨⟨fun w hw=>h.1 w (List.mem_of_mem_drop hw),by rw[List.length_drop]; omega⟩,by rw[List.length_drop]; omega⟩)
def formF(k:Nat)(w0:ByteArray)(r:List ByteArray):Option (ActM×Value):=match k with
 |0=>formNO w0 r
 |1=>formNK ⟨#[114,101,97,100]⟩ 2 w0 r
 |2=>formN ⟨#[116,105,99,107]⟩ 3 w0 r
 |3=>formN ⟨#[112,114,111,109,111,116,101]⟩ 4 w0 r
 |4=>formN ⟨#[102,108,117,115,104]⟩ 5 w0 r
 |5=>formA ⟨#[100,101,108,105,118,101,114]⟩ 6 w0 r
 |6=>formA ⟨#[116,119,105,99,101]⟩ 7 w0 r
 |7=>formA ⟨#[100,114,111,112]⟩ 8 w0 r
 |8=>formNA ⟨#[102,117,115,101]⟩ 9 w0 r
 |9=>formN ⟨#[112,117,108,108]⟩ 10 w0 r
 |10=>formNAT ⟨#[115,116,97,114,116]⟩ 11 w0 r
 |11=>form0 ⟨#[114,111,117,110,100]⟩ 12 w0 r
 |_=>none
theorem li_all{s w0:ByteArray}{r:List ByteArray}{se:List Nat}(hs:SzW r){e:MapEntry}(he:e∈kkForms):pickQ P E (ctL (w0::r)) 50 32 Bli Hli (liV s (w0::r).length 0 ((w0::r).map Value.string)) (liB act0 (.map kkForms 12) (.miter (some 1) 12 (e.born::se) 12)) e.key e.val=resA s (w0::r) (e.born::se) (formF e.born w0 r):=by
 unfold kkForms at he
 simp only[List.mem_cons,List.not_mem_nil,or_false]at he
 rcases he with rfl | rfl | rfl | rfl | rfl | rfl | rfl | rfl | rfl | rfl | rfl | rfl
 ·exact li_0 hs
 ·exact li_1 hs
 ·exact li_2 hs
 ·exact li_3 hs
 ·exact li_4 hs
 ·exact li_5 hs
 ·exact li_6 hs
 ·exact li_7 hs
 ·exact li_8 hs
 ·exact li_9 hs
 ·exact li_10 hs
 ·exact li_11 hs
end Go.VS.Tryz
end

section
namespace Go.VS.Tryz
set_option maxRecDepth 1000000
open Go.VS
def wordK(k:Nat):List UInt8:=([[99,111,109,109,105,116],[114,101,97,100],[116,105,99,107],[112,114,111,109,111,116,101],[102,108,117,115,104],[100,101,108,105,118,101,114],[116,119,105,99,101],[100,114,111,112],[102,117,115,101],[112,117,108,108],[115,116,97,114,116],[114,111,117,110,100]]:List (List UInt8)).getD k []
theorem eqS_word{W w0:ByteArray}(h:eqS W w0=true):w0.data.toList=W.data.toList:=by
 rw[eqS_eq]at h
 exact(beq_iff_eq.1 h).symm
theorem formNO_w{w0:ByteArray}{r:List ByteArray}{p:ActM×Value}(h:formNO w0 r=some p):w0.data.toList=commitW.data.toList:=by
 unfold formNO at h
 cases hq:eqS commitW w0 with
 |true=>exact eqS_word hq
 |false=>rw[hq]at h; cases h
theorem formN_w{W:ByteArray}{kd:Int}{w0:ByteArray}{r:List ByteArray}{p:ActM×Value}(h:formN W kd w0 r=some p):w0.data.toList=W.data.toList:=by
 unfold formN at h
 cases hq:eqS W w0 with
 |true=>exact eqS_word hq
 |false=>rw[hq]at h; cases h
theorem formA_w{W:ByteArray}{kd:Int}{w0:ByteArray}{r:List ByteArray}{p:ActM×Value}(h:formA W kd w0 r=some p):w0.data.toList=W.data.toList:=by
 unfold formA at h
 cases hq:eqS W w0 with
 |true=>exact eqS_word hq
 |false=>rw[hq]at h; cases h
theorem formNK_w{W:ByteArray}{kd:Int}{w0:ByteArray}{r:List ByteArray}{p:ActM×Value}(h:formNK W kd w0 r=some p):w0.data.toList=W.data.toList:=by
 unfold formNK at h
 cases hq:eqS W w0 with
 |true=>exact eqS_word hq
 |false=>rw[hq]at h; cases h
theorem formNA_w{W:ByteArray}{kd:Int}{w0:ByteArray}{r:List ByteArray}{p:ActM×Value}(h:formNA W kd w0 r=some p):w0.data.toList=W.data.toList:=by
 unfold formNA at h
 cases hq:eqS W w0 with
 |true=>exact eqS_word hq
 |false=>rw[hq]at h; cases h
theorem formNAT_w{W:ByteArray}{kd:Int}{w0:ByteArray}{r:List ByteArray}{p:ActM×Value}(h:formNAT W kd w0 r=some p):w0.data.toList=W.data.toList:=by
 unfold formNAT at h
 cases hq:eqS W w0 with
 |true=>exact eqS_word hq
 |false=>rw[hq]at h; cases h
theorem form0_w{W:ByteArray}{kd:Int}{w0:ByteArray}{r:List ByteArray}{p:ActM×Value}(h:form0 W kd w0 r=some p):w0.data.toList=W.data.toList:=by
 unfold form0 at h
 cases hq:eqS W w0 with
 |true=>exact eqS_word hq
 |false=>rw[hq]at h; cases h
theorem formF_w:∀ {k:Nat} {w0:ByteArray} {r:List ByteArray} {p:ActM×Value},formF k w0 r=some p→k<12∧w0.data.toList=wordK k
 |0,_,_,_,h=>⟨by omega,formNO_w h⟩
 |1,_,_,_,h=>⟨by omega,formNK_w h⟩
 |2,_,_,_,h=>⟨by omega,formN_w h⟩
 |3,_,_,_,h=>⟨by omega,formN_w h⟩
 |4,_,_,_,h=>⟨by omega,formN_w h⟩
 |5,_,_,_,h=>⟨by omega,formA_w h⟩
 |6,_,_,_,h=>⟨by omega,formA_w h⟩
 |7,_,_,_,h=>⟨by omega,formA_w h⟩
 |8,_,_,_,h=>⟨by omega,formNA_w h⟩
 |9,_,_,_,h=>⟨by omega,formN_w h⟩
 |10,_,_,_,h=>⟨by omega,formNAT_w h⟩
 |11,_,_,_,h=>⟨by omega,form0_w h⟩
 |_+12,_,_,_,h=>by cases h
theorem wordK_inj:∀ i j:Fin 12,wordK i.val=wordK j.val→i=j:=by decide
theorem formF_one{i j:Nat}{w0:ByteArray}{r:List ByteArray}{p q:ActM×Value}(h:formF i w0 r=some p)(k:formF j w0 r=some q):i=j:=by
 obtain⟨h1,h2⟩:=formF_w h
 obtain⟨k1,k2⟩:=formF_w k
 have:=wordK_inj ⟨i,h1⟩ ⟨j,k1⟩ (h2.symm.trans k2)
 exact congrArg Fin.val this
def lineF(w0:ByteArray)(r:List ByteArray):Option (ActM×Value):=(List.range 12).findSome? fun k=>formF k w0 r
theorem lineF_some{k:Nat}{w0:ByteArray}{r:List ByteArray}{p:ActM×Value}(h:formF k w0 r=some p):lineF w0 r=some p:=by
 cases hq:lineF w0 r with
 |none=>
  unfold lineF at hq
  rw[List.findSome?_eq_none_iff]at hq
  have:=hq k (List.mem_range.2 (formF_w h).1)
  rw[this]at h; cases h
 |some q=>
  unfold lineF at hq
  obtain⟨j,hj,hf⟩:=List.exists_of_findSome?_eq_some hq
  obtain rfl:=formF_one h hf
  rw[h]at hf; exact hf.symm
theorem lineF_none{w0:ByteArray}{r:List ByteArray}(h:∀ k,k<12→formF k w0 r=none):lineF w0 r=none:=by
 unfold lineF
 rw[List.findSome?_eq_none_iff]
 intro k hk
 exact h k (List.mem_range.1 hk)
def endV(s:ByteArray)(ws:List ByteArray)(th:Bool):List Value:=[.string s, .pointer (some ⟨0,0,none⟩), .bool th, .int .i64 0,fzS ws, .pointer (some ⟨2,0,none⟩)]
def endX:Option (ActM×Value)→Ex
 |some _=> .ret
 |none=> .normal
def endA:Option (ActM×Value)→List Value
 |some p=>actC p.1 (fzOps p.1.ops)
 |none=>act0
def endA0:Option (ActM×Value)→List Value
 |some p=>actC p.1 p.2
 |none=>act0
theorem nil_fz{β:Env}{v:Value}(h:VR β nilS v):VR β (fzOps []) v:=by
 have h:v = .slice none 0 0:=h
 subst h
 unfold fzOps mkFz
 simp only[VR]
 rw[if_neg (Nat.not_lt_of_le (Nat.le_add_right FZ 3))]
 simp only[VZ,VZA,VZL]
 refine⟨0,0,rfl,?_⟩
 have e1:FZ+3-FZ=3:=by omega
 rw[e1]
 unfold FrzR
 rw[if_neg (by decide)]
 exact⟨rfl,Or.inl ⟨rfl,by decide,rfl⟩⟩
theorem formF_o{k:Nat}{w0:ByteArray}{r:List ByteArray}{p:ActM×Value}(h:formF k w0 r=some p):(p.2=nilS∧p.1.ops=[])∨p.2=fzOps p.1.ops:=by
 unfold formF at h
 split at h
 ·right
  unfold formNO at h
  split at h
  ·split at h
   ·obtain rfl:=Option.some.inj h; rfl
   ·cases h
  ·cases h
 all_goals first
  |(cases h; done)
  |(left
    first | unfold formNK at h | unfold formNAT at h | unfold formNA at h | unfold formN at h | unfold formA at h | unfold form0 at h
    split at h
    ·first
     |(split at h<;>first | (obtain rfl:=Option.some.inj h; exact⟨rfl,rfl⟩) | (cases h; done))
     |(obtain rfl:=Option.some.inj h; exact⟨rfl,rfl⟩)
    ·cases h)
theorem end_weak{k:Nat}{w0:ByteArray}{r:List ByteArray}{β:Env}{l:List Value}(h:VRL β (endA0 (formF k w0 r)) l):VRL β (endA (formF k w0 r)) l:=by
 cases hf:formF k w0 r with
 |none=>rw[hf]at h; exact h
 |some p=>
  rw[hf]at h
  rcases formF_o hf with⟨h1,h2⟩ | h1
  ·unfold endA0 actC at h
   unfold endA actC
   simp only at h ⊢
   rw[h1]at h
   rw[h2]
   simp only[VRL]at h ⊢
   obtain⟨y1,l1,rfl,q1,y2,l2,rfl,q2,y3,l3,rfl,q3,y4,l4,rfl,q4,y5,l5,rfl,q5,y6,l6,rfl,q6,q7⟩:=h
   exact⟨y1,_,rfl,q1,y2,_,rfl,q2,y3,_,rfl,q3,y4,_,rfl,q4,y5,_,rfl,q5,y6,_,rfl,nil_fz q6,q7⟩
  ·unfold endA0 at h
   unfold endA
   simp only at h ⊢
   rw[←h1]; exact h
def endB(a:List Value):List Blk:=[.cells a 53 true, .dead, .dead]
theorem to_end{K:Prot}{β:Env}{w:World}{a:List Value}{es:List MapEntry}{c s l:Nat}{m:Option Nat}{se:List Nat}(h:Rel P K β (mkSt [.cells a 53 true, .map es c, .miter m s se l]) w):Rel P K β (mkSt (endB a)) w:=by
 have h1:=rel_dead 2 (fun b hb=>by cases hb; rfl) h
 exact rel_dead 1 (fun b hb=>by cases hb; rfl) h1
theorem Hli_ok:okL Hli=true:=by kernel_rfl
theorem forms_old:∀ e∈kkForms,e.born<12:=by
 intro e he
 unfold kkForms at he
 simp only[List.mem_cons,List.not_mem_nil,or_false]at he
 rcases he with rfl | rfl | rfl | rfl | rfl | rfl | rfl | rfl | rfl | rfl | rfl | rfl<;>decide
theorem forms_new:kkForms.all (fun e=>decide (e.born≥12))=false:=rfl
theorem forms_all:∀ k,k<12→∃ e∈kkForms,e.born=k:=by
 intro k hk
 have:∀ j:Fin 12,((kkForms.map (·.born))[j.val]?)=some j.val:=by decide
 have hm:=List.mem_of_getElem? (this ⟨k,hk⟩)
 obtain⟨e,he,h⟩:=List.mem_map.1 hm
 exact⟨e,he,h⟩
theorem left_less{se:List Nat}{e:MapEntry}(he:e∈leftM se kkForms):(leftM (e.born::se) kkForms).length<(leftM se kkForms).length:=by
 have h1:leftM (e.born::se) kkForms=(leftM se kkForms).filter fun x=>!(x.born == e.born):=by
  unfold leftM
  rw[List.filter_filter]
  apply List.filter_congr
  intro x _
  rw[List.contains_cons,Bool.not_or]
 rw[h1]
 exact List.length_filter_lt_length_iff_exists.2 ⟨e,he,by simp⟩
theorem li_loop{s w0:ByteArray}{r:List ByteArray}(hw:WsOk (w0::r))(hl:(w0::r).length<4194304):∀ (m:Nat) (se:List Nat),(leftM se kkForms).length≤m→(∀ k∈se,formF k w0 r=none)→
  LR P 32 0 Bli Hli (liV s (w0::r).length 0 ((w0::r).map Value.string)) (liB act0 (.map kkForms 12) (.miter (some 1) 12 se 12)) (endX (lineF w0 r)) (endV s (w0::r) (lineF w0 r).isSome) (endB (endA (lineF w0 r))):=by
 have hs:SzW r:=fun w h=>hw.1 w (List.mem_cons_of_mem _ h)
 have hit:(Hli.fr (liV s (w0::r).length 0 ((w0::r).map Value.string))).eval (.tmp 30) = .pointer (some ⟨2,0,none⟩):=rfl
 have stop:∀ se,leftM se kkForms=[]→(∀ k∈se,formF k w0 r=none)→LR P 32 0 Bli Hli (liV s (w0::r).length 0 ((w0::r).map Value.string)) (liB act0 (.map kkForms 12) (.miter (some 1) 12 se 12)) (endX (lineF w0 r)) (endV s (w0::r) (lineF w0 r).isSome) (endB (endA (lineF w0 r))):=by
  intro se hleft hse
  have hn:lineF w0 r=none:=lineF_none fun k hk=>by
   obtain⟨e,he,rfl⟩:=forms_all k hk
   by_cases hc:e.born∈se
   ·exact hse _ hc
   ·exfalso
    have:e∈leftM se kkForms:=List.mem_filter.2 ⟨he,by simpa using hc⟩
    rw[hleft]at this
    cases this
  rw[hn]
  have q:=dec_li0 s (w0::r).length 0 ((w0::r).map Value.string) se
  refine LR.over (n:=50) (j:=0) (engOk ctF) noNum ctF_ok Bli_occ Hli_ok (FirstNext.of Bli_first) hit rfl rfl (Or.inl forms_new) hleft (vs1:=endV s (w0::r) false) (bs1:=liB act0 (.map kkForms 12) (.miter (some 1) 12 se 12)) (q.trans ?_) rfl fun K β w h=>to_end h
  unfold endV fzS mkFz
  rw[fzU]
  rfl
 intro m
 induction m with
 |zero=>
  intro se hm hse
  exact stop se (List.length_eq_zero_iff.1 (by omega)) hse
 |succ m ih=>
  intro se hm hse
  by_cases hne:leftM se kkForms=[]
  ·exact stop se hne hse
  ·refine LR.pick (n:=50) (engOk (ctL (w0::r))) noNum (ctL_ok hw hl) Bli_occ Hli_ok (FirstNext.of Bli_first) hit ⟨rfl,rfl,Or.inl forms_new,forms_old,hne⟩
    (ex:=fun e=>endX (formF e.born w0 r)) (vs1:=fun e=>endV s (w0::r) (formF e.born w0 r).isSome) (bs1:=fun e=>liB (endA0 (formF e.born w0 r)) (.map kkForms 12) (.miter (some 1) 12 (e.born::se) 12)) (fun e he=>?_) (fun e he=>?_)
   ·have q:=li_all (s:=s) (w0:=w0) (r:=r) (se:=se) hs (List.mem_filter.1 he).1
    refine Eq.trans ?_ (q.trans ?_)
    ·rfl
    cases formF e.born w0 r<;>rfl
   ·cases hf:formF e.born w0 r with
    |none=>
     refine Or.inl ⟨rfl,?_⟩
     exact ih (e.born::se) (by have:=left_less he; omega) (fun k hk=>by
      rcases List.mem_cons.1 hk with rfl | hk
      ·exact hf
      ·exact hse k hk)
    |some p=>
     rw[lineF_some hf]
     refine Or.inr ⟨(by intro h; cases h),rfl,rfl,fun K β w h=>?_⟩
     have hw2:∀ β l,VRL β (endA0 (some p)) l→VRL β (endA (some p)) l:=fun β l h=>by
      have:=end_weak (k:=e.born) (w0:=w0) (r:=r) (β:=β) (l:=l)
      rw[hf]at this
      exact this h
     exact to_end (rel_weak (r:=0) rfl (by rfl) hw2 h)
end Go.VS.Tryz
end

section
namespace Go.VS.Pl
def wordsB:List UInt8→List UInt8→List (List UInt8)
 |cur,[]=>match cur with
  |[]=>[]
  |c::t=>[c::t]
 |cur,b::l=>match b == 32 with
  |true=>match cur with
   |[]=>wordsB [] l
   |c::t=>(c::t)::wordsB [] l
  |false=>wordsB (cur++[b]) l
theorem wordsB_skip:∀ (k:Nat) (cur l:List UInt8),k≤l.length→(∀ j,j<k→l.getD j 0≠32)→wordsB cur l=wordsB (cur++l.take k) (l.drop k)
 |0,cur,l,_,_=>by simp
 |k+1,cur,[],h,_=>by simp at h
 |k+1,cur,b::l,h,hz=>by
  have h0:(b == 32)=false:=by
   have:=hz 0 (by omega)
   simpa using this
  show(match b == 32 with | true=>_ | false=>_)=_
  rw[h0]
  simp only
  rw[wordsB_skip k (cur++[b]) l (by simpa using h) (fun j hj=>by have:=hz (j+1) (by omega); simpa using this)]
  simp
theorem get_bang(s:ByteArray)(i:Nat):s.get! i=s.data.toList.getD i 0:=by
 show s.data[i]! = _
 by_cases h:i<s.data.size
 ·rw[getElem!_pos s.data i h,List.getD_eq_getElem?_getD,List.getElem?_eq_getElem (by simpa using h)]
  simp
 ·rw[getElem!_neg s.data i h,List.getD_eq_getElem?_getD,List.getElem?_eq_none (by simpa using h)]
  rfl
theorem rune_blank(s:ByteArray)(i:Nat)(hi:i<s.size):((Utf8.decode s i).1=32↔s.data.toList.getD i 0=32)∧(s.data.toList.getD i 0=32→(Utf8.decode s i).2=1)∧1≤(Utf8.decode s i).2∧i+(Utf8.decode s i).2≤s.size∧
  (s.data.toList.getD i 0≠32→∀ j,j<(Utf8.decode s i).2→s.data.toList.getD (i+j) 0≠32):=by
 rw[Lib.decode_at]
 simp only[get_bang]
 generalize hb0:s.data.toList.getD i 0=b0
 generalize hb1:s.data.toList.getD (i+1) 0=b1
 generalize hb2:s.data.toList.getD (i+2) 0=b2
 generalize hb3:s.data.toList.getD (i+3) 0=b3
 have q0:b0=32↔b0.toNat=32:=⟨fun h=>by rw[h]; rfl,fun h=>UInt8.toNat_inj.1 h⟩
 have n1:b1.toNat / 64=2→b1≠32:=fun h e=>by rw[e]at h; exact absurd h (by decide)
 have n2:b2.toNat / 64=2→b2≠32:=fun h e=>by rw[e]at h; exact absurd h (by decide)
 have n3:b3.toNat / 64=2→b3≠32:=fun h e=>by rw[e]at h; exact absurd h (by decide)
 have j0:s.data.toList.getD (i+0) 0=b0:=hb0
 rw[q0]
 by_cases hlt:b0.toNat<128
 ·have e:Lib.decodeN (s.size-i) b0.toNat b1.toNat b2.toNat b3.toNat=(b0.toNat,1):=by unfold Lib.decodeN; rw[if_pos hlt]
  rw[e]
  refine⟨Iff.rfl,fun _=>rfl,Nat.le_refl _,by simp only; omega,fun h j hj=>?_⟩
  obtain rfl:j=0:=by simp only at hj; omega
  rw[j0]; exact h
 ·have h32:b0.toNat≠32:=by omega
  rcases Lib.decodeN_shape (s.size-i) b0.toNat b1.toNat b2.toNat b3.toNat with⟨c,_⟩ | ⟨c1,c2,c3,cv,e⟩ | ⟨c1,c2,c3,c4,cv,_,e⟩ | ⟨c1,c2,c3,c4,c5,cv,_,e⟩ | e
  ·exact absurd c hlt
  ·rw[e]
   refine⟨⟨fun h=>by simp only at h; omega,fun h=>absurd h h32⟩,fun h=>absurd h h32,by simp only; omega,by simp only; omega,fun h j hj=>?_⟩
   simp only at hj
   match j,hj with
   |0,_=>rw[j0]; exact h
   |1,_=>rw[hb1]; exact n1 c3
  ·rw[e]
   refine⟨⟨fun h=>by simp only at h; omega,fun h=>absurd h h32⟩,fun h=>absurd h h32,by simp only; omega,by simp only; omega,fun h j hj=>?_⟩
   simp only at hj
   match j,hj with
   |0,_=>rw[j0]; exact h
   |1,_=>rw[hb1]; exact n1 c3
   |2,_=>rw[hb2]; exact n2 c4
  ·rw[e]
   refine⟨⟨fun h=>by simp only at h; omega,fun h=>absurd h h32⟩,fun h=>absurd h h32,by simp only; omega,by simp only; omega,fun h j hj=>?_⟩
   simp only at hj
   match j,hj with
   |0,_=>rw[j0]; exact h
   |1,_=>rw[hb1]; exact n1 c3
   |2,_=>rw[hb2]; exact n2 c4
   |3,_=>rw[hb3]; exact n3 c5
  ·rw[e]
   refine⟨⟨fun h=>by simp only at h; omega,fun h=>absurd h h32⟩,fun h=>absurd h h32,by simp only; omega,by simp only; omega,fun h j hj=>?_⟩
   obtain rfl:j=0:=by simp only at hj; omega
   rw[j0]; exact h
def curB(s:ByteArray)(pos:Nat):Option Nat→List UInt8
 |some a=>(s.data.toList.drop a).take (pos-a)
 |none=>[]
def ext(s:ByteArray)(x:Nat×Nat):List UInt8:=(s.data.toList.drop x.1).take (x.2-x.1)
theorem getD_drop(l:List UInt8)(i j:Nat):(l.drop i).getD j 0=l.getD (i+j) 0:=by
 rw[List.getD_eq_getElem?_getD,List.getD_eq_getElem?_getD,List.getElem?_drop]
theorem spans_words(s:ByteArray)(p:Nat→Bool)(hp:∀ x,p x=true↔x=32):∀ (f pos:Nat) (st:Option Nat) (acc:List (Nat×Nat)),s.size≤pos+f→pos≤s.size→(∀ a,st=some a→a<pos)→
  (Lib.closeSpans s (Lib.spansFromP p s f pos st acc)).map (ext s)=acc.map (ext s)++wordsB (curB s pos st) (s.data.toList.drop pos):=by
 have hlen:s.data.toList.length=s.size:=by simp
 have fin:∀ (pos:Nat) (st:Option Nat) (acc:List (Nat×Nat)),pos=s.size→(∀ a,st=some a→a<pos)→(Lib.closeSpans s (acc,st)).map (ext s)=acc.map (ext s)++wordsB (curB s pos st) (s.data.toList.drop pos):=by
  intro pos st acc hpos hst
  subst hpos
  rw[List.drop_of_length_le (by rw[hlen]; exact Nat.le_refl _)]
  cases st with
  |none=>simp[Lib.closeSpans,curB,wordsB]
  |some a=>
   have ha:=hst a rfl
   have hne:curB s s.size (some a)≠[]:=by
    unfold curB
    intro h
    have:=congrArg List.length h
    rw[List.length_take,List.length_drop,hlen]at this
    simp only[List.length_nil]at this
    omega
   have hw:wordsB (curB s s.size (some a)) []=[curB s s.size (some a)]:=by
    cases hc:curB s s.size (some a)with
    |nil=>exact absurd hc hne
    |cons c t=>rfl
   rw[hw]
   simp[Lib.closeSpans,ext,curB]
 intro f
 induction f with
 |zero=>
  intro pos st acc h1 h2 hst
  exact fin pos st acc (by omega) hst
 |succ f ih=>
  intro pos st acc h1 h2 hst
  unfold Lib.spansFromP
  by_cases hlt:pos<s.size
  ·rw[if_pos hlt]
   obtain⟨r1,r2,r3,r4,r5⟩:=rune_blank s pos hlt
   have hd0:s.data.toList.drop pos=s.data.toList.getD pos 0::s.data.toList.drop (pos+1):=by
    rw[List.drop_eq_getElem_cons (by rw[hlen]; exact hlt),List.getD_eq_getElem?_getD,List.getElem?_eq_getElem (by rw[hlen]; exact hlt)]
    rfl
   by_cases hb:s.data.toList.getD pos 0=32
   ·have hpt:p (Utf8.decode s pos).1=true:=(hp _).2 (r1.2 hb)
    rw[if_pos hpt,r2 hb]
    have hw:∀ cur,wordsB cur (s.data.toList.drop pos)=match cur with | []=>wordsB [] (s.data.toList.drop (pos+1)) | c::t=>(c::t)::wordsB [] (s.data.toList.drop (pos+1)):=by
     intro cur
     rw[hd0,hb]
     rfl
    cases st with
    |none=>
     simp only
     rw[ih _ _ _ (by omega) (by omega) (by intro a h; cases h),hw]
     rfl
    |some a=>
     have ha:=hst a rfl
     simp only
     rw[ih _ _ _ (by omega) (by omega) (by intro a h; cases h),hw]
     cases hc:curB s pos (some a)with
     |nil=>
      exfalso
      have:=congrArg List.length hc
      unfold curB at this
      rw[List.length_take,List.length_drop,hlen]at this
      simp only[List.length_nil]at this
      omega
     |cons c t=>
      have:ext s (a,pos)=c::t:=hc
      simp[this,curB]
   ·have hpf:¬(p (Utf8.decode s pos).1=true):=fun h=>hb (r1.1 ((hp _).1 h))
    rw[if_neg hpf]
    have hskip:=fun cur=>wordsB_skip (Utf8.decode s pos).2 cur (s.data.toList.drop pos) (by rw[List.length_drop,hlen]; omega) (fun j hj=>by rw[getD_drop]; exact r5 hb j hj)
    have hcur:∀ a,a≤pos→(s.data.toList.drop a).take (pos+(Utf8.decode s pos).2-a)=(s.data.toList.drop a).take (pos-a)++(s.data.toList.drop pos).take (Utf8.decode s pos).2:=by
     intro a ha
     rw[show pos+(Utf8.decode s pos).2-a=(pos-a)+(Utf8.decode s pos).2 by omega,List.take_add,List.drop_drop,show a+(pos-a)=pos by omega]
    cases st with
    |none=>
     simp only
     rw[ih _ _ _ (by omega) r4 (by intro a h; cases h; omega),hskip,List.drop_drop]
     unfold curB
     simp only
     rw[show pos+(Utf8.decode s pos).2-pos=(Utf8.decode s pos).2 by omega]
     rfl
    |some a=>
     have ha:=hst a rfl
     simp only
     rw[ih _ _ _ (by omega) r4 (by intro b h; cases h; omega),hskip,List.drop_drop]
     unfold curB
     simp only
     rw[hcur a (by omega)]
  ·rw[if_neg hlt]
   exact fin pos st acc (by omega) hst
theorem fields_words(s:ByteArray)(p:Nat→Bool)(hp:∀ x,p x=true↔x=32):(Lib.goFieldsP p s).map (fun w=>w.data.toList)=wordsB [] s.data.toList:=by
 have h:=spans_words s p hp s.size 0 none [] (by omega) (Nat.zero_le _) (by intro a h; cases h)
 simp only[List.map_nil,List.nil_append,List.drop_zero,curB]at h
 rw[←h]
 unfold Lib.goFieldsP Lib.spansOfP
 rw[List.map_map]
 apply List.map_congr_left
 intro x _
 show(s.extract x.1 x.2).data.toList=_
 unfold ext
 simp[ByteArray.extract,ByteArray.copySlice,List.extract_eq_take_drop]
theorem wordsB_facts:∀ (l cur:List UInt8),(∀ w∈wordsB cur l,w≠[]∧w.length≤cur.length+l.length)∧(wordsB cur l).length≤l.length+1
 |[],cur=>by
  cases cur with
  |nil=>simp[wordsB]
  |cons c t=>simp[wordsB]
 |b::l,cur=>by
  unfold wordsB
  cases b == 32 with
  |true=>
   obtain⟨h1,h2⟩:=wordsB_facts l []
   cases cur with
   |nil=>
    refine⟨fun w hw=>?_,?_⟩
    ·obtain⟨q1,q2⟩:=h1 w hw
     exact⟨q1,by simp only[List.length_cons,List.length_nil]at q2 ⊢; omega⟩
    ·simp only[List.length_cons]; omega
   |cons c t=>
    refine⟨fun w hw=>?_,?_⟩
    ·rcases List.mem_cons.1 hw with rfl | hw
     ·exact⟨by simp,by simp only[List.length_cons]; omega⟩
     ·obtain⟨q1,q2⟩:=h1 w hw
      exact⟨q1,by simp only[List.length_cons,List.length_nil]at q2 ⊢; omega⟩
    ·simp only[List.length_cons]; omega
  |false=>
   obtain⟨h1,h2⟩:=wordsB_facts l (cur++[b])
   refine⟨fun w hw=>?_,?_⟩
   ·obtain⟨q1,q2⟩:=h1 w hw
    exact⟨q1,by simp only[List.length_append,List.length_cons,List.length_nil]at q2 ⊢; omega⟩
   ·simp only[List.length_cons]; omega
end Go.VS.Pl
end

section
namespace Go.VS.Tryz
set_option maxRecDepth 1000000
open Go.VS
noncomputable def ctLnv(I:ByteArray→UInt8→Bool)(WC:List Value→List Blk→Bool)(wn:Nat)(wc:List Value)(LC:List Value→List Blk→Bool)(ok:Bool)(s:ByteArray)(z:Value)(k nd n t:Int)(key:ByteArray)(on:Nat)(oc:List Value):Ct:=
 addLoop 32 0 Hli (oneL LC (.ite ok (.leaf (.ret,[.string s, .pointer (some ⟨0,0,none⟩), .bool true, .int .i64 0,z, .pointer (some ⟨2,0,none⟩)],endB [.int .i64 k, .int .i64 nd, .int .i64 n, .int .i64 t, .string key,mkFz 3 on 0 oc])) (.leaf (.normal,[.string s, .pointer (some ⟨0,0,none⟩), .bool false, .int .i64 0,z, .pointer (some ⟨2,0,none⟩)],endB act0))))
  (addCallX P polD 0 27 (oneM WC (.leaf (mkFz 1 wn 0 wc,[]))) (addCall P 55 (RinV I) ctF))
theorem dec_line(I:ByteArray→UInt8→Bool)(WC:List Value→List Blk→Bool)(wn:Nat)(wc:List Value)(LC:List Value→List Blk→Bool)(ok:Bool)(z:Value)(k nd n t:Int)(key:ByteArray)(on:Nat)(oc:List Value)(s:ByteArray):callQX P E (ctLnv I WC wn wc LC ok s z k nd n t key on oc) 50 polD [.keep, .val, .val] [53,4,49] 0 32 [.string s] [] =
 (iteB (gtI (lenI (ByteArray.size s)) (65536:Int))
 (some ((Value.tuple (Array.mk [(Value.agg (Array.mk [(Value.int IntKind.i64 (0:Int)),(Value.int IntKind.i64 (0:Int)),(Value.int IntKind.i64 (0:Int)),(Value.int IntKind.i64 (0:Int)),(Value.string (ByteArray.mk #[])),(Value.slice none 0 0)])),(Value.bool Bool.false),(Value.int IntKind.i64 (3:Int))])),(mkSt [])))
 (iteB (I s (OfNat.ofNat 10))
 (some ((Value.tuple (Array.mk [(Value.agg (Array.mk [(Value.int IntKind.i64 (0:Int)),(Value.int IntKind.i64 (0:Int)),(Value.int IntKind.i64 (0:Int)),(Value.int IntKind.i64 (0:Int)),(Value.string (ByteArray.mk #[])),(Value.slice none 0 0)])),(Value.bool Bool.false),(Value.int IntKind.i64 (350:Int))])),(mkSt [])))
 (needB (WC [(Value.string s),(Value.func (Go.Fn.func 94) (Array.mk []) (Array.mk []))] [])
 (iteB (eqI (lenI wn) (0:Int))
 (some ((Value.tuple (Array.mk [(Value.agg (Array.mk [(Value.int IntKind.i64 (0:Int)),(Value.int IntKind.i64 (0:Int)),(Value.int IntKind.i64 (0:Int)),(Value.int IntKind.i64 (0:Int)),(Value.string (ByteArray.mk #[])),(Value.slice none 0 0)])),(Value.bool Bool.false),(Value.int IntKind.i64 (0:Int))])),(mkSt [])))
 (needB (Bool.and (Nat.beq 1 1) (inI (0:Int) wn))
 (needB (Bool.and (Nat.ble 1 (List.length wc)) (etaB Eta.string (nthD wc 0)))
 (needB (inI (0:Int) (ByteArray.size (asS (nthD wc 0))))
 (iteB (eqI (bAt (asS (nthD wc 0)) (0:Int)) (35:Int))
 (some ((Value.tuple (Array.mk [(Value.agg (Array.mk [(Value.int IntKind.i64 (0:Int)),(Value.int IntKind.i64 (0:Int)),(Value.int IntKind.i64 (0:Int)),(Value.int IntKind.i64 (0:Int)),(Value.string (ByteArray.mk #[])),(Value.slice none 0 0)])),(Value.bool Bool.false),(Value.int IntKind.i64 (0:Int))])),(mkSt [])))
 (needB (LC [(Value.string s),(Value.pointer (Option.some (Addr.mk 0 0 none))),(Value.bool Bool.false),(Value.int IntKind.i64 (0:Int)),(Value.iface 18446744073709551617 (Value.agg (Array.mk ((Value.slice none wn 0)::wc)))),(Value.pointer (Option.some (Addr.mk 2 0 none)))] [(Blk.cells [(Value.int IntKind.i64 (0:Int)),(Value.int IntKind.i64 (0:Int)),(Value.int IntKind.i64 (0:Int)),(Value.int IntKind.i64 (0:Int)),(Value.string (ByteArray.mk #[])),(Value.slice none 0 0)] 53 Bool.true),(Blk.map [(Go.MapEntry.mk (Value.int IntKind.i64 (1:Int)) (Value.agg (Array.mk [(Value.string (ByteArray.mk #[99,111,109,109,105,116])),(Value.string (ByteArray.mk #[110,111]))])) 0),(Go.MapEntry.mk (Value.int IntKind.i64 (2:Int)) (Value.agg (Array.mk [(Value.string (ByteArray.mk #[114,101,97,100])),(Value.string (ByteArray.mk #[110,107]))])) 1),(Go.MapEntry.mk (Value.int IntKind.i64 (3:Int)) (Value.agg (Array.mk [(Value.string (ByteArray.mk #[116,105,99,107])),(Value.string (ByteArray.mk #[110]))])) 2),(Go.MapEntry.mk (Value.int IntKind.i64 (4:Int)) (Value.agg (Array.mk [(Value.string (ByteArray.mk #[112,114,111,109,111,116,101])),(Value.string (ByteArray.mk #[110]))])) 3),(Go.MapEntry.mk (Value.int IntKind.i64 (5:Int)) (Value.agg (Array.mk [(Value.string (ByteArray.mk #[102,108,117,115,104])),(Value.string (ByteArray.mk #[110]))])) 4),(Go.MapEntry.mk (Value.int IntKind.i64 (6:Int)) (Value.agg (Array.mk [(Value.string (ByteArray.mk #[100,101,108,105,118,101,114])),(Value.string (ByteArray.mk #[97]))])) 5),(Go.MapEntry.mk (Value.int IntKind.i64 (7:Int)) (Value.agg (Array.mk [(Value.string (ByteArray.mk #[116,119,105,99,101])),(Value.string (ByteArray.mk #[97]))])) 6),(Go.MapEntry.mk (Value.int IntKind.i64 (8:Int)) (Value.agg (Array.mk [(Value.string (ByteArray.mk #[100,114,111,112])),(Value.string (ByteArray.mk #[97]))])) 7),(Go.MapEntry.mk (Value.int IntKind.i64 (9:Int)) (Value.agg (Array.mk [(Value.string (ByteArray.mk #[102,117,115,101])),(Value.string (ByteArray.mk #[110,97]))])) 8),(Go.MapEntry.mk (Value.int IntKind.i64 (10:Int)) (Value.agg (Array.mk [(Value.string (ByteArray.mk #[112,117,108,108])),(Value.string (ByteArray.mk #[110]))])) 9),(Go.MapEntry.mk (Value.int IntKind.i64 (11:Int)) (Value.agg (Array.mk [(Value.string (ByteArray.mk #[115,116,97,114,116])),(Value.string (ByteArray.mk #[110,97,116]))])) 10),(Go.MapEntry.mk (Value.int IntKind.i64 (12:Int)) (Value.agg (Array.mk [(Value.string (ByteArray.mk #[114,111,117,110,100])),(Value.string (ByteArray.mk #[]))])) 11)] 12),(Blk.miter (Option.some 1) 12 [] 12)])
 (iteB ok
 (some ((Value.tuple (Array.mk [(Value.agg (Array.mk [(Value.int IntKind.i64 k),(Value.int IntKind.i64 nd),(Value.int IntKind.i64 n),(Value.int IntKind.i64 t),(Value.string key),(Value.iface 18446744073709551619 (Value.agg (Array.mk ((Value.slice none on 0)::oc))))])),(Value.bool Bool.true),(Value.int IntKind.i64 (0:Int))])),(mkSt [])))
 (some ((Value.tuple (Array.mk [(Value.agg (Array.mk [(Value.int IntKind.i64 (0:Int)),(Value.int IntKind.i64 (0:Int)),(Value.int IntKind.i64 (0:Int)),(Value.int IntKind.i64 (0:Int)),(Value.string (ByteArray.mk #[])),(Value.slice none 0 0)])),(Value.bool Bool.false),(Value.int IntKind.i64 (350:Int))])),(mkSt []))))))))))))):=by kernel_rfl
theorem wordsL_eq(s:ByteArray):(wordsL s).map (fun w=>w.data.toList)=Pl.wordsB [] s.data.toList:=Pl.fields_words s _ fun x=>by
 show decide ((x:Int)=32)=true↔x=32
 rw[decide_eq_true_iff]; omega
theorem ba_len(s:ByteArray):s.data.toList.length=s.size:=by simp
theorem wordsL_ok{s:ByteArray}(h:s.size≤4194302):WsOk (wordsL s)∧(wordsL s).length<4194304∧∀ w∈wordsL s,0<w.size:=by
 obtain⟨h1,h2⟩:=Pl.wordsB_facts s.data.toList []
 have hl:(wordsL s).length=(Pl.wordsB [] s.data.toList).length:=by rw[←wordsL_eq,List.length_map]
 rw[ba_len]at h2
 have hm:∀ w∈wordsL s,w.data.toList∈Pl.wordsB [] s.data.toList:=fun w hw=>by rw[←wordsL_eq]; exact List.mem_map.2 ⟨w,hw,rfl⟩
 refine⟨⟨fun w hw=>?_,by omega⟩,by omega,fun w hw=>?_⟩
 ·have:=(h1 _ (hm w hw)).2
  rw[ba_len,ba_len]at this
  simp only[List.length_nil]at this
  omega
 ·have:=(h1 _ (hm w hw)).1
  rw[←ba_len]
  exact List.length_pos_iff.2 this
def act00:ActM:=⟨0,0,0,0,⟨#[]⟩,[]⟩
def isRem(w0:ByteArray):Bool:=eqI (bAt w0 0) 35
def lineM(s:ByteArray):ActM×Bool×Int:=match gtI (lenI s.size) 65536,inB s 10,wordsL s with
 |true,_,_=>(act00,false,3)
 |false,true,_=>(act00,false,350)
 |false,false,[]=>(act00,false,0)
 |false,false,w0::r=>match isRem w0,lineF w0 r with
  |true,_=>(act00,false,0)
  |false,some p=>(p.1,true,0)
  |false,none=>(act00,false,350)
def actV(a:ActM):Value:= .agg ⟨actC a (fzOps a.ops)⟩
def resLi(x:ActM×Bool×Int):Value:= .tuple ⟨[actV x.1, .bool x.2.1, .int .i64 x.2.2]⟩
def kLi:Con (ByteArray×List ByteArray) where
 enc x:=(liV x.1 x.2.length 0 (x.2.map Value.string),liB act0 (.map kkForms 12) (.miter (some 1) 12 [] 12))
 ok _:=True
 inj a b h:=by
  unfold liV at h
  simp only[Prod.mk.injEq,List.cons.injEq,Value.string.injEq,true_and,and_true]at h
  obtain⟨a1,a2⟩:=a
  obtain⟨b1,b2⟩:=b
  obtain⟨h1,h2⟩:=h
  simp only at h1 h2
  rw[h1,strs_inj (fz_inj h2)]
 dflt:=(default,[])
noncomputable def liDT(s:ByteArray)(ws:List ByteArray)(o:Option (ActM×Value)):DT (Ex×List Value×List Blk):=
 .ite o.isSome (.leaf (.ret,endV s ws true,endB (actC ((o.map (·.1)).getD act00) (fzOps ((o.map (·.1)).getD act00).ops)))) (.leaf (.normal,endV s ws false,endB act0))
theorem li_loopOk{s w0:ByteArray}{r:List ByteArray}(hw:WsOk (w0::r))(hl:(w0::r).length<4194304):LoopOk P 32 0 Bli Hli (oneL (kLi.at (s,w0::r)) (liDT s (w0::r) (lineF w0 r))):=
 oneLP_ok kLi (loopAt_occ Bli_eq) Hli_ok fun e vs' bs' hev=>by
  have q:=li_loop (s:=s) hw hl 12 [] (by decide) (fun k hk=>by cases hk)
  unfold liDT at hev
  cases hf:lineF w0 r with
  |none=>
   rw[hf]at hev q
   simp only[Option.isSome_none,DT.eval,Option.some.injEq,Prod.mk.injEq]at hev
   obtain⟨rfl,rfl,rfl⟩:=hev
   exact q
  |some p=>
   rw[hf]at hev q
   simp only[Option.isSome_some,Option.map_some,Option.getD_some,DT.eval,Option.some.injEq,Prod.mk.injEq]at hev
   obtain⟨rfl,rfl,rfl⟩:=hev
   exact q
theorem nil_act{β:Env}{b i x:Value}(h:VR β (.tuple ⟨[.agg ⟨act0⟩,b,i]⟩) x):VR β (.tuple ⟨[actV act00,b,i]⟩) x:=by
 simp only[VR,VRA,VRL]at h
 obtain⟨a',rfl,y,ys,e,⟨c,rfl,hc⟩,hrest⟩:=h
 unfold act0 at hc
 simp only[VRL]at hc
 obtain⟨y1,l1,e1,q1,y2,l2,rfl,q2,y3,l3,rfl,q3,y4,l4,rfl,q4,y5,l5,rfl,q5,y6,l6,rfl,q6,q7⟩:=hc
 refine⟨a',rfl,?_⟩
 simp only[VRA,VRL]
 refine⟨_,ys,e,⟨c,rfl,?_⟩,hrest⟩
 simp only[VRA,VRL,actC,act00]
 exact⟨y1,_,e1,q1,y2,_,rfl,q2,y3,_,rfl,q3,y4,_,rfl,q4,y5,_,rfl,q5,y6,_,rfl,nil_fz q6,q7⟩
def kLn:Con ByteArray where
 enc s:=([.string s],[])
 ok s:=s.size≤4194302
 inj a b h:=by simp only[Prod.mk.injEq,List.cons.injEq,Value.string.injEq,and_true]at h; exact h
 dflt:=default
noncomputable def ctLn(s:ByteArray)(w0:ByteArray)(r:List ByteArray):Ct:=
 addLoop 32 0 Hli (oneL (kLi.at (s,w0::r)) (liDT s (w0::r) (lineF w0 r))) (addCallX P polD 0 27 (oneM (kWo.at s) (.leaf (fzS (wordsL s),[]))) (addCall P 55 (RinV inB) ctF))
theorem ctLn_ok{s w0:ByteArray}{r:List ByteArray}(hs:s.size≤4194302)(hw:WsOk (w0::r))(hl:(w0::r).length<4194304):CtOk P (ctLn s w0 r):=
 addLoop_ok (addCallX_ok (addCall_ok ctF_ok in_ok) (oneM_ok kWo fields_ok (s:=s) (by show s.size≤4194304; omega))) (li_loopOk hw hl)
theorem line_crx(s:ByteArray)(hs:s.size≤4194302):CRX P 0 32 [.string s] [] (resLi (lineM s)) []:=by
 obtain⟨hw,hl,hp⟩:=wordsL_ok hs
 have z:∀ {e:Int},CRX P 0 32 [.string s] [] (.tuple ⟨[.agg ⟨act0⟩, .bool false, .int .i64 e]⟩) []→CRX P 0 32 [.string s] [] (resLi (act00,false,e)) []:=fun h=>h.weak fun β x hx=>nil_act hx
 have hqs:∀ (w0:ByteArray) (r:List ByteArray),WsOk (w0::r)→(w0::r).length<4194304→∀ v,callQX P E (ctLn s w0 r) 50 polD [.keep, .val, .val] [53,4,49] 0 32 [.string s] []=some (v,mkSt [])→CRX P 0 32 [.string s] [] v []:=
  fun w0 r h1 h2 v h=>CRX.of (engOk (ctLn s w0 r)) noNum (ctLn_ok hs h1 h2) h
 have q:=fun(w0:ByteArray) (r:List ByteArray)=>dec_line inB (kWo.at s) (wordsL s).length ((wordsL s).map Value.string) (kLi.at (s,w0::r)) (lineF w0 r).isSome (fzS (w0::r)) (((lineF w0 r).map (·.1)).getD act00).kind (((lineF w0 r).map (·.1)).getD act00).node (((lineF w0 r).map (·.1)).getD act00).n (((lineF w0 r).map (·.1)).getD act00).t (((lineF w0 r).map (·.1)).getD act00).key (((lineF w0 r).map (·.1)).getD act00).ops.length (EOp.all (((lineF w0 r).map (·.1)).getD act00).ops) s
 have e0:WsOk [(default:ByteArray)]:=⟨fun w hw=>by simp at hw; subst hw; decide,by decide⟩
 unfold lineM
 cases h1:gtI (lenI s.size) 65536 with
 |true=>
  refine z (hqs default [] e0 (by decide) _ ((q default []).trans ?_))
  rw[h1]; rfl
 |false=>
 cases h2:inB s 10 with
 |true=>
  refine z (hqs default [] e0 (by decide) _ ((q default []).trans ?_))
  rw[h1]
  refine Eq.trans ite_ff ?_
  have h2:inB s (OfNat.ofNat 10)=true:=h2
  rw[h2]; rfl
 |false=>
 have h2:inB s (OfNat.ofNat 10)=false:=h2
 cases h3:wordsL s with
 |nil=>
  refine z (hqs default [] e0 (by decide) _ ((q default []).trans ?_))
  rw[h1]
  refine Eq.trans ite_ff ?_
  rw[h2]
  refine Eq.trans ite_ff ?_
  refine need_at (k:=kWo) (s:=s) rfl rfl ?_
  rw[h3]
  rfl
 |cons w0 r=>
  rw[h3]at hw hl hp
  have a1:eqI (lenI (w0::r).length) 0=false:=by unfold eqI lenI; exact decide_eq_false (by simp only[List.length_cons]; omega)
  have a2:inI 0 w0.size=true:=inI_ok (i:=0) (hp w0 (by simp))
  have key:∀ v,(iteB (isRem w0) (some (.tuple ⟨[.agg ⟨act0⟩, .bool false, .int .i64 0]⟩,mkSt [])) (iteB (lineF w0 r).isSome (some (.tuple ⟨[actV (((lineF w0 r).map (·.1)).getD act00), .bool true, .int .i64 0]⟩,mkSt [])) (some (.tuple ⟨[.agg ⟨act0⟩, .bool false, .int .i64 350]⟩,mkSt []))):Res)=some (v,mkSt [])→
    CRX P 0 32 [.string s] [] v []:=fun v hv=>by
   refine hqs w0 r hw hl v ((q w0 r).trans ?_)
   rw[h1]
   refine Eq.trans ite_ff ?_
   rw[h2]
   refine Eq.trans ite_ff ?_
   refine need_at (k:=kWo) (s:=s) rfl rfl ?_
   rw[h3]
   simp only[a1,l_in,l_cl,l_b1,l_n0,l_aS,l_eS,l_bb,a2,Bool.and_self,need_tt,ite_ff]
   refine Eq.trans ?_ hv
   have hk:∀ x:Res,needB (kLi.at (s,w0::r) (liV s (w0::r).length 0 ((w0::r).map Value.string)) (liB act0 (.map kkForms 12) (.miter (some 1) 12 [] 12))) x=x:=fun x=>need_at (k:=kLi) (s:=(s,w0::r)) rfl rfl rfl
   unfold isRem
   cases eqI (bAt w0 0) 35 with
   |true=>rfl
   |false=>
    simp only[ite_ff]
    refine Eq.trans ?_ (hk _)
    unfold actV actC fzOps liV mkFz
    rw[fzU,fzU3]
    rfl
  simp only
  cases h4:isRem w0 with
  |true=>exact z (key _ (by rw[h4]; rfl))
  |false=>
   cases h5:lineF w0 r with
   |none=>exact z (key _ (by rw[h4,h5]; rfl))
   |some p=>exact key _ (by rw[h4,h5]; rfl)
theorem line_ok:CallOkX P 0 32 (conM kLn.C kLn.D fun s=> .leaf (resLi (lineM s),[])):=conX_ok kLn fun s ho v bs' hev=>by
 simp only[DT.eval,Option.some.injEq,Prod.mk.injEq]at hev
 obtain⟨rfl,rfl⟩:=hev
 exact line_crx s ho
end Go.VS.Tryz
end

section
namespace Go.VS.Tryz
set_option maxRecDepth 1000000
open Go.VS
noncomputable def ctIv(IX:ByteArray→Int→Int):Ct:=addCall P 72 (RixV IX) noCt
theorem dec_cut(IX:ByteArray→Int→Int)(s:ByteArray):callQ P E (ctIv IX) 50 11 [.string s, .string ⟨#[10]⟩] =
 (iteB (eqS (ByteArray.mk #[10]) s)
 (needB (cutI (1:Int) (lenI (ByteArray.size s)) (ByteArray.size s))
 (some ((Value.tuple (Array.mk [(Value.string (cutS s (0:Int) (0:Int))),(Value.string (cutS s (1:Int) (lenI (ByteArray.size s)))),(Value.bool Bool.true)])),(mkSt []))))
 (iteB (geI (IX s (10:Int)) (0:Int))
 (needB (cutI (0:Int) (IX s (10:Int)) (ByteArray.size s))
 (needB (cutI (addI IntKind.i64 (IX s (10:Int)) (1:Int)) (lenI (ByteArray.size s)) (ByteArray.size s))
 (some ((Value.tuple (Array.mk [(Value.string (cutS s (0:Int) (IX s (10:Int)))),(Value.string (cutS s (addI IntKind.i64 (IX s (10:Int)) (1:Int)) (lenI (ByteArray.size s)))),(Value.bool Bool.true)])),(mkSt [])))))
 (some ((Value.tuple (Array.mk [(Value.string s),(Value.string (ByteArray.mk #[])),(Value.bool Bool.false)])),(mkSt []))))):=by kernel_rfl
theorem dec_ref(i e:Int):callQN P E noCt 50 31 [.int .i64 i, .int .i64 e] =
 (some ((Value.iface 45 (Value.pointer (Option.some (Addr.mk 0 0 none)))),(mkSt [(Blk.cells [(Value.int IntKind.i64 i),(Value.int IntKind.i64 e)] 109 Bool.true)]))):=by kernel_rfl
def brk:List UInt8→List UInt8×List UInt8×Bool
 |[]=>([],[],false)
 |b::l=>match b == 10 with
  |true=>([],l,true)
  |false=>(b::(brk l).1,(brk l).2.1,(brk l).2.2)
theorem brk_none:∀ {l:List UInt8},Lib.indexByte l 10=-1→brk l=(l,[],false)
 |[],_=>rfl
 |b::l,h=>by
  unfold Lib.indexByte at h
  unfold brk
  cases hb:b == 10 with
  |true=>rw[hb]at h; simp at h
  |false=>
   rw[hb]at h
   have hg:=Lib.indexByte_ge l 10
   have h1:Lib.indexByte l 10=-1:=by
    by_cases hq:Lib.indexByte l 10=-1
    ·exact hq
    ·simp only[Bool.false_eq_true,if_false,beq_iff_eq,hq]at h; omega
   rw[brk_none h1]
theorem brk_some:∀ {l:List UInt8} {o:Nat},Lib.indexByte l 10=o→o<l.length∧brk l=(l.take o,l.drop (o+1),true)
 |[],o,h=>by simp[Lib.indexByte]at h
 |b::l,o,h=>by
  unfold Lib.indexByte at h
  unfold brk
  cases hb:b == 10 with
  |true=>
   rw[hb]at h
   simp only[if_true]at h
   obtain rfl:o=0:=by omega
   exact⟨by simp,rfl⟩
  |false=>
   rw[hb]at h
   have hg:=Lib.indexByte_ge l 10
   by_cases hq:Lib.indexByte l 10=-1
   ·simp only[Bool.false_eq_true,if_false,hq]at h
    have:(-1:Int)=o:=h
    omega
   ·simp only[Bool.false_eq_true,if_false,beq_iff_eq,hq]at h
    obtain⟨k,rfl⟩:∃ k,o=k+1:=⟨o-1,by omega⟩
    obtain⟨h1,h2⟩:=brk_some (l:=l) (o:=k) (by omega)
    rw[h2]
    exact⟨by simp only[List.length_cons]; omega,rfl⟩
theorem brk_length(l:List UInt8):(brk l).1.length+(brk l).2.1.length≤l.length∧(l≠[]→(brk l).2.1.length<l.length):=by
 induction l with
 |nil=>simp[brk]
 |cons b l ih=>
  unfold brk
  cases b == 10 with
  |true=>simp
  |false=>
   simp only[List.length_cons]
   exact⟨by omega,fun _=>by omega⟩
theorem ba_ext{a b:ByteArray}(h:a.data.toList=b.data.toList):a=b:=by
 obtain⟨⟨a⟩⟩:=a
 obtain⟨⟨b⟩⟩:=b
 simp only at h
 rw[h]
theorem cutS_list(s:ByteArray)(a b:Nat):(cutS s (a:Int) (b:Int)).data.toList=(s.data.toList.drop a).take (b-a):=by
 unfold cutS
 simp[ByteArray.extract,ByteArray.copySlice,List.extract_eq_take_drop]
def lnA(s:ByteArray):ByteArray:=⟨⟨(brk s.data.toList).1⟩⟩
def lnB(s:ByteArray):ByteArray:=⟨⟨(brk s.data.toList).2.1⟩⟩
def lnF(s:ByteArray):Bool:=(brk s.data.toList).2.2
def RcutV(A B:ByteArray→ByteArray)(F:ByteArray→Bool):CallFn
 |[.string s, .string ⟨⟨[10]⟩⟩]=>some (.ite (szS s) (.leaf (.tuple ⟨[.string (A s), .string (B s), .bool (F s)]⟩,[])) .fail)
 |_=>none
theorem cut_run{s:ByteArray}(h:s.size≤9223372036854775807):callQ P E (ctIv ixB) 50 11 [.string s, .string ⟨#[10]⟩]=some (.tuple ⟨[.string (lnA s), .string (lnB s), .bool (lnF s)]⟩,mkSt []):=by
 rw[dec_cut]
 have hlen:=ba_len s
 cases h1:eqS ⟨#[10]⟩ s with
 |true=>
  have hs:s=⟨⟨[10]⟩⟩:=ba_ext (eqS_word h1)
  subst hs
  rfl
 |false=>
  refine Eq.trans ite_ff ?_
  have hix:ixB s 10=Lib.indexByte s.data.toList 10:=rfl
  have hge:=Lib.indexByte_ge s.data.toList 10
  by_cases hq:Lib.indexByte s.data.toList 10=-1
  ·have g:geI (ixB s 10) 0=false:=by rw[hix,hq]; rfl
   rw[g]
   refine Eq.trans ite_ff ?_
   unfold lnA lnB lnF
   rw[brk_none hq]
  ·obtain⟨o,ho⟩:∃ o:Nat,Lib.indexByte s.data.toList 10=o:=⟨(Lib.indexByte s.data.toList 10).toNat,by omega⟩
   obtain⟨b1,b2⟩:=brk_some ho
   rw[hlen]at b1
   rw[hix,ho]
   have g:geI (o:Int) 0=true:=by unfold geI; exact decide_eq_true (by omega)
   have a1:addI .i64 (o:Int) 1=((o+1:Nat):Int):=by unfold addI; rw[wrap64 (by omega) (by omega)]; omega
   have c1:cutI 0 (o:Int) s.size=true:=cutI_ok (by omega) (by omega) (by omega)
   have c2:cutI ((o+1:Nat):Int) (lenI s.size) s.size=true:=cutI_ok (by omega) (by unfold lenI; omega) (by unfold lenI; omega)
   rw[g,a1,c1,c2]
   have e1:cutS s 0 (o:Int)=lnA s:=by
    refine ba_ext ((cutS_list s 0 o).trans ?_)
    unfold lnA
    rw[b2,List.drop_zero,Nat.sub_zero]
   have e2:cutS s ((o+1:Nat):Int) (lenI s.size)=lnB s:=by
    refine ba_ext ((cutS_list s (o+1) s.size).trans ?_)
    unfold lnB
    rw[b2,List.take_of_length_le (by rw[List.length_drop,hlen]; omega)]
   rw[e1,e2]
   have e3:lnF s=true:=by unfold lnF; rw[b2]
   rw[e3]
   rfl
theorem cut_ok:CallOkR P 11 (RcutV lnA lnB lnF):=by
 refine ok_of (addCall_ok (noCt_ok P) ix_ok) (n:=50) fun args t hR v bs hev=>?_
 unfold RcutV at hR
 split at hR
 ·rename_i s
  obtain rfl:=Option.some.inj hR
  cases hc:szS s with
  |false=>rw[hc]at hev; cases hev
  |true=>
   rw[hc]at hev
   simp only[DT.eval,Option.some.injEq,Prod.mk.injEq]at hev
   obtain⟨rfl,rfl⟩:=hev
   exact cut_run (Nat.le_trans (Nat.le_of_ble_eq_true hc) (by decide))
 ·cases hR
def errV(i e:Int):Value:= .iface 45 (mkFp 0 [.int .i64 i, .int .i64 e])
def RrefM:CallFnM:=fun args bs=>match args,bs with
 |[.int .i64 i, .int .i64 e],[]=>some (.leaf (errV i e,[]))
 |_,_=>none
theorem ref_ok:CallOkX P 0 31 RrefM:=by
 refine⟨fun args bs t hR v bs' hev=>?_⟩
 unfold RrefM at hR
 split at hR
 ·rename_i i e
  obtain rfl:=Option.some.inj hR
  simp only[DT.eval,Option.some.injEq,Prod.mk.injEq]at hev
  obtain⟨rfl,rfl⟩:=hev
  exact CRX.ofNew (by decide) rfl rfl (CR.ofN (engOk noCt) noNum (noCt_ok P) (dec_ref i e))
 ·cases hR
end Go.VS.Tryz
end

section
namespace Go.VS.Tryz
set_option maxRecDepth 1000000
open Go.VS
noncomputable def ctPav(A B:ByteArray→ByteArray)(F:ByteArray→Bool)(LC:List Value→List Blk→Bool)(k nd n t:Int)(key:ByteArray)(on:Nat)(oc:List Value)(th:Bool)(er:Int):Ct:=
 addCall P 11 (RcutV A B F) (addCallX P polD 0 31 RrefM (addCallX P polD 0 32 (oneM LC (.leaf (.tuple ⟨[.agg ⟨[.int .i64 k, .int .i64 nd, .int .i64 n, .int .i64 t, .string key,mkFz 3 on 0 oc]⟩, .bool th, .int .i64 er]⟩,[]))) ctF))
def Dpa:HeadX:=⟨0,49,[0,2,3,4,5],[.val, .val, .val, .own, .val],[9,40,9,40,2],polD⟩
noncomputable def Bpa:Code:=(loopAt P 14 0).getD .skip
theorem Bpa_eq:loopAt P 14 0=some Bpa:=by kernel_rfl
theorem Bpa_occ:Occ P 14 (.block 0 (.loop Bpa)):=loopAt_has Bpa_eq
theorem dec_pa(A B:ByteArray→ByteArray)(F:ByteArray→Bool)(LC:List Value→List Blk→Bool)(k nd n t:Int)(key:ByteArray)(on:Nat)(oc:List Value)(th:Bool)(er:Int)(s:ByteArray)(m:Nat)(d:List Value)(c:Int):roundQX P E (ctPav A B F LC k nd n t key on oc th er) 50 14 Bpa Dpa [.string s,mkFz 6 0 0 [], .nilIface, .slice (some ⟨0,0,none⟩) m unk, .int .i64 c] [.cells d 53 false] =
 (iteB (neS s (ByteArray.mk #[]))
 (needB (szS s)
 (needB (LC [(Value.string (A s))] [])
 (iteB (neI er (0:Int))
 (needB (Nat.ble (Nat.add 0 (Nat.mul m 6)) (List.length d))
 (some ((Value.tuple (Array.mk [(Value.int IntKind.i64 (-1:Int)),(Value.string (B s)),(Value.iface 18446744073709551622 (Value.agg (Array.mk [(Value.slice none 0 0)]))),(Value.iface 45 (Value.iface 18446744073709551616 (Value.agg (Array.mk [(Value.slice none 0 0),(Value.int IntKind.i64 c),(Value.int IntKind.i64 er)])))),(Value.slice (Option.some (Addr.mk 0 0 none)) m 18446744073709551616),(Value.int IntKind.i64 c)])),(mkSt [(Blk.cells (renL Bool.true (rhoO 0 [2]) (takeC (Nat.mul m 6) (dropC 0 d))) 53 Bool.false)]))))
 (iteB th
 (iteB (eqI (lenI m) (200:Int))
 (needB (Nat.ble (Nat.add 0 (Nat.mul m 6)) (List.length d))
 (some ((Value.tuple (Array.mk [(Value.int IntKind.i64 (-1:Int)),(Value.string (B s)),(Value.iface 18446744073709551622 (Value.agg (Array.mk [(Value.slice none 0 0)]))),(Value.iface 45 (Value.iface 18446744073709551616 (Value.agg (Array.mk [(Value.slice none 0 0),(Value.int IntKind.i64 c),(Value.int IntKind.i64 (3:Int))])))),(Value.slice (Option.some (Addr.mk 0 0 none)) m 18446744073709551616),(Value.int IntKind.i64 c)])),(mkSt [(Blk.cells (renL Bool.true (rhoO 0 [2]) (takeC (Nat.mul m 6) (dropC 0 d))) 53 Bool.false)]))))
 (iteB th
 (needB (Nat.ble (Nat.add m 1) 4194304)
 (needB (Nat.beq (Nat.add 0 (Nat.mul m 6)) (List.length d))
 (needB (Nat.ble (Nat.add 0 (Nat.mul (Nat.add m 1) 6)) (List.length (List.append (oldC 0 d) [(Value.int IntKind.i64 k),(Value.int IntKind.i64 nd),(Value.int IntKind.i64 n),(Value.int IntKind.i64 t),(Value.string key),(Value.iface 18446744073709551619 (Value.agg (Array.mk ((Value.slice none on 0)::oc))))])))
 (some ((Value.tuple (Array.mk [(Value.int IntKind.i64 (0:Int)),(Value.string (B s)),(Value.iface 18446744073709551622 (Value.agg (Array.mk [(Value.slice none 0 0)]))),Value.nilIface,(Value.slice (Option.some (Addr.mk 0 0 none)) (Nat.add m 1) 18446744073709551616),(Value.int IntKind.i64 (addI IntKind.i64 c (1:Int)))])),(mkSt [(Blk.cells (renL Bool.true (rhoO 0 [4]) (takeC (Nat.mul (Nat.add m 1) 6) (dropC 0 (List.append (oldC 0 d) [(Value.int IntKind.i64 k),(Value.int IntKind.i64 nd),(Value.int IntKind.i64 n),(Value.int IntKind.i64 t),(Value.string key),(Value.iface 18446744073709551619 (Value.agg (Array.mk ((Value.slice none on 0)::oc))))])))) 53 Bool.false)]))))))
 (needB (Nat.ble (Nat.add 0 (Nat.mul m 6)) (List.length d))
 (some ((Value.tuple (Array.mk [(Value.int IntKind.i64 (0:Int)),(Value.string (B s)),(Value.iface 18446744073709551622 (Value.agg (Array.mk [(Value.slice none 0 0)]))),Value.nilIface,(Value.slice (Option.some (Addr.mk 0 0 none)) m 18446744073709551616),(Value.int IntKind.i64 (addI IntKind.i64 c (1:Int)))])),(mkSt [(Blk.cells (renL Bool.true (rhoO 0 [2]) (takeC (Nat.mul m 6) (dropC 0 d))) 53 Bool.false)]))))))
 (iteB th
 (needB (Nat.ble (Nat.add m 1) 4194304)
 (needB (Nat.beq (Nat.add 0 (Nat.mul m 6)) (List.length d))
 (needB (Nat.ble (Nat.add 0 (Nat.mul (Nat.add m 1) 6)) (List.length (List.append (oldC 0 d) [(Value.int IntKind.i64 k),(Value.int IntKind.i64 nd),(Value.int IntKind.i64 n),(Value.int IntKind.i64 t),(Value.string key),(Value.iface 18446744073709551619 (Value.agg (Array.mk ((Value.slice none on 0)::oc))))])))
 (some ((Value.tuple (Array.mk [(Value.int IntKind.i64 (0:Int)),(Value.string (B s)),(Value.iface 18446744073709551622 (Value.agg (Array.mk [(Value.slice none 0 0)]))),Value.nilIface,(Value.slice (Option.some (Addr.mk 0 0 none)) (Nat.add m 1) 18446744073709551616),(Value.int IntKind.i64 (addI IntKind.i64 c (1:Int)))])),(mkSt [(Blk.cells (renL Bool.true (rhoO 0 [4]) (takeC (Nat.mul (Nat.add m 1) 6) (dropC 0 (List.append (oldC 0 d) [(Value.int IntKind.i64 k),(Value.int IntKind.i64 nd),(Value.int IntKind.i64 n),(Value.int IntKind.i64 t),(Value.string key),(Value.iface 18446744073709551619 (Value.agg (Array.mk ((Value.slice none on 0)::oc))))])))) 53 Bool.false)]))))))
 (needB (Nat.ble (Nat.add 0 (Nat.mul m 6)) (List.length d))
 (some ((Value.tuple (Array.mk [(Value.int IntKind.i64 (0:Int)),(Value.string (B s)),(Value.iface 18446744073709551622 (Value.agg (Array.mk [(Value.slice none 0 0)]))),Value.nilIface,(Value.slice (Option.some (Addr.mk 0 0 none)) m 18446744073709551616),(Value.int IntKind.i64 (addI IntKind.i64 c (1:Int)))])),(mkSt [(Blk.cells (renL Bool.true (rhoO 0 [2]) (takeC (Nat.mul m 6) (dropC 0 d))) 53 Bool.false)])))))))))
 (needB (Nat.ble (Nat.add 0 (Nat.mul m 6)) (List.length d))
 (some ((Value.tuple (Array.mk [(Value.int IntKind.i64 (1:Int)),(Value.string s),(Value.iface 18446744073709551622 (Value.agg (Array.mk [(Value.slice none 0 0)]))),Value.nilIface,(Value.slice (Option.some (Addr.mk 0 0 none)) m 18446744073709551616),(Value.int IntKind.i64 c)])),(mkSt [(Blk.cells (renL Bool.true (rhoO 0 [1]) (takeC (Nat.mul m 6) (dropC 0 d))) 53 Bool.false)]))))):=by kernel_rfl
end Go.VS.Tryz
end

section
namespace Go.VS.Tryz
set_option maxRecDepth 1000000
open Go.VS
def EAct:Enc ActM where
 sz:=6
 f a:=actC a (fzOps a.ops)
 len _:=rfl
 pos:=by decide
 inj a b h:=by
  obtain⟨a1,a2,a3,a4,a5,a6⟩:=a
  obtain⟨b1,b2,b3,b4,b5,b6⟩:=b
  unfold actC fzOps at h
  simp only[List.cons.injEq,Value.int.injEq,Value.string.injEq,true_and,and_true]at h
  obtain⟨rfl,rfl,rfl,rfl,rfl,h⟩:=h
  obtain rfl:=EOp.all_inj _ _ (fz_inj h)
  rfl
 nr c:=by
  unfold actC fzOps
  simp only[noRefL,noRef,noRef_fz,Bool.and_self]
theorem actLen(l:List ActM):(EAct.all l).length=Nat.mul l.length 6:=EAct.all_length l
theorem actSelf{l:List ActM}{n:Nat}(h:n=l.length):takeC (Nat.mul n 6) (dropC 0 (EAct.all l))=EAct.all l:=by
 subst h; exact EAct.all_self l
theorem actApp(out:List ActM)(a:ActM):List.append (oldC 0 (EAct.all out)) [.int .i64 a.kind, .int .i64 a.node, .int .i64 a.n, .int .i64 a.t, .string a.key,mkFz 3 a.ops.length 0 (EOp.all a.ops)]=EAct.all (out++[a]):=by
 rw[oldC_zero,EAct.all_append,EAct.all_one]; rfl
def paV(s:ByteArray)(e:Value)(m:Nat)(c:Int):List Value:=[.string s,mkFz 6 0 0 [],e, .slice (some ⟨0,0,none⟩) m unk, .int .i64 c]
def paB(out:List ActM):List Blk:=[.cells (EAct.all out) 53 false]
noncomputable def ctPa(s:ByteArray):Ct:=ctPav lnA lnB lnF (kLn.at (lnA s)) (lineM (lnA s)).1.kind (lineM (lnA s)).1.node (lineM (lnA s)).1.n (lineM (lnA s)).1.t (lineM (lnA s)).1.key (lineM (lnA s)).1.ops.length (EOp.all (lineM (lnA s)).1.ops) (lineM (lnA s)).2.1 (lineM (lnA s)).2.2
theorem lnA_size(s:ByteArray):(lnA s).size≤s.size∧(s.size≠0→(lnB s).size<s.size):=by
 have h:=brk_length s.data.toList
 have hl:=ba_len s
 have h1:(lnA s).size=(brk s.data.toList).1.length:=by unfold lnA; simp[ByteArray.size]
 have h2:(lnB s).size=(brk s.data.toList).2.1.length:=by unfold lnB; simp[ByteArray.size]
 rw[h1,h2,←hl]
 refine⟨by have:=h.1; omega,fun hne=>h.2 (fun e=>hne (by rw[e]; rfl))⟩
theorem ctPa_ok{s:ByteArray}(h:s.size≤4194302):CtOk P (ctPa s):=
 addCall_ok (addCallX_ok (addCallX_ok ctF_ok (oneM_ok kLn line_ok (s:=lnA s) (Nat.le_trans (lnA_size s).1 h))) ref_ok) cut_ok
theorem ne_str{s:ByteArray}(h:s.size≠0):neS s ⟨#[]⟩=true:=by
 rw[neS_eq]
 cases hq:s.data.toList with
 |nil=>exact absurd (by rw[←ba_len,hq]; rfl) h
 |cons a l=>rfl
theorem pa_round{s:ByteArray}{out:List ActM}{c:Nat}(hs:s.size≤4194302)(h0:s.size≠0)(ho:out.length≤200)(hc:c≤4194304):roundQX P E (ctPa s) 50 14 Bpa Dpa (paV s .nilIface out.length c) (paB out) =
  match neI (lineM (lnA s)).2.2 0,(lineM (lnA s)).2.1,eqI (lenI out.length) 200 with
  |true,_,_=>some (.tuple ⟨exV .ret::paV (lnB s) (errV c (lineM (lnA s)).2.2) out.length c⟩,mkSt (paB out))
  |false,true,true=>some (.tuple ⟨exV .ret::paV (lnB s) (errV c 3) out.length c⟩,mkSt (paB out))
  |false,true,false=>some (.tuple ⟨exV .normal::paV (lnB s) .nilIface (out++[(lineM (lnA s)).1]).length ((c+1:Nat):Int)⟩,mkSt (paB (out++[(lineM (lnA s)).1])))
  |false,false,_=>some (.tuple ⟨exV .normal::paV (lnB s) .nilIface out.length ((c+1:Nat):Int)⟩,mkSt (paB out)):=by
 unfold paV paB ctPa
 rw[dec_pa]
 have g0:=ne_str h0
 have g1:szS s=true:=szS_of (by omega)
 have b3:∀ n,Nat.beq n n=true:=Nat.beq_refl
 have b2:∀ n,Nat.ble n n=true:=fun n=>Nat.ble_eq_true_of_le (Nat.le_refl n)
 have t1:Nat.ble (Nat.add out.length 1) 4194304=true:=Nat.ble_eq_true_of_le (by show out.length+1≤_; omega)
 have ol:∀ a:ActM,(out++[a]).length=Nat.add out.length 1:=fun a=>by simp
 have os:∀ a:ActM,takeC (Nat.mul (Nat.add out.length 1) 6) (dropC 0 (EAct.all (out++[a])))=EAct.all (out++[a]):=fun a=>actSelf (ol a).symm
 have hadd:addI .i64 (c:Int) 1=((c+1:Nat):Int):=by unfold addI; rw[wrap64 (by omega) (by omega)]; omega
 simp only[g0,g1,ite_tt,need_tt]
 refine need_at (k:=kLn) (s:=lnA s) rfl rfl ?_
 have hfz3:∀ l:List OpM,(Value.iface 18446744073709551619 (.agg ⟨.slice none l.length 0::EOp.all l⟩))=mkFz 3 l.length 0 (EOp.all l):=fun l=>by unfold mkFz; rw[fzU3]
 generalize lineM (lnA s)=x
 obtain⟨a,th,er⟩:=x
 simp only
 simp only[hfz3,actApp,actLen,b2,b3,t1,ol,os,actSelf rfl,zeroAdd,Enc.all_ren,hadd,need_tt]
 have hfz0:mkFz 6 0 0 [] = .iface 18446744073709551622 (.agg ⟨[.slice none 0 0]⟩):=by unfold mkFz FZ; rfl
 have hfp:∀ i e:Int,errV i e = .iface 45 (.iface 18446744073709551616 (.agg ⟨[.slice none 0 0, .int .i64 i, .int .i64 e]⟩)):=fun i e=>by unfold errV mkFp FZ; rfl
 rw[hfz0]
 simp only[hfp]
 cases neI er 0 with
 |true=>rfl
 |false=>
  cases th with
  |false=>rfl
  |true=>
   cases eqI (lenI out.length) 200<;>rfl
theorem pa_end{s:ByteArray}{out:List ActM}{c:Nat}(h0:s.size=0):roundQX P E (ctPa s) 50 14 Bpa Dpa (paV s .nilIface out.length c) (paB out)=some (.tuple ⟨exV (.exit 0)::paV s .nilIface out.length c⟩,mkSt (paB out)):=by
 unfold paV paB ctPa
 rw[dec_pa]
 have g0:neS s ⟨#[]⟩=false:=by
  rw[neS_eq]
  have:s.data.toList=[]:=List.length_eq_zero_iff.1 (by rw[ba_len]; exact h0)
  rw[this]; rfl
 have b2:∀ n,Nat.ble n n=true:=fun n=>Nat.ble_eq_true_of_le (Nat.le_refl n)
 simp only[g0,ite_ff,actLen,b2,actSelf rfl,zeroAdd,Enc.all_ren,need_tt]
 have hfz0:mkFz 6 0 0 [] = .iface 18446744073709551622 (.agg ⟨[.slice none 0 0]⟩):=by unfold mkFz FZ; rfl
 rw[hfz0]
 rfl
def paM:Nat→ByteArray→List ActM→Nat→Option (Int×Int)×ByteArray×List ActM×Nat
 |0,s,out,c=>(none,s,out,c)
 |f+1,s,out,c=>match Nat.beq s.size 0 with
  |true=>(none,s,out,c)
  |false=>match neI (lineM (lnA s)).2.2 0,(lineM (lnA s)).2.1,eqI (lenI out.length) 200 with
   |true,_,_=>(some (c,(lineM (lnA s)).2.2),lnB s,out,c)
   |false,true,true=>(some (c,3),lnB s,out,c)
   |false,true,false=>paM f (lnB s) (out++[(lineM (lnA s)).1]) (c+1)
   |false,false,_=>paM f (lnB s) out (c+1)
def paX:Option (Int×Int)→Ex
 |none=> .normal
 |some _=> .ret
def paE:Option (Int×Int)→Value
 |none=> .nilIface
 |some (i,e)=>errV i e
theorem pa_loop:∀ (f:Nat) (s:ByteArray) (out:List ActM) (c:Nat),s.size<f→s.size≤4194302→out.length≤200→c+s.size≤4194304→
  LRX P 14 0 Bpa Dpa.head (paV s .nilIface out.length c) (paB out) (paX (paM f s out c).1) (paV (paM f s out c).2.1 (paE (paM f s out c).1) (paM f s out c).2.2.1.length (paM f s out c).2.2.2) (paB (paM f s out c).2.2.1)
 |0,s,_,_,h,_,_,_=>by omega
 |f+1,s,out,c,hf,hs,ho,hc=>by
  unfold paM
  cases hb:Nat.beq s.size 0 with
  |true=>exact LRX.stop (n:=50) (engOk (ctPa s)) noNum (ctPa_ok hs) Bpa_occ (e:= .exit 0) (pa_end (Nat.eq_of_beq_eq_true hb)) (by intro h; cases h)
  |false=>
   have h0:s.size≠0:=Nat.ne_of_beq_eq_false hb
   have hlt:=(lnA_size s).2 h0
   have q:=pa_round (out:=out) (c:=c) hs h0 ho (by omega)
   cases h1:neI (lineM (lnA s)).2.2 0 with
   |true=>
    rw[h1]at q
    exact LRX.stop (n:=50) (engOk (ctPa s)) noNum (ctPa_ok hs) Bpa_occ (e:= .ret) q (by intro h; cases h)
   |false=>
    cases h2:(lineM (lnA s)).2.1 with
    |false=>
     rw[h1,h2]at q
     exact LRX.again (n:=50) (engOk (ctPa s)) noNum (ctPa_ok hs) Bpa_occ q (pa_loop f (lnB s) out (c+1) (by omega) (by omega) ho (by omega))
    |true=>
     cases h3:eqI (lenI out.length) 200 with
     |true=>
      rw[h1,h2,h3]at q
      exact LRX.stop (n:=50) (engOk (ctPa s)) noNum (ctPa_ok hs) Bpa_occ (e:= .ret) q (by intro h; cases h)
     |false=>
      rw[h1,h2,h3]at q
      have hne:out.length≠200:=by
       intro e
       unfold eqI lenI at h3
       have:=of_decide_eq_false h3
       omega
      exact LRX.again (n:=50) (engOk (ctPa s)) noNum (ctPa_ok hs) Bpa_occ q (pa_loop f (lnB s) (out++[(lineM (lnA s)).1]) (c+1) (by omega) (by omega) (by rw[List.length_append]; simp only[List.length_cons,List.length_nil]; omega) (by omega))
end Go.VS.Tryz
end

section
namespace Go.VS.Tryz
set_option maxRecDepth 1000000
open Go.VS
noncomputable def ctPv2(LC:List Value→List Blk→Bool)(ok:Bool)(s2:ByteArray)(z:Value)(m:Nat)(d:List Value)(c li le:Int):Ct:=
 addCallX P polD 0 31 RrefM (addLoopX P 14 0 Dpa (oneL LC (.ite ok (.leaf (.normal,[.string s2,z, .nilIface, .slice (some ⟨0,0,none⟩) m unk, .int .i64 c],[.cells d 53 false])) (.leaf (.ret,[.string s2,z,errV li le, .slice (some ⟨0,0,none⟩) m unk, .int .i64 c],[.cells d 53 false])))) ctF)
theorem dec_parse(LC:List Value→List Blk→Bool)(ok:Bool)(s2:ByteArray)(m:Nat)(d:List Value)(c li le:Int)(s:ByteArray):callQX P E (ctPv2 LC ok s2 (mkFz 6 0 0 []) m d c li le) 50 polD [.val, .keep] [40,42] 0 14 [.string s] [] =
 (iteB (gtI (lenI (ByteArray.size s)) (65536:Int))
 (some ((Value.tuple (Array.mk [(Value.iface 18446744073709551622 (Value.agg (Array.mk [(Value.slice none 0 0)]))),(Value.iface 45 (Value.iface 18446744073709551616 (Value.agg (Array.mk [(Value.slice none 0 0),(Value.int IntKind.i64 (-1:Int)),(Value.int IntKind.i64 (3:Int))]))))])),(mkSt [])))
 (needB (LC [(Value.string s),(Value.iface 18446744073709551622 (Value.agg (Array.mk [(Value.slice none 0 0)]))),Value.nilIface,(Value.slice (Option.some (Addr.mk 0 0 none)) 0 18446744073709551616),(Value.int IntKind.i64 (0:Int))] [(Blk.cells [] 53 Bool.false)])
 (iteB ok
 (needB (frzC P 0 m 18446744073709551616 (renL Bool.true (backN [] 1) d) 53)
 (some ((Value.tuple (Array.mk [(Value.iface 18446744073709551622 (Value.agg (Array.mk ((Value.slice none m 0)::(takeC (Nat.mul m 6) (dropC 0 (renL Bool.true (backN [] 1) d))))))),Value.nilIface])),(mkSt []))))
 (some ((Value.tuple (Array.mk [(Value.iface 18446744073709551622 (Value.agg (Array.mk [(Value.slice none 0 0)]))),(Value.iface 45 (Value.iface 18446744073709551616 (Value.agg (Array.mk [(Value.slice none 0 0),(Value.int IntKind.i64 li),(Value.int IntKind.i64 le)]))))])),(mkSt [])))))):=by kernel_rfl
def kPaL:Con ByteArray where
 enc s:=(paV s .nilIface 0 0,paB [])
 ok s:=s.size≤4194302
 inj a b h:=by
  unfold paV at h
  simp only[Prod.mk.injEq,List.cons.injEq,Value.string.injEq,and_true]at h
  exact h
 dflt:=default
def paX1(s:ByteArray):Option (Int×Int)×ByteArray×List ActM×Nat:=paM (s.size+1) s [] 0
noncomputable def paDT(x:Option (Int×Int)×ByteArray×List ActM×Nat):DT (Ex×List Value×List Blk):=
 .ite x.1.isNone (.leaf (.normal,paV x.2.1 .nilIface x.2.2.1.length x.2.2.2,paB x.2.2.1)) (.leaf (.ret,paV x.2.1 (errV (x.1.getD (0,0)).1 (x.1.getD (0,0)).2) x.2.2.1.length x.2.2.2,paB x.2.2.1))
theorem pa_loopOk:LoopOkX P 14 0 Bpa Dpa.head (conL kPaL.C kPaL.D fun s=>paDT (paX1 s)):=
 conLX_ok kPaL (loopAt_occ Bpa_eq) fun s ho e vs' bs' hev=>by
  have ho:s.size≤4194302:=ho
  have q:=pa_loop (s.size+1) s [] 0 (by omega) ho (by decide) (by omega)
  unfold paDT paX1 at hev
  generalize paM (s.size+1) s [] 0=x at hev q
  obtain⟨o,s2,out,c⟩:=x
  cases o with
  |none=>
   simp only[Option.isNone_none,DT.eval,Option.some.injEq,Prod.mk.injEq]at hev
   obtain⟨rfl,rfl,rfl⟩:=hev
   exact q
  |some p=>
   simp only[Option.isNone_some,DT.eval,Option.getD_some,Option.some.injEq,Prod.mk.injEq]at hev
   obtain⟨rfl,rfl,rfl⟩:=hev
   exact q
def parseM(s:ByteArray):Option (Int×Int)×List ActM:=match gtI (lenI s.size) 65536,(paX1 s).1 with
 |true,_=>(some (-1,3),[])
 |false,some p=>(some p,[])
 |false,none=>(none,(paX1 s).2.2.1)
def fzActs(l:List ActM):Value:=mkFz 6 l.length 0 (EAct.all l)
theorem frzActs{l:List ActM}:frzC P 0 l.length 18446744073709551616 (EAct.all l) 53=true:=by
 have he:esz P 53=6:=by kernel_rfl
 unfold frzC
 rw[he,EAct.all_nr,actLen]
 have h2:Nat.ble (Nat.add 0 (Nat.mul l.length 6)) (Nat.mul l.length 6)=true:=by rw[zeroAdd]; exact Nat.ble_eq_true_of_le (Nat.le_refl _)
 rw[h2]; rfl
noncomputable def ctPs(s:ByteArray):Ct:=addCallX P polD 0 31 RrefM (addLoopX P 14 0 Dpa (oneL (kPaL.at s) (paDT (paX1 s))) ctF)
theorem parse_run(s:ByteArray):callQX P E (ctPs s) 50 polD [.val, .keep] [40,42] 0 14 [.string s] []=some (.tuple ⟨[fzActs (parseM s).2,paE (parseM s).1]⟩,mkSt []):=by
 have q:=dec_parse (kPaL.at s) (paX1 s).1.isNone (paX1 s).2.1 (paX1 s).2.2.1.length (EAct.all (paX1 s).2.2.1) (paX1 s).2.2.2 ((paX1 s).1.getD (0,0)).1 ((paX1 s).1.getD (0,0)).2 s
 refine Eq.trans ?_ (q.trans ?_)
 ·rfl
 clear q
 have hfz0:∀ l:List ActM,fzActs l = .iface 18446744073709551622 (.agg ⟨.slice none l.length 0::EAct.all l⟩):=fun l=>by unfold fzActs mkFz FZ; rfl
 have hfp:∀ i e:Int,errV i e = .iface 45 (.iface 18446744073709551616 (.agg ⟨[.slice none 0 0, .int .i64 i, .int .i64 e]⟩)):=fun i e=>by unfold errV mkFp FZ; rfl
 unfold parseM
 cases gtI (lenI s.size) 65536 with
 |true=>
  simp only[ite_tt]
  unfold paE
  simp only[hfz0,hfp]
  rfl
 |false=>
  simp only[ite_ff]
  refine need_at (k:=kPaL) (s:=s) (by show paV s .nilIface 0 0=_; unfold paV mkFz FZ; rfl) rfl ?_
  generalize paX1 s=x
  obtain⟨o,s2,out,c⟩:=x
  cases o with
  |none=>
   simp only[Option.isNone_none,ite_tt,Enc.all_ren,actSelf rfl,frzActs,need_tt]
   simp only[hfz0]
   rfl
  |some p=>
   simp only[Option.isNone_some,ite_ff,Option.getD_some]
   unfold paE
   simp only[hfz0,hfp]
   rfl
end Go.VS.Tryz
end

section
namespace Go.Proofs
open Go.RowKit Go.Shelf
abbrev Tryz.renS:Go.Shelf.Ren:=Tryz.lays169_ren
theorem Tryz.layS:Lays.n169 Tryz.prog Tryz.renS:=Tryz.lays169
theorem Tryz.layX:Builder.Extra Tryz.prog Tryz.renS:=Tryz.Builder_Extra_169
def Tryz.renC:Go.Shelf.Ren:=⟨fun | 240=>40 | 276=>71 | n=>n,fun | 4=>4 | 9=>9 | 20=>20 | 70=>54 | 72=>57 | 37=>55 | 164=>80 | n=>n,fun | n=>n⟩
theorem Tryz.layC:Lays.n240 Tryz.prog Tryz.renC:={
 mixed:=by kernel_rfl
 f240:=Tryz.func40.trans (congrArg some (by kernel_rfl))
 f276:=Tryz.func71.trans (congrArg some (by kernel_rfl))
 t0:=Tryz.underlying0
 a0:=Tryz.isAgg0
 z0:=Tryz.sizeOf0
 v0:=Tryz.zeroValue0
 t4:=Tryz.underlying4
 a4:=Tryz.isAgg4
 z4:=Tryz.sizeOf4
 v4:=Tryz.zeroValue4
 t9:=Tryz.underlying9
 a9:=Tryz.isAgg9
 z9:=Tryz.sizeOf9
 v9:=Tryz.zeroValue9
 t20:=Tryz.underlying20
 a20:=Tryz.isAgg20
 z20:=Tryz.sizeOf20
 v20:=Tryz.zeroValue20
 t70:=Tryz.underlying54
 a70:=Tryz.isAgg54
 z70:=Tryz.sizeOf54
 v70:=Tryz.zeroValue54
 t72:=Tryz.underlying57
 a72:=Tryz.isAgg57
 z72:=Tryz.sizeOf57
 v72:=Tryz.zeroValue57
 t164:=Tryz.underlying80
 a164:=Tryz.isAgg80
 z164:=Tryz.sizeOf80
 v164:=Tryz.zeroValue80 }
theorem Tryz.layCX:Builder.X72 Tryz.prog Tryz.renC:={ sizeBuilder:=by kernel_rfl,liesBuilder:=by kernel_rfl }
theorem Tryz.bld_fresh(b:Nat)(w:World)(h0:w.cell? ⟨b,0,none⟩=some (.pointer none))(hsh:w.shape? b=some (57,2))(hfz:w.frozen? ⟨b,0,none⟩=false) :
  Calls Tryz.prog 40 #[.pointer (some ⟨b,0,none⟩)] w fun e w'=>e = .returned (.tuple #[])∧w'=w.setCell ⟨b,0,none⟩ (.pointer (some ⟨b,0,none⟩)):=
 Any.Builder_copyCheck_fresh Tryz.layC Tryz.layCX b w h0 hsh hfz
theorem Tryz.bld_used(b:Nat)(w:World)(h0:w.cell? ⟨b,0,none⟩=some (.pointer (some ⟨b,0,none⟩))) :
  Calls Tryz.prog 40 #[.pointer (some ⟨b,0,none⟩)] w fun e w'=>e = .returned (.tuple #[])∧w'=w:=
 Any.Builder_copyCheck_used Tryz.layC Tryz.layCX b w h0
variable{P:Program}(w:World)
theorem bytes_lie{e:TypeId}(hc:P.cellsOf e=1)(count o n:Nat)(hn:o+n≤count):liesAt P P.depth e count o e n=true:=by
 have hd:P.depth=(2*(P.types.size+Made.depth)+1)+1:=rfl
 rw[hd]
 simp only[liesAt,Bool.or_eq_true]
 left
 rw[hd]
 simp[rowAt,hc,hn,sameLayout,Nat.mod_one]
theorem unsafeString_at(pt it ty e:TypeId)(hp:P.underlying pt=some (.pointer e))(hc:P.cellsOf e=1)(g o cells:Nat)(hsh:w.shape? g=some (e,cells))(l:List UInt8)(h0:l≠[])(hn:o+l.length≤cells)(h63:l.length≤9223372036854775807)
  (hcell:∀ j x,l[j]? = some x→w.cell? ((⟨g,o,none⟩:Addr).add j)=some (.int .u8 x.toNat)) :
  (Builtin.unsafeString_ #[pt,it] ty #[.pointer (some ⟨g,o,none⟩), .int .i64 l.length]).run P w = .ok (.string ⟨l.toArray⟩) (w.freeze ⟨g,o,none⟩ l.length):=by
 have hl:l.length≠0:=by simpa using h0
 have hlb:=Lib.run_loadBytes (P:=P) w l ⟨g,o,none⟩ .empty hcell
 have hlies:=bytes_lie (P:=P) hc (cells / P.cellsOf e) o l.length (by rw[hc]; simpa using hn)
 have h63':¬(9223372036854775807:Int)<(l.length:Int):=by omega
 have hdef:Builtin.unsafeString_ #[pt,it] ty #[.pointer (some ⟨g,o,none⟩), .int .i64 l.length] =
   (do
    let n ←asInt (.int .i64 l.length)
    if n<0 then runtimePanic (.error "unsafe.String: len out of range")
    if n>IntKind.i64.max then unsupported (.unsafePointer "String: a length above the largest int")
    if n=0 then pure (.string .empty)
    else if ←variablesAt ⟨g,o,none⟩ (←elemOf pt) n.toNat then do
     let s ←loadBytes ⟨g,o,none⟩ .empty n.toNat
     freeze ⟨g,o,none⟩ n.toNat
     pure (.string s)
    else unsupported (.unsafePointer "String: not so many bytes at ptr")):=rfl
 rw[hdef]
 have hmax:IntKind.i64.max=9223372036854775807:=rfl
 have hneg:¬(l.length:Int)<0:=by omega
 simp[asInt,asIntOf,hmax,h63',hneg,hl,variablesAt,hsh,elemOf,run_underlying hp,hlies,hlb]
set_option maxHeartbeats 2000000 in
set_option maxRecDepth 100000 in
theorem Tryz.bld_at(b g o cap:Nat)(l:List UInt8)(w:World)(h0:l≠[])(hcap:l.length≤cap)(h63:l.length≤9223372036854775807)(hb:w.cell? ⟨b,1,none⟩=some (.slice (some ⟨g,o,none⟩) l.length cap))(cells:Nat)(hsh:w.shape? g=some (5,cells))(hn:o+l.length≤cells)
  (hcell:∀ j x,l[j]? = some x→w.cell? ((⟨g,o,none⟩:Addr).add j)=some (.int .u8 x.toNat)) :
  Calls Tryz.prog 19 #[.pointer (some ⟨b,0,none⟩)] w fun e w'=>e = .returned (.string ⟨l.toArray⟩)∧w'=w.drew.freeze ⟨g,o,none⟩ l.length:=by
 have L:Lays.n169 Tryz.prog Tryz.renS:=Tryz.layS
 have X:=Tryz.layX
 have hl0:l.length≠0:=by simpa using h0
 have c1:w.drew.cell? ⟨b,1,none⟩=some (.slice (some ⟨g,o,none⟩) l.length cap):=hb
 have hSD:(Builtin.unsafeSliceData_ #[(Tryz.renS.t 37)] (Tryz.renS.t 127) #[.slice (some ⟨g,o,none⟩) l.length cap]).run Tryz.prog w.drew = .ok (.pointer (some ⟨g,o,none⟩)) w.drew:=
  Lib.run_unsafeSliceData_row _ _ _ _ _ _ (by omega)
 have hUS:(Builtin.unsafeString_ #[(Tryz.renS.t 127),(Tryz.renS.t 3)] (Tryz.renS.t 9) #[.pointer (some ⟨g,o,none⟩), .int .i64 l.length]).run Tryz.prog w.drew = .ok (.string ⟨l.toArray⟩) (w.drew.freeze ⟨g,o,none⟩ l.length):=
  unsafeString_at w.drew _ _ _ (Tryz.renS.t 5) L.t127 X.cellsByte g o cells hsh l h0 hn h63 hcell
 have mixed:=L.mixed
 have t72:=L.t72; have a72:=L.a72; have z72:=L.z72; have v72:=L.v72; have u72:=run_underlying L.t72
 have t70:=L.t70; have a70:=L.a70; have z70:=L.z70; have v70:=L.v70; have u70:=run_underlying L.t70
 have t37:=L.t37; have a37:=L.a37; have z37:=L.z37; have v37:=L.v37; have u37:=run_underlying L.t37
 have t127:=L.t127; have a127:=L.a127; have z127:=L.z127; have v127:=L.v127; have u127:=run_underlying L.t127
 have t3:=L.t3; have a3:=L.a3; have z3:=L.z3; have v3:=L.v3; have u3:=run_underlying L.t3
 have t9:=L.t9; have a9:=L.a9; have z9:=L.z9; have v9:=L.v9; have u9:=run_underlying L.t9
 have t5:=X.t5; have a5:=X.a5; have z5:=X.z5; have v5:=X.v5; have u5:=run_underlying X.t5
 clear hcap hsh hn hcell
 revert L
 intro L
 go_enter L.f169,Body.n169_ntmps Tryz.renS
 go_wp2
 go_region_o
 all_goals (go_wp2; go_ret; exact⟨rfl,rfl⟩)
end Go.Proofs
end

section
namespace Go.VS.Tryz
set_option maxRecDepth 1000000
open Go.VS Go.RowKit
def self0:Value:= .pointer (some ⟨0,0,none⟩)
theorem self_arg{β:Env}{args':Array Value}(h:VRL β [self0] args'.toList):∃ l,β ((0:Nat):Int)=some l∧args'=#[.pointer (some ⟨l.blk,l.base+0,none⟩)]:=by
 obtain⟨l⟩:=args'
 unfold self0 at h
 simp only[VRL]at h
 obtain⟨y,ys,e1,hy,rfl⟩:=h
 simp only[VR]at hy
 obtain⟨_,l0,hl,rfl⟩:=hy
 have e1:l=[.pointer (some ⟨l0.blk,l0.base+0,none⟩)]:=e1
 subst e1
 exact⟨l0,hl,rfl⟩
theorem bld_cells{K:Prot}{β:Env}{w:World}{p v:Value}{rest:List Blk}{l:Loc}(hr:Rel P K β (mkSt (.cells [p,v] 57 true::rest)) w)(hl:β ((0:Nat):Int)=some l) :
  l.virt=false∧l.base=0∧¬K l.blk∧∃ y0 y1 f,w.heap[l.blk]? = some (.cells #[y0,y1] 57 f)∧VR β p y0∧VR β v y1∧(f.2≤f.1∨2≤f.1):=by
 obtain⟨l1,a1,a2,a3⟩:=hr.blk 0 (.cells [p,v] 57 true) (by rw[mkSt_get]; rfl) rfl
 obtain rfl:l1=l:=by rw[a1]at hl; exact Option.some.inj hl
 rcases a3 with⟨q1,q2,q3⟩ | ⟨q0,cc,f,q1,q2,q3,q4,q5,q6,q7⟩
 ·cases q3
 obtain⟨q8,q9,q10⟩:=q5 rfl
 have hsz:cc.size=2:=by rw[q10,←q8]; rfl
 obtain⟨cc⟩:=cc
 have hq:VRL β [p,v] cc:=by
  rw[q9,List.drop_zero,List.take_of_length_le (by simpa using Nat.le_of_eq hsz)]at q6
  exact q6
 simp only[VRL]at hq
 obtain⟨y0,ys,rfl,h0,y1,ys1,rfl,h1,rfl⟩:=hq
 exact⟨q0,q9,a2 q0,y0,y1,f,q1,h0,h1,by simpa using q7.1⟩
theorem cc_crx{p v:Value}{rest:List Blk}(hp:p = .pointer none∨p=self0):CRX P 1 40 [self0] (.cells [p,v] 57 true::rest) (.tuple ⟨[]⟩) (.cells [self0,v] 57 true::rest):=by
 intro K β w args' cs hid ha hr
 obtain⟨l,hl,rfl⟩:=self_arg ha
 obtain⟨hv,hb,hK,y0,y1,f,hh,h0,h1,hf⟩:=bld_cells hr hl
 rw[hb]
 have hc0:w.cell? ⟨l.blk,0,none⟩=some y0:=by unfold World.cell?; simp only[hh]; rfl
 have hsh:w.shape? l.blk=some (57,2):=by unfold World.shape?; simp only[hh]; rfl
 have hfz:w.frozen? ⟨l.blk,0,none⟩=false:=by
  unfold World.frozen?
  obtain⟨lo,hi⟩:=f
  simp only[hh]
  rw[Bool.and_eq_false_iff]
  rcases hf with h | h
  ·by_cases hq:lo≤0
   ·right; exact decide_eq_false (by simp only at h; omega)
   ·left; exact decide_eq_false hq
  ·left; exact decide_eq_false (by simp only at h; omega)
 rcases hp with rfl | rfl
 ·have h0:y0 = .pointer none:=h0
  subst h0
  obtain⟨e1,w',fr,⟨rfl,hw'⟩,hc,h1',l1,l2,l3,fn,l4,l5⟩:=Go.Proofs.Tryz.bld_fresh l.blk w hc0 hsh hfz cs
  have hx:VR β self0 (.pointer (some ⟨l.blk,l.base+0,none⟩)):=by
   unfold self0
   simp only[VR]
   exact⟨trivial,l,hl,rfl⟩
  obtain⟨w2,s1,s2,s3,s4⟩:=hr.setCells (a:=⟨0,0,none⟩) (vs:=[self0]) (st':={ (mkSt (.cells [.pointer none,v] 57 true::rest))with heap:=(mkSt (.cells [.pointer none,v] 57 true::rest)).heap.set 0 (.cells [self0,v] 57 true) }) (by unfold setCells; rw[if_neg (by decide)]; simp only[mkSt_get]; rfl) (VRL.cons hx VRL.nil) hl
  have hrun:(storeCells ⟨l.blk,l.base+0,none⟩ [.pointer (some ⟨l.blk,l.base+0,none⟩)]).run P w = .ok () (w.setCell ⟨l.blk,0,none⟩ (.pointer (some ⟨l.blk,0,none⟩))):=by
   rw[hb]
   simp only[storeCells,Sem.run_bind]
   rw[show((⟨l.blk,0+0,none⟩:Addr).add 0)=⟨l.blk,0,none⟩ from rfl,run_store P w ⟨l.blk,0,none⟩ _ _ (by rfl)]
   simp[hc0,hfz,Result.andThen]
  rw[hrun]at s1
  have hw2:w.setCell ⟨l.blk,0,none⟩ (.pointer (some ⟨l.blk,0,none⟩))=w2:=by
   injection s1
  have hfin:Rel P K β (mkSt (.cells [self0,v] 57 true::rest)) w2:=by
   refine rel_same (st:={ (mkSt (.cells [.pointer none,v] 57 true::rest))with heap:=(mkSt (.cells [.pointer none,v] 57 true::rest)).heap.set 0 (.cells [self0,v] 57 true) }) (fun j=>?_) rfl s2
   show(mkSt (.cells [self0,v] 57 true::rest)).heap.get j=((mkSt (.cells [.pointer none,v] 57 true::rest)).heap.set 0 (.cells [self0,v] 57 true)).get j
   rw[mkSt_get,Trie.get_set,mkSt_get]
   cases j<;>rfl
  rw[hw2]at hw'
  subst hw'
  exact⟨⟨β,fr,w',_,hc,(Env.le.refl β).leN _,hfin,s3,⟨#[],rfl,rfl⟩,l1,l2,l3,h1',fn,by rw[←h1']; exact l4,l5⟩,by simp⟩
 ·have h0:y0 = .pointer (some ⟨l.blk,0,none⟩):=by
   unfold self0 at h0
   simp only[VR]at h0
   obtain⟨_,l',hl',rfl⟩:=h0
   obtain rfl:l'=l:=by rw[hl]at hl'; exact(Option.some.inj hl').symm
   rw[hb]
  subst h0
  obtain⟨e1,w',fr,⟨rfl,rfl⟩,hc,h1',l1,l2,l3,fn,l4,l5⟩:=Go.Proofs.Tryz.bld_used l.blk w hc0 cs
  exact⟨⟨β,fr,w',_,hc,(Env.le.refl β).leN _,hr,Bel.refl _ _,⟨#[],rfl,rfl⟩,l1,l2,l3,h1',fn,by rw[←h1']; exact l4,l5⟩,by simp⟩
theorem esz_byte:esz P 5=1:=by kernel_rfl
theorem bc_flat:∀ l:List UInt8,flatL (bc l)=true
 |[]=>rfl
 |x::l=>by
  have:=bc_flat l
  unfold bc at this ⊢
  simp only[List.map_cons,flatL,flat,this,Bool.and_self]
theorem freeze_bel{w:World}{g o n:Nat}:(w.drew.freeze ⟨g,o,none⟩ n).os=w.os∧(w.drew.freeze ⟨g,o,none⟩ n).tape=w.tape∧(w.drew.freeze ⟨g,o,none⟩ n).output=w.output∧(w.drew.freeze ⟨g,o,none⟩ n).heap.size=w.heap.size∧∀ k,k≠g→(w.drew.freeze ⟨g,o,none⟩ n).heap[k]? = w.heap[k]?:=by
 unfold World.freeze
 split
 ·exact⟨rfl,rfl,rfl,rfl,fun _ _=>rfl⟩
 ·refine⟨rfl,rfl,rfl,by simp only[Array.size_modify]; rfl,fun k hk=>?_⟩
  simp only[Array.getElem?_modify]
  rw[if_neg (fun e=>hk e.symm)]
  rfl
theorem str_crx{p:Value}{l:List UInt8}(h0:l≠[])(h63:l.length≤9223372036854775807):CRX P 1 19 [self0] [.cells [p, .slice (some ⟨1,0,none⟩) l.length unk] 57 true, .cells (bc l) 5 false] (.string ⟨l.toArray⟩) [.cells [p, .slice (some ⟨1,0,none⟩) l.length unk] 57 true, .dead]:=by
 intro K β w args' cs hid ha hr
 obtain⟨l0,hl,rfl⟩:=self_arg ha
 obtain⟨hv,hb,hK,y0,y1,f,hh,hy0,hy1,hf⟩:=bld_cells hr hl
 rw[hb]
 have hl0:l.length≠0:=by simpa using h0
 simp only[VR]at hy1
 obtain⟨_,l1,hl1,hs⟩:=hy1
 obtain⟨l1',a1,a2,a3⟩:=hr.blk 1 (.cells (bc l) 5 false) (by rw[mkSt_get]; rfl) rfl
 obtain rfl:l1'=l1:=by
  have hl1:β ((1:Nat):Int)=some l1:=hl1
  rw[a1]at hl1; exact Option.some.inj hl1
 rcases a3 with⟨q1,q2,q3⟩ | ⟨q0,cc,f1,q1,q2,q3,q4,q5,q6,q7⟩
 ·cases l with
  |nil=>exact absurd rfl h0
  |cons _ _=>cases q2
 have hlen:(bc l).length=l.length:=by unfold bc; rw[List.length_map]
 rw[hlen]at q4 q6
 have q6:=flatL_of (bc_flat l) q6
 unfold SliceR at hs
 rw[if_neg (by rw[q0]; decide),if_neg (by decide),if_pos rfl]at hs
 obtain⟨rfl,_⟩:=hs
 rw[q2,esz_byte,Nat.div_one,Nat.sub_zero]at hh
 have hc1:w.cell? ⟨l0.blk,1,none⟩=some (.slice (some ⟨l1'.blk,l1'.base+0,none⟩) l.length l1'.total):=by unfold World.cell?; simp only[hh]; rfl
 have hcell:∀ j x,l[j]? = some x→w.cell? ((⟨l1'.blk,l1'.base+0,none⟩:Addr).add j)=some (.int .u8 x.toNat):=fun j x hj=>by
  have hlt:j<l.length:=(List.getElem?_eq_some_iff.1 hj).1
  have e:((cc.toList.drop l1'.base).take l.length)[j]? = some (.int .u8 x.toNat):=by
   rw[q6]; unfold bc; rw[List.getElem?_map,hj]; rfl
  rw[List.getElem?_take_of_lt hlt,List.getElem?_drop]at e
  have e2:(⟨l1'.blk,l1'.base+0,none⟩:Addr).add j=⟨l1'.blk,l1'.base+j,none⟩:=by
   unfold Addr.add
   by_cases hj0:j=0
   ·subst hj0; simp
   ·simp[hj0]
  rw[e2]
  unfold World.cell?
  simp only[q1]
  simpa using e
 obtain⟨e1,w',fr,⟨rfl,rfl⟩,hc,h1',k1,k2,k3,fn,k4,k5⟩:=Go.Proofs.Tryz.bld_at l0.blk l1'.blk (l1'.base+0) l1'.total l w h0 q4 h63 hc1 cc.size (by unfold World.shape?; simp only[q1]) (by omega) hcell cs
 obtain⟨z1,z2,z3,z4,z5⟩:=freeze_bel (w:=w) (g:=l1'.blk) (o:=l1'.base+0) (n:=l.length)
 generalize w.drew.freeze ⟨l1'.blk,l1'.base+0,none⟩ l.length=W at *
 have hupd:=hr.update (i:=1) (b':= .dead) (w':=W) (by rw[mkSt_get]; rfl) rfl rfl rfl a1 z4 (fun k hk=>z5 k (hk.resolve_left (by simp[q0]))) trivial
 have hfin:Rel P K β (mkSt [.cells [p, .slice (some ⟨1,0,none⟩) l.length unk] 57 true, .dead]) W:=by
  refine rel_same (st:={ (mkSt [.cells [p, .slice (some ⟨1,0,none⟩) l.length unk] 57 true, .cells (bc l) 5 false])with heap:=(mkSt [.cells [p, .slice (some ⟨1,0,none⟩) l.length unk] 57 true, .cells (bc l) 5 false]).heap.set 1 .dead }) (fun j=>?_) rfl hupd
  show(mkSt [.cells [p, .slice (some ⟨1,0,none⟩) l.length unk] 57 true, .dead]).heap.get j=((mkSt [.cells [p, .slice (some ⟨1,0,none⟩) l.length unk] 57 true, .cells (bc l) 5 false]).heap.set 1 .dead).get j
  rw[mkSt_get,Trie.get_set,mkSt_get]
  match j with
  |0=>rfl
  |1=>rfl
  |_+2=>rfl
 have hbel:Bel K w W:=⟨z1,z2,z3,by rw[z4]; exact Nat.le_refl _,fun k hk=>z5 k (fun e=>a2 q0 (e▸hk))⟩
 exact⟨⟨β,fr,W,_,hc,(Env.le.refl β).leN _,hfin,hbel,rfl,k1,k2,k3,h1',fn,by rw[←h1']; exact k4,k5⟩,by simp⟩
end Go.VS.Tryz
end

section
namespace Go.Proofs
open Go.RowKit Go.Shelf
set_option maxHeartbeats 2000000 in
set_option maxRecDepth 100000 in
theorem Tryz.bld_nil(b:Nat)(w:World)(hb:w.cell? ⟨b,1,none⟩=some (.slice none 0 0)):Calls Tryz.prog 19 #[.pointer (some ⟨b,0,none⟩)] w fun e w'=>e = .returned (.string ⟨#[]⟩)∧w'=w.drew:=by
 have L:Lays.n169 Tryz.prog Tryz.renS:=Tryz.layS
 have X:=Tryz.layX
 have hUS:=Any.unsafeString_none L X
 have c1:w.drew.cell? ⟨b,1,none⟩=some (.slice none 0 0):=hb
 have hSD:(Builtin.unsafeSliceData_ #[(Tryz.renS.t 37)] (Tryz.renS.t 127) #[.slice none 0 0]).run Tryz.prog w.drew = .ok (.pointer none) w.drew:=rfl
 have mixed:=L.mixed
 have t72:=L.t72; have a72:=L.a72; have z72:=L.z72; have v72:=L.v72; have u72:=run_underlying L.t72
 have t70:=L.t70; have a70:=L.a70; have z70:=L.z70; have v70:=L.v70; have u70:=run_underlying L.t70
 have t37:=L.t37; have a37:=L.a37; have z37:=L.z37; have v37:=L.v37; have u37:=run_underlying L.t37
 have t127:=L.t127; have a127:=L.a127; have z127:=L.z127; have v127:=L.v127; have u127:=run_underlying L.t127
 have t3:=L.t3; have a3:=L.a3; have z3:=L.z3; have v3:=L.v3; have u3:=run_underlying L.t3
 have t9:=L.t9; have a9:=L.a9; have z9:=L.z9; have v9:=L.v9; have u9:=run_underlying L.t9
 have t5:=X.t5; have a5:=X.a5; have z5:=X.z5; have v5:=X.v5; have u5:=run_underlying X.t5
 revert L
 intro L
 go_enter L.f169,Body.n169_ntmps Tryz.renS
 go_wp2
 go_region_o
 all_goals (go_wp2; go_ret; exact⟨rfl,rfl⟩)
end Go.Proofs
namespace Go.VS.Tryz
set_option maxRecDepth 1000000
open Go.VS Go.RowKit
theorem str0_crx:CRX P 1 19 [self0] [.cells [.pointer none, .slice none 0 0] 57 true] (.string ⟨#[]⟩) [.cells [.pointer none, .slice none 0 0] 57 true]:=by
 intro K β w args' cs hid ha hr
 obtain⟨l0,hl,rfl⟩:=self_arg ha
 obtain⟨hv,hb,hK,y0,y1,f,hh,hy0,hy1,hf⟩:=bld_cells hr hl
 rw[hb]
 have hy1:y1 = .slice none 0 0:=VR.of_flat (.slice none 0 0) _ rfl hy1
 subst hy1
 have hc1:w.cell? ⟨l0.blk,1,none⟩=some (.slice none 0 0):=by unfold World.cell?; simp only[hh]; rfl
 obtain⟨e1,w',fr,⟨rfl,rfl⟩,hc,h1',k1,k2,k3,fn,k4,k5⟩:=Go.Proofs.Tryz.bld_nil l0.blk w hc1 cs
 have q:=hr.below (w':=w.drew) ⟨rfl,rfl,rfl,Nat.le_refl _,fun k hk=>rfl⟩
 exact⟨⟨β,fr,w.drew,_,hc,(Env.le.refl β).leN _,q.1,q.2,rfl,k1,k2,k3,h1',fn,by rw[←h1']; exact k4,k5⟩,by simp⟩
def kS0:Con Unit where
 enc _:=([self0],[.cells [.pointer none, .slice none 0 0] 57 true])
 ok _:=True
 inj a b h:=rfl
 dflt:=()
theorem s0_ok:CallOkX P 1 19 (conM kS0.C kS0.D fun _=> .leaf (.string ⟨#[]⟩,[.cells [.pointer none, .slice none 0 0] 57 true])):=conX_ok kS0 fun t ho v bs' hev=>by
 simp only[DT.eval,Option.some.injEq,Prod.mk.injEq]at hev
 obtain⟨rfl,rfl⟩:=hev
 exact str0_crx
end Go.VS.Tryz
end

section
namespace Go.VS.Tryz
set_option maxRecDepth 1000000
open Go.VS Go.RowKit
def lookT:List (ByteArray×Value)→ByteArray→Option Value
 |[],_=>none
 |p::l,s=>match eqS p.1 s with
  |true=>some p.2
  |false=>lookT l s
theorem lookT_mem:∀ {T:List (ByteArray×Value)} {s:ByteArray} {v:Value},lookT T s=some v→(s,v)∈T
 |[],_,_,h=>by cases h
 |p::l,s,v,h=>by
  simp only[lookT]at h
  cases hq:eqS p.1 s with
  |true=>
   rw[hq]at h
   obtain rfl:=Option.some.inj h
   have hs:s=p.1:=ba_ext (eqS_word hq)
   subst hs
   exact List.mem_cons_self ..
  |false=>
   rw[hq]at h
   exact List.mem_cons_of_mem _ (lookT_mem h)
def RtabV(T:List (ByteArray×Value)):CallFnM:=fun args bs=>match args,bs with
 |[.string s],[]=>(lookT T s).map fun v=> .leaf (v,[])
 |_,_=>none
theorem tab_ok{g:FuncId}{T:List (ByteArray×Value)}(h:∀ p∈T,CRX P 0 g [.string p.1] [] p.2 []):CallOkX P 0 g (RtabV T):=⟨fun args bs t hR v bs' hev=>by
 unfold RtabV at hR
 split at hR
 ·rename_i s
  cases hl:lookT T s with
  |none=>rw[hl]at hR; cases hR
  |some v0=>
   rw[hl]at hR
   obtain rfl:=Option.some.inj hR
   simp only[DT.eval,Option.some.injEq,Prod.mk.injEq]at hev
   obtain⟨rfl,rfl⟩:=hev
   exact h _ (lookT_mem hl)
 ·cases hR⟩
theorem parse_crx(s:ByteArray)(h:s.size≤4194302):CRX P 0 14 [.string s] [] (.tuple ⟨[fzActs (parseM s).2,paE (parseM s).1]⟩) []:=
 CRX.of (engOk (ctPs s)) noNum (addCallX_ok (addLoopX_ok ctF_ok (oneL_ok kPaL pa_loopOk (s:=s) h)) ref_ok) (parse_run s)
def oneA(a:ActM):Value:= .tuple ⟨[fzActs [a], .nilIface]⟩
theorem parse_one{s:ByteArray}{a:ActM}(h:s.size≤4194302)(e:parseM s=(none,[a])):CRX P 0 14 [.string s] [] (oneA a) []:=by
 have q:=parse_crx s h
 rw[e]at q
 exact q
def lnP:List (ByteArray×Value):=[
 (⟨#[99,111,109,109,105,116,32,48,32,112,117,116,32,97,32,49]⟩,oneA ⟨1,0,0,0,⟨#[]⟩,[⟨true,⟨#[97]⟩,⟨#[49]⟩⟩]⟩),
 (⟨#[99,111,109,109,105,116,32,48,32,112,117,116,32,98,32,50]⟩,oneA ⟨1,0,0,0,⟨#[]⟩,[⟨true,⟨#[98]⟩,⟨#[50]⟩⟩]⟩),
 (⟨#[99,111,109,109,105,116,32,48,32,112,117,116,32,99,32,51]⟩,oneA ⟨1,0,0,0,⟨#[]⟩,[⟨true,⟨#[99]⟩,⟨#[51]⟩⟩]⟩),
 (⟨#[114,101,97,100,32,48,32,97]⟩,oneA ⟨2,0,0,0,⟨#[97]⟩,[]⟩),
 (⟨#[114,101,97,100,32,48,32,120]⟩,oneA ⟨2,0,0,0,⟨#[120]⟩,[]⟩)]
theorem pr_0:parseM ⟨#[99,111,109,109,105,116,32,48,32,112,117,116,32,97,32,49]⟩=(none,[⟨1,0,0,0,⟨#[]⟩,[⟨true,⟨#[97]⟩,⟨#[49]⟩⟩]⟩]):=by kernel_rfl
theorem pr_1:parseM ⟨#[99,111,109,109,105,116,32,48,32,112,117,116,32,98,32,50]⟩=(none,[⟨1,0,0,0,⟨#[]⟩,[⟨true,⟨#[98]⟩,⟨#[50]⟩⟩]⟩]):=by kernel_rfl
theorem pr_2:parseM ⟨#[99,111,109,109,105,116,32,48,32,112,117,116,32,99,32,51]⟩=(none,[⟨1,0,0,0,⟨#[]⟩,[⟨true,⟨#[99]⟩,⟨#[51]⟩⟩]⟩]):=by kernel_rfl
theorem pr_3:parseM ⟨#[114,101,97,100,32,48,32,97]⟩=(none,[⟨2,0,0,0,⟨#[97]⟩,[]⟩]):=by kernel_rfl
theorem pr_4:parseM ⟨#[114,101,97,100,32,48,32,120]⟩=(none,[⟨2,0,0,0,⟨#[120]⟩,[]⟩]):=by kernel_rfl
theorem lnP_ok:CallOkX P 0 14 (RtabV lnP):=tab_ok fun p hp=>by
 unfold lnP at hp
 simp only[List.mem_cons,List.not_mem_nil,or_false]at hp
 rcases hp with rfl | rfl | rfl | rfl | rfl
 ·exact parse_one (by decide) pr_0
 ·exact parse_one (by decide) pr_1
 ·exact parse_one (by decide) pr_2
 ·exact parse_one (by decide) pr_3
 ·exact parse_one (by decide) pr_4
theorem dec_blankA(x:Int):callQ P E noCt 50 28 [.int .i32 x] =
 (some ((Value.bool (eqI x (32:Int))),(mkSt []))):=by kernel_rfl
theorem blankA_ok(x:Int):CR P 28 [.int .i32 x] (.bool (eqI x 32)) []:=CR.of (engOk noCt) noNum (noCt_ok P) (n:=50) (dec_blankA x)
def RffA:CallFnM:=fun args bs=>match args,bs with
 |[.string s, .func (.func g) ⟨[]⟩ ⟨[]⟩],[]=>match Nat.beq g 28,Nat.ble s.size 4194304 with
  |true,true=>some (.leaf (fzS (wordsL s),[]))
  |_,_=>none
 |_,_=>none
theorem ffA_ok:CallOkX P 0 27 RffA:=⟨fun args bs t hR v bs' hev=>by
 unfold RffA at hR
 split at hR
 ·rename_i s g
  split at hR
  ·rename_i hg ho
   obtain rfl:=Option.some.inj hR
   simp only[DT.eval,Option.some.injEq,Prod.mk.injEq]at hev
   obtain⟨rfl,rfl⟩:=hev
   obtain rfl:=Nat.eq_of_beq_eq_true hg
   have ho:=Nat.le_of_ble_eq_true ho
   refine CRX.ofRow (t:=9) (by decide) (flat_strs _) fun w args' hG ⟨β,ha⟩=>?_
   have ea:args'=#[.string s, .func (.func 28) #[] #[]]:=by
    obtain⟨l⟩:=args'
    simp only[VRL]at ha
    obtain⟨y,ys,e,hy,z,zs,rfl,hz,rfl⟩:=ha
    have hy:y = .string s:=hy
    subst hy
    obtain⟨f',a',b',rfl,hf,h1,h2⟩:=hz
    have hf:f' = .func 28:=hf
    subst hf
    simp only[VRA,VRL]at h1 h2
    have h1:a'=#[]:=by apply Array.ext'; exact h1
    have h2:b'=#[]:=by apply Array.ext'; exact h2
    subst h1 h2
    rw[e]
   subst ea
   have hw:=Go.Proofs.Tryz.strings_FieldsFunc_grows 28 #[] (Go.Proofs.enters_of Go.Proofs.Tryz.func28 (by kernel_rfl) rfl) (fun x=>eqI x 32) s w (by omega) (fun W x hx hb=>by
    have:=(blankA_ok (x:Int)).calls (w:=W) (args':=#[.int .i32 x]) rfl (by
     intro p hp
     obtain⟨o,h1,h2⟩:=hG p hp
     refine⟨o,?_,h2⟩
     rw[hb.block p.1 (Array.getElem?_eq_some_iff.1 h1).1]; exact h1) (VRL.cons rfl VRL.nil)
    exact this)
   refine hw.mono fun e w' ⟨A,h1,h2,h3,h4⟩=>⟨A,?_,h2,?_,h4⟩
   ·rw[h1]; rfl
   ·exact h3
  ·cases hR
 ·cases hR⟩
def polB:Pol:=fun t=>match Nat.beq t 57 with
 |true=>some [.val, .own]
 |false=>none
def RccC:CallFnM:=fun args bs=>match args,bs with
 |[.pointer (some ⟨0,0,none⟩)], .cells [p,v] t true::rest=>match Nat.beq t 57,or (beqV p self0) (beqV p (.pointer none))with
  |true,true=>some (.leaf (.tuple ⟨[]⟩, .cells [self0,v] t true::rest))
  |_,_=>none
 |_,_=>none
theorem ccC_ok:CallOkX P 1 40 RccC:=⟨fun args bs t hR v bs' hev=>by
 unfold RccC at hR
 split at hR
 ·rename_i p v0 t0 rest
  split at hR
  ·rename_i ht hp
   obtain rfl:=Option.some.inj hR
   simp only[DT.eval,Option.some.injEq,Prod.mk.injEq]at hev
   obtain⟨rfl,rfl⟩:=hev
   obtain rfl:=Nat.eq_of_beq_eq_true ht
   refine cc_crx ?_
   rcases Bool.or_eq_true_iff.1 hp with hp | hp
   ·exact Or.inr (beqV_eq _ _ hp)
   ·exact Or.inl (beqV_eq _ _ hp)
  ·cases hR
 ·cases hR⟩
def RstC:CallFnM:=fun args bs=>match args,bs with
 |[.pointer (some ⟨0,0,none⟩)],[.cells [p, .slice (some ⟨1,0,none⟩) n c] t true, .cells (x::d) u false]=>match bytesOf (x::d)with
  |some l=>match and (beqVL (x::d) (bc l)) (and (Nat.beq n l.length) (and (Nat.beq c unk) (and (Nat.beq t 57) (and (Nat.beq u 5) (Nat.ble l.length 9223372036854775807)))))with
   |true=>some (.leaf (.string ⟨⟨l⟩⟩,[.cells [p, .slice (some ⟨1,0,none⟩) n c] t true, .dead]))
   |false=>none
  |none=>none
 |_,_=>none
theorem stC_ok:CallOkX P 1 19 RstC:=⟨fun args bs t hR v bs' hev=>by
 unfold RstC at hR
 split at hR
 ·rename_i p n c t0 x d u
  split at hR
  ·rename_i l hl
   split at hR
   ·rename_i hc
    obtain rfl:=Option.some.inj hR
    simp only[DT.eval,Option.some.injEq,Prod.mk.injEq]at hev
    obtain⟨rfl,rfl⟩:=hev
    have hc:(beqVL (x::d) (bc l)&&(Nat.beq n l.length&&(Nat.beq c unk&&(Nat.beq t0 57&&(Nat.beq u 5&&Nat.ble l.length 9223372036854775807)))))=true:=hc
    simp only[Bool.and_eq_true,Nat.beq_eq]at hc
    obtain⟨h1,rfl,rfl,rfl,rfl,h6⟩:=hc
    rw[beqVL_eq _ _ h1]
    refine str_crx (p:=p) (l:=l) ?_ (Nat.le_of_ble_eq_true h6)
    rintro rfl
    cases beqVL_eq _ _ h1
   ·cases hR
  ·cases hR
 ·cases hR⟩
noncomputable def ctCo:Ct:=addCallX P polD 0 14 (RtabV lnP) (addCallX P polD 0 27 RffA (addCallX P polB 1 40 RccC (addCallX P polB 1 19 RstC
 (addCall P 11 (RcutV lnA lnB lnF) (addCall P 53 (RatoV szS atoK atoV) (addCall P 54 (RitoV inR itoS) noCt))))))
theorem ctCo_ok:CtOk P ctCo:=addCallX_ok (addCallX_ok (addCallX_ok (addCallX_ok (addCall_ok (addCall_ok (addCall_ok (noCt_ok P) ito_ok) ato_ok) cut_ok) stC_ok) ccC_ok) ffA_ok) lnP_ok
end Go.VS.Tryz
end

section
namespace Go.VS.Tryz
set_option maxRecDepth 1000000
open Go.VS Go.RowKit
def szB(s:ByteArray):Bool:=Nat.ble s.size 9223372036854775807
def RcutW(C:ByteArray→Bool)(A B:ByteArray→ByteArray)(F:ByteArray→Bool):CallFn
 |[.string s, .string ⟨⟨[10]⟩⟩]=>some (.ite (C s) (.leaf (.tuple ⟨[.string (A s), .string (B s), .bool (F s)]⟩,[])) .fail)
 |_=>none
theorem cutW_ok:CallOkR P 11 (RcutW szB lnA lnB lnF):=by
 refine ok_of (addCall_ok (noCt_ok P) ix_ok) (n:=50) fun args t hR v bs hev=>?_
 unfold RcutW at hR
 split at hR
 ·rename_i s
  obtain rfl:=Option.some.inj hR
  cases hc:szB s with
  |false=>rw[hc]at hev; cases hev
  |true=>
   rw[hc]at hev
   simp only[DT.eval,Option.some.injEq,Prod.mk.injEq]at hev
   obtain⟨rfl,rfl⟩:=hev
   exact cut_run (Nat.le_of_ble_eq_true hc)
 ·cases hR
noncomputable def Bpl:Code:=(loopAt P 6 0).getD .skip
theorem Bpl_eq:loopAt P 6 0=some Bpl:=by kernel_rfl
theorem Bpl_occ:Occ P 6 (.block 0 (.loop Bpl)):=loopAt_has Bpl_eq
noncomputable def ctPlv(C:ByteArray→Bool)(A B:ByteArray→ByteArray)(F:ByteArray→Bool):Ct:=addCall P 11 (RcutW C A B F) noCt
theorem ctPl_ok:CtOk P (ctPlv szB lnA lnB lnF):=addCall_ok (noCt_ok P) cutW_ok
def bl0:Blk:= .cells [.pointer none, .slice none 0 0] 57 true
def co0:Blk:= .cells [.bool false, .pointer none, .int .i64 0] 25 true
def Dn:HeadX:=⟨1,30,[0,1,5],[.val, .val, .val],[],polD⟩
def Du:HeadX:=⟨2,30,[0,1,5],[.val, .val, .val],[],polD⟩
theorem dec_pn(C:ByteArray→Bool)(A B:ByteArray→ByteArray)(F:ByteArray→Bool)(s:ByteArray):roundQX P E (ctPlv C A B F) 50 6 Bpl Dn [.pointer none, .string s, .pointer (some ⟨0,0,none⟩)] [.cells [.pointer none, .slice none 0 0] 57 true] =
 (iteB (neS s (ByteArray.mk #[]))
 (needB (C s)
 (some ((Value.tuple (Array.mk [(Value.int IntKind.i64 (0:Int)),(Value.pointer none),(Value.string (B s)),(Value.pointer (Option.some (Addr.mk 0 0 none)))])),(mkSt [(Blk.cells [(Value.pointer none),(Value.slice none 0 0)] 57 Bool.true)]))))
 (some ((Value.tuple (Array.mk [(Value.int IntKind.i64 (1:Int)),(Value.pointer none),(Value.string s),(Value.pointer (Option.some (Addr.mk 0 0 none)))])),(mkSt [(Blk.cells [(Value.pointer none),(Value.slice none 0 0)] 57 Bool.true)])))):=by kernel_rfl
theorem dec_pu(C:ByteArray→Bool)(A B:ByteArray→ByteArray)(F:ByteArray→Bool)(s:ByteArray):roundQX P E (ctPlv C A B F) 50 6 Bpl Du [.pointer (some ⟨0,0,none⟩), .string s, .pointer (some ⟨1,0,none⟩)] [.cells [.bool false, .pointer none, .int .i64 0] 25 true, .cells [.pointer none, .slice none 0 0] 57 true] =
 (iteB (neS s (ByteArray.mk #[]))
 (needB (C s)
 (some ((Value.tuple (Array.mk [(Value.int IntKind.i64 (0:Int)),(Value.pointer (Option.some (Addr.mk 0 0 none))),(Value.string (B s)),(Value.pointer (Option.some (Addr.mk 1 0 none)))])),(mkSt [(Blk.cells [(Value.bool Bool.false),(Value.pointer none),(Value.int IntKind.i64 (0:Int))] 25 Bool.true),(Blk.cells [(Value.pointer none),(Value.slice none 0 0)] 57 Bool.true)]))))
 (some ((Value.tuple (Array.mk [(Value.int IntKind.i64 (1:Int)),(Value.pointer (Option.some (Addr.mk 0 0 none))),(Value.string s),(Value.pointer (Option.some (Addr.mk 1 0 none)))])),(mkSt [(Blk.cells [(Value.bool Bool.false),(Value.pointer none),(Value.int IntKind.i64 (0:Int))] 25 Bool.true),(Blk.cells [(Value.pointer none),(Value.slice none 0 0)] 57 Bool.true)])))):=by kernel_rfl
end Go.VS.Tryz
end

section
namespace Go.VS.Tryz
open Go.VS Go.RowKit
set_option maxRecDepth 10000000 in
theorem lives_true:isTrue (evCall P ctCo 2000 7 [] (start 0))=true:=by kernel_rfl
end Go.VS.Tryz
end

section
namespace Go.VS.Tryz
set_option maxRecDepth 1000000
open Go.VS Go.RowKit
theorem szB_of{s:ByteArray}(h:s.size≤9223372036854775807):szB s=true:=Nat.ble_eq_true_of_le h
theorem str_nil{s:ByteArray}(h:s.size=0):s=⟨#[]⟩:=ba_ext (by
 have:=ba_len s
 rw[h]at this
 exact List.length_eq_zero_iff.1 this)
def pnV(s:ByteArray):List Value:=[.pointer none, .string s, .pointer (some ⟨0,0,none⟩)]
def pnB:List Blk:=[bl0]
theorem pn_round{s:ByteArray}(h0:s.size≠0)(h:s.size≤9223372036854775807):roundQX P E (ctPlv szB lnA lnB lnF) 50 6 Bpl Dn (pnV s) pnB=some (.tuple ⟨exV .normal::pnV (lnB s)⟩,mkSt pnB):=by
 refine Eq.trans ?_ ((dec_pn szB lnA lnB lnF s).trans ?_)
 ·rfl
 rw[ne_str h0,szB_of h]
 rfl
theorem pn_end:roundQX P E (ctPlv szB lnA lnB lnF) 50 6 Bpl Dn (pnV ⟨#[]⟩) pnB=some (.tuple ⟨exV (.exit 0)::pnV ⟨#[]⟩⟩,mkSt pnB):=by
 refine Eq.trans ?_ ((dec_pn szB lnA lnB lnF ⟨#[]⟩).trans ?_)
 ·rfl
 have g:neS ⟨#[]⟩ ⟨#[]⟩=false:=by kernel_rfl
 rw[g]
 rfl
theorem pn_loop:∀ (k:Nat) (s:ByteArray),s.size≤k→s.size≤9223372036854775807→LRX P 6 0 Bpl Dn.head (pnV s) pnB .normal (pnV ⟨#[]⟩) pnB
 |0,s,hk,h=>by
  obtain rfl:=str_nil (s:=s) (by omega)
  exact LRX.stop (n:=50) (engOk _) noNum ctPl_ok Bpl_occ (e:= .exit 0) pn_end (by intro h; cases h)
 |k+1,s,hk,h=>by
  by_cases h0:s.size=0
  ·obtain rfl:=str_nil h0
   exact LRX.stop (n:=50) (engOk _) noNum ctPl_ok Bpl_occ (e:= .exit 0) pn_end (by intro h; cases h)
  ·have hb:=(lnA_size s).2 h0
   exact LRX.again (n:=50) (engOk _) noNum ctPl_ok Bpl_occ (pn_round h0 h) (pn_loop k (lnB s) (by omega) (by omega))
def kPn:Con ByteArray where
 enc s:=(pnV s,pnB)
 ok s:=s.size≤9223372036854775807
 inj a b h:=by
  unfold pnV at h
  simp only[Prod.mk.injEq,List.cons.injEq,Value.string.injEq,true_and,and_true]at h
  exact h
 dflt:=default
theorem pn_loopOk:LoopOkX P 6 0 Bpl Dn.head (conL kPn.C kPn.D fun _=> .leaf (.normal,pnV ⟨#[]⟩,pnB)):=
 conLX_ok kPn (loopAt_occ Bpl_eq) fun s ho e vs' bs' hev=>by
  simp only[DT.eval,Option.some.injEq,Prod.mk.injEq]at hev
  obtain⟨rfl,rfl,rfl⟩:=hev
  exact pn_loop s.size s (Nat.le_refl _) ho
def puV(s:ByteArray):List Value:=[.pointer (some ⟨0,0,none⟩), .string s, .pointer (some ⟨1,0,none⟩)]
def puB:List Blk:=[co0,bl0]
theorem pu_round{s:ByteArray}(h0:s.size≠0)(h:s.size≤9223372036854775807):roundQX P E (ctPlv szB lnA lnB lnF) 50 6 Bpl Du (puV s) puB=some (.tuple ⟨exV .normal::puV (lnB s)⟩,mkSt puB):=by
 refine Eq.trans ?_ ((dec_pu szB lnA lnB lnF s).trans ?_)
 ·rfl
 rw[ne_str h0,szB_of h]
 rfl
theorem pu_end:roundQX P E (ctPlv szB lnA lnB lnF) 50 6 Bpl Du (puV ⟨#[]⟩) puB=some (.tuple ⟨exV (.exit 0)::puV ⟨#[]⟩⟩,mkSt puB):=by
 refine Eq.trans ?_ ((dec_pu szB lnA lnB lnF ⟨#[]⟩).trans ?_)
 ·rfl
 have g:neS ⟨#[]⟩ ⟨#[]⟩=false:=by kernel_rfl
 rw[g]
 rfl
theorem pu_loop:∀ (k:Nat) (s:ByteArray),s.size≤k→s.size≤9223372036854775807→LRX P 6 0 Bpl Du.head (puV s) puB .normal (puV ⟨#[]⟩) puB
 |0,s,hk,h=>by
  obtain rfl:=str_nil (s:=s) (by omega)
  exact LRX.stop (n:=50) (engOk _) noNum ctPl_ok Bpl_occ (e:= .exit 0) pu_end (by intro h; cases h)
 |k+1,s,hk,h=>by
  by_cases h0:s.size=0
  ·obtain rfl:=str_nil h0
   exact LRX.stop (n:=50) (engOk _) noNum ctPl_ok Bpl_occ (e:= .exit 0) pu_end (by intro h; cases h)
  ·have hb:=(lnA_size s).2 h0
   exact LRX.again (n:=50) (engOk _) noNum ctPl_ok Bpl_occ (pu_round h0 h) (pu_loop k (lnB s) (by omega) (by omega))
def kPu:Con ByteArray where
 enc s:=(puV s,puB)
 ok s:=s.size≤9223372036854775807
 inj a b h:=by
  unfold puV at h
  simp only[Prod.mk.injEq,List.cons.injEq,Value.string.injEq,true_and,and_true]at h
  exact h
 dflt:=default
theorem pu_loopOk:LoopOkX P 6 0 Bpl Du.head (conL kPu.C kPu.D fun _=> .leaf (.normal,puV ⟨#[]⟩,puB)):=
 conLX_ok kPu (loopAt_occ Bpl_eq) fun s ho e vs' bs' hev=>by
  simp only[DT.eval,Option.some.injEq,Prod.mk.injEq]at hev
  obtain⟨rfl,rfl,rfl⟩:=hev
  exact pu_loop s.size s (Nat.le_refl _) ho
noncomputable def ctNn(LC SC:List Value→List Blk→Bool):Ct:=addLoopX P 6 0 Dn (oneL LC (.leaf (.normal,[.pointer none, .string ⟨#[]⟩, .pointer (some ⟨0,0,none⟩)],[bl0]))) (addCallX P polD 1 19 (oneM SC (.leaf (.string ⟨#[]⟩,[bl0]))) ctF)
noncomputable def ctNu(LC SC:List Value→List Blk→Bool):Ct:=addLoopX P 6 0 Du (oneL LC (.leaf (.normal,[.pointer (some ⟨0,0,none⟩), .string ⟨#[]⟩, .pointer (some ⟨1,0,none⟩)],[co0,bl0]))) (addCallX P polD 1 19 (oneM SC (.leaf (.string ⟨#[]⟩,[bl0]))) ctF)
theorem dec_ppn(LC SC:List Value→List Blk→Bool)(s:ByteArray):callQX P E (ctNn LC SC) 50 polD [] [] 0 6 [.pointer none, .string s] [] =
 (needB (LC [(Value.pointer none),(Value.string s),(Value.pointer (Option.some (Addr.mk 0 0 none)))] [(Blk.cells [(Value.pointer none),(Value.slice none 0 0)] 57 Bool.true)])
 (needB (SC [(Value.pointer (Option.some (Addr.mk 0 0 none)))] [(Blk.cells [(Value.pointer none),(Value.slice none 0 0)] 57 Bool.true)])
 (some ((Value.string (ByteArray.mk #[])),(mkSt []))))):=by kernel_rfl
theorem dec_ppu(LC SC:List Value→List Blk→Bool)(s:ByteArray):callQX P E (ctNu LC SC) 50 polD [] [] 1 6 [.pointer (some ⟨0,0,none⟩), .string s] [.cells [.bool false, .pointer none, .int .i64 0] 25 true] =
 (needB (LC [(Value.pointer (Option.some (Addr.mk 0 0 none))),(Value.string s),(Value.pointer (Option.some (Addr.mk 1 0 none)))] [(Blk.cells [(Value.bool Bool.false),(Value.pointer none),(Value.int IntKind.i64 (0:Int))] 25 Bool.true),(Blk.cells [(Value.pointer none),(Value.slice none 0 0)] 57 Bool.true)])
 (needB (SC [(Value.pointer (Option.some (Addr.mk 0 0 none)))] [(Blk.cells [(Value.pointer none),(Value.slice none 0 0)] 57 Bool.true)])
 (some ((Value.string (ByteArray.mk #[])),(mkSt [(Blk.cells [(Value.bool Bool.false),(Value.pointer none),(Value.int IntKind.i64 (0:Int))] 25 Bool.true)]))))):=by kernel_rfl
theorem play_nil{s:ByteArray}(h:s.size≤9223372036854775807):CRX P 0 6 [.pointer none, .string s] [] (.string ⟨#[]⟩) []:=
 CRX.of (engOk (ctNn (kPn.at s) (kS0.at ()))) noNum (addLoopX_ok (addCallX_ok ctF_ok (oneM_ok kS0 s0_ok (s:=()) trivial)) (oneL_ok kPn pn_loopOk (s:=s) h)) (n:=50) (pol:=polD) (fl:=[]) (ts:=[])
  ((dec_ppn (kPn.at s) (kS0.at ()) s).trans (need_at (k:=kPn) (s:=s) rfl rfl (need_at (k:=kS0) (s:=()) rfl rfl rfl)))
theorem play_made{s:ByteArray}(h:s.size≤9223372036854775807):CRX P 1 6 [.pointer (some ⟨0,0,none⟩), .string s] [co0] (.string ⟨#[]⟩) [co0]:=
 CRX.of (engOk (ctNu (kPu.at s) (kS0.at ()))) noNum (addLoopX_ok (addCallX_ok ctF_ok (oneM_ok kS0 s0_ok (s:=()) trivial)) (oneL_ok kPu pu_loopOk (s:=s) h)) (n:=50) (pol:=polD) (fl:=[]) (ts:=[])
  ((dec_ppu (kPu.at s) (kS0.at ()) s).trans (need_at (k:=kPu) (s:=s) rfl rfl (need_at (k:=kS0) (s:=()) rfl rfl rfl)))
def RplN(C:ByteArray→Bool):CallFn
 |[.pointer none, .string s]=>some (.ite (C s) (.leaf (.string ⟨#[]⟩,[])) .fail)
 |_=>none
def RplU(C:ByteArray→Bool):CallFnM:=fun args bs=>match args,bs with
 |[.pointer (some ⟨0,0,none⟩), .string s],[.cells [.bool false, .pointer none, .int .i64 0] t true]=>match Nat.beq t 25 with
  |true=>some (.ite (C s) (.leaf (.string ⟨#[]⟩,[.cells [.bool false, .pointer none, .int .i64 0] t true])) .fail)
  |false=>none
 |_,_=>none
theorem plN_ok:CallOkR P 6 (RplN szB):=by
 refine⟨fun args t hR v bs hev=>?_⟩
 unfold RplN at hR
 split at hR
 ·rename_i s
  obtain rfl:=Option.some.inj hR
  cases hc:szB s with
  |false=>rw[hc]at hev; cases hev
  |true=>
   rw[hc]at hev
   simp only[DT.eval,Option.some.injEq,Prod.mk.injEq]at hev
   obtain⟨rfl,rfl⟩:=hev
   exact CR.ofX (play_nil (Nat.le_of_ble_eq_true hc))
 ·cases hR
theorem plU_ok:CallOkX P 1 6 (RplU szB):=⟨fun args bs t hR v bs' hev=>by
 unfold RplU at hR
 split at hR
 ·rename_i s t0
  split at hR
  ·rename_i ht
   obtain rfl:=Option.some.inj hR
   obtain rfl:=Nat.eq_of_beq_eq_true ht
   cases hc:szB s with
   |false=>rw[hc]at hev; cases hev
   |true=>
    rw[hc]at hev
    simp only[DT.eval,Option.some.injEq,Prod.mk.injEq]at hev
    obtain⟨rfl,rfl⟩:=hev
    exact play_made (Nat.le_of_ble_eq_true hc)
  ·cases hR
 ·cases hR⟩
def Rlv:CallFn
 |[]=>some (.leaf (.bool true,[]))
 |_=>none
theorem lives_cr:CR P 7 [] (.bool true) []:=CR.ofCalls rfl fun w args' hG ha=>by
 have e:args'.toList=[]:=by simpa only[VRL]using ha
 exact isTrue_calls noNum ctCo_ok lives_true (by rw[e]; exact VRL.nil) hG
theorem lv_ok:CallOkR P 7 Rlv:=by
 refine⟨fun args t hR v bs hev=>?_⟩
 unfold Rlv at hR
 split at hR
 ·obtain rfl:=Option.some.inj hR
  simp only[DT.eval,Option.some.injEq,Prod.mk.injEq]at hev
  obtain⟨rfl,rfl⟩:=hev
  exact lives_cr
 ·cases hR
noncomputable def orCt(a b:Ct):Ct where
 call:=fun g args st=>match a.call g args st with
  |some t=>some t
  |none=>b.call g args st
 loop:=b.loop
 op:=b.op
theorem orCt_ok{a b:Ct}(ha:CtOk P a)(hb:CtOk P b):CtOk P (orCt a b) where
 opc:=hb.opc
 op:=hb.op
 loop:=hb.loop
 call:=by
  intro K g args st v st' h
  simp only[orCt]at h
  cases hc:a.call g args st with
  |some t=>rw[hc]at h; exact ha.call K g args st v st' (by rw[hc]; exact h)
  |none=>rw[hc]at h; exact hb.call K g args st v st' h
noncomputable def ctCn(C:ByteArray→Bool):Ct:=orCt (addCall P 6 (RplN C) noCt) (addCallX P polD 1 6 (RplU C) (addCall P 7 Rlv ctF))
theorem dec_cn(C:ByteArray→Bool)(s:ByteArray):callQX P E (ctCn C) 50 polD [] [] 0 3 [.string s] [] =
 (needB (C s)
 (needB (C (ByteArray.mk #[119,111,114,108,100,32,50,10]))
 (needB (C s)
 (needB (C (ByteArray.mk #[119,111,114,108,100,32,50,10]))
 (some ((Value.bool Bool.true),(mkSt []))))))):=by kernel_rfl
theorem nil_run{s:ByteArray}(h:s.size≤9223372036854775807):CRX P 0 3 [.string s] [] (.bool true) []:=by
 refine CRX.of (engOk (ctCn szB)) noNum (orCt_ok (addCall_ok (noCt_ok P) plN_ok) (addCallX_ok (addCall_ok ctF_ok lv_ok) plU_ok)) (n:=50) (pol:=polD) (fl:=[]) (ts:=[]) ((dec_cn szB s).trans ?_)
 have w2:szB ⟨#[119,111,114,108,100,32,50,10]⟩=true:=rfl
 simp only[szB_of h,w2,need_tt,ite_tt,ite_ff]
end Go.VS.Tryz
end
