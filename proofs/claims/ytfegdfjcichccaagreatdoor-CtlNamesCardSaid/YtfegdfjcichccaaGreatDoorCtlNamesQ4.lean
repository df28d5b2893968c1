/- What the memos of the console's worked examples lean on. No conditions. -/
import Derived.Test.YtfegdfjcichccaaGreatDoorCtlNamesQ1
import Derived.Test.YtfegdfjcichccaaGreatDoorCtlNamesQ3
import Derived.Lib.FieldsP
import Derived.Lib.DecodeN
import Derived.Lib.MapLaws
import Derived.Test.YtfegdfjcichccaaGreatDoorShelf
import Derived.Test.YtfegdfjcichccaaGreatDoorProg
import Derived.WalkKit
import Derived.LaidEql
import Derived.Stop.Asserts
import Derived.RowKitTokens
import Derived.Lib.SliceRun
set_option linter.unusedSimpArgs false
set_option linter.unusedVariables false
noncomputable section
namespace Go.VS.Tryz
open Go.VS
set_option maxRecDepth 1000000
def Rk(C O:ByteArray->Bool)(B:ByteArray->ByteArray)(G:ByteArray->Int):Ct:=b_ P 96 (DK C O B) (b_ P 152 (EP B G) ctF)
def Dop:HeadX:=⟨0,63,[0,2,3,4],[.val, .val, .val, .own],[27,51,4,51],iI⟩
def Bop:Code:=(h_ P 97 0).getD .skip
theorem NI:h_ P 97 0=some Bop:=by kernel_rfl
theorem rH:Occ P 97 (.block 0 (.loop Bop)):=kN NI
theorem uP(C O:ByteArray->Bool)(B:ByteArray->ByteArray)(G:ByteArray->Int)(n b:Nat)(c:List Value)(z:Value)(m:Nat)(d:List Value):eu P E (Rk C O B G) 50 97 Bop Dop [au 1 n b c,au 3 0 0 [], .bool false, .slice (some ⟨0,0,none⟩) m unk] [.cells d 224 false] =
 (aC (gtI (ae n) 0)
 (af (Bool.and (Nat.beq 1 1) (inI 0 n))
 (af (Bool.and (Nat.ble 1 c.length) (dm .string (aj c 0)))
 (aC (eqS (asS (aj c 0)) ⟨#[112,117,116]⟩)
 (aC (ltI (ae n) 3)
 (af (Nat.ble (Nat.add 0 (Nat.mul m 3)) d.length)
 (some ((.tuple ⟨[.int .i64 (-1),.iface 18446744073709551617 (.agg ⟨(.slice none n b)::c⟩),.iface 18446744073709551619 (.agg ⟨[.slice none 0 0]⟩),.bool false,.slice (Option.some (Addr.mk 0 0 none)) m 18446744073709551616]⟩),(mkSt [Blk.cells (renL true (rhoO 0 [2]) (takeC (Nat.mul m 3) (ai 0 d))) 224 false]))))
 (af (Bool.and (Nat.beq 1 1) (inI 1 n))
 (af (Bool.and (Nat.ble 2 c.length) (dm .string (aj c 1)))
 (af (C (asS (aj c 1)))
 (aC (iJ (O (asS (aj c 1))))
 (af (Nat.ble (Nat.add 0 (Nat.mul m 3)) d.length)
 (some ((.tuple ⟨[.int .i64 (-1),.iface 18446744073709551617 (.agg ⟨(.slice none n b)::c⟩),.iface 18446744073709551619 (.agg ⟨[.slice none 0 0]⟩),.bool false,.slice (Option.some (Addr.mk 0 0 none)) m 18446744073709551616]⟩),(mkSt [Blk.cells (renL true (rhoO 0 [2]) (takeC (Nat.mul m 3) (ai 0 d))) 224 false]))))
 (af (Bool.and (Nat.beq 1 1) (inI 2 n))
 (af (Bool.and (Nat.ble 3 c.length) (dm .string (aj c 2)))
 (af (Nat.ble (ByteArray.size (asS (aj c 2))) 4194304)
 (aC (neI (G (asS (aj c 2))) 0)
 (af (Nat.ble (Nat.add 0 (Nat.mul m 3)) d.length)
 (some ((.tuple ⟨[.int .i64 (-1),.iface 18446744073709551617 (.agg ⟨(.slice none n b)::c⟩),.iface 18446744073709551619 (.agg ⟨[.slice none 0 0]⟩),.bool false,.slice (Option.some (Addr.mk 0 0 none)) m 18446744073709551616]⟩),(mkSt [Blk.cells (renL true (rhoO 0 [2]) (takeC (Nat.mul m 3) (ai 0 d))) 224 false]))))
 (af (Nat.ble (Nat.add m 1) 4194304)
 (af (Nat.beq (Nat.add 0 (Nat.mul m 3)) d.length)
 (af (Bool.and (Nat.beq 1 1) (d_ 3 (ae n) n))
 (af (Bool.and (Nat.beq 1 1) (d_ 3 (ae n) n))
 (af (bK (.iface 18446744073709551617 (.agg ⟨(.slice none (aF 3 (ae n)) (oh b 3))::(takeC (Nat.mul (aF 3 (ae n)) 1) (ai 3 c))⟩)) (.iface 18446744073709551617 (.agg ⟨(.slice none (aF 3 (ae n)) (oh b 3))::(takeC (Nat.mul (aF 3 (ae n)) 1) (ai 3 c))⟩)))
 (af (Nat.ble (Nat.add 0 (Nat.mul (Nat.add m 1) 3)) (List.length (List.append (mO 0 d) [.bool true,.string (B (asS (aj c 1))),.string (B (asS (aj c 2)))])))
 (some ((.tuple ⟨[.int .i64 0,.iface 18446744073709551617 (.agg ⟨(.slice none (aF 3 (ae n)) (oh b 3))::(takeC (Nat.mul (aF 3 (ae n)) 1) (ai 3 c))⟩),.iface 18446744073709551619 (.agg ⟨[.slice none 0 0]⟩),.bool false,.slice (Option.some (Addr.mk 0 0 none)) (Nat.add m 1) 18446744073709551616]⟩),(mkSt [Blk.cells (renL true (rhoO 0 [12]) (takeC (Nat.mul (Nat.add m 1) 3) (ai 0 (List.append (mO 0 d) [.bool true,.string (B (asS (aj c 1))),.string (B (asS (aj c 2)))])))) 224 false]))))))))))))))))))
 (aC (eqS (asS (aj c 0)) ⟨#[100,101,108]⟩)
 (aC (ltI (ae n) 2)
 (af (Nat.ble (Nat.add 0 (Nat.mul m 3)) d.length)
 (some ((.tuple ⟨[.int .i64 (-1),.iface 18446744073709551617 (.agg ⟨(.slice none n b)::c⟩),.iface 18446744073709551619 (.agg ⟨[.slice none 0 0]⟩),.bool false,.slice (Option.some (Addr.mk 0 0 none)) m 18446744073709551616]⟩),(mkSt [Blk.cells (renL true (rhoO 0 [2]) (takeC (Nat.mul m 3) (ai 0 d))) 224 false]))))
 (af (Bool.and (Nat.beq 1 1) (inI 1 n))
 (af (Bool.and (Nat.ble 2 c.length) (dm .string (aj c 1)))
 (af (C (asS (aj c 1)))
 (aC (iJ (O (asS (aj c 1))))
 (af (Nat.ble (Nat.add 0 (Nat.mul m 3)) d.length)
 (some ((.tuple ⟨[.int .i64 (-1),.iface 18446744073709551617 (.agg ⟨(.slice none n b)::c⟩),.iface 18446744073709551619 (.agg ⟨[.slice none 0 0]⟩),.bool false,.slice (Option.some (Addr.mk 0 0 none)) m 18446744073709551616]⟩),(mkSt [Blk.cells (renL true (rhoO 0 [2]) (takeC (Nat.mul m 3) (ai 0 d))) 224 false]))))
 (af (Nat.ble (Nat.add m 1) 4194304)
 (af (Nat.beq (Nat.add 0 (Nat.mul m 3)) d.length)
 (af (Bool.and (Nat.beq 1 1) (d_ 2 (ae n) n))
 (af (Bool.and (Nat.beq 1 1) (d_ 2 (ae n) n))
 (af (bK (.iface 18446744073709551617 (.agg ⟨(.slice none (aF 2 (ae n)) (oh b 2))::(takeC (Nat.mul (aF 2 (ae n)) 1) (ai 2 c))⟩)) (.iface 18446744073709551617 (.agg ⟨(.slice none (aF 2 (ae n)) (oh b 2))::(takeC (Nat.mul (aF 2 (ae n)) 1) (ai 2 c))⟩)))
 (af (Nat.ble (Nat.add 0 (Nat.mul (Nat.add m 1) 3)) (List.length (List.append (mO 0 d) [.bool false,.string (B (asS (aj c 1))),.string ⟨#[]⟩])))
 (some ((.tuple ⟨[.int .i64 0,.iface 18446744073709551617 (.agg ⟨(.slice none (aF 2 (ae n)) (oh b 2))::(takeC (Nat.mul (aF 2 (ae n)) 1) (ai 2 c))⟩),.iface 18446744073709551619 (.agg ⟨[.slice none 0 0]⟩),.bool false,.slice (Option.some (Addr.mk 0 0 none)) (Nat.add m 1) 18446744073709551616]⟩),(mkSt [Blk.cells (renL true (rhoO 0 [12]) (takeC (Nat.mul (Nat.add m 1) 3) (ai 0 (List.append (mO 0 d) [.bool false,.string (B (asS (aj c 1))),.string ⟨#[]⟩])))) 224 false]))))))))))))))
 (af (Nat.ble (Nat.add 0 (Nat.mul m 3)) d.length)
 (some ((.tuple ⟨[.int .i64 (-1),.iface 18446744073709551617 (.agg ⟨(.slice none n b)::c⟩),.iface 18446744073709551619 (.agg ⟨[.slice none 0 0]⟩),.bool false,.slice (Option.some (Addr.mk 0 0 none)) m 18446744073709551616]⟩),(mkSt [Blk.cells (renL true (rhoO 0 [2]) (takeC (Nat.mul m 3) (ai 0 d))) 224 false]))))))))
 (af (Nat.ble (Nat.add 0 (Nat.mul m 3)) d.length)
 (some ((.tuple ⟨[.int .i64 1,.iface 18446744073709551617 (.agg ⟨(.slice none n b)::c⟩),.iface 18446744073709551619 (.agg ⟨[.slice none 0 0]⟩),.bool false,.slice (Option.some (Addr.mk 0 0 none)) m 18446744073709551616]⟩),(mkSt [Blk.cells (renL true (rhoO 0 [1]) (takeC (Nat.mul m 3) (ai 0 d))) 224 false]))))):=by kernel_rfl
theorem TW(l:List ByteArray)(j k:Nat):takeC k (ai j (l.map Value.string))=((l.drop j).take k).map Value.string:=by
 unfold takeC ai;rw[List.map_take,List.map_drop]
theorem tC{l:List ByteArray}{j k:Nat}(h:l.length-j<=k):takeC k (ai j (l.map Value.string))=(l.drop j).map Value.string:=by
 rw[TW,List.take_of_length_le (by rw[List.length_drop]; omega)]
theorem QL(l:List ByteArray):kY (l.map Value.string) (l.map Value.string)=true:=by
 induction l with
 |nil=>rfl
 |cons a l ih=>simp only[List.map_cons,kY,bK,ih,decide_true,Bool.and_self]
theorem Nv(t n b:Nat)(l:List ByteArray):bK (.iface t (.agg ⟨.slice none n b::l.map Value.string⟩)) (.iface t (.agg ⟨.slice none n b::l.map Value.string⟩))=true:=by
 simp only[bK,yZ,kY,QL,decide_true,Bool.and_self]
theorem yw:∀ {a b:List ByteArray},a.map Value.string=b.map Value.string->a=b
 |[],[],_=>rfl
 |[],_::_,h=>by cases h
 |_::_,[],h=>by cases h
 |x::a,y::b,h=>by
  simp only[List.map_cons,List.cons.injEq,Value.string.injEq]at h;rw[h.1,yw h.2]
theorem Hr{a b:List ByteArray}(h:fzS a=fzS b):a=b:=yw (vW h)
def sS:ByteArray:=⟨#[112,117,116]⟩
def yC:ByteArray:=⟨#[100,101,108]⟩
def opV(ws:List ByteArray)(n:Nat):List Value:=[fzS ws,cZ [], .bool false, .slice (some ⟨0,0,none⟩) n unk]
def gm(out:List OpM):List Blk:=[.cells (EOp.all out) 224 false]
def ctO:Ct:=Rk szS fD byS byE
theorem uQ:CtOk P ctO:=bI (bI mP PV) key_ok
theorem PW(out:List OpM)(p:Bool)(k v:ByteArray):List.append (mO 0 (EOp.all out)) [.bool p, .string k, .string v]=EOp.all (out++[(⟨p,k,v⟩:OpM)]):=by
 rw[BR,EOp.all_append,EOp.all_one]; rfl
theorem mM{l:List OpM}{n:Nat}(h:n=l.length):takeC (Nat.mul n 3) (ai 0 (EOp.all l))=EOp.all l:=by
 subst h; exact EOp.all_self l
theorem qy(l:List OpM):(EOp.all l).length=Nat.mul l.length 3:=EOp.all_length l
theorem gt0{n:Nat}(h:0<n):gtI (ae n) 0=true:=by unfold gtI ae; exact decide_eq_true (by omega)
theorem aV{i n:Nat}(h:i<n):inI (i:Int) n=true:=by unfold inI; exact decide_eq_true (by omega)
theorem qW{s:ByteArray}(h:s.size<=4194304):szS s=true:=Nat.ble_eq_true_of_le h
theorem Rl{w0 w1 w2:ByteArray}{r:List ByteArray}{out:List OpM}(h0:eqS w0 sS=true)(h1:w1.size<=4194304)(h2:w2.size<=4194304)(ho:out.length+1<=4194304) :
  eu P E ctO 50 97 Bop Dop (opV (w0::w1::w2::r) out.length) (gm out)=match fD w1,eqI (byE w2) 0 with
   |true,true=>some (.tuple ⟨exV .normal::opV r (out++[(⟨true,byS w1,byS w2⟩:OpM)]).length⟩,mkSt (gm (out++[(⟨true,byS w1,byS w2⟩:OpM)])))
   |_,_=>some (.tuple ⟨exV .ret::opV (w0::w1::w2::r) out.length⟩,mkSt (gm out)):=by
 unfold opV gm fzS cZ ctO;rw[show au 3 ([]:List OpM).length 0 (EOp.all [])=au 3 0 0 [] from rfl];rw[uP _ _ _ _ _ _ _ .nilFunc];have g0:gtI (ae (w0::w1::w2::r).length) 0=true:=gt0 (by simp);have i0:inI 0 (w0::w1::w2::r).length=true:=aV (i:=0) (by simp);have i1:inI 1 (w0::w1::w2::r).length=true:=aV (i:=1) (by simp);have i2:inI 2 (w0::w1::w2::r).length=true:=aV (i:=2) (by simp);have l3:ltI (ae (w0::w1::w2::r).length) 3=false:=by unfold ltI ae; exact decide_eq_false (by simp only[List.length_cons]; omega)
 have c3:d_ 3 (ae (w0::w1::w2::r).length) (w0::w1::w2::r).length=true:=oZ (by omega) (by unfold ae; simp only[List.length_cons]; omega) (by unfold ae; omega);have n0:aj ((w0::w1::w2::r).map Value.string) 0 = .string w0:=rfl;have n1:aj ((w0::w1::w2::r).map Value.string) 1 = .string w1:=rfl;have n2:aj ((w0::w1::w2::r).map Value.string) 2 = .string w2:=rfl;have aS:∀ b,asS (.string b)=b:=fun _=>rfl;have eS:∀ b,dm .string (.string b)=true:=fun _=>rfl;have cl:((w0::w1::w2::r).map Value.string).length=(w0::w1::w2::r).length:=List.length_map ..;have k1:Nat.ble 1 (w0::w1::w2::r).length=true:=Nat.ble_eq_true_of_le (by simp);have k2:Nat.ble 2 (w0::w1::w2::r).length=true:=Nat.ble_eq_true_of_le (by simp);have k3:Nat.ble 3 (w0::w1::w2::r).length=true:=Nat.ble_eq_true_of_le (by simp);have s1:=qW h1;have s2:Nat.ble w2.size 4194304=true:=Nat.ble_eq_true_of_le h2;have b3:∀ n,Nat.beq n n=true:=Nat.beq_refl;have b2:∀ n,Nat.ble n n=true:=fun n=>Nat.ble_eq_true_of_le (Nat.le_refl n);have t1:Nat.ble (Nat.add out.length 1) 4194304=true:=Nat.ble_eq_true_of_le ho;have lk:aF 3 (ae (w0::w1::w2::r).length)=r.length:=by simp only[aF,ae,List.length_cons]; omega
 have cut:takeC r.length (ai 3 ((w0::w1::w2::r).map Value.string))=r.map Value.string:=tC (by simp);have ol:∀ p k v,(out++[(⟨p,k,v⟩:OpM)]).length=Nat.add out.length 1:=fun p k v=>by simp
 have os:∀ p k v,takeC (Nat.mul (Nat.add out.length 1) 3) (ai 0 (EOp.all (out++[(⟨p,k,v⟩:OpM)])))=EOp.all (out++[⟨p,k,v⟩]):=fun p k v=>mM (ol p k v).symm;have h0:eqS w0 ⟨#[112,117,116]⟩=true:=h0;simp only[g0,i0,i1,i2,l3,c3,n0,n1,n2,aS,eS,cl,k1,k2,k3,s1,s2,b3,b2,t1,lk,iU,cut,cap0,PW,qy,ol,os,mM rfl,jl,Enc.all_ren,Nv,h0,Bool.and_self,cO,bn,aT];unfold au;rw[fzU,j_];cases fD w1 with
 |false=>rfl
 |true=>
  have e5:neI (byE w2) 0=!(eqI (byE w2) 0):=rfl;rw[e5];cases eqI (byE w2) 0<;>rfl
theorem Sl{w0 w1:ByteArray}{r:List ByteArray}{out:List OpM}(h00:eqS w0 sS=false)(h0:eqS w0 yC=true)(h1:w1.size<=4194304)(ho:out.length+1<=4194304) :
  eu P E ctO 50 97 Bop Dop (opV (w0::w1::r) out.length) (gm out)=match fD w1 with
   |true=>some (.tuple ⟨exV .normal::opV r (out++[(⟨false,byS w1,⟨#[]⟩⟩:OpM)]).length⟩,mkSt (gm (out++[(⟨false,byS w1,⟨#[]⟩⟩:OpM)])))
   |false=>some (.tuple ⟨exV .ret::opV (w0::w1::r) out.length⟩,mkSt (gm out)):=by
 unfold opV gm fzS cZ ctO;rw[show au 3 ([]:List OpM).length 0 (EOp.all [])=au 3 0 0 [] from rfl];rw[uP _ _ _ _ _ _ _ .nilFunc];have g0:gtI (ae (w0::w1::r).length) 0=true:=gt0 (by simp);have i0:inI 0 (w0::w1::r).length=true:=aV (i:=0) (by simp);have i1:inI 1 (w0::w1::r).length=true:=aV (i:=1) (by simp);have l3:ltI (ae (w0::w1::r).length) 2=false:=by unfold ltI ae; exact decide_eq_false (by simp only[List.length_cons]; omega)
 have c3:d_ 2 (ae (w0::w1::r).length) (w0::w1::r).length=true:=oZ (by omega) (by unfold ae; simp only[List.length_cons]; omega) (by unfold ae; omega);have n0:aj ((w0::w1::r).map Value.string) 0 = .string w0:=rfl;have n1:aj ((w0::w1::r).map Value.string) 1 = .string w1:=rfl;have aS:∀ b,asS (.string b)=b:=fun _=>rfl;have eS:∀ b,dm .string (.string b)=true:=fun _=>rfl;have cl:((w0::w1::r).map Value.string).length=(w0::w1::r).length:=List.length_map ..;have k1:Nat.ble 1 (w0::w1::r).length=true:=Nat.ble_eq_true_of_le (by simp);have k2:Nat.ble 2 (w0::w1::r).length=true:=Nat.ble_eq_true_of_le (by simp);have s1:=qW h1;have b3:∀ n,Nat.beq n n=true:=Nat.beq_refl;have b2:∀ n,Nat.ble n n=true:=fun n=>Nat.ble_eq_true_of_le (Nat.le_refl n);have t1:Nat.ble (Nat.add out.length 1) 4194304=true:=Nat.ble_eq_true_of_le ho;have lk:aF 2 (ae (w0::w1::r).length)=r.length:=by simp only[aF,ae,List.length_cons]; omega
 have cut:takeC r.length (ai 2 ((w0::w1::r).map Value.string))=r.map Value.string:=tC (by simp);have ol:∀ p k v,(out++[(⟨p,k,v⟩:OpM)]).length=Nat.add out.length 1:=fun p k v=>by simp
 have os:∀ p k v,takeC (Nat.mul (Nat.add out.length 1) 3) (ai 0 (EOp.all (out++[(⟨p,k,v⟩:OpM)])))=EOp.all (out++[⟨p,k,v⟩]):=fun p k v=>mM (ol p k v).symm;have h00:eqS w0 ⟨#[112,117,116]⟩=false:=h00;have h0:eqS w0 ⟨#[100,101,108]⟩=true:=h0;simp only[g0,i0,i1,l3,c3,n0,n1,aS,eS,cl,k1,k2,s1,b3,b2,t1,lk,iU,cut,cap0,PW,qy,ol,os,mM rfl,jl,Enc.all_ren,Nv,h00,h0,Bool.and_self,cO,bn,aT];unfold au;rw[fzU,j_];cases fD w1<;>rfl
theorem DU{w0:ByteArray}{r:List ByteArray}{out:List OpM}(h00:eqS w0 sS=false)(h0:eqS w0 yC=false) :
  eu P E ctO 50 97 Bop Dop (opV (w0::r) out.length) (gm out)=some (.tuple ⟨exV .ret::opV (w0::r) out.length⟩,mkSt (gm out)):=by
 unfold opV gm fzS cZ ctO;rw[show au 3 ([]:List OpM).length 0 (EOp.all [])=au 3 0 0 [] from rfl];rw[uP _ _ _ _ _ _ _ .nilFunc];have g0:gtI (ae (w0::r).length) 0=true:=gt0 (by simp);have i0:inI 0 (w0::r).length=true:=aV (i:=0) (by simp);have n0:aj ((w0::r).map Value.string) 0 = .string w0:=rfl;have aS:∀ b,asS (.string b)=b:=fun _=>rfl;have eS:∀ b,dm .string (.string b)=true:=fun _=>rfl;have cl:((w0::r).map Value.string).length=(w0::r).length:=List.length_map ..;have k1:Nat.ble 1 (w0::r).length=true:=Nat.ble_eq_true_of_le (by simp);have b3:∀ n,Nat.beq n n=true:=Nat.beq_refl;have b2:∀ n,Nat.ble n n=true:=fun n=>Nat.ble_eq_true_of_le (Nat.le_refl n);have h00:eqS w0 ⟨#[112,117,116]⟩=false:=h00;have h0:eqS w0 ⟨#[100,101,108]⟩=false:=h0;simp only[g0,i0,n0,aS,eS,cl,k1,b3,b2,iU,qy,mM rfl,jl,Enc.all_ren,h00,h0,Bool.and_self,cO,bn,aT];unfold au;rw[fzU,j_]
 rfl
theorem yF{w0:ByteArray}{r:List ByteArray}{out:List OpM}(h:eqS w0 sS=true/\r.length<2\/eqS w0 sS=false/\eqS w0 yC=true/\r.length<1) :
  eu P E ctO 50 97 Bop Dop (opV (w0::r) out.length) (gm out)=some (.tuple ⟨exV .ret::opV (w0::r) out.length⟩,mkSt (gm out)):=by
 unfold opV gm fzS cZ ctO;rw[show au 3 ([]:List OpM).length 0 (EOp.all [])=au 3 0 0 [] from rfl];rw[uP _ _ _ _ _ _ _ .nilFunc];have g0:gtI (ae (w0::r).length) 0=true:=gt0 (by simp);have i0:inI 0 (w0::r).length=true:=aV (i:=0) (by simp);have n0:aj ((w0::r).map Value.string) 0 = .string w0:=rfl;have aS:∀ b,asS (.string b)=b:=fun _=>rfl;have eS:∀ b,dm .string (.string b)=true:=fun _=>rfl;have cl:((w0::r).map Value.string).length=(w0::r).length:=List.length_map ..;have k1:Nat.ble 1 (w0::r).length=true:=Nat.ble_eq_true_of_le (by simp);have b3:∀ n,Nat.beq n n=true:=Nat.beq_refl;have b2:∀ n,Nat.ble n n=true:=fun n=>Nat.ble_eq_true_of_le (Nat.le_refl n);rcases h with⟨h0,hl⟩ | ⟨h00,h0,hl⟩
 ·have l3:ltI (ae (w0::r).length) 3=true:=by unfold ltI ae; exact decide_eq_true (by simp only[List.length_cons]; omega)
  have h0:eqS w0 ⟨#[112,117,116]⟩=true:=h0;simp only[g0,i0,l3,n0,aS,eS,cl,k1,b3,b2,iU,qy,mM rfl,jl,Enc.all_ren,h0,Bool.and_self,cO,bn,aT];unfold au;rw[fzU,j_]
  rfl
 ·have l3:ltI (ae (w0::r).length) 2=true:=by unfold ltI ae; exact decide_eq_true (by simp only[List.length_cons]; omega)
  have h00:eqS w0 ⟨#[112,117,116]⟩=false:=h00;have h0:eqS w0 ⟨#[100,101,108]⟩=true:=h0;simp only[g0,i0,l3,n0,aS,eS,cl,k1,b3,b2,iU,qy,mM rfl,jl,Enc.all_ren,h00,h0,Bool.and_self,cO,bn,aT];unfold au;rw[fzU,j_]
  rfl
theorem RP{out:List OpM}:eu P E ctO 50 97 Bop Dop (opV [] out.length) (gm out)=some (.tuple ⟨exV (.exit 0)::opV [] out.length⟩,mkSt (gm out)):=by
 unfold opV gm fzS cZ ctO;rw[show au 3 ([]:List OpM).length 0 (EOp.all [])=au 3 0 0 [] from rfl];rw[uP _ _ _ _ _ _ _ .nilFunc];have g0:gtI (ae ([]:List ByteArray).length) 0=false:=rfl;have b3:∀ n,Nat.beq n n=true:=Nat.beq_refl;have b2:∀ n,Nat.ble n n=true:=fun n=>Nat.ble_eq_true_of_le (Nat.le_refl n);simp only[g0,b3,b2,iU,qy,mM rfl,jl,Enc.all_ren,Bool.and_self,cO,bn,aT];unfold au;rw[fzU,j_]
 rfl
def opE:List ByteArray->List OpM->Bool×List ByteArray×List OpM
 |[],out=>(true,[],out)
 |[w0],out=>(false,[w0],out)
 |w0::w1::tl,out=>match eqS w0 sS with
  |true=>match tl with
   |[]=>(false,[w0,w1],out)
   |w2::r=>match fD w1,eqI (byE w2) 0 with
    |true,true=>opE r (out++[⟨true,byS w1,byS w2⟩])
    |_,_=>(false,w0::w1::w2::r,out)
  |false=>match eqS w0 yC with
   |true=>match fD w1 with
    |true=>opE tl (out++[⟨false,byS w1,⟨#[]⟩⟩])
    |false=>(false,w0::w1::tl,out)
   |false=>(false,w0::w1::tl,out)
def exB:Bool->Ex
 |true=> .normal
 |false=> .ret
theorem Bd:∀ (k:Nat) (ws:List ByteArray) (out:List OpM),ws.length<=k->(∀ w∈ws,w.size<=4194304)->out.length+ws.length<=4194304->
  LRX P 97 0 Bop Dop.head (opV ws out.length) (gm out) (exB (opE ws out).1) (opV (opE ws out).2.1 (opE ws out).2.2.length) (gm (opE ws out).2.2)
 |_,[],out,_,_,_=>LRX.stop (n:=50) (dR ctO) aB uQ rH (e:= .exit 0) RP (by intro h; cases h)
 |0,_::_,_,h,_,_=>by simp at h
 |k+1,[w0],out,_,_,_=>by
  have q:eu P E ctO 50 97 Bop Dop (opV [w0] out.length) (gm out)=some (.tuple ⟨exV .ret::opV [w0] out.length⟩,mkSt (gm out)):=by
   cases h0:eqS w0 sS with
   |true=>exact yF (Or.inl ⟨h0,by simp⟩)
   |false=>
    cases h1:eqS w0 yC with
    |true=>exact yF (Or.inr ⟨h0,h1,by simp⟩)
    |false=>exact DU h0 h1
  exact LRX.stop (n:=50) (dR ctO) aB uQ rH (e:= .ret) q (by intro h; cases h)
 |k+1,w0::w1::tl,out,hl,hs,ho=>by
  have s1:=hs w1 (by simp);have stop:eu P E ctO 50 97 Bop Dop (opV (w0::w1::tl) out.length) (gm out)=some (.tuple ⟨exV .ret::opV (w0::w1::tl) out.length⟩,mkSt (gm out))->
    LRX P 97 0 Bop Dop.head (opV (w0::w1::tl) out.length) (gm out) .ret (opV (w0::w1::tl) out.length) (gm out):=fun q=>
   LRX.stop (n:=50) (dR ctO) aB uQ rH (e:= .ret) q (by intro h; cases h)
  simp only[List.length_cons]at hl ho;cases h0:eqS w0 sS with
  |true=>
   cases tl with
   |nil=>
    have q:=stop (yF (Or.inl ⟨h0,by simp⟩));simp only[opE,h0];exact q
   |cons w2 r=>
    simp only[List.length_cons]at hl ho;have q:=Rl (r:=r) (out:=out) h0 s1 (hs w2 (by simp)) (by omega);simp only[opE,h0];cases h1:fD w1 with
    |false=>rw[h1]at q; exact stop q
    |true=>
     cases h2:eqI (byE w2) 0 with
     |false=>rw[h1,h2]at q; exact stop q
     |true=>
      rw[h1,h2]at q;exact LRX.again (n:=50) (dR ctO) aB uQ rH q (Bd k r _ (by omega) (fun w hw=>hs w (by simp[hw])) (by rw[List.length_append]; simp only[List.length_cons,List.length_nil]; omega))
  |false=>
   cases h1:eqS w0 yC with
   |false=>
    have q:=stop (DU h0 h1);rw[opE.eq_def];simp only[h0,h1];exact q
   |true=>
    have q:=Sl (r:=tl) (out:=out) h0 h1 s1 (by omega);rw[opE.eq_def];simp only[h0,h1];cases h2:fD w1 with
    |false=>rw[h2]at q; exact stop q
    |true=>
     rw[h2]at q;exact LRX.again (n:=50) (dR ctO) aB uQ rH q (Bd k tl _ (by omega) (fun w hw=>hs w (by simp[hw])) (by rw[List.length_append]; simp only[List.length_cons,List.length_nil]; omega))
def UW(C C2:List Value->List Blk->Bool)(ok:Bool)(e:Value)(n1 n2:Nat)(z1 z2:Value)(c1 c2:List Value)(r:Int):Ct:=
 b_ P 154 (fun args=>vY C2 (.leaf (.int .i64 r,[])) args []) (kH P 97 0 Dop (nz C (.ite ok (.leaf (.normal,[z1,e, .bool false, .slice (some ⟨0,0,none⟩) n1 unk],[.cells c1 224 false])) (.leaf (.ret,[z2,e, .bool false, .slice (some ⟨0,0,none⟩) n2 unk],[.cells c2 224 false])))) ctF)
theorem Qo(C C2:List Value->List Blk->Bool)(ok:Bool)(n1 n2:Nat)(z1 z2:Value)(c1 c2:List Value)(r:Int)(n b:Nat)(c:List Value):lg P E (UW C C2 ok (au 3 0 0 []) n1 n2 z1 z2 c1 c2 r) 50 iI [.val, .val] [51,4] 0 97 [au 1 n b c] [] =
 (af (C [.iface 18446744073709551617 (.agg ⟨(.slice none n b)::c⟩),.iface 18446744073709551619 (.agg ⟨[.slice none 0 0]⟩),.bool false,.slice (Option.some (Addr.mk 0 0 none)) 0 18446744073709551616] [Blk.cells [] 224 false])
 (aC ok
 (af (Bool.and (Nat.ble (Nat.add 0 (Nat.mul n1 3)) (List.length (renL true (bC [] 1) c1))) (Nat.ble 1 3))
 (af (bf (takeC (Nat.mul n1 3) (ai 0 (renL true (bC [] 1) c1))))
 (af (C2 [.iface 18446744073709551619 (.agg ⟨(.slice none n1 0)::(takeC (Nat.mul n1 3) (ai 0 (renL true (bC [] 1) c1)))⟩)] [])
 (af (og P 0 n1 18446744073709551616 (renL true (bC [] 1) c1) 224)
 (some ((.tuple ⟨[.iface 18446744073709551619 (.agg ⟨(.slice none n1 0)::(takeC (Nat.mul n1 3) (ai 0 (renL true (bC [] 1) c1)))⟩),.bool (eqI r 0)]⟩),(mkSt [])))))))
 (some ((.tuple ⟨[.iface 18446744073709551619 (.agg ⟨[.slice none 0 0]⟩),.bool false]⟩),(mkSt []))))):=by kernel_rfl
theorem Iq:∀ l:List OpM,bf (EOp.all l)=true
 |[]=>rfl
 |a::l=>by
  rw[EOp.all_cons];show bf (.bool a.p:: .string a.k:: .string a.v::EOp.all l)=true;simp only[bf,Iq l]
  rfl
theorem Tu{l:List OpM}:og P 0 l.length 18446744073709551616 (EOp.all l) 224=true:=by
 have he:esz P 224=3:=by kernel_rfl
 unfold og;rw[he,EOp.all_nr,qy];have h2:Nat.ble (Nat.add 0 (Nat.mul l.length 3)) (Nat.mul l.length 3)=true:=by rw[jl]; exact Nat.ble_eq_true_of_le (Nat.le_refl _)
 rw[h2]; rfl
def ul(ws:List ByteArray):Prop:=(∀ w∈ws,w.size<=4194304)/\ws.length<=4194304
def yh:Con (List ByteArray) where
 enc ws:=(opV ws 0,gm [])
 ok:=ul
 inj a b h:=by
  unfold opV at h;simp only[Prod.mk.injEq,List.cons.injEq,true_and,and_true]at h;exact Hr h
 dflt:=[]
def E8(ws:List ByteArray):DT (Ex×List Value×List Blk):= .ite (opE ws []).1 (.leaf (.normal,opV (opE ws []).2.1 (opE ws []).2.2.length,gm (opE ws []).2.2)) (.leaf (.ret,opV (opE ws []).2.1 (opE ws []).2.2.length,gm (opE ws []).2.2))
theorem KZ:LoopOkX P 97 0 Bop Dop.head (Be yh.C yh.D E8):=
 x8 yh (kU NI) fun ws ho e vs' bs' hev=>by
  have q:=Bd ws.length ws [] (Nat.le_refl _) ho.1 (by have:=ho.2; simp only[List.length_nil]; omega);unfold E8 at hev;cases hb:(opE ws []).1 with
  |true=>
   rw[hb]at hev q;simp only[DT.eval,Option.some.injEq,Prod.mk.injEq]at hev;obtain⟨rfl,rfl,rfl⟩:=hev;exact q
  |false=>
   rw[hb]at hev q;simp only[DT.eval,Option.some.injEq,Prod.mk.injEq]at hev;obtain⟨rfl,rfl,rfl⟩:=hev;exact q
def opsV(ws:List ByteArray):List OpM:=match(opE ws []).1 with
 |true=>(opE ws []).2.2
 |false=>[]
def yj(ws:List ByteArray):Bool:=match(opE ws []).1 with
 |true=>eqI (rF (opE ws []).2.2) 0
 |false=>false
theorem AZ:∀ (k:Nat) (ws:List ByteArray) (out:List OpM),ws.length<=k->(opE ws out).2.2.length<=out.length+ws.length
 |_,[],out,_=>by simp[opE]
 |_,[w0],out,_=>by simp[opE]
 |0,_::_::_,_,h=>by simp at h
 |k+1,w0::w1::tl,out,hl=>by
  rw[opE.eq_def];simp only[List.length_cons]at hl ⊢;cases eqS w0 sS with
  |true=>
   cases tl with
   |nil=>simp
   |cons w2 r=>
    simp only[List.length_cons]at hl ⊢;cases fD w1 with
    |false=>simp
    |true=>
     cases eqI (byE w2) 0 with
     |false=>simp
     |true=>
      have:=AZ k r (out++[(⟨true,byS w1,byS w2⟩:OpM)]) (by omega);rw[List.length_append]at this;simp only[List.length_cons,List.length_nil]at this;simp only;omega
  |false=>
   cases eqS w0 yC with
   |false=>simp
   |true=>
    cases fD w1 with
    |false=>simp
    |true=>
     have:=AZ k tl (out++[(⟨false,byS w1,⟨#[]⟩⟩:OpM)]) (by omega);rw[List.length_append]at this;simp only[List.length_cons,List.length_nil]at this;simp only;omega
def sO:Con (List ByteArray) where
 enc ws:=([fzS ws],[])
 ok ws:=ul ws/\ws.length<4194304
 inj a b h:=by
  simp only[Prod.mk.injEq,List.cons.injEq,and_true]at h;exact Hr h
 dflt:=[]
def ctP(ws:List ByteArray):Ct:=
 b_ P 154 (fun args=>vY (kBk.at (opE ws []).2.2) (.leaf (.int .i64 (rF (opE ws []).2.2),[])) args []) (kH P 97 0 Dop (nz (yh.at ws) (E8 ws)) ctF)
theorem Qb(ws:List ByteArray):lg P E (ctP ws) 50 iI [.val, .val] [51,4] 0 97 (sO.enc ws).1 (sO.enc ws).2=some (.tuple ⟨[cZ (opsV ws), .bool (yj ws)]⟩,mkSt []):=by
 have q:=Qo (yh.at ws) (kBk.at (opE ws []).2.2) (opE ws []).1 (opE ws []).2.2.length (opE ws []).2.2.length (fzS (opE ws []).2.1) (fzS (opE ws []).2.1) (EOp.all (opE ws []).2.2) (EOp.all (opE ws []).2.2) (rF (opE ws []).2.2) ws.length 0 (ws.map Value.string);refine Eq.trans ?_ (q.trans ?_)
 ·rfl
 clear q;refine kQ (k:=yh) (s:=ws) (by show opV ws 0=_; unfold opV fzS cZ au; rw[fzU,j_]; rfl) rfl ?_;unfold opsV yj;cases (opE ws []).1 with
 |false=>
  simp only[bn];unfold cZ au;rw[j_]
  rfl
 |true=>
  have b2:∀ n,Nat.ble n n=true:=fun n=>Nat.ble_eq_true_of_le (Nat.le_refl n);have b13:Nat.ble 1 3=true:=rfl;simp only[cO,Enc.all_ren,qy,jl,b2,b13,Bool.and_self,aT,mM rfl,Iq,Tu];refine kQ (k:=kBk) (s:=(opE ws []).2.2) (by show [cZ _]=_; unfold cZ au; rw[j_]) rfl ?_;unfold cZ au;rw[j_]
theorem TV:CallOkX P 0 97 (uO sO.C sO.D fun ws=> .leaf (.tuple ⟨[cZ (opsV ws), .bool (yj ws)]⟩,[])):=rJ sO fun ws ho v bs' hev=>by
 simp only[DT.eval,Option.some.injEq,Prod.mk.injEq]at hev;obtain⟨rfl,rfl⟩:=hev;have hl:=AZ ws.length ws [] (Nat.le_refl _);simp only[List.length_nil]at hl;exact CRX.of (dR (ctP ws)) aB (bI (qH mP (AO yh KZ (s:=ws) ho.1)) (CallOkR.ofX (wV kBk RU (s:=(opE ws []).2.2) (by show _<_; have:=ho.2; omega)))) (Qb ws)
end Go.VS.Tryz
end

noncomputable section
namespace Go.VS
open Go.RowKit
section
variable{P:Program}{ct:Ct}
theorem Gn{n:Nat}(hn:0<n)(w:World):∃ (j:Nat) (w1:World),j<n/\(w1=w\/w1=w.drew)/\(choose (Question.mapNext n)).run P w = .ok j w1:=by
 by_cases hf:n<=1
 ·exact⟨0,w,hn,Or.inl rfl,by simp[choose,Sem.run,Question.forced,hf]⟩
 ·exact⟨_,w.drew,Nat.mod_lt _ (by omega),Or.inr rfl,by
   simp only[choose,Sem.run,Question.forced,decide_eq_true_eq,hf,if_false,Question.cut]
   rfl⟩
theorem ERL.get:∀ {Y:Env} {a b:List MapEntry},ERL Y a b->∀ {j:Nat} {y:MapEntry},b[j]? = some y->∃ x,a[j]? = some x/\x.born=y.born/\VR Y x.key y.key/\VR Y x.val y.val
 |_,[],_,h,j,y,hy=>by have h:_=[]:=h; subst h; simp at hy
 |_,x::xs,_,⟨z,ys,e,h1,h2,h3,h4⟩,0,y,hy=>by
  subst e;simp only[List.getElem?_cons_zero,Option.some.injEq]at hy;subst hy;exact⟨x,rfl,h1,h2,h3⟩
 |_,x::xs,_,⟨z,ys,e,h1,h2,h3,h4⟩,j+1,y,hy=>by
  subst e;simp only[List.getElem?_cons_succ]at hy ⊢;exact h4.get hy
theorem ERL.length':∀ {Y:Env} {a b:List MapEntry},ERL Y a b->a.length=b.length
 |_,[],_,h=>by have h:_=[]:=h; subst h; rfl
 |_,x::xs,_,⟨z,ys,e,h1,h2,h3,h4⟩=>by subst e; simp only[List.length_cons]; rw[h4.length']
def eY(seen:List Nat)(es:List MapEntry):List MapEntry:=es.filter fun e=>!seen.contains e.born
theorem NF{K:Prot}{Y:Env}{st:St}{w:World}(hr:Rel P K Y st w){Z Z':Operand->Value}(hZ:∀ x,VR Y (Z x) (Z' x)){o:Oper}{it:Operand}(ho:o.op = .next it false){r m since last clock:Nat}{seen:List Nat}{es:List MapEntry}
  (hv:Z it = .pointer (some ⟨r,0,none⟩)) (hg:st.heap.get r=some (.miter (some m) since seen last)) (hgm:st.heap.get m=some (.map es clock)) (hguard:es.all (fun e=>decide (e.born>=last))=false\/seen=[])
  (hold:∀ e∈es,e.born<since) (hne:eY seen es≠[]) :
  ∃ e,e∈eY seen es/\∃ v' w',(execOp Z' o).run P w = .ok (.value v') w'/\Rel P K Y { st with heap:=st.heap.set r (.miter (some m) since (e.born::seen) clock) } w'/\VR Y (.tuple #[.bool true,e.key,e.val]) v'/\Bel K w w':=by
 have hx:=hZ it;rw[hv]at hx;obtain⟨hs,l,hl,hx⟩:=hx.ptr';obtain⟨l',g1,g2,g3⟩:=hr.blk _ _ hg rfl;obtain rfl:l'=l:=by rw[g1]at hl; exact Option.some.inj hl
 obtain⟨hvt,hbase,m',hm,g3⟩:=g3;obtain⟨lm,hlm,hm⟩:=hm;have hm:m'=some lm.blk:=by simpa using hm
 subst hm;obtain⟨lm',es',k1,k2,k3,k4⟩:=hr.get_map hgm;obtain rfl:lm'=lm:=by rw[k1]at hlm; exact Option.some.inj hlm
 have hguard':(!seen.isEmpty&&!es'.isEmpty&&es'.all (fun e=>decide (e.born>=last)))=false:=by
  have e2:=AV (fun b=>decide (b>=last)) k4;have e4:es'.all (fun e=>decide (e.born>=last))=es'.toList.all (fun e=>decide (e.born>=last)):=by simp
  rw[e4,<-e2];rcases hguard with h | h
  ·rw[h,Bool.and_false]
  ·rw[h]; rfl
 have hleft:=iZ (fun b=>!seen.contains b) k4;have hold2:(eY seen es).filter (fun e=>decide (e.born<since))=eY seen es:=by
  apply List.filter_eq_self.2;intro e he;exact decide_eq_true (hold e (List.mem_filter.1 he).1)
 have hnew2:(eY seen es).filter (fun e=>decide (e.born>=since))=[]:=by
  apply List.filter_eq_nil_iff.2;intro e he;have:=hold e (List.mem_filter.1 he).1;simp only[decide_eq_true_eq]; omega
 have hold3:=iZ (fun b=>decide (b<since)) hleft;have hnew3:=iZ (fun b=>decide (b>=since)) hleft;have hL':(es'.filter fun e=>!(⟨seen.reverse⟩:Array Nat).contains e.born)=⟨es'.toList.filter fun e=>!seen.contains e.born⟩:=by
  apply Array.ext'; simp
 generalize hLc:es'.toList.filter (fun e=>!seen.contains e.born)=left' at *;change ERL Y ((eY seen es).filter _) _ at hold3;change ERL Y ((eY seen es).filter _) _ at hnew3;change ERL Y (eY seen es) _ at hleft;rw[hold2]at hold3;rw[hnew2]at hnew3;have hnew3:left'.filter (fun e=>decide (e.born>=since))=[]:=hnew3;generalize hO:left'.filter (fun e=>decide (e.born<since))=old' at *;have hlen:=hold3.length';have hpos:0<old'.length:=by
  rw[<-hlen];exact List.length_pos_iff.2 hne
 obtain⟨j,w1,hj,hw1,hch⟩:=Gn (P:=P) hpos w;have hje:old'[j]? = some old'[j]:=List.getElem?_eq_getElem hj;obtain⟨e,q1,q2,q3,q4⟩:=hold3.get hje;have hemp:old'.isEmpty=false:=by cases old' with
  |nil=>simp at hpos
  |cons _ _=>rfl
 have hr1:Rel P K Y st w1:=by rcases hw1 with rfl | rfl; exact hr; exact hr.drew
 have hb1:Bel K w w1:=by rcases hw1 with rfl | rfl; exact Bel.refl _ _; exact(Bel.refl _ _).drew
 have hh1:w1.heap=w.heap:=by rcases hw1 with rfl | rfl<;>rfl
 have hbk:bY P Y l' (.miter (some m) since (e.born::seen) clock) (some (.mapIter (some lm'.blk) since ((⟨seen.reverse⟩:Array Nat).push old'[j].born) clock)):=
  ⟨hvt,hbase,some lm'.blk,⟨lm',k1,rfl⟩,by simp[q2]⟩
 obtain⟨p1,p2⟩:=hr1.putObj hg rfl g1 hbk;refine⟨e,List.mem_of_getElem? q1, .tuple #[.bool true,old'[j].key,old'[j].val],_,?_,p1,⟨_,rfl,VRL.cons rfl (VRL.cons q3 (VRL.cons q4 VRL.nil))⟩,hb1.trans p2⟩;simp only[execOp,ho];refine aQ ?_;simp only[Instr.next,hx,hbase,Nat.zero_add];simp only[Sem.run_bind,cu g3 (by intros; simp),Result.andThen,MapKept.run_getObj_map k3];have hg2:(!(⟨seen.reverse⟩:Array Nat).isEmpty&&!es'.isEmpty&&es'.all (fun e=>decide (e.born>=last)))=false:=by simpa using hguard'
 simp only[hg2,Bool.false_eq_true,if_false,hL'];simp only[List.filter_toArray,hO,hnew3,List.append_toArray,List.append_nil,List.map_toArray,List.map_nil,List.isEmpty_toArray,hemp,List.nil_append,if_false,Bool.false_eq_true];have hsz:(⟨old'.map some⟩:Array (Option MapEntry)).size=old'.length:=by simp
 rw[hsz];rw[Sem.run_bind,hch];simp only[Result.andThen,List.getElem?_toArray,List.getElem?_map,hje,Option.map_some];rw[<-hh1]at g3;simp[gX g3 (by intros; simp)]
theorem tV{K:Prot}{Y:Env}{w:World}{st st':St}(hg:∀ i,st'.heap.get i=st.heap.get i)(hn:st'.next=st.next)(h:Rel P K Y st w):Rel P K Y st' w:=by
 refine⟨h.base,fun i l hi=>by rw[hn]; exact h.dom i l hi,fun i b hi=>h.blk i b (by rw[<-hg]; exact hi),fun i j bi bj li lj hi hbi hj=>h.inj i j bi bj li lj (by rw[<-hg]; exact hi) hbi (by rw[<-hg]; exact hj),fun i hi=>by rw[hn]; exact h.res i hi,h.nofz,fun k l hk=>?_,?_⟩
 ·obtain⟨f1,f2,f3⟩:=h.frz k l hk;exact⟨f1,f2,fun j bj lj hj=>f3 j bj lj (by rw[<-hg]; exact hj)⟩
 ·exact h.objs.step rfl (Env.le.refl _) (Nat.le_refl _) (fun _ _ _=>rfl) (fun i o=>by rw[hg]) (fun i k o l _ _ hk hK hf hj=>⟨rfl,hK,hf,fun j bj lj hj1=>hj j bj lj (by rw[<-hg]; exact hj1)⟩)
def dP(P:Program)(E:Eng)(ct:Ct)(n fid:Nat)(B:Code)(H:Head)(vs:List Value)(bs:List Blk)(k v:Value):Res:=
 match B with
 | .seq (.region _ ops false) rest=>match ops.toList with
  |o::os=>match o.dst with
   |some d=>qG P E ct (kP P E ct n n) H.nt none ops os (aJ (path d) (mkS H.nt H.L vs) (.tuple ⟨[.bool true,k,v]⟩)) [] (mkSt bs) fun s d st=>kM P E ct n (kP P E ct n n) fid H.nt none rest s d st (wU H)
   |none=>none
  |[]=>none
 |_=>none
/-- A loop's first operation. -/
structure FirstNext(B:Code)(H:Head)(it:Operand):Prop where
 first:∃ id ops rest o os d,B = .seq (.region id ops false) rest/\ops.toList=o::os/\o.op = .next it false/\o.guard=none/\o.dst=some d/\d<H.nt
def vP(B:Code)(H:Head):Option Tmp:=match B with
 | .seq (.region _ ops false) _=>match ops.toList with
  |o::_=>match o.op,o.guard,o.dst with
   | .next (.tmp t) false,none,some d=>match Nat.ble (d+1) H.nt with
    |true=>some t
    |false=>none
   |_,_,_=>none
  |[]=>none
 |_=>none
theorem FirstNext.of{B:Code}{H:Head}{t:Tmp}(h:vP B H=some t):FirstNext B H (.tmp t):=by
 unfold vP at h;split at h
 ·rename_i id ops rest;split at h
  ·rename_i o os hos;split at h
   ·rename_i t' d h1 h2 h3;split at h
    ·rename_i hb;obtain rfl:=Option.some.inj h;exact⟨id,ops,rest,o,os,d,rfl,hos,h1,h2,h3,Nat.le_of_ble_eq_true hb⟩
    ·cases h
   ·cases h
  ·cases h
 ·cases h
/-- What a map's iterator has in a memory. -/
structure IterAt(bs:List Blk)(r m since last clock:Nat)(seen:List Nat)(es:List MapEntry):Prop where
 it:bs[r]? = some (.miter (some m) since seen last)
 map:bs[m]? = some (.map es clock)
 new:es.all (fun e=>decide (e.born>=last))=false\/seen=[]
 old:∀ e∈es,e.born<since
 some:eY seen es≠[]
theorem IB{E:Eng}(hE:EngOk P ct E)(hN:noNum P=true)(hct:CtOk P ct){n fid id:Nat}{B:Code}{H:Head}(hocc:Occ P fid (.block id (.loop B)))(hL:okL H=true){it:Operand}(hB:FirstNext B H it){vs:List Value}{bs:List Blk}{r m since last clock:Nat}{seen:List Nat}{es:List MapEntry}
  (hit:(H.fr vs).eval it = .pointer (some ⟨r,0,none⟩)) (hI:IterAt bs r m since last clock seen es) {ex:MapEntry->Ex} {vs1:MapEntry->List Value} {bs1:MapEntry->List Blk}
  (h:∀ e∈eY seen es,dP P E ct n fid B H vs (bs.set r (.miter (some m) since (e.born::seen) clock)) e.key e.val=some (.tuple ⟨exV (ex e)::vs1 e⟩,mkSt (bs1 e)))
  (K:Prot) (Y:Env) (w:World) (fr:Frame) (cs:List Frame) (k:List Item) (hid:∀ i,K.id i->i<H.N) (ht:fr.todo = .code B::k) (hfid:fr.fn=fid) (hf:FrR Y (H.fr vs) fr) (hr:Rel P K Y (mkSt bs) w) :
  ∃ e∈eY seen es,rG H.N P K Y fr cs w (ex e) k (H.fr (vs1 e)) (mkSt (bs1 e)):=by
 obtain⟨⟨rid,ops,rest,o,os,d,rfl,hops,ho,hg,hd,hdn⟩⟩:=hB;have g1:(mkSt bs).heap.get r=some (.miter (some m) since seen last):=by rw[bz]; exact hI.it
 have g2:(mkSt bs).heap.get m=some (.map es clock):=by rw[bz]; exact hI.map
 have s1:=Jc (P:=P) (cs:=cs) (w:=w) hf.mode ht;have s2:=yP (P:=P) (fr:={ fr with todo:= .code (.region rid ops false):: .code rest::k }) (cs:=cs) (w:=w) hf.mode rfl;have hsz:ops.size=os.length+1:=by have:=congrArg List.length hops; simpa using this
 have hrg:List.range ops.size=0::List.range' 1 os.length:=by rw[hsz,yu,List.range'_succ]
 have ho0:ops[0]? = some o:=by
  have:ops.toList[0]? = some o:=by rw[hops]; rfl
  simpa using this
 obtain⟨e,he,v',w1,a1,a2,a3,a4⟩:=NF (Z:=(H.fr vs).eval) (Z':=fr.eval) hr hf.eval ho hit g1 g2 hI.new hI.old hI.some;refine⟨e,he,?_⟩;have hq:=h e he;unfold dP at hq;simp only[hops,hd]at hq;have hw:Region.wanted o (yielded ops ({ fr with todo:= .inRegion ops (List.range ops.size):: .code rest::k }:Frame).tmps)=true:=
  oN (f:=H.fr vs) (Y:=Y) (fr:={ fr with todo:= .inRegion ops (List.range ops.size):: .code rest::k }) ⟨hf.slots,hf.defers,hf.round,hf.mode⟩ ops (by unfold fO; rw[hg])
 have s3:=jH (P:=P) (fr:={ fr with todo:= .inRegion ops (List.range ops.size):: .code rest::k }) (cs:=cs) (w:=w) (ops:=ops) (i:=0) (rest:=List.range' 1 os.length) (o:=o) (k:= .code rest::k) hf.mode (by rw[hrg]) ho0 hw (Or.inl (by have:=hf.round; exact this)) a1;have hput:(H.fr vs).put o.dst (.tuple #[.bool true,e.key,e.val])=some { H.fr vs with slots:=(H.fr vs).slots.set d (.tuple #[.bool true,e.key,e.val]) }:=by
  unfold Fr.put;rw[hd];exact if_pos hdn
 have hf3:=(FrR.put (o:=o) ⟨hf.slots,hf.defers,hf.round,hf.mode⟩ hput a3 (.inRegion ops (List.range' 1 os.length):: .code rest::k):FrR Y _ (iC fr o v' _))
 obtain⟨n1,s',d',st',b1,b2⟩:=qm hE (fJ hE n n) os 1 _ _ _ _ _ (by
  intro j;have:ops.toList[j+1]? = os[j]?:=by rw[hops]; rfl
  rw[<-this,Nat.add_comm 1 j]; simp) hq
 obtain⟨n2,e2,s2',d2',st2',c1,c2⟩:=fG hE (fJ hE n n) n fid H.nt none rest _ _ _ _ _ b2;have a2:Rel P K Y (mkSt (bs.set r (.miter (some m) since (e.born::seen) clock))) w1:=by
  have hlt:r<bs.length:=by
   have:=hI.it;rw[List.getElem?_eq_some_iff]at this;exact this.1
  refine tV (fun i=>?_) ?_ a2
  ·rw[bz,List.getElem?_set];simp only[Trie.get_set,bz];by_cases hi:r=i
   ·subst hi;rw[if_pos rfl,if_pos rfl,if_pos hlt]
   ·rw[if_neg hi,if_neg (fun e=>hi e.symm)]
  ·show(bs.set r _).length=bs.length;simp
 have hsp:aJ (path d) (mkS H.nt H.L vs) (.tuple ⟨[.bool true,e.key,e.val]⟩)=(H.fr vs).slots.set d (.tuple #[.bool true,e.key,e.val]):=aK _ _ _;rw[hsp]at b1;have r1:=(bU hN hct n1 K).ops ops _ _ _ _ _ b1 Y w1 (iC fr o v' (.inRegion ops (List.range' 1 os.length):: .code rest::k)) cs (.code rest::k) rfl hf3 a2;have r2:=r1.andThen (e:=e2) (k2:=k) (f2:=⟨s2',H.nt,d2',none⟩) (st2:=st2') fun Y2 fr2 w2 t2 f2 q2 q3=>
  (bU hN hct n2 K).code fid rest _ _ _ _ _ c1 (hocc.sub (.block (.loop (.seqr (.refl _))))) Y2 w2 fr2 cs k t2 (f2.trans hfid) q2 q3
 obtain⟨Y1,fr1,w2,p1,p2,p3,p4,p5,p6,p7,p8,p9⟩:=r2;unfold wU at c2;split at c2
 ·split at c2
  ·rename_i rr hc;obtain⟨vs2,bs2⟩:=rr;simp only[Option.some.injEq,Prod.mk.injEq,Value.tuple.injEq,Array.mk.injEq,List.cons.injEq]at c2;obtain⟨⟨hee,rfl⟩,hst⟩:=c2;obtain rfl:=xh hee;obtain⟨Y2,z1,z2,z3⟩:=qj hc p3 p5.slots hid (fun t ht=>by
    unfold okL at hL
    exact Nat.le_of_ble_eq_true (List.all_eq_true.1 hL t ht))
   refine⟨Y2,fr1,w2, .head s1 (.head s2 (.head s3 p1)),(p2.leN _).trans z1,by rw[<-hst]; exact z2,a4.trans p4,⟨z3,by have:=p5.defers; unfold jW at this; rw[this]; rfl,by have:=p5.round; exact this,p5.mode⟩,p6,p7,p8,p9⟩
  ·cases c2
 ·cases c2
theorem LR.pick{E:Eng}(hE:EngOk P ct E)(hN:noNum P=true)(hct:CtOk P ct){n fid id:Nat}{B:Code}{H:Head}(hocc:Occ P fid (.block id (.loop B)))(hL:okL H=true){it:Operand}(hB:FirstNext B H it){vs:List Value}{bs:List Blk}{r m since last clock:Nat}{seen:List Nat}{es:List MapEntry}
  (hit:(H.fr vs).eval it = .pointer (some ⟨r,0,none⟩)) (hI:IterAt bs r m since last clock seen es) {ex:MapEntry->Ex} {vs1:MapEntry->List Value} {bs1:MapEntry->List Blk}
  (h:∀ e∈eY seen es,dP P E ct n fid B H vs (bs.set r (.miter (some m) since (e.born::seen) clock)) e.key e.val=some (.tuple ⟨exV (ex e)::vs1 e⟩,mkSt (bs1 e))) {x:Ex} {vs':List Value} {bs':List Blk}
  (hend:∀ e∈eY seen es,(ex e = .normal/\LR P fid id B H (vs1 e) (bs1 e) x vs' bs')\/(ex e≠ .normal/\jF id (ex e)=x/\vs1 e=vs'/\∀ K Y w,Rel P K Y (mkSt (bs1 e)) w->Rel P K Y (mkSt bs') w)):LR P fid id B H vs bs x vs' bs':=by
 intro K Y w fr cs k hid ht hfid hf hr;obtain⟨e,he,Y1,fr1,w1,a1,a2,a3,a4,a5,a6,a7,a8,a9⟩:=IB hE hN hct hocc hL hB hit hI h K Y w fr cs _ hid ht hfid hf hr;rcases hend e he with⟨hx,hl⟩ | ⟨hx,rfl,rfl,hb⟩
 ·rw[hx]at a9;have a9:fr1.todo = .inLoop B:: .inBlock id::k:=a9;have hs:=tJ (P:=P) (cs:=cs) (w:=w1) a5.mode a9;obtain⟨Y2,fr2,w2,b1,b2,b3,b4,b5,b6,b7,b8,b9⟩:=hl K Y1 w1 { fr1 with todo:= .code B:: .inLoop B:: .inBlock id::k } cs k hid rfl (a7.trans hfid) ⟨a5.slots,a5.defers,a5.round,a5.mode⟩ a3;exact⟨Y2,fr2,w2,a1.trans (.head hs b1),a2.trans b2,b3,a4.trans b4,b5,b6.trans a6,b7.trans a7,b8.trans a8,b9⟩
 ·have a3:=hb _ _ _ a3;have a9:=a9.under hx (fun i e=>by cases e);cases hex:ex e with
  |normal=>exact absurd hex hx
  |ret=>rw[hex]at a9; exact⟨Y1,fr1,w1,a1,a2,a3,a4,a5,a6,a7,a8,a9⟩
  |exit i=>
   rw[hex]at a9;obtain⟨k2,h1,h2⟩:=a9;cases hbq:Nat.beq i id with
   |true=>
    have hx2:jF id (.exit i) = .normal:=by simp only[jF,hbq]
    rw[hx2];have:=Nat.eq_of_beq_eq_true hbq;subst this;have hx:exitTo i k2=some k:=by rw[h2]; simp[exitTo]
    exact⟨Y1,{ fr1 with todo:=k },w1,a1.trans (.one (s_exit a5.mode h1 hx)),a2,a3,a4,a5.todo k,a6,a7,a8,rfl⟩
   |false=>
    have hx2:jF id (.exit i) = .exit i:=by simp only[jF,hbq]
    rw[hx2];have:=Nat.ne_of_beq_eq_false hbq;refine⟨Y1,fr1,w1,a1,a2,a3,a4,a5,a6,a7,a8,k2,h1,?_⟩;rw[h2];have:(id == i)=false:=by simp; exact fun ee=>this ee.symm
    simp[exitTo,this]
theorem EW{K:Prot}{Y:Env}{w:World}{bs:List Blk}(r:Nat)(hb:∀ b,bs[r]? = some b->b.isObj=false)(hr:Rel P K Y (mkSt bs) w):Rel P K Y (mkSt (bs.set r .dead)) w:=by
 have hget:∀ (i:Nat) b,(mkSt (bs.set r .dead)).heap.get i=some b->b.live=true->(mkSt bs).heap.get i=some b:=by
  intro i b hi hl;rw[bz]at hi ⊢;rw[List.getElem?_set]at hi;split at hi
  ·split at hi
   ·cases hi; cases hl
   ·cases hi
  ·exact hi
 refine⟨hr.base,fun i l hi=>?_,fun i b hi hl=>hr.blk i b (hget i b hi hl) hl,fun i j bi bj li lj hi hbi hj hbj=>hr.inj i j bi bj li lj (hget i bi hi hbi) hbi (hget j bj hj hbj) hbj,fun i hi=>?_,hr.nofz,fun k l hk=>?_,?_⟩
 ·have:=hr.dom i l hi;have e:(mkSt (bs.set r .dead)).next=(mkSt bs).next:=by show(bs.set r .dead).length=bs.length; simp
  rw[e]; exact this
 ·have:=hr.res i hi;have e:(mkSt (bs.set r .dead)).next=(mkSt bs).next:=by show(bs.set r .dead).length=bs.length; simp
  rw[e]; exact this
 ·obtain⟨f1,f2,f3⟩:=hr.frz k l hk;exact⟨f1,f2,fun j bj lj hj hbj=>f3 j bj lj (hget j bj hj hbj) hbj⟩
 ·refine hr.objs.step rfl (Env.le.refl _) (Nat.le_refl _) (fun _ _ _=>rfl) (fun i o=>⟨fun hi=>hget i _ hi rfl,fun hi=>?_⟩) (fun i k o l _ _ hk hK hf hj=>⟨rfl,hK,hf,fun j bj lj hj1 hj2=>hj j bj lj (hget j bj hj1 hj2) hj2⟩);rw[bz]at hi ⊢;rw[List.getElem?_set];split
  ·rename_i e;subst e;have:=hb _ hi;cases this
  ·exact hi
theorem NZ{K:Prot}{Y:Env}{w:World}{bs:List Blk}{r:Nat}{c c':List Value}{e:TypeId}{x:Bool}(hb:bs[r]? = some (.cells c e x))(hl':c'.length=c.length)(hv:∀ Y l,VRL Y c l->VRL Y c' l)(hr:Rel P K Y (mkSt bs) w):Rel P K Y (mkSt (bs.set r (.cells c' e x))) w:=by
 have hlt:r<bs.length:=(List.getElem?_eq_some_iff.1 hb).1;have hget:∀ (i:Nat) b,(mkSt (bs.set r (.cells c' e x))).heap.get i=some b->∃ b0,(mkSt bs).heap.get i=some b0/\(b0=b\/(i=r/\b0 = .cells c e x/\b = .cells c' e x)):=by
  intro i b hi;rw[bz,List.getElem?_set]at hi;split at hi
  ·rename_i hir;subst hir;exact⟨_,by rw[bz]; exact hb,Or.inr ⟨rfl,rfl,(Option.some.inj hi).symm⟩⟩
  ·exact⟨b,by rw[bz]; exact hi,Or.inl rfl⟩
 have hlive:∀ (i:Nat) b,(mkSt (bs.set r (.cells c' e x))).heap.get i=some b->b.live=true->∃ b0,(mkSt bs).heap.get i=some b0/\b0.live=true/\(b0=b\/(b0 = .cells c e x/\b = .cells c' e x)):=by
  intro i b hi hl;obtain⟨b0,h1,h2 | ⟨_,h2,h3⟩⟩:=hget i b hi
  ·exact⟨b0,h1,by rw[h2]; exact hl,Or.inl h2⟩
  ·exact⟨b0,h1,by rw[h2]; rfl,Or.inr ⟨h2,h3⟩⟩
 have hnx:(mkSt (bs.set r (.cells c' e x))).next=(mkSt bs).next:=by show(bs.set r _).length=bs.length; simp
 refine⟨hr.base,fun i l hi=>by rw[hnx]; exact hr.dom i l hi,fun i b hi hl=>?_,fun i j bi bj li lj hi hbi hj hbj=>?_,fun i hi=>by rw[hnx]; exact hr.res i hi,hr.nofz,fun k l hk=>?_,?_⟩
 ·obtain⟨b0,h1,h2,h3⟩:=hlive i b hi hl;obtain⟨l,a1,a2,a3⟩:=hr.blk i b0 h1 h2;refine⟨l,a1,a2,?_⟩;rcases h3 with rfl | ⟨rfl,rfl⟩
  ·exact a3
  ·rcases a3 with⟨q1,q2,q3⟩ | ⟨q0,cc,f,q1,q2,q3,q4,q5,q6,q7⟩
   ·subst q2;exact Or.inl ⟨q1,List.length_eq_zero_iff.1 (by simpa using hl'),q3⟩
   ·exact Or.inr ⟨q0,cc,f,q1,q2,q3,by rw[hl']; exact q4,fun hx=>by rw[hl']; exact q5 hx,by rw[hl']; exact hv _ _ q6,q7⟩
 ·obtain⟨b0,h1,h2,_⟩:=hlive i bi hi hbi;obtain⟨b1,k1,k2,_⟩:=hlive j bj hj hbj;exact hr.inj i j b0 b1 li lj h1 h2 k1 k2
 ·obtain⟨f1,f2,f3⟩:=hr.frz k l hk;refine⟨f1,f2,fun j bj lj hj hbj=>?_⟩;obtain⟨b1,k1,k2,_⟩:=hlive j bj hj hbj;exact f3 j b1 lj k1 k2
 ·refine hr.objs.step rfl (Env.le.refl _) (Nat.le_refl _) (fun _ _ _=>rfl) (fun i o=>⟨fun hi=>?_,fun hi=>?_⟩) (fun i k o l _ _ hk hK hf hj=>⟨rfl,hK,hf,fun j bj lj hj1 hj2=>?_⟩)
  ·obtain⟨b0,h1,h2 | ⟨_,_,h3⟩⟩:=hget i _ hi
   ·rw[h2]at h1; exact h1
   ·cases h3
  ·rw[bz]at hi ⊢;rw[List.getElem?_set];split
   ·rename_i hir;subst hir;rw[hb]at hi; cases hi
   ·exact hi
  ·obtain⟨b1,k1,k2,_⟩:=hlive j bj hj1 hj2;exact hj j b1 lj k1 k2
def DL(P:Program)(E:Eng)(ct:Ct)(n fid:Nat)(B:Code)(H:Head)(vs:List Value)(bs:List Blk):Res:=
 match B with
 | .seq (.region _ ops false) rest=>match ops.toList with
  |o::os=>match o.dst with
   |some d=>qG P E ct (kP P E ct n n) H.nt none ops os (aJ (path d) (mkS H.nt H.L vs) (.tuple ⟨[.bool false]⟩)) [] (mkSt bs) fun s d st=>kM P E ct n (kP P E ct n n) fid H.nt none rest s d st (wU H)
   |none=>none
  |[]=>none
 |_=>none
theorem Je{E:Eng}(hE:EngOk P ct E)(hN:noNum P=true)(hct:CtOk P ct){n fid id:Nat}{B:Code}{H:Head}(hocc:Occ P fid (.block id (.loop B)))(hL:okL H=true){it:Operand}(hB:FirstNext B H it){vs vs1:List Value}{bs bs1:List Blk}{r m since last clock:Nat}{seen:List Nat}{es:List MapEntry}{ex:Ex}
  (hit:(H.fr vs).eval it = .pointer (some ⟨r,0,none⟩)) (h1:bs[r]? = some (.miter (some m) since seen last)) (h2:bs[m]? = some (.map es clock)) (hnew:es.all (fun e=>decide (e.born>=last))=false\/seen=[]) (hleft:eY seen es=[])
  (h:DL P E ct n fid B H vs bs=some (.tuple ⟨exV ex::vs1⟩,mkSt bs1))
  (K:Prot) (Y:Env) (w:World) (fr:Frame) (cs:List Frame) (k:List Item) (hid:∀ i,K.id i->i<H.N) (ht:fr.todo = .code B::k) (hfid:fr.fn=fid) (hf:FrR Y (H.fr vs) fr) (hr:Rel P K Y (mkSt bs) w) :
  rG H.N P K Y fr cs w ex k (H.fr vs1) (mkSt bs1):=by
 obtain⟨⟨rid,ops,rest,o,os,d,rfl,hops,ho,hg,hd,hdn⟩⟩:=hB;have g1:(mkSt bs).heap.get r=some (.miter (some m) since seen last):=by rw[bz]; exact h1
 have g2:(mkSt bs).heap.get m=some (.map es clock):=by rw[bz]; exact h2
 have s1:=Jc (P:=P) (cs:=cs) (w:=w) hf.mode ht;have s2:=yP (P:=P) (fr:={ fr with todo:= .code (.region rid ops false):: .code rest::k }) (cs:=cs) (w:=w) hf.mode rfl;have hsz:ops.size=os.length+1:=by have:=congrArg List.length hops; simpa using this
 have hrg:List.range ops.size=0::List.range' 1 os.length:=by rw[hsz,yu,List.range'_succ]
 have ho0:ops[0]? = some o:=by
  have:ops.toList[0]? = some o:=by rw[hops]; rfl
  simpa using this
 have hev:ag P (H.fr vs).eval o (mkSt bs)=some (.val (.tuple #[.bool false]) (mkSt bs)):=by
  have hgd:(!seen.isEmpty&&!es.isEmpty&&es.all (fun e=>decide (e.born>=last)))=false:=by
   rcases hnew with h | h
   ·rw[h,Bool.and_false]
   ·rw[h]; rfl
  simp only[ag,ho,hit,g1,g2];have hl:es.filter (fun e=>!seen.contains e.born)=[]:=hleft;rw[hgd,hl]
  rfl
 obtain⟨Y1,w1,v',a1,a2,a3,a4,a5⟩:=qQ (Z:=(H.fr vs).eval) (Z':=fr.eval) hr hf.eval ho hev;unfold DL at h;simp only[hops,hd]at h;have hw:Region.wanted o (yielded ops ({ fr with todo:= .inRegion ops (List.range ops.size):: .code rest::k }:Frame).tmps)=true:=
  oN (f:=H.fr vs) (Y:=Y) (fr:={ fr with todo:= .inRegion ops (List.range ops.size):: .code rest::k }) ⟨hf.slots,hf.defers,hf.round,hf.mode⟩ ops (by unfold fO; rw[hg])
 have s3:=jH (P:=P) (fr:={ fr with todo:= .inRegion ops (List.range ops.size):: .code rest::k }) (cs:=cs) (w:=w) (ops:=ops) (i:=0) (rest:=List.range' 1 os.length) (o:=o) (k:= .code rest::k) hf.mode (by rw[hrg]) ho0 hw (Or.inl (by have:=hf.round; exact this)) a1;have hput:(H.fr vs).put o.dst (.tuple #[.bool false])=some { H.fr vs with slots:=(H.fr vs).slots.set d (.tuple #[.bool false]) }:=by
  unfold Fr.put;rw[hd];exact if_pos hdn
 have hf3:=(FrR.put (o:=o) (FrR.mono a2 ⟨hf.slots,hf.defers,hf.round,hf.mode⟩) hput a4 (.inRegion ops (List.range' 1 os.length):: .code rest::k):FrR Y1 _ (iC fr o v' _))
 obtain⟨n1,s',d',st',b1,b2⟩:=qm hE (fJ hE n n) os 1 _ _ _ _ _ (by
  intro j;have:ops.toList[j+1]? = os[j]?:=by rw[hops]; rfl
  rw[<-this,Nat.add_comm 1 j]; simp) h
 obtain⟨n2,e2,s2',d2',st2',c1,c2⟩:=fG hE (fJ hE n n) n fid H.nt none rest _ _ _ _ _ b2;have hsp:aJ (path d) (mkS H.nt H.L vs) (.tuple ⟨[.bool false]⟩)=(H.fr vs).slots.set d (.tuple #[.bool false]):=aK _ _ _;rw[hsp]at b1;have r1:=(bU hN hct n1 K).ops ops _ _ _ _ _ b1 Y1 w1 (iC fr o v' (.inRegion ops (List.range' 1 os.length):: .code rest::k)) cs (.code rest::k) rfl hf3 a3;have r2:=r1.andThen (e:=e2) (k2:=k) (f2:=⟨s2',H.nt,d2',none⟩) (st2:=st2') fun Y2 fr2 w2 t2 f2 q2 q3=>
  (bU hN hct n2 K).code fid rest _ _ _ _ _ c1 (hocc.sub (.block (.loop (.seqr (.refl _))))) Y2 w2 fr2 cs k t2 (f2.trans hfid) q2 q3
 obtain⟨Y2,fr1,w2,p1,p2,p3,p4,p5,p6,p7,p8,p9⟩:=r2;unfold wU at c2;split at c2
 ·split at c2
  ·rename_i rr hc;obtain⟨vs2,bs2⟩:=rr;simp only[Option.some.injEq,Prod.mk.injEq,Value.tuple.injEq,Array.mk.injEq,List.cons.injEq]at c2;obtain⟨⟨hee,rfl⟩,hst⟩:=c2;obtain rfl:=xh hee;obtain⟨Y3,z1,z2,z3⟩:=qj hc p3 p5.slots hid (fun t ht=>by
    unfold okL at hL
    exact Nat.le_of_ble_eq_true (List.all_eq_true.1 hL t ht))
   refine⟨Y3,fr1,w2, .head s1 (.head s2 (.head s3 p1)),((a2.trans p2).leN _).trans z1,by rw[<-hst]; exact z2,a5.trans p4,⟨z3,by have:=p5.defers; unfold jW at this; rw[this]; rfl,by have:=p5.round; exact this,p5.mode⟩,p6,p7,p8,p9⟩
  ·cases c2
 ·cases c2
theorem LR.over{E:Eng}(hE:EngOk P ct E)(hN:noNum P=true)(hct:CtOk P ct){n fid id:Nat}{B:Code}{H:Head}(hocc:Occ P fid (.block id (.loop B)))(hL:okL H=true){it:Operand}(hB:FirstNext B H it){vs vs1:List Value}{bs bs1 bs':List Blk}{r m since last clock:Nat}{seen:List Nat}{es:List MapEntry}{j:Nat}
  (hit:(H.fr vs).eval it = .pointer (some ⟨r,0,none⟩)) (h1:bs[r]? = some (.miter (some m) since seen last)) (h2:bs[m]? = some (.map es clock)) (hnew:es.all (fun e=>decide (e.born>=last))=false\/seen=[]) (hleft:eY seen es=[])
  (h:DL P E ct n fid B H vs bs=some (.tuple ⟨exV (.exit j)::vs1⟩,mkSt bs1)) (hj:Nat.beq j id=true) (hb:∀ K Y w,Rel P K Y (mkSt bs1) w->Rel P K Y (mkSt bs') w):LR P fid id B H vs bs .normal vs1 bs':=by
 intro K Y w fr cs k hid ht hfid hf hr;obtain⟨Y1,fr1,w1,a1,a2,a3,a4,a5,a6,a7,a8,a9⟩:=Je hE hN hct hocc hL hB hit h1 h2 hnew hleft h K Y w fr cs _ hid ht hfid hf hr;have a9:=a9.under (by intro h; cases h) (fun i e=>by cases e);obtain⟨k2,q1,q2⟩:=a9;obtain rfl:=Nat.eq_of_beq_eq_true hj;have hx:exitTo j k2=some k:=by rw[q2]; simp[exitTo]
 exact⟨Y1,{ fr1 with todo:=k },w1,a1.trans (.one (s_exit a5.mode q1 hx)),a2,hb _ _ _ a3,a4,a5.todo k,a6,a7,a8,rfl⟩
theorem O9{U:Type}(k:Con U){fid id:Nat}{B:Code}{H:Head}(hocc:∀ c,Occ P fid (.block id c)->c = .loop B)(hL:okL H=true){s:U}{t:DT (Ex×List Value×List Blk)}
  (h:∀ e vs' bs',t.eval=some (e,vs',bs')->LR P fid id B H (k.enc s).1 (k.enc s).2 e vs' bs'):LoopOk P fid id B H (nz (k.at s) t) where
 occ:=hocc
 ok:=hL
 run:=by
  intro vs bs t' hR e vs' bs' hev;unfold nz at hR;obtain rfl:=Option.some.inj hR;cases hc:k.at s vs bs with
  |false=>rw[hc]at hev; cases hev
  |true=>
   rw[hc]at hev;have hev:t.eval=some (e,vs',bs'):=hev;have:=h e vs' bs' hev;rwa [k.at_of hc]at this
end
end Go.VS
end

noncomputable section
namespace Go.VS.Tryz
open Go.VS
set_option maxRecDepth 1000000
def gW(NC NO:ByteArray->Int->Bool)(NV:ByteArray->Int)(KC KO:ByteArray->Bool)(KV:ByteArray->ByteArray)(OC:List Value->List Blk->Bool)(ov:Value)(ob:Bool):Ct:=
 ed P iI 0 97 (vY OC (.leaf (.tuple ⟨[ov, .bool ob]⟩,[]))) (b_ P 96 (DK KC KO KV) (b_ P 95 (Jv NC NO NV) ctF))
def Hli:Head:=⟨3,53,[0,2,3,4,5,30],[]⟩
def Bli:Code:=(h_ P 32 0).getD .skip
theorem MO:h_ P 32 0=some Bli:=by kernel_rfl
theorem H6:Occ P 32 (.block 0 (.loop Bli)):=kN MO
theorem BP:vP Bli Hli=some 30:=by kernel_rfl
def bW(w s:ByteArray):Value:= .agg ⟨[.string w, .string s]⟩
def liV(s:ByteArray)(n b:Nat)(c:List Value):List Value:=[.string s, .pointer (some ⟨0,0,none⟩), .bool false, .int .i64 0,au 1 n b c, .pointer (some ⟨2,0,none⟩)]
def liB(a:List Value)(m i:Blk):List Blk:=[.cells a 53 true,m,i]
def dn:List Value:=[.int .i64 0, .int .i64 0, .int .i64 0, .int .i64 0, .string ⟨#[]⟩, .slice none 0 0]
def ah:List MapEntry:=[⟨.int .i64 1,bW ⟨#[99,111,109,109,105,116]⟩ ⟨#[110,111]⟩,0⟩,⟨.int .i64 2,bW ⟨#[114,101,97,100]⟩ ⟨#[110,107]⟩,1⟩,⟨.int .i64 3,bW ⟨#[116,105,99,107]⟩ ⟨#[110]⟩,2⟩,⟨.int .i64 4,bW ⟨#[112,114,111,109,111,116,101]⟩ ⟨#[110]⟩,3⟩,⟨.int .i64 5,bW ⟨#[102,108,117,115,104]⟩ ⟨#[110]⟩,4⟩,⟨.int .i64 6,bW ⟨#[100,101,108,105,118,101,114]⟩ ⟨#[97]⟩,5⟩,⟨.int .i64 7,bW ⟨#[116,119,105,99,101]⟩ ⟨#[97]⟩,6⟩,⟨.int .i64 8,bW ⟨#[100,114,111,112]⟩ ⟨#[97]⟩,7⟩,⟨.int .i64 9,bW ⟨#[102,117,115,101]⟩ ⟨#[110,97]⟩,8⟩,⟨.int .i64 10,bW ⟨#[112,117,108,108]⟩ ⟨#[110]⟩,9⟩,⟨.int .i64 11,bW ⟨#[115,116,97,114,116]⟩ ⟨#[110,97,116]⟩,10⟩,⟨.int .i64 12,bW ⟨#[114,111,117,110,100]⟩ ⟨#[]⟩,11⟩]
theorem Qi(NC NO:ByteArray->Int->Bool)(NV:ByteArray->Int)(KC KO:ByteArray->Bool)(KV:ByteArray->ByteArray)(OC:List Value->List Blk->Bool)(on:Nat)(oc:List Value)(ob:Bool)(s:ByteArray)(n b:Nat)(c:List Value)(se:List Nat):dP P E (gW NC NO NV KC KO KV OC (au 3 on 0 oc) ob) 50 32 Bli Hli (liV s n b c) (liB dn (.map ah 12) (.miter (some 1) 12 (0::se) 12)) (.int .i64 1) (bW ⟨#[99,111,109,109,105,116]⟩ ⟨#[110,111]⟩) =
 (af (Bool.and (Nat.beq 1 1) (inI 0 n))
 (af (Bool.and (Nat.ble 1 c.length) (dm .string (aj c 0)))
 (aC (eqS ⟨#[99,111,109,109,105,116]⟩ (asS (aj c 0)))
 (af (Bool.and (Nat.beq 1 1) (d_ 1 (ae n) n))
 (aC (iJ (ltI 0 (ae (aF 1 (ae n)))))
 (some ((.tuple ⟨[.int .i64 0,.string s,.pointer (Option.some (Addr.mk 0 0 none)),.bool false,.int .i64 0,.iface 18446744073709551617 (.agg ⟨(.slice none n b)::c⟩),.pointer (Option.some (Addr.mk 2 0 none))]⟩),(mkSt [Blk.cells [.int .i64 0,.int .i64 0,.int .i64 0,.int .i64 0,.string ⟨#[]⟩,.slice none 0 0] 53 true,Blk.map ah 12,Blk.miter (Option.some 1) 12 (0::se) 12])))
 (af (Bool.and (Nat.beq 1 1) (inI 0 (aF 1 (ae n))))
 (af (Bool.and (Nat.ble 1 (List.length (takeC (Nat.mul (aF 1 (ae n)) 1) (ai 1 c)))) (dm .string (aj (takeC (Nat.mul (aF 1 (ae n)) 1) (ai 1 c)) 0)))
 (af (NC (asS (aj (takeC (Nat.mul (aF 1 (ae n)) 1) (ai 1 c)) 0)) 1)
 (aC (NO (asS (aj (takeC (Nat.mul (aF 1 (ae n)) 1) (ai 1 c)) 0)) 1)
 (aC (iJ (ltI 1 (ae (aF 1 (ae n)))))
 (some ((.tuple ⟨[.int .i64 0,.string s,.pointer (Option.some (Addr.mk 0 0 none)),.bool false,.int .i64 0,.iface 18446744073709551617 (.agg ⟨(.slice none n b)::c⟩),.pointer (Option.some (Addr.mk 2 0 none))]⟩),(mkSt [Blk.cells [.int .i64 0,.int .i64 0,.int .i64 0,.int .i64 0,.string ⟨#[]⟩,.slice none 0 0] 53 true,Blk.map ah 12,Blk.miter (Option.some 1) 12 (0::se) 12])))
 (af (Bool.and (Nat.beq 1 1) (d_ 1 (ae (aF 1 (ae n))) (aF 1 (ae n))))
 (af (OC [.iface 18446744073709551617 (.agg ⟨(.slice none (aF 1 (ae (aF 1 (ae n)))) (oh (oh b 1) 1))::(takeC (Nat.mul (aF 1 (ae (aF 1 (ae n)))) 1) (ai 1 (takeC (Nat.mul (aF 1 (ae n)) 1) (ai 1 c))))⟩)] [])
 (af (Bool.and (Nat.beq 1 1) (d_ 0 2 (aF 1 (ae n))))
 (aC (iJ ob)
 (some ((.tuple ⟨[.int .i64 0,.string s,.pointer (Option.some (Addr.mk 0 0 none)),.bool false,.int .i64 0,.iface 18446744073709551617 (.agg ⟨(.slice none n b)::c⟩),.pointer (Option.some (Addr.mk 2 0 none))]⟩),(mkSt [Blk.cells [.int .i64 0,.int .i64 0,.int .i64 0,.int .i64 0,.string ⟨#[]⟩,.slice none 0 0] 53 true,Blk.map ah 12,Blk.miter (Option.some 1) 12 (0::se) 12])))
 (some ((.tuple ⟨[.int .i64 (-1),.string s,.pointer (Option.some (Addr.mk 0 0 none)),.bool true,.int .i64 0,.iface 18446744073709551617 (.agg ⟨(.slice none n b)::c⟩),.pointer (Option.some (Addr.mk 2 0 none))]⟩),(mkSt [Blk.cells [.int .i64 1,.int .i64 (NV (asS (aj (takeC (Nat.mul (aF 1 (ae n)) 1) (ai 1 c)) 0))),.int .i64 0,.int .i64 0,.string ⟨#[]⟩,.iface 18446744073709551619 (.agg ⟨(.slice none on 0)::oc⟩)] 53 true,Blk.map ah 12,Blk.miter (Option.some 1) 12 (0::se) 12]))))))))
 (some ((.tuple ⟨[.int .i64 0,.string s,.pointer (Option.some (Addr.mk 0 0 none)),.bool false,.int .i64 0,.iface 18446744073709551617 (.agg ⟨(.slice none n b)::c⟩),.pointer (Option.some (Addr.mk 2 0 none))]⟩),(mkSt [Blk.cells [.int .i64 0,.int .i64 0,.int .i64 0,.int .i64 0,.string ⟨#[]⟩,.slice none 0 0] 53 true,Blk.map ah 12,Blk.miter (Option.some 1) 12 (0::se) 12])))))))))
 (some ((.tuple ⟨[.int .i64 0,.string s,.pointer (Option.some (Addr.mk 0 0 none)),.bool false,.int .i64 0,.iface 18446744073709551617 (.agg ⟨(.slice none n b)::c⟩),.pointer (Option.some (Addr.mk 2 0 none))]⟩),(mkSt [Blk.cells [.int .i64 0,.int .i64 0,.int .i64 0,.int .i64 0,.string ⟨#[]⟩,.slice none 0 0] 53 true,Blk.map ah 12,Blk.miter (Option.some 1) 12 (0::se) 12])))))):=by kernel_rfl
theorem Qm(NC NO:ByteArray->Int->Bool)(NV:ByteArray->Int)(KC KO:ByteArray->Bool)(KV:ByteArray->ByteArray)(OC:List Value->List Blk->Bool)(on:Nat)(oc:List Value)(ob:Bool)(s:ByteArray)(n b:Nat)(c:List Value)(se:List Nat):dP P E (gW NC NO NV KC KO KV OC (au 3 on 0 oc) ob) 50 32 Bli Hli (liV s n b c) (liB dn (.map ah 12) (.miter (some 1) 12 (1::se) 12)) (.int .i64 2) (bW ⟨#[114,101,97,100]⟩ ⟨#[110,107]⟩) =
 (af (Bool.and (Nat.beq 1 1) (inI 0 n))
 (af (Bool.and (Nat.ble 1 c.length) (dm .string (aj c 0)))
 (aC (eqS ⟨#[114,101,97,100]⟩ (asS (aj c 0)))
 (af (Bool.and (Nat.beq 1 1) (d_ 1 (ae n) n))
 (aC (iJ (ltI 0 (ae (aF 1 (ae n)))))
 (some ((.tuple ⟨[.int .i64 0,.string s,.pointer (Option.some (Addr.mk 0 0 none)),.bool false,.int .i64 0,.iface 18446744073709551617 (.agg ⟨(.slice none n b)::c⟩),.pointer (Option.some (Addr.mk 2 0 none))]⟩),(mkSt [Blk.cells [.int .i64 0,.int .i64 0,.int .i64 0,.int .i64 0,.string ⟨#[]⟩,.slice none 0 0] 53 true,Blk.map ah 12,Blk.miter (Option.some 1) 12 (1::se) 12])))
 (af (Bool.and (Nat.beq 1 1) (inI 0 (aF 1 (ae n))))
 (af (Bool.and (Nat.ble 1 (List.length (takeC (Nat.mul (aF 1 (ae n)) 1) (ai 1 c)))) (dm .string (aj (takeC (Nat.mul (aF 1 (ae n)) 1) (ai 1 c)) 0)))
 (af (NC (asS (aj (takeC (Nat.mul (aF 1 (ae n)) 1) (ai 1 c)) 0)) 1)
 (aC (NO (asS (aj (takeC (Nat.mul (aF 1 (ae n)) 1) (ai 1 c)) 0)) 1)
 (aC (iJ (ltI 1 (ae (aF 1 (ae n)))))
 (some ((.tuple ⟨[.int .i64 0,.string s,.pointer (Option.some (Addr.mk 0 0 none)),.bool false,.int .i64 0,.iface 18446744073709551617 (.agg ⟨(.slice none n b)::c⟩),.pointer (Option.some (Addr.mk 2 0 none))]⟩),(mkSt [Blk.cells [.int .i64 0,.int .i64 0,.int .i64 0,.int .i64 0,.string ⟨#[]⟩,.slice none 0 0] 53 true,Blk.map ah 12,Blk.miter (Option.some 1) 12 (1::se) 12])))
 (af (Bool.and (Nat.beq 1 1) (inI 1 (aF 1 (ae n))))
 (af (Bool.and (Nat.ble 2 (List.length (takeC (Nat.mul (aF 1 (ae n)) 1) (ai 1 c)))) (dm .string (aj (takeC (Nat.mul (aF 1 (ae n)) 1) (ai 1 c)) 1)))
 (af (KC (asS (aj (takeC (Nat.mul (aF 1 (ae n)) 1) (ai 1 c)) 1)))
 (aC (iJ (KO (asS (aj (takeC (Nat.mul (aF 1 (ae n)) 1) (ai 1 c)) 1))))
 (some ((.tuple ⟨[.int .i64 0,.string s,.pointer (Option.some (Addr.mk 0 0 none)),.bool false,.int .i64 0,.iface 18446744073709551617 (.agg ⟨(.slice none n b)::c⟩),.pointer (Option.some (Addr.mk 2 0 none))]⟩),(mkSt [Blk.cells [.int .i64 0,.int .i64 0,.int .i64 0,.int .i64 0,.string ⟨#[]⟩,.slice none 0 0] 53 true,Blk.map ah 12,Blk.miter (Option.some 1) 12 (1::se) 12])))
 (aC (eqI (ae (aF 1 (ae n))) 2)
 (some ((.tuple ⟨[.int .i64 (-1),.string s,.pointer (Option.some (Addr.mk 0 0 none)),.bool true,.int .i64 0,.iface 18446744073709551617 (.agg ⟨(.slice none n b)::c⟩),.pointer (Option.some (Addr.mk 2 0 none))]⟩),(mkSt [Blk.cells [.int .i64 2,.int .i64 (NV (asS (aj (takeC (Nat.mul (aF 1 (ae n)) 1) (ai 1 c)) 0))),.int .i64 0,.int .i64 0,.string (KV (asS (aj (takeC (Nat.mul (aF 1 (ae n)) 1) (ai 1 c)) 1))),.slice none 0 0] 53 true,Blk.map ah 12,Blk.miter (Option.some 1) 12 (1::se) 12])))
 (some ((.tuple ⟨[.int .i64 0,.string s,.pointer (Option.some (Addr.mk 0 0 none)),.bool false,.int .i64 0,.iface 18446744073709551617 (.agg ⟨(.slice none n b)::c⟩),.pointer (Option.some (Addr.mk 2 0 none))]⟩),(mkSt [Blk.cells [.int .i64 0,.int .i64 0,.int .i64 0,.int .i64 0,.string ⟨#[]⟩,.slice none 0 0] 53 true,Blk.map ah 12,Blk.miter (Option.some 1) 12 (1::se) 12])))))))))
 (some ((.tuple ⟨[.int .i64 0,.string s,.pointer (Option.some (Addr.mk 0 0 none)),.bool false,.int .i64 0,.iface 18446744073709551617 (.agg ⟨(.slice none n b)::c⟩),.pointer (Option.some (Addr.mk 2 0 none))]⟩),(mkSt [Blk.cells [.int .i64 0,.int .i64 0,.int .i64 0,.int .i64 0,.string ⟨#[]⟩,.slice none 0 0] 53 true,Blk.map ah 12,Blk.miter (Option.some 1) 12 (1::se) 12])))))))))
 (some ((.tuple ⟨[.int .i64 0,.string s,.pointer (Option.some (Addr.mk 0 0 none)),.bool false,.int .i64 0,.iface 18446744073709551617 (.agg ⟨(.slice none n b)::c⟩),.pointer (Option.some (Addr.mk 2 0 none))]⟩),(mkSt [Blk.cells [.int .i64 0,.int .i64 0,.int .i64 0,.int .i64 0,.string ⟨#[]⟩,.slice none 0 0] 53 true,Blk.map ah 12,Blk.miter (Option.some 1) 12 (1::se) 12])))))):=by kernel_rfl
def wR(NC NO:ByteArray->Int->Bool)(NV:ByteArray->Int)(KC KO:ByteArray->Bool)(KV:ByteArray->ByteArray)(OC:List Value->List Blk->Bool)(on:Nat)(oc:List Value)(ob:Bool)(s:ByteArray)(n b:Nat)(c:List Value)(se:List Nat)(W:ByteArray)(kd:Int)(sq:List Nat):Res:=
 (af (Bool.and (Nat.beq 1 1) (inI (0:Int) n))
 (af (Bool.and (Nat.ble 1 (List.length c)) (dm Eta.string (aj c 0)))
 (aC (eqS W (asS (aj c 0)))
 (af (Bool.and (Nat.beq 1 1) (d_ (1:Int) (ae n) n))
 (aC (iJ (ltI (0:Int) (ae (aF (1:Int) (ae n)))))
 (some ((Value.tuple (Array.mk [(Value.int IntKind.i64 (0:Int)),(Value.string s),(Value.pointer (Option.some (Addr.mk 0 0 none))),(Value.bool Bool.false),(Value.int IntKind.i64 (0:Int)),(Value.iface 18446744073709551617 (Value.agg (Array.mk ((Value.slice none n b)::c)))),(Value.pointer (Option.some (Addr.mk 2 0 none)))])),(mkSt [(Blk.cells [(Value.int IntKind.i64 (0:Int)),(Value.int IntKind.i64 (0:Int)),(Value.int IntKind.i64 (0:Int)),(Value.int IntKind.i64 (0:Int)),(Value.string (ByteArray.mk #[])),(Value.slice none 0 0)] 53 Bool.true),(Blk.map ah 12),(Blk.miter (Option.some 1) 12 sq 12)])))
 (af (Bool.and (Nat.beq 1 1) (inI (0:Int) (aF (1:Int) (ae n))))
 (af (Bool.and (Nat.ble 1 (List.length (takeC (Nat.mul (aF (1:Int) (ae n)) 1) (ai 1 c)))) (dm Eta.string (aj (takeC (Nat.mul (aF (1:Int) (ae n)) 1) (ai 1 c)) 0)))
 (af (NC (asS (aj (takeC (Nat.mul (aF (1:Int) (ae n)) 1) (ai 1 c)) 0)) (1:Int))
 (aC (NO (asS (aj (takeC (Nat.mul (aF (1:Int) (ae n)) 1) (ai 1 c)) 0)) (1:Int))
 (aC (eqI (ae (aF (1:Int) (ae n))) (1:Int))
 (some ((Value.tuple (Array.mk [(Value.int IntKind.i64 (-1:Int)),(Value.string s),(Value.pointer (Option.some (Addr.mk 0 0 none))),(Value.bool Bool.true),(Value.int IntKind.i64 (0:Int)),(Value.iface 18446744073709551617 (Value.agg (Array.mk ((Value.slice none n b)::c)))),(Value.pointer (Option.some (Addr.mk 2 0 none)))])),(mkSt [(Blk.cells [(Value.int IntKind.i64 kd),(Value.int IntKind.i64 (NV (asS (aj (takeC (Nat.mul (aF (1:Int) (ae n)) 1) (ai 1 c)) 0)))),(Value.int IntKind.i64 (0:Int)),(Value.int IntKind.i64 (0:Int)),(Value.string (ByteArray.mk #[])),(Value.slice none 0 0)] 53 Bool.true),(Blk.map ah 12),(Blk.miter (Option.some 1) 12 sq 12)])))
 (some ((Value.tuple (Array.mk [(Value.int IntKind.i64 (0:Int)),(Value.string s),(Value.pointer (Option.some (Addr.mk 0 0 none))),(Value.bool Bool.false),(Value.int IntKind.i64 (0:Int)),(Value.iface 18446744073709551617 (Value.agg (Array.mk ((Value.slice none n b)::c)))),(Value.pointer (Option.some (Addr.mk 2 0 none)))])),(mkSt [(Blk.cells [(Value.int IntKind.i64 (0:Int)),(Value.int IntKind.i64 (0:Int)),(Value.int IntKind.i64 (0:Int)),(Value.int IntKind.i64 (0:Int)),(Value.string (ByteArray.mk #[])),(Value.slice none 0 0)] 53 Bool.true),(Blk.map ah 12),(Blk.miter (Option.some 1) 12 sq 12)]))))
 (some ((Value.tuple (Array.mk [(Value.int IntKind.i64 (0:Int)),(Value.string s),(Value.pointer (Option.some (Addr.mk 0 0 none))),(Value.bool Bool.false),(Value.int IntKind.i64 (0:Int)),(Value.iface 18446744073709551617 (Value.agg (Array.mk ((Value.slice none n b)::c)))),(Value.pointer (Option.some (Addr.mk 2 0 none)))])),(mkSt [(Blk.cells [(Value.int IntKind.i64 (0:Int)),(Value.int IntKind.i64 (0:Int)),(Value.int IntKind.i64 (0:Int)),(Value.int IntKind.i64 (0:Int)),(Value.string (ByteArray.mk #[])),(Value.slice none 0 0)] 53 Bool.true),(Blk.map ah 12),(Blk.miter (Option.some 1) 12 sq 12)])))))))))
 (some ((Value.tuple (Array.mk [(Value.int IntKind.i64 (0:Int)),(Value.string s),(Value.pointer (Option.some (Addr.mk 0 0 none))),(Value.bool Bool.false),(Value.int IntKind.i64 (0:Int)),(Value.iface 18446744073709551617 (Value.agg (Array.mk ((Value.slice none n b)::c)))),(Value.pointer (Option.some (Addr.mk 2 0 none)))])),(mkSt [(Blk.cells [(Value.int IntKind.i64 (0:Int)),(Value.int IntKind.i64 (0:Int)),(Value.int IntKind.i64 (0:Int)),(Value.int IntKind.i64 (0:Int)),(Value.string (ByteArray.mk #[])),(Value.slice none 0 0)] 53 Bool.true),(Blk.map ah 12),(Blk.miter (Option.some 1) 12 sq 12)]))))))
theorem Qy(NC NO:ByteArray->Int->Bool)(NV:ByteArray->Int)(KC KO:ByteArray->Bool)(KV:ByteArray->ByteArray)(OC:List Value->List Blk->Bool)(on:Nat)(oc:List Value)(ob:Bool)(s:ByteArray)(n b:Nat)(c:List Value)(se:List Nat):dP P E (gW NC NO NV KC KO KV OC (au 3 on 0 oc) ob) 50 32 Bli Hli (liV s n b c) (liB dn (.map ah 12) (.miter (some 1) 12 (2::se) 12)) (.int .i64 3) (bW ⟨#[116,105,99,107]⟩ ⟨#[110]⟩)=wR NC NO NV KC KO KV OC on oc ob s n b c se (ByteArray.mk #[116,105,99,107]) (3:Int) (2::se):=by kernel_rfl
theorem Qv(NC NO:ByteArray->Int->Bool)(NV:ByteArray->Int)(KC KO:ByteArray->Bool)(KV:ByteArray->ByteArray)(OC:List Value->List Blk->Bool)(on:Nat)(oc:List Value)(ob:Bool)(s:ByteArray)(n b:Nat)(c:List Value)(se:List Nat):dP P E (gW NC NO NV KC KO KV OC (au 3 on 0 oc) ob) 50 32 Bli Hli (liV s n b c) (liB dn (.map ah 12) (.miter (some 1) 12 (3::se) 12)) (.int .i64 4) (bW ⟨#[112,114,111,109,111,116,101]⟩ ⟨#[110]⟩)=wR NC NO NV KC KO KV OC on oc ob s n b c se (ByteArray.mk #[112,114,111,109,111,116,101]) 4 (3::se):=by kernel_rfl
theorem Qe(NC NO:ByteArray->Int->Bool)(NV:ByteArray->Int)(KC KO:ByteArray->Bool)(KV:ByteArray->ByteArray)(OC:List Value->List Blk->Bool)(on:Nat)(oc:List Value)(ob:Bool)(s:ByteArray)(n b:Nat)(c:List Value)(se:List Nat):dP P E (gW NC NO NV KC KO KV OC (au 3 on 0 oc) ob) 50 32 Bli Hli (liV s n b c) (liB dn (.map ah 12) (.miter (some 1) 12 (4::se) 12)) (.int .i64 5) (bW ⟨#[102,108,117,115,104]⟩ ⟨#[110]⟩)=wR NC NO NV KC KO KV OC on oc ob s n b c se (ByteArray.mk #[102,108,117,115,104]) 5 (4::se):=by kernel_rfl
def yS(NC NO:ByteArray->Int->Bool)(NV:ByteArray->Int)(KC KO:ByteArray->Bool)(KV:ByteArray->ByteArray)(OC:List Value->List Blk->Bool)(on:Nat)(oc:List Value)(ob:Bool)(s:ByteArray)(n b:Nat)(c:List Value)(se:List Nat)(W:ByteArray)(kd:Int)(sq:List Nat):Res:=
 (af (Bool.and (Nat.beq 1 1) (inI (0:Int) n))
 (af (Bool.and (Nat.ble 1 (List.length c)) (dm Eta.string (aj c 0)))
 (aC (eqS W (asS (aj c 0)))
 (af (Bool.and (Nat.beq 1 1) (d_ (1:Int) (ae n) n))
 (aC (iJ (ltI (0:Int) (ae (aF (1:Int) (ae n)))))
 (some ((Value.tuple (Array.mk [(Value.int IntKind.i64 (0:Int)),(Value.string s),(Value.pointer (Option.some (Addr.mk 0 0 none))),(Value.bool Bool.false),(Value.int IntKind.i64 (0:Int)),(Value.iface 18446744073709551617 (Value.agg (Array.mk ((Value.slice none n b)::c)))),(Value.pointer (Option.some (Addr.mk 2 0 none)))])),(mkSt [(Blk.cells [(Value.int IntKind.i64 (0:Int)),(Value.int IntKind.i64 (0:Int)),(Value.int IntKind.i64 (0:Int)),(Value.int IntKind.i64 (0:Int)),(Value.string (ByteArray.mk #[])),(Value.slice none 0 0)] 53 Bool.true),(Blk.map ah 12),(Blk.miter (Option.some 1) 12 sq 12)])))
 (af (Bool.and (Nat.beq 1 1) (inI (0:Int) (aF (1:Int) (ae n))))
 (af (Bool.and (Nat.ble 1 (List.length (takeC (Nat.mul (aF (1:Int) (ae n)) 1) (ai 1 c)))) (dm Eta.string (aj (takeC (Nat.mul (aF (1:Int) (ae n)) 1) (ai 1 c)) 0)))
 (af (NC (asS (aj (takeC (Nat.mul (aF (1:Int) (ae n)) 1) (ai 1 c)) 0)) (999999999:Int))
 (aC (NO (asS (aj (takeC (Nat.mul (aF (1:Int) (ae n)) 1) (ai 1 c)) 0)) (999999999:Int))
 (aC (eqI (ae (aF (1:Int) (ae n))) (1:Int))
 (some ((Value.tuple (Array.mk [(Value.int IntKind.i64 (-1:Int)),(Value.string s),(Value.pointer (Option.some (Addr.mk 0 0 none))),(Value.bool Bool.true),(Value.int IntKind.i64 (0:Int)),(Value.iface 18446744073709551617 (Value.agg (Array.mk ((Value.slice none n b)::c)))),(Value.pointer (Option.some (Addr.mk 2 0 none)))])),(mkSt [(Blk.cells [(Value.int IntKind.i64 kd),(Value.int IntKind.i64 (0:Int)),(Value.int IntKind.i64 (NV (asS (aj (takeC (Nat.mul (aF (1:Int) (ae n)) 1) (ai 1 c)) 0)))),(Value.int IntKind.i64 (0:Int)),(Value.string (ByteArray.mk #[])),(Value.slice none 0 0)] 53 Bool.true),(Blk.map ah 12),(Blk.miter (Option.some 1) 12 sq 12)])))
 (some ((Value.tuple (Array.mk [(Value.int IntKind.i64 (0:Int)),(Value.string s),(Value.pointer (Option.some (Addr.mk 0 0 none))),(Value.bool Bool.false),(Value.int IntKind.i64 (0:Int)),(Value.iface 18446744073709551617 (Value.agg (Array.mk ((Value.slice none n b)::c)))),(Value.pointer (Option.some (Addr.mk 2 0 none)))])),(mkSt [(Blk.cells [(Value.int IntKind.i64 (0:Int)),(Value.int IntKind.i64 (0:Int)),(Value.int IntKind.i64 (0:Int)),(Value.int IntKind.i64 (0:Int)),(Value.string (ByteArray.mk #[])),(Value.slice none 0 0)] 53 Bool.true),(Blk.map ah 12),(Blk.miter (Option.some 1) 12 sq 12)]))))
 (some ((Value.tuple (Array.mk [(Value.int IntKind.i64 (0:Int)),(Value.string s),(Value.pointer (Option.some (Addr.mk 0 0 none))),(Value.bool Bool.false),(Value.int IntKind.i64 (0:Int)),(Value.iface 18446744073709551617 (Value.agg (Array.mk ((Value.slice none n b)::c)))),(Value.pointer (Option.some (Addr.mk 2 0 none)))])),(mkSt [(Blk.cells [(Value.int IntKind.i64 (0:Int)),(Value.int IntKind.i64 (0:Int)),(Value.int IntKind.i64 (0:Int)),(Value.int IntKind.i64 (0:Int)),(Value.string (ByteArray.mk #[])),(Value.slice none 0 0)] 53 Bool.true),(Blk.map ah 12),(Blk.miter (Option.some 1) 12 sq 12)])))))))))
 (some ((Value.tuple (Array.mk [(Value.int IntKind.i64 (0:Int)),(Value.string s),(Value.pointer (Option.some (Addr.mk 0 0 none))),(Value.bool Bool.false),(Value.int IntKind.i64 (0:Int)),(Value.iface 18446744073709551617 (Value.agg (Array.mk ((Value.slice none n b)::c)))),(Value.pointer (Option.some (Addr.mk 2 0 none)))])),(mkSt [(Blk.cells [(Value.int IntKind.i64 (0:Int)),(Value.int IntKind.i64 (0:Int)),(Value.int IntKind.i64 (0:Int)),(Value.int IntKind.i64 (0:Int)),(Value.string (ByteArray.mk #[])),(Value.slice none 0 0)] 53 Bool.true),(Blk.map ah 12),(Blk.miter (Option.some 1) 12 sq 12)]))))))
theorem P_(NC NO:ByteArray->Int->Bool)(NV:ByteArray->Int)(KC KO:ByteArray->Bool)(KV:ByteArray->ByteArray)(OC:List Value->List Blk->Bool)(on:Nat)(oc:List Value)(ob:Bool)(s:ByteArray)(n b:Nat)(c:List Value)(se:List Nat):dP P E (gW NC NO NV KC KO KV OC (au 3 on 0 oc) ob) 50 32 Bli Hli (liV s n b c) (liB dn (.map ah 12) (.miter (some 1) 12 (5::se) 12)) (.int .i64 6) (bW ⟨#[100,101,108,105,118,101,114]⟩ ⟨#[97]⟩)=yS NC NO NV KC KO KV OC on oc ob s n b c se (ByteArray.mk #[100,101,108,105,118,101,114]) (6:Int) (5::se):=by kernel_rfl
theorem QO(NC NO:ByteArray->Int->Bool)(NV:ByteArray->Int)(KC KO:ByteArray->Bool)(KV:ByteArray->ByteArray)(OC:List Value->List Blk->Bool)(on:Nat)(oc:List Value)(ob:Bool)(s:ByteArray)(n b:Nat)(c:List Value)(se:List Nat):dP P E (gW NC NO NV KC KO KV OC (au 3 on 0 oc) ob) 50 32 Bli Hli (liV s n b c) (liB dn (.map ah 12) (.miter (some 1) 12 (6::se) 12)) (.int .i64 7) (bW ⟨#[116,119,105,99,101]⟩ ⟨#[97]⟩)=yS NC NO NV KC KO KV OC on oc ob s n b c se (ByteArray.mk #[116,119,105,99,101]) 7 (6::se):=by kernel_rfl
theorem QV(NC NO:ByteArray->Int->Bool)(NV:ByteArray->Int)(KC KO:ByteArray->Bool)(KV:ByteArray->ByteArray)(OC:List Value->List Blk->Bool)(on:Nat)(oc:List Value)(ob:Bool)(s:ByteArray)(n b:Nat)(c:List Value)(se:List Nat):dP P E (gW NC NO NV KC KO KV OC (au 3 on 0 oc) ob) 50 32 Bli Hli (liV s n b c) (liB dn (.map ah 12) (.miter (some 1) 12 (7::se) 12)) (.int .i64 8) (bW ⟨#[100,114,111,112]⟩ ⟨#[97]⟩)=yS NC NO NV KC KO KV OC on oc ob s n b c se (ByteArray.mk #[100,114,111,112]) 8 (7::se):=by kernel_rfl
theorem Ql(NC NO:ByteArray->Int->Bool)(NV:ByteArray->Int)(KC KO:ByteArray->Bool)(KV:ByteArray->ByteArray)(OC:List Value->List Blk->Bool)(on:Nat)(oc:List Value)(ob:Bool)(s:ByteArray)(n b:Nat)(c:List Value)(se:List Nat):dP P E (gW NC NO NV KC KO KV OC (au 3 on 0 oc) ob) 50 32 Bli Hli (liV s n b c) (liB dn (.map ah 12) (.miter (some 1) 12 (8::se) 12)) (.int .i64 9) (bW ⟨#[102,117,115,101]⟩ ⟨#[110,97]⟩) =
 (af (Bool.and (Nat.beq 1 1) (inI 0 n))
 (af (Bool.and (Nat.ble 1 c.length) (dm .string (aj c 0)))
 (aC (eqS ⟨#[102,117,115,101]⟩ (asS (aj c 0)))
 (af (Bool.and (Nat.beq 1 1) (d_ 1 (ae n) n))
 (aC (iJ (ltI 0 (ae (aF 1 (ae n)))))
 (some ((.tuple ⟨[.int .i64 0,.string s,.pointer (Option.some (Addr.mk 0 0 none)),.bool false,.int .i64 0,.iface 18446744073709551617 (.agg ⟨(.slice none n b)::c⟩),.pointer (Option.some (Addr.mk 2 0 none))]⟩),(mkSt [Blk.cells [.int .i64 0,.int .i64 0,.int .i64 0,.int .i64 0,.string ⟨#[]⟩,.slice none 0 0] 53 true,Blk.map ah 12,Blk.miter (Option.some 1) 12 (8::se) 12])))
 (af (Bool.and (Nat.beq 1 1) (inI 0 (aF 1 (ae n))))
 (af (Bool.and (Nat.ble 1 (List.length (takeC (Nat.mul (aF 1 (ae n)) 1) (ai 1 c)))) (dm .string (aj (takeC (Nat.mul (aF 1 (ae n)) 1) (ai 1 c)) 0)))
 (af (NC (asS (aj (takeC (Nat.mul (aF 1 (ae n)) 1) (ai 1 c)) 0)) 1)
 (aC (NO (asS (aj (takeC (Nat.mul (aF 1 (ae n)) 1) (ai 1 c)) 0)) 1)
 (aC (iJ (ltI 1 (ae (aF 1 (ae n)))))
 (some ((.tuple ⟨[.int .i64 0,.string s,.pointer (Option.some (Addr.mk 0 0 none)),.bool false,.int .i64 0,.iface 18446744073709551617 (.agg ⟨(.slice none n b)::c⟩),.pointer (Option.some (Addr.mk 2 0 none))]⟩),(mkSt [Blk.cells [.int .i64 0,.int .i64 0,.int .i64 0,.int .i64 0,.string ⟨#[]⟩,.slice none 0 0] 53 true,Blk.map ah 12,Blk.miter (Option.some 1) 12 (8::se) 12])))
 (af (Bool.and (Nat.beq 1 1) (inI 1 (aF 1 (ae n))))
 (af (Bool.and (Nat.ble 2 (List.length (takeC (Nat.mul (aF 1 (ae n)) 1) (ai 1 c)))) (dm .string (aj (takeC (Nat.mul (aF 1 (ae n)) 1) (ai 1 c)) 1)))
 (af (NC (asS (aj (takeC (Nat.mul (aF 1 (ae n)) 1) (ai 1 c)) 1)) 999999999)
 (aC (NO (asS (aj (takeC (Nat.mul (aF 1 (ae n)) 1) (ai 1 c)) 1)) 999999999)
 (aC (eqI (ae (aF 1 (ae n))) 2)
 (some ((.tuple ⟨[.int .i64 (-1),.string s,.pointer (Option.some (Addr.mk 0 0 none)),.bool true,.int .i64 0,.iface 18446744073709551617 (.agg ⟨(.slice none n b)::c⟩),.pointer (Option.some (Addr.mk 2 0 none))]⟩),(mkSt [Blk.cells [.int .i64 9,.int .i64 (NV (asS (aj (takeC (Nat.mul (aF 1 (ae n)) 1) (ai 1 c)) 0))),.int .i64 (NV (asS (aj (takeC (Nat.mul (aF 1 (ae n)) 1) (ai 1 c)) 1))),.int .i64 0,.string ⟨#[]⟩,.slice none 0 0] 53 true,Blk.map ah 12,Blk.miter (Option.some 1) 12 (8::se) 12])))
 (some ((.tuple ⟨[.int .i64 0,.string s,.pointer (Option.some (Addr.mk 0 0 none)),.bool false,.int .i64 0,.iface 18446744073709551617 (.agg ⟨(.slice none n b)::c⟩),.pointer (Option.some (Addr.mk 2 0 none))]⟩),(mkSt [Blk.cells [.int .i64 0,.int .i64 0,.int .i64 0,.int .i64 0,.string ⟨#[]⟩,.slice none 0 0] 53 true,Blk.map ah 12,Blk.miter (Option.some 1) 12 (8::se) 12]))))
 (some ((.tuple ⟨[.int .i64 0,.string s,.pointer (Option.some (Addr.mk 0 0 none)),.bool false,.int .i64 0,.iface 18446744073709551617 (.agg ⟨(.slice none n b)::c⟩),.pointer (Option.some (Addr.mk 2 0 none))]⟩),(mkSt [Blk.cells [.int .i64 0,.int .i64 0,.int .i64 0,.int .i64 0,.string ⟨#[]⟩,.slice none 0 0] 53 true,Blk.map ah 12,Blk.miter (Option.some 1) 12 (8::se) 12]))))))))
 (some ((.tuple ⟨[.int .i64 0,.string s,.pointer (Option.some (Addr.mk 0 0 none)),.bool false,.int .i64 0,.iface 18446744073709551617 (.agg ⟨(.slice none n b)::c⟩),.pointer (Option.some (Addr.mk 2 0 none))]⟩),(mkSt [Blk.cells [.int .i64 0,.int .i64 0,.int .i64 0,.int .i64 0,.string ⟨#[]⟩,.slice none 0 0] 53 true,Blk.map ah 12,Blk.miter (Option.some 1) 12 (8::se) 12])))))))))
 (some ((.tuple ⟨[.int .i64 0,.string s,.pointer (Option.some (Addr.mk 0 0 none)),.bool false,.int .i64 0,.iface 18446744073709551617 (.agg ⟨(.slice none n b)::c⟩),.pointer (Option.some (Addr.mk 2 0 none))]⟩),(mkSt [Blk.cells [.int .i64 0,.int .i64 0,.int .i64 0,.int .i64 0,.string ⟨#[]⟩,.slice none 0 0] 53 true,Blk.map ah 12,Blk.miter (Option.some 1) 12 (8::se) 12])))))):=by kernel_rfl
theorem OX(NC NO:ByteArray->Int->Bool)(NV:ByteArray->Int)(KC KO:ByteArray->Bool)(KV:ByteArray->ByteArray)(OC:List Value->List Blk->Bool)(on:Nat)(oc:List Value)(ob:Bool)(s:ByteArray)(n b:Nat)(c:List Value)(se:List Nat):dP P E (gW NC NO NV KC KO KV OC (au 3 on 0 oc) ob) 50 32 Bli Hli (liV s n b c) (liB dn (.map ah 12) (.miter (some 1) 12 (9::se) 12)) (.int .i64 10) (bW ⟨#[112,117,108,108]⟩ ⟨#[110]⟩)=wR NC NO NV KC KO KV OC on oc ob s n b c se (ByteArray.mk #[112,117,108,108]) 10 (9::se):=by kernel_rfl
theorem O4(NC NO:ByteArray->Int->Bool)(NV:ByteArray->Int)(KC KO:ByteArray->Bool)(KV:ByteArray->ByteArray)(OC:List Value->List Blk->Bool)(on:Nat)(oc:List Value)(ob:Bool)(s:ByteArray)(n b:Nat)(c:List Value)(se:List Nat):dP P E (gW NC NO NV KC KO KV OC (au 3 on 0 oc) ob) 50 32 Bli Hli (liV s n b c) (liB dn (.map ah 12) (.miter (some 1) 12 (10::se) 12)) (.int .i64 11) (bW ⟨#[115,116,97,114,116]⟩ ⟨#[110,97,116]⟩) =
 (af (Bool.and (Nat.beq 1 1) (inI 0 n))
 (af (Bool.and (Nat.ble 1 c.length) (dm .string (aj c 0)))
 (aC (eqS ⟨#[115,116,97,114,116]⟩ (asS (aj c 0)))
 (af (Bool.and (Nat.beq 1 1) (d_ 1 (ae n) n))
 (aC (iJ (ltI 0 (ae (aF 1 (ae n)))))
 (some ((.tuple ⟨[.int .i64 0,.string s,.pointer (Option.some (Addr.mk 0 0 none)),.bool false,.int .i64 0,.iface 18446744073709551617 (.agg ⟨(.slice none n b)::c⟩),.pointer (Option.some (Addr.mk 2 0 none))]⟩),(mkSt [Blk.cells [.int .i64 0,.int .i64 0,.int .i64 0,.int .i64 0,.string ⟨#[]⟩,.slice none 0 0] 53 true,Blk.map ah 12,Blk.miter (Option.some 1) 12 (10::se) 12])))
 (af (Bool.and (Nat.beq 1 1) (inI 0 (aF 1 (ae n))))
 (af (Bool.and (Nat.ble 1 (List.length (takeC (Nat.mul (aF 1 (ae n)) 1) (ai 1 c)))) (dm .string (aj (takeC (Nat.mul (aF 1 (ae n)) 1) (ai 1 c)) 0)))
 (af (NC (asS (aj (takeC (Nat.mul (aF 1 (ae n)) 1) (ai 1 c)) 0)) 1)
 (aC (NO (asS (aj (takeC (Nat.mul (aF 1 (ae n)) 1) (ai 1 c)) 0)) 1)
 (aC (iJ (ltI 1 (ae (aF 1 (ae n)))))
 (some ((.tuple ⟨[.int .i64 0,.string s,.pointer (Option.some (Addr.mk 0 0 none)),.bool false,.int .i64 0,.iface 18446744073709551617 (.agg ⟨(.slice none n b)::c⟩),.pointer (Option.some (Addr.mk 2 0 none))]⟩),(mkSt [Blk.cells [.int .i64 0,.int .i64 0,.int .i64 0,.int .i64 0,.string ⟨#[]⟩,.slice none 0 0] 53 true,Blk.map ah 12,Blk.miter (Option.some 1) 12 (10::se) 12])))
 (af (Bool.and (Nat.beq 1 1) (inI 1 (aF 1 (ae n))))
 (af (Bool.and (Nat.ble 2 (List.length (takeC (Nat.mul (aF 1 (ae n)) 1) (ai 1 c)))) (dm .string (aj (takeC (Nat.mul (aF 1 (ae n)) 1) (ai 1 c)) 1)))
 (af (NC (asS (aj (takeC (Nat.mul (aF 1 (ae n)) 1) (ai 1 c)) 1)) 999999999)
 (aC (NO (asS (aj (takeC (Nat.mul (aF 1 (ae n)) 1) (ai 1 c)) 1)) 999999999)
 (aC (iJ (ltI 2 (ae (aF 1 (ae n)))))
 (some ((.tuple ⟨[.int .i64 0,.string s,.pointer (Option.some (Addr.mk 0 0 none)),.bool false,.int .i64 0,.iface 18446744073709551617 (.agg ⟨(.slice none n b)::c⟩),.pointer (Option.some (Addr.mk 2 0 none))]⟩),(mkSt [Blk.cells [.int .i64 0,.int .i64 0,.int .i64 0,.int .i64 0,.string ⟨#[]⟩,.slice none 0 0] 53 true,Blk.map ah 12,Blk.miter (Option.some 1) 12 (10::se) 12])))
 (af (Bool.and (Nat.beq 1 1) (inI 2 (aF 1 (ae n))))
 (af (Bool.and (Nat.ble 3 (List.length (takeC (Nat.mul (aF 1 (ae n)) 1) (ai 1 c)))) (dm .string (aj (takeC (Nat.mul (aF 1 (ae n)) 1) (ai 1 c)) 2)))
 (af (NC (asS (aj (takeC (Nat.mul (aF 1 (ae n)) 1) (ai 1 c)) 2)) 999999999)
 (aC (NO (asS (aj (takeC (Nat.mul (aF 1 (ae n)) 1) (ai 1 c)) 2)) 999999999)
 (aC (eqI (ae (aF 1 (ae n))) 3)
 (some ((.tuple ⟨[.int .i64 (-1),.string s,.pointer (Option.some (Addr.mk 0 0 none)),.bool true,.int .i64 0,.iface 18446744073709551617 (.agg ⟨(.slice none n b)::c⟩),.pointer (Option.some (Addr.mk 2 0 none))]⟩),(mkSt [Blk.cells [.int .i64 11,.int .i64 (NV (asS (aj (takeC (Nat.mul (aF 1 (ae n)) 1) (ai 1 c)) 0))),.int .i64 (NV (asS (aj (takeC (Nat.mul (aF 1 (ae n)) 1) (ai 1 c)) 1))),.int .i64 (NV (asS (aj (takeC (Nat.mul (aF 1 (ae n)) 1) (ai 1 c)) 2))),.string ⟨#[]⟩,.slice none 0 0] 53 true,Blk.map ah 12,Blk.miter (Option.some 1) 12 (10::se) 12])))
 (some ((.tuple ⟨[.int .i64 0,.string s,.pointer (Option.some (Addr.mk 0 0 none)),.bool false,.int .i64 0,.iface 18446744073709551617 (.agg ⟨(.slice none n b)::c⟩),.pointer (Option.some (Addr.mk 2 0 none))]⟩),(mkSt [Blk.cells [.int .i64 0,.int .i64 0,.int .i64 0,.int .i64 0,.string ⟨#[]⟩,.slice none 0 0] 53 true,Blk.map ah 12,Blk.miter (Option.some 1) 12 (10::se) 12]))))
 (some ((.tuple ⟨[.int .i64 0,.string s,.pointer (Option.some (Addr.mk 0 0 none)),.bool false,.int .i64 0,.iface 18446744073709551617 (.agg ⟨(.slice none n b)::c⟩),.pointer (Option.some (Addr.mk 2 0 none))]⟩),(mkSt [Blk.cells [.int .i64 0,.int .i64 0,.int .i64 0,.int .i64 0,.string ⟨#[]⟩,.slice none 0 0] 53 true,Blk.map ah 12,Blk.miter (Option.some 1) 12 (10::se) 12]))))))))
 (some ((.tuple ⟨[.int .i64 0,.string s,.pointer (Option.some (Addr.mk 0 0 none)),.bool false,.int .i64 0,.iface 18446744073709551617 (.agg ⟨(.slice none n b)::c⟩),.pointer (Option.some (Addr.mk 2 0 none))]⟩),(mkSt [Blk.cells [.int .i64 0,.int .i64 0,.int .i64 0,.int .i64 0,.string ⟨#[]⟩,.slice none 0 0] 53 true,Blk.map ah 12,Blk.miter (Option.some 1) 12 (10::se) 12]))))))))
 (some ((.tuple ⟨[.int .i64 0,.string s,.pointer (Option.some (Addr.mk 0 0 none)),.bool false,.int .i64 0,.iface 18446744073709551617 (.agg ⟨(.slice none n b)::c⟩),.pointer (Option.some (Addr.mk 2 0 none))]⟩),(mkSt [Blk.cells [.int .i64 0,.int .i64 0,.int .i64 0,.int .i64 0,.string ⟨#[]⟩,.slice none 0 0] 53 true,Blk.map ah 12,Blk.miter (Option.some 1) 12 (10::se) 12])))))))))
 (some ((.tuple ⟨[.int .i64 0,.string s,.pointer (Option.some (Addr.mk 0 0 none)),.bool false,.int .i64 0,.iface 18446744073709551617 (.agg ⟨(.slice none n b)::c⟩),.pointer (Option.some (Addr.mk 2 0 none))]⟩),(mkSt [Blk.cells [.int .i64 0,.int .i64 0,.int .i64 0,.int .i64 0,.string ⟨#[]⟩,.slice none 0 0] 53 true,Blk.map ah 12,Blk.miter (Option.some 1) 12 (10::se) 12])))))):=by kernel_rfl
theorem OT(NC NO:ByteArray->Int->Bool)(NV:ByteArray->Int)(KC KO:ByteArray->Bool)(KV:ByteArray->ByteArray)(OC:List Value->List Blk->Bool)(on:Nat)(oc:List Value)(ob:Bool)(s:ByteArray)(n b:Nat)(c:List Value)(se:List Nat):dP P E (gW NC NO NV KC KO KV OC (au 3 on 0 oc) ob) 50 32 Bli Hli (liV s n b c) (liB dn (.map ah 12) (.miter (some 1) 12 (11::se) 12)) (.int .i64 12) (bW ⟨#[114,111,117,110,100]⟩ ⟨#[]⟩) =
 (af (Bool.and (Nat.beq 1 1) (inI 0 n))
 (af (Bool.and (Nat.ble 1 c.length) (dm .string (aj c 0)))
 (aC (eqS ⟨#[114,111,117,110,100]⟩ (asS (aj c 0)))
 (af (Bool.and (Nat.beq 1 1) (d_ 1 (ae n) n))
 (aC (eqI (ae (aF 1 (ae n))) 0)
 (some ((.tuple ⟨[.int .i64 (-1),.string s,.pointer (Option.some (Addr.mk 0 0 none)),.bool true,.int .i64 0,.iface 18446744073709551617 (.agg ⟨(.slice none n b)::c⟩),.pointer (Option.some (Addr.mk 2 0 none))]⟩),(mkSt [Blk.cells [.int .i64 12,.int .i64 0,.int .i64 0,.int .i64 0,.string ⟨#[]⟩,.slice none 0 0] 53 true,Blk.map ah 12,Blk.miter (Option.some 1) 12 (11::se) 12])))
 (some ((.tuple ⟨[.int .i64 0,.string s,.pointer (Option.some (Addr.mk 0 0 none)),.bool false,.int .i64 0,.iface 18446744073709551617 (.agg ⟨(.slice none n b)::c⟩),.pointer (Option.some (Addr.mk 2 0 none))]⟩),(mkSt [Blk.cells [.int .i64 0,.int .i64 0,.int .i64 0,.int .i64 0,.string ⟨#[]⟩,.slice none 0 0] 53 true,Blk.map ah 12,Blk.miter (Option.some 1) 12 (11::se) 12])))))
 (some ((.tuple ⟨[.int .i64 0,.string s,.pointer (Option.some (Addr.mk 0 0 none)),.bool false,.int .i64 0,.iface 18446744073709551617 (.agg ⟨(.slice none n b)::c⟩),.pointer (Option.some (Addr.mk 2 0 none))]⟩),(mkSt [Blk.cells [.int .i64 0,.int .i64 0,.int .i64 0,.int .i64 0,.string ⟨#[]⟩,.slice none 0 0] 53 true,Blk.map ah 12,Blk.miter (Option.some 1) 12 (11::se) 12])))))):=by kernel_rfl
theorem QN(s:ByteArray)(n b:Nat)(c:List Value)(se:List Nat):DL P E ctF 50 32 Bli Hli (liV s n b c) (liB dn (.map ah 12) (.miter (some 1) 12 se 12)) =
 (some ((.tuple ⟨[.int .i64 1,.string s,.pointer (Option.some (Addr.mk 0 0 none)),.bool false,.int .i64 0,.iface 18446744073709551617 (.agg ⟨(.slice none n b)::c⟩),.pointer (Option.some (Addr.mk 2 0 none))]⟩),(mkSt [Blk.cells [.int .i64 0,.int .i64 0,.int .i64 0,.int .i64 0,.string ⟨#[]⟩,.slice none 0 0] 53 true,Blk.map ah 12,Blk.miter (Option.some 1) 12 se 12]))):=by kernel_rfl
structure ActM where
 kind:Int
 node:Int
 n:Int
 t:Int
 key:ByteArray
 ops:List OpM
def oz(a:ActM)(o:Value):List Value:=[.int .i64 a.kind, .int .i64 a.node, .int .i64 a.n, .int .i64 a.t, .string a.key,o]
def wu:Value:= .slice none 0 0
def liR(ex:Ex)(s:ByteArray)(ws:List ByteArray)(a:List Value)(th:Bool)(se:List Nat):Res:=
 some (.tuple ⟨exV ex::[.string s, .pointer (some ⟨0,0,none⟩), .bool th, .int .i64 0,fzS ws, .pointer (some ⟨2,0,none⟩)]⟩,mkSt (liB a (.map ah 12) (.miter (some 1) 12 se 12)))
def again(s:ByteArray)(ws:List ByteArray)(se:List Nat):Res:=liR .normal s ws dn false se
def found(s:ByteArray)(ws:List ByteArray)(se:List Nat)(a:ActM)(o:Value):Res:=liR .ret s ws (oz a o) true se
theorem dw{a:ByteArray}{m:Int}(h:a.size<=4194304)(hm:m<=1000000000):jd a m=true:=by
 unfold jd leI;rw[qW h,decide_eq_true hm]; rfl
section
variable{w0:ByteArray}{r:List ByteArray}
theorem l_in:inI 0 (w0::r).length=true:=aV (i:=0) (by simp)
theorem vH(l:List ByteArray):(l.map Value.string).length=l.length:=List.length_map ..
theorem ww:Nat.ble 1 (w0::r).length=true:=Nat.ble_eq_true_of_le (by simp)
theorem uN:aj ((w0::r).map Value.string) 0 = .string w0:=rfl
theorem gZ(b:ByteArray):asS (.string b)=b:=rfl
theorem g_(b:ByteArray):dm .string (.string b)=true:=rfl
theorem qf:d_ 1 (ae (w0::r).length) (w0::r).length=true:=oZ (by omega) (by unfold ae; simp only[List.length_cons]; omega) (by unfold ae; omega)
theorem pY:aF 1 (ae (w0::r).length)=r.length:=by simp only[aF,ae,List.length_cons]; omega
theorem uT:takeC r.length (ai 1 ((w0::r).map Value.string))=r.map Value.string:=tC (by simp)
theorem wz(n:Nat):Nat.beq n n=true:=Nat.beq_refl n
end
theorem dD{i:Nat}{l:List ByteArray}(h:i<l.length):ltI (i:Int) (ae l.length)=true:=by unfold ltI ae; exact decide_eq_true (by omega)
theorem sD{k:Nat}{l:List ByteArray}(h:l.length≠k):eqI (ae l.length) (k:Int)=false:=by unfold eqI ae; exact decide_eq_false (by omega)
theorem bZ{k:Nat}{l:List ByteArray}(h:k<=l.length):Nat.ble k l.length=true:=Nat.ble_eq_true_of_le h
def SzW(ws:List ByteArray):Prop:=∀ w∈ws,w.size<=4194304
theorem ja:iJ true=false:=rfl
def iP(s:ByteArray)(ws:List ByteArray)(se:List Nat):Option (ActM×Value)->Res
 |some p=>found s ws se p.1 p.2
 |none=>again s ws se
def kJ(W:ByteArray)(kd:Int)(w0:ByteArray)(r:List ByteArray):Option (ActM×Value):=match eqS W w0,r with
   |true,[a]=>(match aZ a 1 with
    |true=>some (⟨kd,dM a,0,0,⟨#[]⟩,[]⟩,wu)
    |_=>none)
   |_,_=>none
def lZ(W:ByteArray)(kd:Int)(w0:ByteArray)(r:List ByteArray):Option (ActM×Value):=match eqS W w0,r with
   |true,[a]=>(match aZ a 999999999 with
    |true=>some (⟨kd,0,dM a,0,⟨#[]⟩,[]⟩,wu)
    |_=>none)
   |_,_=>none
def rU(W:ByteArray)(kd:Int)(w0:ByteArray)(r:List ByteArray):Option (ActM×Value):=match eqS W w0,r with
   |true,[a,b]=>(match aZ a 1,fD b with
    |true,true=>some (⟨kd,dM a,0,0,byS b,[]⟩,wu)
    |_,_=>none)
   |_,_=>none
def sK(W:ByteArray)(kd:Int)(w0:ByteArray)(r:List ByteArray):Option (ActM×Value):=match eqS W w0,r with
   |true,[a,b]=>(match aZ a 1,aZ b 999999999 with
    |true,true=>some (⟨kd,dM a,dM b,0,⟨#[]⟩,[]⟩,wu)
    |_,_=>none)
   |_,_=>none
def oU(W:ByteArray)(kd:Int)(w0:ByteArray)(r:List ByteArray):Option (ActM×Value):=match eqS W w0,r with
   |true,[a,b,c]=>(match aZ a 1,aZ b 999999999,aZ c 999999999 with
    |true,true,true=>some (⟨kd,dM a,dM b,dM c,⟨#[]⟩,[]⟩,wu)
    |_,_,_=>none)
   |_,_=>none
def wK(W:ByteArray)(kd:Int)(w0:ByteArray)(r:List ByteArray):Option (ActM×Value):=match eqS W w0,r with
   |true,[]=>some (⟨kd,0,0,0,⟨#[]⟩,[]⟩,wu)
   |_,_=>none
theorem t_{OC:List Value->List Blk->Bool}{on:Nat}{oc:List Value}{ob:Bool}{s w0:ByteArray}{r:List ByteArray}{se:List Nat}(hs:SzW r){W:ByteArray}{kd:Int}{sq:List Nat}:wR jd aZ dM szS fD byS OC on oc ob s (w0::r).length 0 ((w0::r).map Value.string) se W kd sq=iP s (w0::r) sq (kJ W kd w0 r):=by
 unfold wR;unfold iP again found liR kJ fzS au;rw[fzU];simp only[l_in,vH,ww,uN,gZ,g_,qf,pY,iU,uT,wz,Bool.and_self,aT];cases eqS _ w0 with
 |false=>rfl
 |true=>
  match r,hs with
  |[],hs=>
   rfl
  |[a],hs=>
   have h0:=dw (m:=1) (hs a (by simp)) (by omega);have n0:aj ([a].map Value.string) 0 = .string a:=rfl;have i0:inI 0 [a].length=true:=aV (i:=0) (by simp);have g0:ltI 0 (ae [a].length)=true:=dD (i:=0) (by simp);have b0:Nat.ble 1 [a].length=true:=bZ (by simp);simp only[gZ,g_,ja,h0,n0,i0,g0,b0,Bool.and_self,aT,cO,bn];cases aZ a 1<;>rfl
  |a::b::t,hs=>
   have h0:=dw (m:=1) (hs a (by simp)) (by omega);have n0:aj ((a::b::t).map Value.string) 0 = .string a:=rfl;have i0:inI 0 (a::b::t).length=true:=aV (i:=0) (by simp);have g0:ltI 0 (ae (a::b::t).length)=true:=dD (i:=0) (by simp);have b0:Nat.ble 1 (a::b::t).length=true:=bZ (by simp);have e:eqI (ae (a::b::t).length) 1=false:=sD (k:=1) (by simp);simp only[gZ,g_,ja,h0,n0,i0,g0,b0,e,Bool.and_self,aT,cO,bn];cases aZ a 1<;>rfl
theorem yz{OC:List Value->List Blk->Bool}{on:Nat}{oc:List Value}{ob:Bool}{s w0:ByteArray}{r:List ByteArray}{se:List Nat}(hs:SzW r){W:ByteArray}{kd:Int}{sq:List Nat}:yS jd aZ dM szS fD byS OC on oc ob s (w0::r).length 0 ((w0::r).map Value.string) se W kd sq=iP s (w0::r) sq (lZ W kd w0 r):=by
 unfold yS;unfold iP again found liR lZ fzS au;rw[fzU];simp only[l_in,vH,ww,uN,gZ,g_,qf,pY,iU,uT,wz,Bool.and_self,aT];cases eqS _ w0 with
 |false=>rfl
 |true=>
  match r,hs with
  |[],hs=>
   rfl
  |[a],hs=>
   have h0:=dw (m:=999999999) (hs a (by simp)) (by omega);have n0:aj ([a].map Value.string) 0 = .string a:=rfl;have i0:inI 0 [a].length=true:=aV (i:=0) (by simp);have g0:ltI 0 (ae [a].length)=true:=dD (i:=0) (by simp);have b0:Nat.ble 1 [a].length=true:=bZ (by simp);simp only[gZ,g_,ja,h0,n0,i0,g0,b0,Bool.and_self,aT,cO,bn];cases aZ a 999999999<;>rfl
  |a::b::t,hs=>
   have h0:=dw (m:=999999999) (hs a (by simp)) (by omega);have n0:aj ((a::b::t).map Value.string) 0 = .string a:=rfl;have i0:inI 0 (a::b::t).length=true:=aV (i:=0) (by simp);have g0:ltI 0 (ae (a::b::t).length)=true:=dD (i:=0) (by simp);have b0:Nat.ble 1 (a::b::t).length=true:=bZ (by simp);have e:eqI (ae (a::b::t).length) 1=false:=sD (k:=1) (by simp);simp only[gZ,g_,ja,h0,n0,i0,g0,b0,e,Bool.and_self,aT,cO,bn];cases aZ a 999999999<;>rfl
theorem UM{OC:List Value->List Blk->Bool}{on:Nat}{oc:List Value}{ob:Bool}{s w0:ByteArray}{r:List ByteArray}{se:List Nat}(hs:SzW r):dP P E (gW jd aZ dM szS fD byS OC (au 3 on 0 oc) ob) 50 32 Bli Hli (liV s (w0::r).length 0 ((w0::r).map Value.string)) (liB dn (.map ah 12) (.miter (some 1) 12 (1::se) 12)) (.int .i64 2) (bW ⟨#[114,101,97,100]⟩ ⟨#[110,107]⟩)=iP s (w0::r) (1::se) (rU ⟨#[114,101,97,100]⟩ 2 w0 r):=by
 rw[Qm];unfold iP again found liR rU fzS au;rw[fzU];simp only[l_in,vH,ww,uN,gZ,g_,qf,pY,iU,uT,wz,Bool.and_self,aT];cases eqS _ w0 with
 |false=>rfl
 |true=>
  match r,hs with
  |[],hs=>
   rfl
  |[a],hs=>
   have h0:=dw (m:=1) (hs a (by simp)) (by omega);have n0:aj ([a].map Value.string) 0 = .string a:=rfl;have i0:inI 0 [a].length=true:=aV (i:=0) (by simp);have g0:ltI 0 (ae [a].length)=true:=dD (i:=0) (by simp);have b0:Nat.ble 1 [a].length=true:=bZ (by simp);simp only[gZ,g_,ja,h0,n0,i0,g0,b0,Bool.and_self,aT,cO,bn];cases aZ a 1<;>rfl
  |[a,b],hs=>
   have h0:=dw (m:=1) (hs a (by simp)) (by omega);have n0:aj ([a,b].map Value.string) 0 = .string a:=rfl;have i0:inI 0 [a,b].length=true:=aV (i:=0) (by simp);have g0:ltI 0 (ae [a,b].length)=true:=dD (i:=0) (by simp);have b0:Nat.ble 1 [a,b].length=true:=bZ (by simp);have h1:=qW (hs b (by simp));have n1:aj ([a,b].map Value.string) 1 = .string b:=rfl;have i1:inI 1 [a,b].length=true:=aV (i:=1) (by simp);have g1:ltI 1 (ae [a,b].length)=true:=dD (i:=1) (by simp);have b1:Nat.ble 2 [a,b].length=true:=bZ (by simp);simp only[gZ,g_,ja,h0,n0,i0,g0,b0,h1,n1,i1,g1,b1,Bool.and_self,aT,cO,bn];cases aZ a 1<;>cases fD b<;>rfl
  |a::b::c::t,hs=>
   have h0:=dw (m:=1) (hs a (by simp)) (by omega);have n0:aj ((a::b::c::t).map Value.string) 0 = .string a:=rfl;have i0:inI 0 (a::b::c::t).length=true:=aV (i:=0) (by simp);have g0:ltI 0 (ae (a::b::c::t).length)=true:=dD (i:=0) (by simp);have b0:Nat.ble 1 (a::b::c::t).length=true:=bZ (by simp);have h1:=qW (hs b (by simp));have n1:aj ((a::b::c::t).map Value.string) 1 = .string b:=rfl;have i1:inI 1 (a::b::c::t).length=true:=aV (i:=1) (by simp);have g1:ltI 1 (ae (a::b::c::t).length)=true:=dD (i:=1) (by simp);have b1:Nat.ble 2 (a::b::c::t).length=true:=bZ (by simp);have e:eqI (ae (a::b::c::t).length) 2=false:=sD (k:=2) (by simp);simp only[gZ,g_,ja,h0,n0,i0,g0,b0,h1,n1,i1,g1,b1,e,Bool.and_self,aT,cO,bn];cases aZ a 1<;>cases fD b<;>rfl
theorem UJ{OC:List Value->List Blk->Bool}{on:Nat}{oc:List Value}{ob:Bool}{s w0:ByteArray}{r:List ByteArray}{se:List Nat}(hs:SzW r):dP P E (gW jd aZ dM szS fD byS OC (au 3 on 0 oc) ob) 50 32 Bli Hli (liV s (w0::r).length 0 ((w0::r).map Value.string)) (liB dn (.map ah 12) (.miter (some 1) 12 (2::se) 12)) (.int .i64 3) (bW ⟨#[116,105,99,107]⟩ ⟨#[110]⟩)=iP s (w0::r) (2::se) (kJ ⟨#[116,105,99,107]⟩ 3 w0 r):=by
 rw[Qy];exact t_ hs
theorem UU{OC:List Value->List Blk->Bool}{on:Nat}{oc:List Value}{ob:Bool}{s w0:ByteArray}{r:List ByteArray}{se:List Nat}(hs:SzW r):dP P E (gW jd aZ dM szS fD byS OC (au 3 on 0 oc) ob) 50 32 Bli Hli (liV s (w0::r).length 0 ((w0::r).map Value.string)) (liB dn (.map ah 12) (.miter (some 1) 12 (3::se) 12)) (.int .i64 4) (bW ⟨#[112,114,111,109,111,116,101]⟩ ⟨#[110]⟩)=iP s (w0::r) (3::se) (kJ ⟨#[112,114,111,109,111,116,101]⟩ 4 w0 r):=by
 rw[Qv];exact t_ hs
theorem UR{OC:List Value->List Blk->Bool}{on:Nat}{oc:List Value}{ob:Bool}{s w0:ByteArray}{r:List ByteArray}{se:List Nat}(hs:SzW r):dP P E (gW jd aZ dM szS fD byS OC (au 3 on 0 oc) ob) 50 32 Bli Hli (liV s (w0::r).length 0 ((w0::r).map Value.string)) (liB dn (.map ah 12) (.miter (some 1) 12 (4::se) 12)) (.int .i64 5) (bW ⟨#[102,108,117,115,104]⟩ ⟨#[110]⟩)=iP s (w0::r) (4::se) (kJ ⟨#[102,108,117,115,104]⟩ 5 w0 r):=by
 rw[Qe];exact t_ hs
theorem UI{OC:List Value->List Blk->Bool}{on:Nat}{oc:List Value}{ob:Bool}{s w0:ByteArray}{r:List ByteArray}{se:List Nat}(hs:SzW r):dP P E (gW jd aZ dM szS fD byS OC (au 3 on 0 oc) ob) 50 32 Bli Hli (liV s (w0::r).length 0 ((w0::r).map Value.string)) (liB dn (.map ah 12) (.miter (some 1) 12 (5::se) 12)) (.int .i64 6) (bW ⟨#[100,101,108,105,118,101,114]⟩ ⟨#[97]⟩)=iP s (w0::r) (5::se) (lZ ⟨#[100,101,108,105,118,101,114]⟩ 6 w0 r):=by
 rw[P_];exact yz hs
theorem UZ{OC:List Value->List Blk->Bool}{on:Nat}{oc:List Value}{ob:Bool}{s w0:ByteArray}{r:List ByteArray}{se:List Nat}(hs:SzW r):dP P E (gW jd aZ dM szS fD byS OC (au 3 on 0 oc) ob) 50 32 Bli Hli (liV s (w0::r).length 0 ((w0::r).map Value.string)) (liB dn (.map ah 12) (.miter (some 1) 12 (6::se) 12)) (.int .i64 7) (bW ⟨#[116,119,105,99,101]⟩ ⟨#[97]⟩)=iP s (w0::r) (6::se) (lZ ⟨#[116,119,105,99,101]⟩ 7 w0 r):=by
 rw[QO];exact yz hs
theorem UE{OC:List Value->List Blk->Bool}{on:Nat}{oc:List Value}{ob:Bool}{s w0:ByteArray}{r:List ByteArray}{se:List Nat}(hs:SzW r):dP P E (gW jd aZ dM szS fD byS OC (au 3 on 0 oc) ob) 50 32 Bli Hli (liV s (w0::r).length 0 ((w0::r).map Value.string)) (liB dn (.map ah 12) (.miter (some 1) 12 (7::se) 12)) (.int .i64 8) (bW ⟨#[100,114,111,112]⟩ ⟨#[97]⟩)=iP s (w0::r) (7::se) (lZ ⟨#[100,114,111,112]⟩ 8 w0 r):=by
 rw[QV];exact yz hs
theorem U1{OC:List Value->List Blk->Bool}{on:Nat}{oc:List Value}{ob:Bool}{s w0:ByteArray}{r:List ByteArray}{se:List Nat}(hs:SzW r):dP P E (gW jd aZ dM szS fD byS OC (au 3 on 0 oc) ob) 50 32 Bli Hli (liV s (w0::r).length 0 ((w0::r).map Value.string)) (liB dn (.map ah 12) (.miter (some 1) 12 (8::se) 12)) (.int .i64 9) (bW ⟨#[102,117,115,101]⟩ ⟨#[110,97]⟩)=iP s (w0::r) (8::se) (sK ⟨#[102,117,115,101]⟩ 9 w0 r):=by
 rw[Ql];unfold iP again found liR sK fzS au;rw[fzU];simp only[l_in,vH,ww,uN,gZ,g_,qf,pY,iU,uT,wz,Bool.and_self,aT];cases eqS _ w0 with
 |false=>rfl
 |true=>
  match r,hs with
  |[],hs=>
   rfl
  |[a],hs=>
   have h0:=dw (m:=1) (hs a (by simp)) (by omega);have n0:aj ([a].map Value.string) 0 = .string a:=rfl;have i0:inI 0 [a].length=true:=aV (i:=0) (by simp);have g0:ltI 0 (ae [a].length)=true:=dD (i:=0) (by simp);have b0:Nat.ble 1 [a].length=true:=bZ (by simp);simp only[gZ,g_,ja,h0,n0,i0,g0,b0,Bool.and_self,aT,cO,bn];cases aZ a 1<;>rfl
  |[a,b],hs=>
   have h0:=dw (m:=1) (hs a (by simp)) (by omega);have n0:aj ([a,b].map Value.string) 0 = .string a:=rfl;have i0:inI 0 [a,b].length=true:=aV (i:=0) (by simp);have g0:ltI 0 (ae [a,b].length)=true:=dD (i:=0) (by simp);have b0:Nat.ble 1 [a,b].length=true:=bZ (by simp);have h1:=dw (m:=999999999) (hs b (by simp)) (by omega);have n1:aj ([a,b].map Value.string) 1 = .string b:=rfl;have i1:inI 1 [a,b].length=true:=aV (i:=1) (by simp);have g1:ltI 1 (ae [a,b].length)=true:=dD (i:=1) (by simp);have b1:Nat.ble 2 [a,b].length=true:=bZ (by simp);simp only[gZ,g_,ja,h0,n0,i0,g0,b0,h1,n1,i1,g1,b1,Bool.and_self,aT,cO,bn];cases aZ a 1<;>cases aZ b 999999999<;>rfl
  |a::b::c::t,hs=>
   have h0:=dw (m:=1) (hs a (by simp)) (by omega);have n0:aj ((a::b::c::t).map Value.string) 0 = .string a:=rfl;have i0:inI 0 (a::b::c::t).length=true:=aV (i:=0) (by simp);have g0:ltI 0 (ae (a::b::c::t).length)=true:=dD (i:=0) (by simp);have b0:Nat.ble 1 (a::b::c::t).length=true:=bZ (by simp);have h1:=dw (m:=999999999) (hs b (by simp)) (by omega);have n1:aj ((a::b::c::t).map Value.string) 1 = .string b:=rfl;have i1:inI 1 (a::b::c::t).length=true:=aV (i:=1) (by simp);have g1:ltI 1 (ae (a::b::c::t).length)=true:=dD (i:=1) (by simp);have b1:Nat.ble 2 (a::b::c::t).length=true:=bZ (by simp);have e:eqI (ae (a::b::c::t).length) 2=false:=sD (k:=2) (by simp);simp only[gZ,g_,ja,h0,n0,i0,g0,b0,h1,n1,i1,g1,b1,e,Bool.and_self,aT,cO,bn];cases aZ a 1<;>cases aZ b 999999999<;>rfl
theorem UT{OC:List Value->List Blk->Bool}{on:Nat}{oc:List Value}{ob:Bool}{s w0:ByteArray}{r:List ByteArray}{se:List Nat}(hs:SzW r):dP P E (gW jd aZ dM szS fD byS OC (au 3 on 0 oc) ob) 50 32 Bli Hli (liV s (w0::r).length 0 ((w0::r).map Value.string)) (liB dn (.map ah 12) (.miter (some 1) 12 (9::se) 12)) (.int .i64 10) (bW ⟨#[112,117,108,108]⟩ ⟨#[110]⟩)=iP s (w0::r) (9::se) (kJ ⟨#[112,117,108,108]⟩ 10 w0 r):=by
 rw[OX];exact t_ hs
theorem Ua{OC:List Value->List Blk->Bool}{on:Nat}{oc:List Value}{ob:Bool}{s w0:ByteArray}{r:List ByteArray}{se:List Nat}(hs:SzW r):dP P E (gW jd aZ dM szS fD byS OC (au 3 on 0 oc) ob) 50 32 Bli Hli (liV s (w0::r).length 0 ((w0::r).map Value.string)) (liB dn (.map ah 12) (.miter (some 1) 12 (10::se) 12)) (.int .i64 11) (bW ⟨#[115,116,97,114,116]⟩ ⟨#[110,97,116]⟩)=iP s (w0::r) (10::se) (oU ⟨#[115,116,97,114,116]⟩ 11 w0 r):=by
 rw[O4];unfold iP again found liR oU fzS au;rw[fzU];simp only[l_in,vH,ww,uN,gZ,g_,qf,pY,iU,uT,wz,Bool.and_self,aT];cases eqS _ w0 with
 |false=>rfl
 |true=>
  match r,hs with
  |[],hs=>
   rfl
  |[a],hs=>
   have h0:=dw (m:=1) (hs a (by simp)) (by omega);have n0:aj ([a].map Value.string) 0 = .string a:=rfl;have i0:inI 0 [a].length=true:=aV (i:=0) (by simp);have g0:ltI 0 (ae [a].length)=true:=dD (i:=0) (by simp);have b0:Nat.ble 1 [a].length=true:=bZ (by simp);simp only[gZ,g_,ja,h0,n0,i0,g0,b0,Bool.and_self,aT,cO,bn];cases aZ a 1<;>rfl
  |[a,b],hs=>
   have h0:=dw (m:=1) (hs a (by simp)) (by omega);have n0:aj ([a,b].map Value.string) 0 = .string a:=rfl;have i0:inI 0 [a,b].length=true:=aV (i:=0) (by simp);have g0:ltI 0 (ae [a,b].length)=true:=dD (i:=0) (by simp);have b0:Nat.ble 1 [a,b].length=true:=bZ (by simp);have h1:=dw (m:=999999999) (hs b (by simp)) (by omega);have n1:aj ([a,b].map Value.string) 1 = .string b:=rfl;have i1:inI 1 [a,b].length=true:=aV (i:=1) (by simp);have g1:ltI 1 (ae [a,b].length)=true:=dD (i:=1) (by simp);have b1:Nat.ble 2 [a,b].length=true:=bZ (by simp);simp only[gZ,g_,ja,h0,n0,i0,g0,b0,h1,n1,i1,g1,b1,Bool.and_self,aT,cO,bn];cases aZ a 1<;>cases aZ b 999999999<;>rfl
  |[a,b,c],hs=>
   have h0:=dw (m:=1) (hs a (by simp)) (by omega);have n0:aj ([a,b,c].map Value.string) 0 = .string a:=rfl;have i0:inI 0 [a,b,c].length=true:=aV (i:=0) (by simp);have g0:ltI 0 (ae [a,b,c].length)=true:=dD (i:=0) (by simp);have b0:Nat.ble 1 [a,b,c].length=true:=bZ (by simp);have h1:=dw (m:=999999999) (hs b (by simp)) (by omega);have n1:aj ([a,b,c].map Value.string) 1 = .string b:=rfl;have i1:inI 1 [a,b,c].length=true:=aV (i:=1) (by simp);have g1:ltI 1 (ae [a,b,c].length)=true:=dD (i:=1) (by simp);have b1:Nat.ble 2 [a,b,c].length=true:=bZ (by simp);have h2:=dw (m:=999999999) (hs c (by simp)) (by omega);have n2:aj ([a,b,c].map Value.string) 2 = .string c:=rfl;have i2:inI 2 [a,b,c].length=true:=aV (i:=2) (by simp);have g2:ltI 2 (ae [a,b,c].length)=true:=dD (i:=2) (by simp);have b2:Nat.ble 3 [a,b,c].length=true:=bZ (by simp);simp only[gZ,g_,ja,h0,n0,i0,g0,b0,h1,n1,i1,g1,b1,h2,n2,i2,g2,b2,Bool.and_self,aT,cO,bn];cases aZ a 1<;>cases aZ b 999999999<;>cases aZ c 999999999<;>rfl
  |a::b::c::d::t,hs=>
   have h0:=dw (m:=1) (hs a (by simp)) (by omega);have n0:aj ((a::b::c::d::t).map Value.string) 0 = .string a:=rfl;have i0:inI 0 (a::b::c::d::t).length=true:=aV (i:=0) (by simp);have g0:ltI 0 (ae (a::b::c::d::t).length)=true:=dD (i:=0) (by simp);have b0:Nat.ble 1 (a::b::c::d::t).length=true:=bZ (by simp);have h1:=dw (m:=999999999) (hs b (by simp)) (by omega);have n1:aj ((a::b::c::d::t).map Value.string) 1 = .string b:=rfl;have i1:inI 1 (a::b::c::d::t).length=true:=aV (i:=1) (by simp);have g1:ltI 1 (ae (a::b::c::d::t).length)=true:=dD (i:=1) (by simp);have b1:Nat.ble 2 (a::b::c::d::t).length=true:=bZ (by simp);have h2:=dw (m:=999999999) (hs c (by simp)) (by omega);have n2:aj ((a::b::c::d::t).map Value.string) 2 = .string c:=rfl;have i2:inI 2 (a::b::c::d::t).length=true:=aV (i:=2) (by simp);have g2:ltI 2 (ae (a::b::c::d::t).length)=true:=dD (i:=2) (by simp);have b2:Nat.ble 3 (a::b::c::d::t).length=true:=bZ (by simp);have e:eqI (ae (a::b::c::d::t).length) 3=false:=sD (k:=3) (by simp);simp only[gZ,g_,ja,h0,n0,i0,g0,b0,h1,n1,i1,g1,b1,h2,n2,i2,g2,b2,e,Bool.and_self,aT,cO,bn];cases aZ a 1<;>cases aZ b 999999999<;>cases aZ c 999999999<;>rfl
theorem UA{OC:List Value->List Blk->Bool}{on:Nat}{oc:List Value}{ob:Bool}{s w0:ByteArray}{r:List ByteArray}{se:List Nat}(hs:SzW r):dP P E (gW jd aZ dM szS fD byS OC (au 3 on 0 oc) ob) 50 32 Bli Hli (liV s (w0::r).length 0 ((w0::r).map Value.string)) (liB dn (.map ah 12) (.miter (some 1) 12 (11::se) 12)) (.int .i64 12) (bW ⟨#[114,111,117,110,100]⟩ ⟨#[]⟩)=iP s (w0::r) (11::se) (wK ⟨#[114,111,117,110,100]⟩ 12 w0 r):=by
 rw[OT];unfold iP again found liR wK fzS au;rw[fzU];simp only[l_in,vH,ww,uN,gZ,g_,qf,pY,iU,uT,wz,Bool.and_self,aT];cases eqS _ w0 with
 |false=>rfl
 |true=>
  match r,hs with
  |[],hs=>
   rfl
  |a::t,hs=>
   have e:eqI (ae (a::t).length) 0=false:=sD (k:=0) (by simp);simp only[gZ,g_,ja,e,Bool.and_self,aT,cO,bn]
   rfl
def wL:ByteArray:=⟨#[99,111,109,109,105,116]⟩
def ru(w0:ByteArray)(r:List ByteArray):Option (ActM×Value):=match eqS wL w0,r with
 |true,a::b::t=>(match aZ a 1,yj (b::t)with
  |true,true=>some (⟨1,dM a,0,0,⟨#[]⟩,opsV (b::t)⟩,cZ (opsV (b::t)))
  |_,_=>none)
 |_,_=>none
theorem UG{s w0:ByteArray}{r:List ByteArray}{se:List Nat}(hs:SzW r):dP P E (gW jd aZ dM szS fD byS (sO.at (r.drop 1)) (au 3 (opsV (r.drop 1)).length 0 (EOp.all (opsV (r.drop 1)))) (yj (r.drop 1))) 50 32 Bli Hli (liV s (w0::r).length 0 ((w0::r).map Value.string)) (liB dn (.map ah 12) (.miter (some 1) 12 (0::se) 12)) (.int .i64 1) (bW ⟨#[99,111,109,109,105,116]⟩ ⟨#[110,111]⟩)=iP s (w0::r) (0::se) (ru w0 r):=by
 rw[Qi];unfold iP again found liR ru fzS;rw[show wL=⟨#[99,111,109,109,105,116]⟩ from rfl];simp only[l_in,vH,ww,uN,gZ,g_,qf,pY,iU,uT,wz,Bool.and_self,aT];cases eqS _ w0 with
 |false=>unfold au; rw[fzU]; rfl
 |true=>
  match r,hs with
  |[],hs=>unfold au; rw[fzU]; rfl
  |[a],hs=>
   have h0:=dw (m:=1) (hs a (by simp)) (by omega);have n0:aj ([a].map Value.string) 0 = .string a:=rfl;have i0:inI 0 [a].length=true:=aV (i:=0) (by simp);have g0:ltI 0 (ae [a].length)=true:=dD (i:=0) (by simp);have b0:Nat.ble 1 [a].length=true:=bZ (by simp);simp only[gZ,g_,ja,h0,n0,i0,g0,b0,Bool.and_self,aT,cO,bn];unfold au; rw[fzU];cases aZ a 1<;>rfl
  |a::b::t,hs=>
   have h0:=dw (m:=1) (hs a (by simp)) (by omega);have n0:aj ((a::b::t).map Value.string) 0 = .string a:=rfl;have i0:inI 0 (a::b::t).length=true:=aV (i:=0) (by simp);have g0:ltI 0 (ae (a::b::t).length)=true:=dD (i:=0) (by simp);have g1:ltI 1 (ae (a::b::t).length)=true:=dD (i:=1) (by simp);have b0:Nat.ble 1 (a::b::t).length=true:=bZ (by simp);have c2:d_ 0 2 (a::b::t).length=true:=oZ (by omega) (by omega) (by simp only[List.length_cons]; omega);have d1:(a::b::t).drop 1=b::t:=rfl;simp only[gZ,g_,ja,h0,n0,i0,g0,g1,b0,c2,d1,qf,pY,iU,uT,cap0,Bool.and_self,aT,cO,bn];cases aZ a 1 with
   |false=>unfold au; rw[fzU]; rfl
   |true=>
    simp only[cO];refine kQ (k:=sO) (s:=b::t) (by show [fzS _]=_; unfold fzS au; rw[fzU]) rfl ?_;unfold cZ au;rw[fzU,j_];cases yj (b::t)<;>rfl
def ctL(ws:List ByteArray):Ct:=gW jd aZ dM szS fD byS (sO.at (ws.drop 2)) (cZ (opsV (ws.drop 2))) (yj (ws.drop 2))
theorem SN{ws:List ByteArray}(h:ul ws)(hl:ws.length<4194304):CtOk P (ctL ws):=
 dW (bI (bI mP Ro) key_ok) (wV sO TV (s:=ws.drop 2) ⟨⟨fun w hw=>h.1 w (List.mem_of_mem_drop hw),by rw[List.length_drop]; omega⟩,by rw[List.length_drop]; omega⟩)
def iy(k:Nat)(w0:ByteArray)(r:List ByteArray):Option (ActM×Value):=match k with
 |0=>ru w0 r
 |1=>rU ⟨#[114,101,97,100]⟩ 2 w0 r
 |2=>kJ ⟨#[116,105,99,107]⟩ 3 w0 r
 |3=>kJ ⟨#[112,114,111,109,111,116,101]⟩ 4 w0 r
 |4=>kJ ⟨#[102,108,117,115,104]⟩ 5 w0 r
 |5=>lZ ⟨#[100,101,108,105,118,101,114]⟩ 6 w0 r
 |6=>lZ ⟨#[116,119,105,99,101]⟩ 7 w0 r
 |7=>lZ ⟨#[100,114,111,112]⟩ 8 w0 r
 |8=>sK ⟨#[102,117,115,101]⟩ 9 w0 r
 |9=>kJ ⟨#[112,117,108,108]⟩ 10 w0 r
 |10=>oU ⟨#[115,116,97,114,116]⟩ 11 w0 r
 |11=>wK ⟨#[114,111,117,110,100]⟩ 12 w0 r
 |_=>none
theorem RH{s w0:ByteArray}{r:List ByteArray}{se:List Nat}(hs:SzW r){e:MapEntry}(he:e∈ah):dP P E (ctL (w0::r)) 50 32 Bli Hli (liV s (w0::r).length 0 ((w0::r).map Value.string)) (liB dn (.map ah 12) (.miter (some 1) 12 (e.born::se) 12)) e.key e.val=iP s (w0::r) (e.born::se) (iy e.born w0 r):=by
 unfold ah at he;simp only[List.mem_cons,List.not_mem_nil,or_false]at he;rcases he with rfl | rfl | rfl | rfl | rfl | rfl | rfl | rfl | rfl | rfl | rfl | rfl
 ·exact UG hs
 ·exact UM hs
 ·exact UJ hs
 ·exact UU hs
 ·exact UR hs
 ·exact UI hs
 ·exact UZ hs
 ·exact UE hs
 ·exact U1 hs
 ·exact UT hs
 ·exact Ua hs
 ·exact UA hs
def Iy(k:Nat):List UInt8:=([[99,111,109,109,105,116],[114,101,97,100],[116,105,99,107],[112,114,111,109,111,116,101],[102,108,117,115,104],[100,101,108,105,118,101,114],[116,119,105,99,101],[100,114,111,112],[102,117,115,101],[112,117,108,108],[115,116,97,114,116],[114,111,117,110,100]]:List (List UInt8)).getD k []
theorem jD{W w0:ByteArray}(h:eqS W w0=true):w0.data.toList=W.data.toList:=by
 rw[vJ]at h;exact(beq_iff_eq.1 h).symm
theorem Oq{w0:ByteArray}{r:List ByteArray}{p:ActM×Value}(h:ru w0 r=some p):w0.data.toList=wL.data.toList:=by
 unfold ru at h;cases hq:eqS wL w0 with
 |true=>exact jD hq
 |false=>rw[hq]at h; cases h
theorem wI{W:ByteArray}{kd:Int}{w0:ByteArray}{r:List ByteArray}{p:ActM×Value}(h:kJ W kd w0 r=some p):w0.data.toList=W.data.toList:=by
 unfold kJ at h;cases hq:eqS W w0 with
 |true=>exact jD hq
 |false=>rw[hq]at h; cases h
theorem AQ{W:ByteArray}{kd:Int}{w0:ByteArray}{r:List ByteArray}{p:ActM×Value}(h:lZ W kd w0 r=some p):w0.data.toList=W.data.toList:=by
 unfold lZ at h;cases hq:eqS W w0 with
 |true=>exact jD hq
 |false=>rw[hq]at h; cases h
theorem NQ{W:ByteArray}{kd:Int}{w0:ByteArray}{r:List ByteArray}{p:ActM×Value}(h:rU W kd w0 r=some p):w0.data.toList=W.data.toList:=by
 unfold rU at h;cases hq:eqS W w0 with
 |true=>exact jD hq
 |false=>rw[hq]at h; cases h
theorem N_{W:ByteArray}{kd:Int}{w0:ByteArray}{r:List ByteArray}{p:ActM×Value}(h:sK W kd w0 r=some p):w0.data.toList=W.data.toList:=by
 unfold sK at h;cases hq:eqS W w0 with
 |true=>exact jD hq
 |false=>rw[hq]at h; cases h
theorem LQ{W:ByteArray}{kd:Int}{w0:ByteArray}{r:List ByteArray}{p:ActM×Value}(h:oU W kd w0 r=some p):w0.data.toList=W.data.toList:=by
 unfold oU at h;cases hq:eqS W w0 with
 |true=>exact jD hq
 |false=>rw[hq]at h; cases h
theorem Qj{W:ByteArray}{kd:Int}{w0:ByteArray}{r:List ByteArray}{p:ActM×Value}(h:wK W kd w0 r=some p):w0.data.toList=W.data.toList:=by
 unfold wK at h;cases hq:eqS W w0 with
 |true=>exact jD hq
 |false=>rw[hq]at h; cases h
theorem AB:∀ {k:Nat} {w0:ByteArray} {r:List ByteArray} {p:ActM×Value},iy k w0 r=some p->k<12/\w0.data.toList=Iy k
 |0,_,_,_,h=>⟨by omega,Oq h⟩
 |1,_,_,_,h=>⟨by omega,NQ h⟩
 |2,_,_,_,h=>⟨by omega,wI h⟩
 |3,_,_,_,h=>⟨by omega,wI h⟩
 |4,_,_,_,h=>⟨by omega,wI h⟩
 |5,_,_,_,h=>⟨by omega,AQ h⟩
 |6,_,_,_,h=>⟨by omega,AQ h⟩
 |7,_,_,_,h=>⟨by omega,AQ h⟩
 |8,_,_,_,h=>⟨by omega,N_ h⟩
 |9,_,_,_,h=>⟨by omega,wI h⟩
 |10,_,_,_,h=>⟨by omega,LQ h⟩
 |11,_,_,_,h=>⟨by omega,Qj h⟩
 |_+12,_,_,_,h=>by cases h
theorem Lr:∀ i j:Fin 12,Iy i.val=Iy j.val->i=j:=by decide
theorem Np{i j:Nat}{w0:ByteArray}{r:List ByteArray}{p q:ActM×Value}(h:iy i w0 r=some p)(k:iy j w0 r=some q):i=j:=by
 obtain⟨h1,h2⟩:=AB h;obtain⟨k1,k2⟩:=AB k;have:=Lr ⟨i,h1⟩ ⟨j,k1⟩ (h2.symm.trans k2);exact congrArg Fin.val this
def dQ(w0:ByteArray)(r:List ByteArray):Option (ActM×Value):=(List.range 12).findSome? fun k=>iy k w0 r
theorem JD{k:Nat}{w0:ByteArray}{r:List ByteArray}{p:ActM×Value}(h:iy k w0 r=some p):dQ w0 r=some p:=by
 cases hq:dQ w0 r with
 |none=>
  unfold dQ at hq;rw[List.findSome?_eq_none_iff]at hq;have:=hq k (List.mem_range.2 (AB h).1);rw[this]at h; cases h
 |some q=>
  unfold dQ at hq;obtain⟨j,hj,hf⟩:=List.exists_of_findSome?_eq_some hq;obtain rfl:=Np h hf;rw[h]at hf; exact hf.symm
theorem Jy{w0:ByteArray}{r:List ByteArray}(h:∀ k,k<12->iy k w0 r=none):dQ w0 r=none:=by
 unfold dQ;rw[List.findSome?_eq_none_iff];intro k hk;exact h k (List.mem_range.1 hk)
def yA(s:ByteArray)(ws:List ByteArray)(th:Bool):List Value:=[.string s, .pointer (some ⟨0,0,none⟩), .bool th, .int .i64 0,fzS ws, .pointer (some ⟨2,0,none⟩)]
def Oz:Option (ActM×Value)->Ex
 |some _=> .ret
 |none=> .normal
def rC:Option (ActM×Value)->List Value
 |some p=>oz p.1 (cZ p.1.ops)
 |none=>dn
def Ae:Option (ActM×Value)->List Value
 |some p=>oz p.1 p.2
 |none=>dn
theorem LJ{Y:Env}{v:Value}(h:VR Y wu v):VR Y (cZ []) v:=by
 have h:v = .slice none 0 0:=h;subst h;unfold cZ au;simp only[VR];rw[if_neg (Nat.not_lt_of_le (Nat.le_add_right FZ 3))];simp only[VZ,VZA,VZL];refine⟨0,0,rfl,?_⟩;have e1:FZ+3-FZ=3:=by omega
 rw[e1];unfold dO;rw[if_neg (by decide)];exact⟨rfl,Or.inl ⟨rfl,by decide,rfl⟩⟩
theorem Q5{k:Nat}{w0:ByteArray}{r:List ByteArray}{p:ActM×Value}(h:iy k w0 r=some p):(p.2=wu/\p.1.ops=[])\/p.2=cZ p.1.ops:=by
 unfold iy at h;split at h
 ·right;unfold ru at h;split at h
  ·split at h
   ·obtain rfl:=Option.some.inj h; rfl
   ·cases h
  ·cases h
 all_goals first
  |(cases h; done)
  |(left
    first | unfold rU at h | unfold oU at h | unfold sK at h | unfold kJ at h | unfold lZ at h | unfold wK at h
    split at h
    ·first
     |(split at h<;>first | (obtain rfl:=Option.some.inj h; exact⟨rfl,rfl⟩) | (cases h; done))
     |(obtain rfl:=Option.some.inj h; exact⟨rfl,rfl⟩)
    ·cases h)
theorem Pi{k:Nat}{w0:ByteArray}{r:List ByteArray}{Y:Env}{l:List Value}(h:VRL Y (Ae (iy k w0 r)) l):VRL Y (rC (iy k w0 r)) l:=by
 cases hf:iy k w0 r with
 |none=>rw[hf]at h; exact h
 |some p=>
  rw[hf]at h;rcases Q5 hf with⟨h1,h2⟩ | h1
  ·unfold Ae oz at h;unfold rC oz;simp only at h ⊢;rw[h1]at h;rw[h2];simp only[VRL]at h ⊢;obtain⟨y1,l1,rfl,q1,y2,l2,rfl,q2,y3,l3,rfl,q3,y4,l4,rfl,q4,y5,l5,rfl,q5,y6,l6,rfl,q6,q7⟩:=h;exact⟨y1,_,rfl,q1,y2,_,rfl,q2,y3,_,rfl,q3,y4,_,rfl,q4,y5,_,rfl,q5,y6,_,rfl,LJ q6,q7⟩
  ·unfold Ae at h;unfold rC;simp only at h ⊢;rw[<-h1]; exact h
def yO(a:List Value):List Blk:=[.cells a 53 true, .dead, .dead]
theorem LM{K:Prot}{Y:Env}{w:World}{a:List Value}{es:List MapEntry}{c s l:Nat}{m:Option Nat}{se:List Nat}(h:Rel P K Y (mkSt [.cells a 53 true, .map es c, .miter m s se l]) w):Rel P K Y (mkSt (yO a)) w:=by
 have h1:=EW 2 (fun b hb=>by cases hb; rfl) h;exact EW 1 (fun b hb=>by cases hb; rfl) h1
theorem D5:okL Hli=true:=by kernel_rfl
theorem L9:∀ e∈ah,e.born<12:=by
 intro e he;unfold ah at he;simp only[List.mem_cons,List.not_mem_nil,or_false]at he;rcases he with rfl | rfl | rfl | rfl | rfl | rfl | rfl | rfl | rfl | rfl | rfl | rfl<;>decide
theorem Cc:ah.all (fun e=>decide (e.born>=12))=false:=rfl
theorem KP:∀ k,k<12->∃ e∈ah,e.born=k:=by
 intro k hk;have:∀ j:Fin 12,((ah.map (·.born))[j.val]?)=some j.val:=by decide
 have hm:=List.mem_of_getElem? (this ⟨k,hk⟩);obtain⟨e,he,h⟩:=List.mem_map.1 hm;exact⟨e,he,h⟩
theorem KW{se:List Nat}{e:MapEntry}(he:e∈eY se ah):(eY (e.born::se) ah).length<(eY se ah).length:=by
 have h1:eY (e.born::se) ah=(eY se ah).filter fun x=>!(x.born == e.born):=by
  unfold eY;rw[List.filter_filter];apply List.filter_congr;intro x _;rw[List.contains_cons,Bool.not_or]
 rw[h1];exact List.length_filter_lt_length_iff_exists.2 ⟨e,he,by simp⟩
theorem QU{s w0:ByteArray}{r:List ByteArray}(hw:ul (w0::r))(hl:(w0::r).length<4194304):∀ (m:Nat) (se:List Nat),(eY se ah).length<=m->(∀ k∈se,iy k w0 r=none)->
  LR P 32 0 Bli Hli (liV s (w0::r).length 0 ((w0::r).map Value.string)) (liB dn (.map ah 12) (.miter (some 1) 12 se 12)) (Oz (dQ w0 r)) (yA s (w0::r) (dQ w0 r).isSome) (yO (rC (dQ w0 r))):=by
 have hs:SzW r:=fun w h=>hw.1 w (List.mem_cons_of_mem _ h);have hit:(Hli.fr (liV s (w0::r).length 0 ((w0::r).map Value.string))).eval (.tmp 30) = .pointer (some ⟨2,0,none⟩):=rfl;have stop:∀ se,eY se ah=[]->(∀ k∈se,iy k w0 r=none)->LR P 32 0 Bli Hli (liV s (w0::r).length 0 ((w0::r).map Value.string)) (liB dn (.map ah 12) (.miter (some 1) 12 se 12)) (Oz (dQ w0 r)) (yA s (w0::r) (dQ w0 r).isSome) (yO (rC (dQ w0 r))):=by
  intro se hleft hse;have hn:dQ w0 r=none:=Jy fun k hk=>by
   obtain⟨e,he,rfl⟩:=KP k hk;by_cases hc:e.born∈se
   ·exact hse _ hc
   ·exfalso;have:e∈eY se ah:=List.mem_filter.2 ⟨he,by simpa using hc⟩;rw[hleft]at this;cases this
  rw[hn];have q:=QN s (w0::r).length 0 ((w0::r).map Value.string) se;refine LR.over (n:=50) (j:=0) (dR ctF) aB mP H6 D5 (FirstNext.of BP) hit rfl rfl (Or.inl Cc) hleft (vs1:=yA s (w0::r) false) (bs1:=liB dn (.map ah 12) (.miter (some 1) 12 se 12)) (q.trans ?_) rfl fun K Y w h=>LM h;unfold yA fzS au;rw[fzU]
  rfl
 intro m
 induction m with
 |zero=>
  intro se hm hse;exact stop se (List.length_eq_zero_iff.1 (by omega)) hse
 |succ m ih=>
  intro se hm hse;by_cases hne:eY se ah=[]
  ·exact stop se hne hse
  ·refine LR.pick (n:=50) (dR (ctL (w0::r))) aB (SN hw hl) H6 D5 (FirstNext.of BP) hit ⟨rfl,rfl,Or.inl Cc,L9,hne⟩
    (ex:=fun e=>Oz (iy e.born w0 r)) (vs1:=fun e=>yA s (w0::r) (iy e.born w0 r).isSome) (bs1:=fun e=>liB (Ae (iy e.born w0 r)) (.map ah 12) (.miter (some 1) 12 (e.born::se) 12)) (fun e he=>?_) (fun e he=>?_)
   ·have q:=RH (s:=s) (w0:=w0) (r:=r) (se:=se) hs (List.mem_filter.1 he).1;refine Eq.trans ?_ (q.trans ?_)
    ·rfl
    cases iy e.born w0 r<;>rfl
   ·cases hf:iy e.born w0 r with
    |none=>
     refine Or.inl ⟨rfl,?_⟩;exact ih (e.born::se) (by have:=KW he; omega) (fun k hk=>by
      rcases List.mem_cons.1 hk with rfl | hk
      ·exact hf
      ·exact hse k hk)
    |some p=>
     rw[JD hf];refine Or.inr ⟨(by intro h; cases h),rfl,rfl,fun K Y w h=>?_⟩;have hw2:∀ Y l,VRL Y (Ae (some p)) l->VRL Y (rC (some p)) l:=fun Y l h=>by
      have:=Pi (k:=e.born) (w0:=w0) (r:=r) (Y:=Y) (l:=l);rw[hf]at this;exact this h
     exact LM (NZ (r:=0) rfl (by rfl) hw2 h)
end Go.VS.Tryz
end

noncomputable section
namespace Go.VS.Pl

def wordsB:List UInt8->List UInt8->List (List UInt8)
 |cur,[]=>match cur with
  |[]=>[]
  |c::t=>[c::t]
 |cur,b::l=>match b == 32 with
  |true=>match cur with
   |[]=>wordsB [] l
   |c::t=>(c::t)::wordsB [] l
  |false=>wordsB (cur++[b]) l
theorem xw:∀ (k:Nat) (cur l:List UInt8),k<=l.length->(∀ j,j<k->l.getD j 0≠32)->wordsB cur l=wordsB (cur++l.take k) (l.drop k)
 |0,cur,l,_,_=>by simp
 |k+1,cur,[],h,_=>by simp at h
 |k+1,cur,b::l,h,hz=>by
  have h0:(b == 32)=false:=by
   have:=hz 0 (by omega);simpa using this
  show(match b == 32 with | true=>_ | false=>_)=_;rw[h0];simp only;rw[xw k (cur++[b]) l (by simpa using h) (fun j hj=>by have:=hz (j+1) (by omega); simpa using this)];simp
theorem Ov(s:ByteArray)(i:Nat):s.get! i=s.data.toList.getD i 0:=by
 show s.data[i]! = _;by_cases h:i<s.data.size
 ·rw[getElem!_pos s.data i h,List.getD_eq_getElem?_getD,List.getElem?_eq_getElem (by simpa using h)];simp
 ·rw[getElem!_neg s.data i h,List.getD_eq_getElem?_getD,List.getElem?_eq_none (by simpa using h)]
  rfl
theorem Ky(s:ByteArray)(i:Nat)(hi:i<s.size):((Utf8.decode s i).1=32↔s.data.toList.getD i 0=32)/\(s.data.toList.getD i 0=32->(Utf8.decode s i).2=1)/\1<=(Utf8.decode s i).2/\i+(Utf8.decode s i).2<=s.size/\
  (s.data.toList.getD i 0≠32->∀ j,j<(Utf8.decode s i).2->s.data.toList.getD (i+j) 0≠32):=by
 rw[Lib.decode_at];simp only[Ov];generalize hb0:s.data.toList.getD i 0=b0;generalize hb1:s.data.toList.getD (i+1) 0=b1;generalize hb2:s.data.toList.getD (i+2) 0=b2;generalize hb3:s.data.toList.getD (i+3) 0=b3;have q0:b0=32↔b0.toNat=32:=⟨fun h=>by rw[h]; rfl,fun h=>UInt8.toNat_inj.1 h⟩
 have n1:b1.toNat / 64=2->b1≠32:=fun h e=>by rw[e]at h; exact absurd h (by decide)
 have n2:b2.toNat / 64=2->b2≠32:=fun h e=>by rw[e]at h; exact absurd h (by decide)
 have n3:b3.toNat / 64=2->b3≠32:=fun h e=>by rw[e]at h; exact absurd h (by decide)
 have j0:s.data.toList.getD (i+0) 0=b0:=hb0;rw[q0];by_cases hlt:b0.toNat<128
 ·have e:Lib.decodeN (s.size-i) b0.toNat b1.toNat b2.toNat b3.toNat=(b0.toNat,1):=by unfold Lib.decodeN; rw[if_pos hlt]
  rw[e];refine⟨Iff.rfl,fun _=>rfl,Nat.le_refl _,by simp only; omega,fun h j hj=>?_⟩;obtain rfl:j=0:=by simp only at hj; omega
  rw[j0]; exact h
 ·have h32:b0.toNat≠32:=by omega
  rcases Lib.decodeN_shape (s.size-i) b0.toNat b1.toNat b2.toNat b3.toNat with⟨c,_⟩ | ⟨c1,c2,c3,cv,e⟩ | ⟨c1,c2,c3,c4,cv,_,e⟩ | ⟨c1,c2,c3,c4,c5,cv,_,e⟩ | e
  ·exact absurd c hlt
  ·rw[e];refine⟨⟨fun h=>by simp only at h; omega,fun h=>absurd h h32⟩,fun h=>absurd h h32,by simp only; omega,by simp only; omega,fun h j hj=>?_⟩;simp only at hj
   match j,hj with
   |0,_=>rw[j0]; exact h
   |1,_=>rw[hb1]; exact n1 c3
  ·rw[e];refine⟨⟨fun h=>by simp only at h; omega,fun h=>absurd h h32⟩,fun h=>absurd h h32,by simp only; omega,by simp only; omega,fun h j hj=>?_⟩;simp only at hj
   match j,hj with
   |0,_=>rw[j0]; exact h
   |1,_=>rw[hb1]; exact n1 c3
   |2,_=>rw[hb2]; exact n2 c4
  ·rw[e];refine⟨⟨fun h=>by simp only at h; omega,fun h=>absurd h h32⟩,fun h=>absurd h h32,by simp only; omega,by simp only; omega,fun h j hj=>?_⟩;simp only at hj
   match j,hj with
   |0,_=>rw[j0]; exact h
   |1,_=>rw[hb1]; exact n1 c3
   |2,_=>rw[hb2]; exact n2 c4
   |3,_=>rw[hb3]; exact n3 c5
  ·rw[e];refine⟨⟨fun h=>by simp only at h; omega,fun h=>absurd h h32⟩,fun h=>absurd h h32,by simp only; omega,by simp only; omega,fun h j hj=>?_⟩;obtain rfl:j=0:=by simp only at hj; omega
   rw[j0]; exact h
def lL(s:ByteArray)(pos:Nat):Option Nat->List UInt8
 |some a=>(s.data.toList.drop a).take (pos-a)
 |none=>[]
def ext(s:ByteArray)(x:Nat×Nat):List UInt8:=(s.data.toList.drop x.1).take (x.2-x.1)
theorem getD_drop(l:List UInt8)(i j:Nat):(l.drop i).getD j 0=l.getD (i+j) 0:=by
 rw[List.getD_eq_getElem?_getD,List.getD_eq_getElem?_getD,List.getElem?_drop]
theorem G6(s:ByteArray)(p:Nat->Bool)(hp:∀ x,p x=true↔x=32):∀ (f pos:Nat) (st:Option Nat) (acc:List (Nat×Nat)),s.size<=pos+f->pos<=s.size->(∀ a,st=some a->a<pos)->
  (Lib.closeSpans s (Lib.spansFromP p s f pos st acc)).map (ext s)=acc.map (ext s)++wordsB (lL s pos st) (s.data.toList.drop pos):=by
 have hlen:s.data.toList.length=s.size:=by simp
 have fin:∀ (pos:Nat) (st:Option Nat) (acc:List (Nat×Nat)),pos=s.size->(∀ a,st=some a->a<pos)->(Lib.closeSpans s (acc,st)).map (ext s)=acc.map (ext s)++wordsB (lL s pos st) (s.data.toList.drop pos):=by
  intro pos st acc hpos hst;subst hpos;rw[List.drop_of_length_le (by rw[hlen]; exact Nat.le_refl _)];cases st with
  |none=>simp[Lib.closeSpans,lL,wordsB]
  |some a=>
   have ha:=hst a rfl;have hne:lL s s.size (some a)≠[]:=by
    unfold lL;intro h;have:=congrArg List.length h;rw[List.length_take,List.length_drop,hlen]at this;simp only[List.length_nil]at this;omega
   have hw:wordsB (lL s s.size (some a)) []=[lL s s.size (some a)]:=by
    cases hc:lL s s.size (some a)with
    |nil=>exact absurd hc hne
    |cons c t=>rfl
   rw[hw];simp[Lib.closeSpans,ext,lL]
 intro f
 induction f with
 |zero=>
  intro pos st acc h1 h2 hst;exact fin pos st acc (by omega) hst
 |succ f ih=>
  intro pos st acc h1 h2 hst;unfold Lib.spansFromP;by_cases hlt:pos<s.size
  ·rw[if_pos hlt];obtain⟨r1,r2,r3,r4,r5⟩:=Ky s pos hlt;have hd0:s.data.toList.drop pos=s.data.toList.getD pos 0::s.data.toList.drop (pos+1):=by
    rw[List.drop_eq_getElem_cons (by rw[hlen]; exact hlt),List.getD_eq_getElem?_getD,List.getElem?_eq_getElem (by rw[hlen]; exact hlt)]
    rfl
   by_cases hb:s.data.toList.getD pos 0=32
   ·have hpt:p (Utf8.decode s pos).1=true:=(hp _).2 (r1.2 hb);rw[if_pos hpt,r2 hb];have hw:∀ cur,wordsB cur (s.data.toList.drop pos)=match cur with | []=>wordsB [] (s.data.toList.drop (pos+1)) | c::t=>(c::t)::wordsB [] (s.data.toList.drop (pos+1)):=by
     intro cur;rw[hd0,hb]
     rfl
    cases st with
    |none=>
     simp only;rw[ih _ _ _ (by omega) (by omega) (by intro a h; cases h),hw]
     rfl
    |some a=>
     have ha:=hst a rfl;simp only;rw[ih _ _ _ (by omega) (by omega) (by intro a h; cases h),hw];cases hc:lL s pos (some a)with
     |nil=>
      exfalso;have:=congrArg List.length hc;unfold lL at this;rw[List.length_take,List.length_drop,hlen]at this;simp only[List.length_nil]at this;omega
     |cons c t=>
      have:ext s (a,pos)=c::t:=hc;simp[this,lL]
   ·have hpf:¬(p (Utf8.decode s pos).1=true):=fun h=>hb (r1.1 ((hp _).1 h));rw[if_neg hpf];have hskip:=fun cur=>xw (Utf8.decode s pos).2 cur (s.data.toList.drop pos) (by rw[List.length_drop,hlen]; omega) (fun j hj=>by rw[getD_drop]; exact r5 hb j hj);have hcur:∀ a,a<=pos->(s.data.toList.drop a).take (pos+(Utf8.decode s pos).2-a)=(s.data.toList.drop a).take (pos-a)++(s.data.toList.drop pos).take (Utf8.decode s pos).2:=by
     intro a ha;rw[show pos+(Utf8.decode s pos).2-a=(pos-a)+(Utf8.decode s pos).2 by omega,List.take_add,List.drop_drop,show a+(pos-a)=pos by omega]
    cases st with
    |none=>
     simp only;rw[ih _ _ _ (by omega) r4 (by intro a h; cases h; omega),hskip,List.drop_drop];unfold lL;simp only;rw[show pos+(Utf8.decode s pos).2-pos=(Utf8.decode s pos).2 by omega]
     rfl
    |some a=>
     have ha:=hst a rfl;simp only;rw[ih _ _ _ (by omega) r4 (by intro b h; cases h; omega),hskip,List.drop_drop];unfold lL;simp only;rw[hcur a (by omega)]
  ·rw[if_neg hlt];exact fin pos st acc (by omega) hst
theorem fields_words(s:ByteArray)(p:Nat->Bool)(hp:∀ x,p x=true↔x=32):(Lib.goFieldsP p s).map (fun w=>w.data.toList)=wordsB [] s.data.toList:=by
 have h:=G6 s p hp s.size 0 none [] (by omega) (Nat.zero_le _) (by intro a h; cases h);simp only[List.map_nil,List.nil_append,List.drop_zero,lL]at h;rw[<-h];unfold Lib.goFieldsP Lib.spansOfP;rw[List.map_map];apply List.map_congr_left;intro x _;show(s.extract x.1 x.2).data.toList=_;unfold ext;simp[ByteArray.extract,ByteArray.copySlice,List.extract_eq_take_drop]
theorem wordsB_facts:∀ (l cur:List UInt8),(∀ w∈wordsB cur l,w≠[]/\w.length<=cur.length+l.length)/\(wordsB cur l).length<=l.length+1
 |[],cur=>by
  cases cur with
  |nil=>simp[wordsB]
  |cons c t=>simp[wordsB]
 |b::l,cur=>by
  unfold wordsB;cases b == 32 with
  |true=>
   obtain⟨h1,h2⟩:=wordsB_facts l [];cases cur with
   |nil=>
    refine⟨fun w hw=>?_,?_⟩
    ·obtain⟨q1,q2⟩:=h1 w hw;exact⟨q1,by simp only[List.length_cons,List.length_nil]at q2 ⊢; omega⟩
    ·simp only[List.length_cons]; omega
   |cons c t=>
    refine⟨fun w hw=>?_,?_⟩
    ·rcases List.mem_cons.1 hw with rfl | hw
     ·exact⟨by simp,by simp only[List.length_cons]; omega⟩
     ·obtain⟨q1,q2⟩:=h1 w hw;exact⟨q1,by simp only[List.length_cons,List.length_nil]at q2 ⊢; omega⟩
    ·simp only[List.length_cons]; omega
  |false=>
   obtain⟨h1,h2⟩:=wordsB_facts l (cur++[b]);refine⟨fun w hw=>?_,?_⟩
   ·obtain⟨q1,q2⟩:=h1 w hw;exact⟨q1,by simp only[List.length_append,List.length_cons,List.length_nil]at q2 ⊢; omega⟩
   ·simp only[List.length_cons]; omega
end Go.VS.Pl
end

noncomputable section
namespace Go.VS.Tryz
open Go.VS
set_option maxRecDepth 1000000
def Ub(I:ByteArray->UInt8->Bool)(WC:List Value->List Blk->Bool)(wn:Nat)(wc:List Value)(LC:List Value->List Blk->Bool)(ok:Bool)(s:ByteArray)(z:Value)(k nd n t:Int)(key:ByteArray)(on:Nat)(oc:List Value):Ct:=
 oP 32 0 Hli (nz LC (.ite ok (.leaf (.ret,[.string s, .pointer (some ⟨0,0,none⟩), .bool true, .int .i64 0,z, .pointer (some ⟨2,0,none⟩)],yO [.int .i64 k, .int .i64 nd, .int .i64 n, .int .i64 t, .string key,au 3 on 0 oc])) (.leaf (.normal,[.string s, .pointer (some ⟨0,0,none⟩), .bool false, .int .i64 0,z, .pointer (some ⟨2,0,none⟩)],yO dn))))
  (ed P iI 0 27 (vY WC (.leaf (au 1 wn 0 wc,[]))) (b_ P 55 (IW I) ctF))
theorem Pj(I:ByteArray->UInt8->Bool)(WC:List Value->List Blk->Bool)(wn:Nat)(wc:List Value)(LC:List Value->List Blk->Bool)(ok:Bool)(z:Value)(k nd n t:Int)(key:ByteArray)(on:Nat)(oc:List Value)(s:ByteArray):lg P E (Ub I WC wn wc LC ok s z k nd n t key on oc) 50 iI [.keep, .val, .val] [53,4,49] 0 32 [.string s] [] =
 (aC (gtI (ae s.size) 65536)
 (some ((.tuple ⟨[.agg ⟨[.int .i64 0,.int .i64 0,.int .i64 0,.int .i64 0,.string ⟨#[]⟩,.slice none 0 0]⟩,.bool false,.int .i64 3]⟩),(mkSt [])))
 (aC (I s (OfNat.ofNat 10))
 (some ((.tuple ⟨[.agg ⟨[.int .i64 0,.int .i64 0,.int .i64 0,.int .i64 0,.string ⟨#[]⟩,.slice none 0 0]⟩,.bool false,.int .i64 350]⟩),(mkSt [])))
 (af (WC [.string s,.func (Go.Fn.func 94) ⟨[]⟩ ⟨[]⟩] [])
 (aC (eqI (ae wn) 0)
 (some ((.tuple ⟨[.agg ⟨[.int .i64 0,.int .i64 0,.int .i64 0,.int .i64 0,.string ⟨#[]⟩,.slice none 0 0]⟩,.bool false,.int .i64 0]⟩),(mkSt [])))
 (af (Bool.and (Nat.beq 1 1) (inI 0 wn))
 (af (Bool.and (Nat.ble 1 wc.length) (dm .string (aj wc 0)))
 (af (inI 0 (ByteArray.size (asS (aj wc 0))))
 (aC (eqI (bAt (asS (aj wc 0)) 0) 35)
 (some ((.tuple ⟨[.agg ⟨[.int .i64 0,.int .i64 0,.int .i64 0,.int .i64 0,.string ⟨#[]⟩,.slice none 0 0]⟩,.bool false,.int .i64 0]⟩),(mkSt [])))
 (af (LC [.string s,.pointer (Option.some (Addr.mk 0 0 none)),.bool false,.int .i64 0,.iface 18446744073709551617 (.agg ⟨(.slice none wn 0)::wc⟩),.pointer (Option.some (Addr.mk 2 0 none))] [Blk.cells [.int .i64 0,.int .i64 0,.int .i64 0,.int .i64 0,.string ⟨#[]⟩,.slice none 0 0] 53 true,Blk.map [Go.MapEntry.mk (.int .i64 1) (.agg ⟨[.string ⟨#[99,111,109,109,105,116]⟩,.string ⟨#[110,111]⟩]⟩) 0,Go.MapEntry.mk (.int .i64 2) (.agg ⟨[.string ⟨#[114,101,97,100]⟩,.string ⟨#[110,107]⟩]⟩) 1,Go.MapEntry.mk (.int .i64 3) (.agg ⟨[.string ⟨#[116,105,99,107]⟩,.string ⟨#[110]⟩]⟩) 2,Go.MapEntry.mk (.int .i64 4) (.agg ⟨[.string ⟨#[112,114,111,109,111,116,101]⟩,.string ⟨#[110]⟩]⟩) 3,Go.MapEntry.mk (.int .i64 5) (.agg ⟨[.string ⟨#[102,108,117,115,104]⟩,.string ⟨#[110]⟩]⟩) 4,Go.MapEntry.mk (.int .i64 6) (.agg ⟨[.string ⟨#[100,101,108,105,118,101,114]⟩,.string ⟨#[97]⟩]⟩) 5,Go.MapEntry.mk (.int .i64 7) (.agg ⟨[.string ⟨#[116,119,105,99,101]⟩,.string ⟨#[97]⟩]⟩) 6,Go.MapEntry.mk (.int .i64 8) (.agg ⟨[.string ⟨#[100,114,111,112]⟩,.string ⟨#[97]⟩]⟩) 7,Go.MapEntry.mk (.int .i64 9) (.agg ⟨[.string ⟨#[102,117,115,101]⟩,.string ⟨#[110,97]⟩]⟩) 8,Go.MapEntry.mk (.int .i64 10) (.agg ⟨[.string ⟨#[112,117,108,108]⟩,.string ⟨#[110]⟩]⟩) 9,Go.MapEntry.mk (.int .i64 11) (.agg ⟨[.string ⟨#[115,116,97,114,116]⟩,.string ⟨#[110,97,116]⟩]⟩) 10,Go.MapEntry.mk (.int .i64 12) (.agg ⟨[.string ⟨#[114,111,117,110,100]⟩,.string ⟨#[]⟩]⟩) 11] 12,Blk.miter (Option.some 1) 12 [] 12])
 (aC ok
 (some ((.tuple ⟨[.agg ⟨[.int .i64 k,.int .i64 nd,.int .i64 n,.int .i64 t,.string key,.iface 18446744073709551619 (.agg ⟨(.slice none on 0)::oc⟩)]⟩,.bool true,.int .i64 0]⟩),(mkSt [])))
 (some ((.tuple ⟨[.agg ⟨[.int .i64 0,.int .i64 0,.int .i64 0,.int .i64 0,.string ⟨#[]⟩,.slice none 0 0]⟩,.bool false,.int .i64 350]⟩),(mkSt []))))))))))))):=by kernel_rfl
theorem BF(s:ByteArray):(jm s).map (fun w=>w.data.toList)=Pl.wordsB [] s.data.toList:=Pl.fields_words s _ fun x=>by
 show decide ((x:Int)=32)=true↔x=32;rw[decide_eq_true_iff]; omega
theorem nT(s:ByteArray):s.data.toList.length=s.size:=by simp
theorem Nu{s:ByteArray}(h:s.size<=4194302):ul (jm s)/\(jm s).length<4194304/\∀ w∈jm s,0<w.size:=by
 obtain⟨h1,h2⟩:=Pl.wordsB_facts s.data.toList [];have hl:(jm s).length=(Pl.wordsB [] s.data.toList).length:=by rw[<-BF,List.length_map]
 rw[nT]at h2;have hm:∀ w∈jm s,w.data.toList∈Pl.wordsB [] s.data.toList:=fun w hw=>by rw[<-BF]; exact List.mem_map.2 ⟨w,hw,rfl⟩
 refine⟨⟨fun w hw=>?_,by omega⟩,by omega,fun w hw=>?_⟩
 ·have:=(h1 _ (hm w hw)).2;rw[nT,nT]at this;simp only[List.length_nil]at this;omega
 ·have:=(h1 _ (hm w hw)).1;rw[<-nT];exact List.length_pos_iff.2 this
def iL:ActM:=⟨0,0,0,0,⟨#[]⟩,[]⟩
def DF(w0:ByteArray):Bool:=eqI (bAt w0 0) 35
def fA(s:ByteArray):ActM×Bool×Int:=match gtI (ae s.size) 65536,inB s 10,jm s with
 |true,_,_=>(iL,false,3)
 |false,true,_=>(iL,false,350)
 |false,false,[]=>(iL,false,0)
 |false,false,w0::r=>match DF w0,dQ w0 r with
  |true,_=>(iL,false,0)
  |false,some p=>(p.1,true,0)
  |false,none=>(iL,false,350)
def Jo(a:ActM):Value:= .agg ⟨oz a (cZ a.ops)⟩
def Ji(x:ActM×Bool×Int):Value:= .tuple ⟨[Jo x.1, .bool x.2.1, .int .i64 x.2.2]⟩
def kLi:Con (ByteArray×List ByteArray) where
 enc x:=(liV x.1 x.2.length 0 (x.2.map Value.string),liB dn (.map ah 12) (.miter (some 1) 12 [] 12))
 ok _:=True
 inj a b h:=by
  unfold liV at h;simp only[Prod.mk.injEq,List.cons.injEq,Value.string.injEq,true_and,and_true]at h;obtain⟨a1,a2⟩:=a;obtain⟨b1,b2⟩:=b;obtain⟨h1,h2⟩:=h;simp only at h1 h2;rw[h1,yw (vW h2)]
 dflt:=(default,[])
def O3(s:ByteArray)(ws:List ByteArray)(o:Option (ActM×Value)):DT (Ex×List Value×List Blk):=
 .ite o.isSome (.leaf (.ret,yA s ws true,yO (oz ((o.map (·.1)).getD iL) (cZ ((o.map (·.1)).getD iL).ops)))) (.leaf (.normal,yA s ws false,yO dn))
theorem NH{s w0:ByteArray}{r:List ByteArray}(hw:ul (w0::r))(hl:(w0::r).length<4194304):LoopOk P 32 0 Bli Hli (nz (kLi.at (s,w0::r)) (O3 s (w0::r) (dQ w0 r))):=
 O9 kLi (kU MO) D5 fun e vs' bs' hev=>by
  have q:=QU (s:=s) hw hl 12 [] (by decide) (fun k hk=>by cases hk);unfold O3 at hev;cases hf:dQ w0 r with
  |none=>
   rw[hf]at hev q;simp only[Option.isSome_none,DT.eval,Option.some.injEq,Prod.mk.injEq]at hev;obtain⟨rfl,rfl,rfl⟩:=hev;exact q
  |some p=>
   rw[hf]at hev q;simp only[Option.isSome_some,Option.map_some,Option.getD_some,DT.eval,Option.some.injEq,Prod.mk.injEq]at hev;obtain⟨rfl,rfl,rfl⟩:=hev;exact q
theorem QE{Y:Env}{b i x:Value}(h:VR Y (.tuple ⟨[.agg ⟨dn⟩,b,i]⟩) x):VR Y (.tuple ⟨[Jo iL,b,i]⟩) x:=by
 simp only[VR,VRA,VRL]at h;obtain⟨a',rfl,y,ys,e,⟨c,rfl,hc⟩,hrest⟩:=h;unfold dn at hc;simp only[VRL]at hc;obtain⟨y1,l1,e1,q1,y2,l2,rfl,q2,y3,l3,rfl,q3,y4,l4,rfl,q4,y5,l5,rfl,q5,y6,l6,rfl,q6,q7⟩:=hc;refine⟨a',rfl,?_⟩;simp only[VRA,VRL];refine⟨_,ys,e,⟨c,rfl,?_⟩,hrest⟩;simp only[VRA,VRL,oz,iL];exact⟨y1,_,e1,q1,y2,_,rfl,q2,y3,_,rfl,q3,y4,_,rfl,q4,y5,_,rfl,q5,y6,_,rfl,LJ q6,q7⟩
def kLn:Con ByteArray where
 enc s:=([.string s],[])
 ok s:=s.size<=4194302
 inj a b h:=by simp only[Prod.mk.injEq,List.cons.injEq,Value.string.injEq,and_true]at h; exact h
 dflt:=default
def NP(s:ByteArray)(w0:ByteArray)(r:List ByteArray):Ct:=
 oP 32 0 Hli (nz (kLi.at (s,w0::r)) (O3 s (w0::r) (dQ w0 r))) (ed P iI 0 27 (vY (kWo.at s) (.leaf (fzS (jm s),[]))) (b_ P 55 (IW inB) ctF))
theorem Qw{s w0:ByteArray}{r:List ByteArray}(hs:s.size<=4194302)(hw:ul (w0::r))(hl:(w0::r).length<4194304):CtOk P (NP s w0 r):=
 tY (dW (bI mP Ut) (wV kWo LX (s:=s) (by show s.size<=4194304; omega))) (NH hw hl)
theorem Om(s:ByteArray)(hs:s.size<=4194302):CRX P 0 32 [.string s] [] (Ji (fA s)) []:=by
 obtain⟨hw,hl,hp⟩:=Nu hs;have z:∀ {e:Int},CRX P 0 32 [.string s] [] (.tuple ⟨[.agg ⟨dn⟩, .bool false, .int .i64 e]⟩) []->CRX P 0 32 [.string s] [] (Ji (iL,false,e)) []:=fun h=>h.weak fun Y x hx=>QE hx;have hqs:∀ (w0:ByteArray) (r:List ByteArray),ul (w0::r)->(w0::r).length<4194304->∀ v,lg P E (NP s w0 r) 50 iI [.keep, .val, .val] [53,4,49] 0 32 [.string s] []=some (v,mkSt [])->CRX P 0 32 [.string s] [] v []:=
  fun w0 r h1 h2 v h=>CRX.of (dR (NP s w0 r)) aB (Qw hs h1 h2) h
 have q:=fun(w0:ByteArray) (r:List ByteArray)=>Pj inB (kWo.at s) (jm s).length ((jm s).map Value.string) (kLi.at (s,w0::r)) (dQ w0 r).isSome (fzS (w0::r)) (((dQ w0 r).map (·.1)).getD iL).kind (((dQ w0 r).map (·.1)).getD iL).node (((dQ w0 r).map (·.1)).getD iL).n (((dQ w0 r).map (·.1)).getD iL).t (((dQ w0 r).map (·.1)).getD iL).key (((dQ w0 r).map (·.1)).getD iL).ops.length (EOp.all (((dQ w0 r).map (·.1)).getD iL).ops) s;have e0:ul [(default:ByteArray)]:=⟨fun w hw=>by simp at hw; subst hw; decide,by decide⟩
 unfold fA;cases h1:gtI (ae s.size) 65536 with
 |true=>
  refine z (hqs default [] e0 (by decide) _ ((q default []).trans ?_));rw[h1]; rfl
 |false=>
 cases h2:inB s 10 with
 |true=>
  refine z (hqs default [] e0 (by decide) _ ((q default []).trans ?_));rw[h1];refine Eq.trans bn ?_;have h2:inB s (OfNat.ofNat 10)=true:=h2;rw[h2]; rfl
 |false=>
 have h2:inB s (OfNat.ofNat 10)=false:=h2;cases h3:jm s with
 |nil=>
  refine z (hqs default [] e0 (by decide) _ ((q default []).trans ?_));rw[h1];refine Eq.trans bn ?_;rw[h2];refine Eq.trans bn ?_;refine kQ (k:=kWo) (s:=s) rfl rfl ?_;rw[h3]
  rfl
 |cons w0 r=>
  rw[h3]at hw hl hp;have a1:eqI (ae (w0::r).length) 0=false:=by unfold eqI ae; exact decide_eq_false (by simp only[List.length_cons]; omega)
  have a2:inI 0 w0.size=true:=aV (i:=0) (hp w0 (by simp));have key:∀ v,(aC (DF w0) (some (.tuple ⟨[.agg ⟨dn⟩, .bool false, .int .i64 0]⟩,mkSt [])) (aC (dQ w0 r).isSome (some (.tuple ⟨[Jo (((dQ w0 r).map (·.1)).getD iL), .bool true, .int .i64 0]⟩,mkSt [])) (some (.tuple ⟨[.agg ⟨dn⟩, .bool false, .int .i64 350]⟩,mkSt []))):Res)=some (v,mkSt [])->
    CRX P 0 32 [.string s] [] v []:=fun v hv=>by
   refine hqs w0 r hw hl v ((q w0 r).trans ?_);rw[h1];refine Eq.trans bn ?_;rw[h2];refine Eq.trans bn ?_;refine kQ (k:=kWo) (s:=s) rfl rfl ?_;rw[h3];simp only[a1,l_in,vH,ww,uN,gZ,g_,wz,a2,Bool.and_self,aT,bn];refine Eq.trans ?_ hv;have hk:∀ x:Res,af (kLi.at (s,w0::r) (liV s (w0::r).length 0 ((w0::r).map Value.string)) (liB dn (.map ah 12) (.miter (some 1) 12 [] 12))) x=x:=fun x=>kQ (k:=kLi) (s:=(s,w0::r)) rfl rfl rfl;unfold DF;cases eqI (bAt w0 0) 35 with
   |true=>rfl
   |false=>
    simp only[bn];refine Eq.trans ?_ (hk _);unfold Jo oz cZ liV au;rw[fzU,j_]
    rfl
  simp only;cases h4:DF w0 with
  |true=>exact z (key _ (by rw[h4]; rfl))
  |false=>
   cases h5:dQ w0 r with
   |none=>exact z (key _ (by rw[h4,h5]; rfl))
   |some p=>exact key _ (by rw[h4,h5]; rfl)
theorem QP:CallOkX P 0 32 (uO kLn.C kLn.D fun s=> .leaf (Ji (fA s),[])):=rJ kLn fun s ho v bs' hev=>by
 simp only[DT.eval,Option.some.injEq,Prod.mk.injEq]at hev;obtain⟨rfl,rfl⟩:=hev;exact Om s ho
def Rt(IX:ByteArray->Int->Int):Ct:=b_ P 72 (Ou IX) jR
theorem QY(IX:ByteArray->Int->Int)(s:ByteArray):jg P E (Rt IX) 50 11 [.string s, .string ⟨#[10]⟩] =
 (aC (eqS ⟨#[10]⟩ s)
 (af (d_ 1 (ae s.size) s.size)
 (some ((.tuple ⟨[.string (tu s 0 0),.string (tu s 1 (ae s.size)),.bool true]⟩),(mkSt []))))
 (aC (geI (IX s 10) 0)
 (af (d_ 0 (IX s 10) s.size)
 (af (d_ (dC .i64 (IX s 10) 1) (ae s.size) s.size)
 (some ((.tuple ⟨[.string (tu s 0 (IX s 10)),.string (tu s (dC .i64 (IX s 10) 1) (ae s.size)),.bool true]⟩),(mkSt [])))))
 (some ((.tuple ⟨[.string s,.string ⟨#[]⟩,.bool false]⟩),(mkSt []))))):=by kernel_rfl
theorem Qz(i e:Int):Fa P E jR 50 31 [.int .i64 i, .int .i64 e] =
 (some ((.iface 45 (.pointer (Option.some (Addr.mk 0 0 none)))),(mkSt [Blk.cells [.int .i64 i,.int .i64 e] 109 true]))):=by kernel_rfl
def brk:List UInt8->List UInt8×List UInt8×Bool
 |[]=>([],[],false)
 |b::l=>match b == 10 with
  |true=>([],l,true)
  |false=>(b::(brk l).1,(brk l).2.1,(brk l).2.2)
theorem E5:∀ {l:List UInt8},Lib.indexByte l 10=-1->brk l=(l,[],false)
 |[],_=>rfl
 |b::l,h=>by
  unfold Lib.indexByte at h;unfold brk;cases hb:b == 10 with
  |true=>rw[hb]at h; simp at h
  |false=>
   rw[hb]at h;have hg:=Lib.indexByte_ge l 10;have h1:Lib.indexByte l 10=-1:=by
    by_cases hq:Lib.indexByte l 10=-1
    ·exact hq
    ·simp only[Bool.false_eq_true,if_false,beq_iff_eq,hq]at h; omega
   rw[E5 h1]
theorem Et:∀ {l:List UInt8} {o:Nat},Lib.indexByte l 10=o->o<l.length/\brk l=(l.take o,l.drop (o+1),true)
 |[],o,h=>by simp[Lib.indexByte]at h
 |b::l,o,h=>by
  unfold Lib.indexByte at h;unfold brk;cases hb:b == 10 with
  |true=>
   rw[hb]at h;simp only[if_true]at h;obtain rfl:o=0:=by omega
   exact⟨by simp,rfl⟩
  |false=>
   rw[hb]at h;have hg:=Lib.indexByte_ge l 10;by_cases hq:Lib.indexByte l 10=-1
   ·simp only[Bool.false_eq_true,if_false,hq]at h;have:(-1:Int)=o:=h;omega
   ·simp only[Bool.false_eq_true,if_false,beq_iff_eq,hq]at h;obtain⟨k,rfl⟩:∃ k,o=k+1:=⟨o-1,by omega⟩
    obtain⟨h1,h2⟩:=Et (l:=l) (o:=k) (by omega);rw[h2];exact⟨by simp only[List.length_cons]; omega,rfl⟩
theorem JU(l:List UInt8):(brk l).1.length+(brk l).2.1.length<=l.length/\(l≠[]->(brk l).2.1.length<l.length):=by
 induction l with
 |nil=>simp[brk]
 |cons b l ih=>
  unfold brk;cases b == 10 with
  |true=>simp
  |false=>
   simp only[List.length_cons];exact⟨by omega,fun _=>by omega⟩
theorem yX{a b:ByteArray}(h:a.data.toList=b.data.toList):a=b:=by
 obtain⟨⟨a⟩⟩:=a;obtain⟨⟨b⟩⟩:=b;simp only at h;rw[h]
theorem BX(s:ByteArray)(a b:Nat):(tu s (a:Int) (b:Int)).data.toList=(s.data.toList.drop a).take (b-a):=by
 unfold tu;simp[ByteArray.extract,ByteArray.copySlice,List.extract_eq_take_drop]
def lnA(s:ByteArray):ByteArray:=⟨⟨(brk s.data.toList).1⟩⟩
def lnB(s:ByteArray):ByteArray:=⟨⟨(brk s.data.toList).2.1⟩⟩
def lnF(s:ByteArray):Bool:=(brk s.data.toList).2.2
def DC(A B:ByteArray->ByteArray)(F:ByteArray->Bool):fK
 |[.string s, .string ⟨⟨[10]⟩⟩]=>some (.ite (szS s) (.leaf (.tuple ⟨[.string (A s), .string (B s), .bool (F s)]⟩,[])) .fail)
 |_=>none
theorem QS{s:ByteArray}(h:s.size<=9223372036854775807):jg P E (Rt ixB) 50 11 [.string s, .string ⟨#[10]⟩]=some (.tuple ⟨[.string (lnA s), .string (lnB s), .bool (lnF s)]⟩,mkSt []):=by
 rw[QY];have hlen:=nT s;cases h1:eqS ⟨#[10]⟩ s with
 |true=>
  have hs:s=⟨⟨[10]⟩⟩:=yX (jD h1);subst hs
  rfl
 |false=>
  refine Eq.trans bn ?_;have hix:ixB s 10=Lib.indexByte s.data.toList 10:=rfl;have hge:=Lib.indexByte_ge s.data.toList 10;by_cases hq:Lib.indexByte s.data.toList 10=-1
  ·have g:geI (ixB s 10) 0=false:=by rw[hix,hq]; rfl
   rw[g];refine Eq.trans bn ?_;unfold lnA lnB lnF;rw[E5 hq]
  ·obtain⟨o,ho⟩:∃ o:Nat,Lib.indexByte s.data.toList 10=o:=⟨(Lib.indexByte s.data.toList 10).toNat,by omega⟩
   obtain⟨b1,b2⟩:=Et ho;rw[hlen]at b1;rw[hix,ho];have g:geI (o:Int) 0=true:=by unfold geI; exact decide_eq_true (by omega)
   have a1:dC .i64 (o:Int) 1=((o+1:Nat):Int):=by unfold dC; rw[wrap64 (by omega) (by omega)]; omega
   have c1:d_ 0 (o:Int) s.size=true:=oZ (by omega) (by omega) (by omega);have c2:d_ ((o+1:Nat):Int) (ae s.size) s.size=true:=oZ (by omega) (by unfold ae; omega) (by unfold ae; omega);rw[g,a1,c1,c2];have e1:tu s 0 (o:Int)=lnA s:=by
    refine yX ((BX s 0 o).trans ?_);unfold lnA;rw[b2,List.drop_zero,Nat.sub_zero]
   have e2:tu s ((o+1:Nat):Int) (ae s.size)=lnB s:=by
    refine yX ((BX s (o+1) s.size).trans ?_);unfold lnB;rw[b2,List.take_of_length_le (by rw[List.length_drop,hlen]; omega)]
   rw[e1,e2];have e3:lnF s=true:=by unfold lnF; rw[b2]
   rw[e3]
   rfl
theorem Ny:CallOkR P 11 (DC lnA lnB lnF):=by
 refine qw (bI (iR P) Uc) (n:=50) fun args t hR v bs hev=>?_;unfold DC at hR;split at hR
 ·rename_i s;obtain rfl:=Option.some.inj hR;cases hc:szS s with
  |false=>rw[hc]at hev; cases hev
  |true=>
   rw[hc]at hev;simp only[DT.eval,Option.some.injEq,Prod.mk.injEq]at hev;obtain⟨rfl,rfl⟩:=hev;exact QS (Nat.le_trans (Nat.le_of_ble_eq_true hc) (by decide))
 ·cases hR
def kD(i e:Int):Value:= .iface 45 (iq 0 [.int .i64 i, .int .i64 e])
def zx:dJ:=fun args bs=>match args,bs with
 |[.int .i64 i, .int .i64 e],[]=>some (.leaf (kD i e,[]))
 |_,_=>none
theorem LY:CallOkX P 0 31 zx:=by
 refine⟨fun args bs t hR v bs' hev=>?_⟩;unfold zx at hR;split at hR
 ·rename_i i e;obtain rfl:=Option.some.inj hR;simp only[DT.eval,Option.some.injEq,Prod.mk.injEq]at hev;obtain⟨rfl,rfl⟩:=hev;exact CRX.ofNew (by decide) rfl rfl (CR.ofN (dR jR) aB (iR P) (Qz i e))
 ·cases hR
def PT(A B:ByteArray->ByteArray)(F:ByteArray->Bool)(LC:List Value->List Blk->Bool)(k nd n t:Int)(key:ByteArray)(on:Nat)(oc:List Value)(th:Bool)(er:Int):Ct:=
 b_ P 11 (DC A B F) (ed P iI 0 31 zx (ed P iI 0 32 (vY LC (.leaf (.tuple ⟨[.agg ⟨[.int .i64 k, .int .i64 nd, .int .i64 n, .int .i64 t, .string key,au 3 on 0 oc]⟩, .bool th, .int .i64 er]⟩,[]))) ctF))
def Dpa:HeadX:=⟨0,49,[0,2,3,4,5],[.val, .val, .val, .own, .val],[9,40,9,40,2],iI⟩
def Bpa:Code:=(h_ P 14 0).getD .skip
theorem Nb:h_ P 14 0=some Bpa:=by kernel_rfl
theorem qV:Occ P 14 (.block 0 (.loop Bpa)):=kN Nb
theorem Nw(A B:ByteArray->ByteArray)(F:ByteArray->Bool)(LC:List Value->List Blk->Bool)(k nd n t:Int)(key:ByteArray)(on:Nat)(oc:List Value)(th:Bool)(er:Int)(s:ByteArray)(m:Nat)(d:List Value)(c:Int):eu P E (PT A B F LC k nd n t key on oc th er) 50 14 Bpa Dpa [.string s,au 6 0 0 [], .nilIface, .slice (some ⟨0,0,none⟩) m unk, .int .i64 c] [.cells d 53 false] =
 (aC (neS s ⟨#[]⟩)
 (af (szS s)
 (af (LC [.string (A s)] [])
 (aC (neI er 0)
 (af (Nat.ble (Nat.add 0 (Nat.mul m 6)) d.length)
 (some ((.tuple ⟨[.int .i64 (-1),.string (B s),.iface 18446744073709551622 (.agg ⟨[.slice none 0 0]⟩),.iface 45 (.iface 18446744073709551616 (.agg ⟨[.slice none 0 0,.int .i64 c,.int .i64 er]⟩)),.slice (Option.some (Addr.mk 0 0 none)) m 18446744073709551616,.int .i64 c]⟩),(mkSt [Blk.cells (renL true (rhoO 0 [2]) (takeC (Nat.mul m 6) (ai 0 d))) 53 false]))))
 (aC th
 (aC (eqI (ae m) 200)
 (af (Nat.ble (Nat.add 0 (Nat.mul m 6)) d.length)
 (some ((.tuple ⟨[.int .i64 (-1),.string (B s),.iface 18446744073709551622 (.agg ⟨[.slice none 0 0]⟩),.iface 45 (.iface 18446744073709551616 (.agg ⟨[.slice none 0 0,.int .i64 c,.int .i64 3]⟩)),.slice (Option.some (Addr.mk 0 0 none)) m 18446744073709551616,.int .i64 c]⟩),(mkSt [Blk.cells (renL true (rhoO 0 [2]) (takeC (Nat.mul m 6) (ai 0 d))) 53 false]))))
 (aC th
 (af (Nat.ble (Nat.add m 1) 4194304)
 (af (Nat.beq (Nat.add 0 (Nat.mul m 6)) d.length)
 (af (Nat.ble (Nat.add 0 (Nat.mul (Nat.add m 1) 6)) (List.length (List.append (mO 0 d) [.int .i64 k,.int .i64 nd,.int .i64 n,.int .i64 t,.string key,.iface 18446744073709551619 (.agg ⟨(.slice none on 0)::oc⟩)])))
 (some ((.tuple ⟨[.int .i64 0,.string (B s),.iface 18446744073709551622 (.agg ⟨[.slice none 0 0]⟩),.nilIface,.slice (Option.some (Addr.mk 0 0 none)) (Nat.add m 1) 18446744073709551616,.int .i64 (dC .i64 c 1)]⟩),(mkSt [Blk.cells (renL true (rhoO 0 [4]) (takeC (Nat.mul (Nat.add m 1) 6) (ai 0 (List.append (mO 0 d) [.int .i64 k,.int .i64 nd,.int .i64 n,.int .i64 t,.string key,.iface 18446744073709551619 (.agg ⟨(.slice none on 0)::oc⟩)])))) 53 false]))))))
 (af (Nat.ble (Nat.add 0 (Nat.mul m 6)) d.length)
 (some ((.tuple ⟨[.int .i64 0,.string (B s),.iface 18446744073709551622 (.agg ⟨[.slice none 0 0]⟩),.nilIface,.slice (Option.some (Addr.mk 0 0 none)) m 18446744073709551616,.int .i64 (dC .i64 c 1)]⟩),(mkSt [Blk.cells (renL true (rhoO 0 [2]) (takeC (Nat.mul m 6) (ai 0 d))) 53 false]))))))
 (aC th
 (af (Nat.ble (Nat.add m 1) 4194304)
 (af (Nat.beq (Nat.add 0 (Nat.mul m 6)) d.length)
 (af (Nat.ble (Nat.add 0 (Nat.mul (Nat.add m 1) 6)) (List.length (List.append (mO 0 d) [.int .i64 k,.int .i64 nd,.int .i64 n,.int .i64 t,.string key,.iface 18446744073709551619 (.agg ⟨(.slice none on 0)::oc⟩)])))
 (some ((.tuple ⟨[.int .i64 0,.string (B s),.iface 18446744073709551622 (.agg ⟨[.slice none 0 0]⟩),.nilIface,.slice (Option.some (Addr.mk 0 0 none)) (Nat.add m 1) 18446744073709551616,.int .i64 (dC .i64 c 1)]⟩),(mkSt [Blk.cells (renL true (rhoO 0 [4]) (takeC (Nat.mul (Nat.add m 1) 6) (ai 0 (List.append (mO 0 d) [.int .i64 k,.int .i64 nd,.int .i64 n,.int .i64 t,.string key,.iface 18446744073709551619 (.agg ⟨(.slice none on 0)::oc⟩)])))) 53 false]))))))
 (af (Nat.ble (Nat.add 0 (Nat.mul m 6)) d.length)
 (some ((.tuple ⟨[.int .i64 0,.string (B s),.iface 18446744073709551622 (.agg ⟨[.slice none 0 0]⟩),.nilIface,.slice (Option.some (Addr.mk 0 0 none)) m 18446744073709551616,.int .i64 (dC .i64 c 1)]⟩),(mkSt [Blk.cells (renL true (rhoO 0 [2]) (takeC (Nat.mul m 6) (ai 0 d))) 53 false])))))))))
 (af (Nat.ble (Nat.add 0 (Nat.mul m 6)) d.length)
 (some ((.tuple ⟨[.int .i64 1,.string s,.iface 18446744073709551622 (.agg ⟨[.slice none 0 0]⟩),.nilIface,.slice (Option.some (Addr.mk 0 0 none)) m 18446744073709551616,.int .i64 c]⟩),(mkSt [Blk.cells (renL true (rhoO 0 [1]) (takeC (Nat.mul m 6) (ai 0 d))) 53 false]))))):=by kernel_rfl
def jZ:Enc ActM where
 sz:=6
 f a:=oz a (cZ a.ops)
 len _:=rfl
 pos:=by decide
 inj a b h:=by
  obtain⟨a1,a2,a3,a4,a5,a6⟩:=a;obtain⟨b1,b2,b3,b4,b5,b6⟩:=b;unfold oz cZ at h;simp only[List.cons.injEq,Value.int.injEq,Value.string.injEq,true_and,and_true]at h;obtain⟨rfl,rfl,rfl,rfl,rfl,h⟩:=h;obtain rfl:=EOp.all_inj _ _ (vW h)
  rfl
 nr c:=by
  unfold oz cZ;simp only[di,gq,OB,Bool.and_self]
theorem ET(l:List ActM):(jZ.all l).length=Nat.mul l.length 6:=jZ.all_length l
theorem wM{l:List ActM}{n:Nat}(h:n=l.length):takeC (Nat.mul n 6) (ai 0 (jZ.all l))=jZ.all l:=by
 subst h; exact jZ.all_self l
theorem TE(out:List ActM)(a:ActM):List.append (mO 0 (jZ.all out)) [.int .i64 a.kind, .int .i64 a.node, .int .i64 a.n, .int .i64 a.t, .string a.key,au 3 a.ops.length 0 (EOp.all a.ops)]=jZ.all (out++[a]):=by
 rw[BR,jZ.all_append,jZ.all_one]; rfl
def paV(s:ByteArray)(e:Value)(m:Nat)(c:Int):List Value:=[.string s,au 6 0 0 [],e, .slice (some ⟨0,0,none⟩) m unk, .int .i64 c]
def paB(out:List ActM):List Blk:=[.cells (jZ.all out) 53 false]
def qF(s:ByteArray):Ct:=PT lnA lnB lnF (kLn.at (lnA s)) (fA (lnA s)).1.kind (fA (lnA s)).1.node (fA (lnA s)).1.n (fA (lnA s)).1.t (fA (lnA s)).1.key (fA (lnA s)).1.ops.length (EOp.all (fA (lnA s)).1.ops) (fA (lnA s)).2.1 (fA (lnA s)).2.2
theorem DX(s:ByteArray):(lnA s).size<=s.size/\(s.size≠0->(lnB s).size<s.size):=by
 have h:=JU s.data.toList;have hl:=nT s;have h1:(lnA s).size=(brk s.data.toList).1.length:=by unfold lnA; simp[ByteArray.size]
 have h2:(lnB s).size=(brk s.data.toList).2.1.length:=by unfold lnB; simp[ByteArray.size]
 rw[h1,h2,<-hl];refine⟨by have:=h.1; omega,fun hne=>h.2 (fun e=>hne (by rw[e]; rfl))⟩
theorem rM{s:ByteArray}(h:s.size<=4194302):CtOk P (qF s):=
 bI (dW (dW mP (wV kLn QP (s:=lnA s) (Nat.le_trans (DX s).1 h))) LY) Ny
theorem SV{s:ByteArray}(h:s.size≠0):neS s ⟨#[]⟩=true:=by
 rw[yT];cases hq:s.data.toList with
 |nil=>exact absurd (by rw[<-nT,hq]; rfl) h
 |cons a l=>rfl
theorem OL{s:ByteArray}{out:List ActM}{c:Nat}(hs:s.size<=4194302)(h0:s.size≠0)(ho:out.length<=200)(hc:c<=4194304):eu P E (qF s) 50 14 Bpa Dpa (paV s .nilIface out.length c) (paB out) =
  match neI (fA (lnA s)).2.2 0,(fA (lnA s)).2.1,eqI (ae out.length) 200 with
  |true,_,_=>some (.tuple ⟨exV .ret::paV (lnB s) (kD c (fA (lnA s)).2.2) out.length c⟩,mkSt (paB out))
  |false,true,true=>some (.tuple ⟨exV .ret::paV (lnB s) (kD c 3) out.length c⟩,mkSt (paB out))
  |false,true,false=>some (.tuple ⟨exV .normal::paV (lnB s) .nilIface (out++[(fA (lnA s)).1]).length ((c+1:Nat):Int)⟩,mkSt (paB (out++[(fA (lnA s)).1])))
  |false,false,_=>some (.tuple ⟨exV .normal::paV (lnB s) .nilIface out.length ((c+1:Nat):Int)⟩,mkSt (paB out)):=by
 unfold paV paB qF;rw[Nw];have g0:=SV h0;have g1:szS s=true:=qW (by omega);have b3:∀ n,Nat.beq n n=true:=Nat.beq_refl;have b2:∀ n,Nat.ble n n=true:=fun n=>Nat.ble_eq_true_of_le (Nat.le_refl n);have t1:Nat.ble (Nat.add out.length 1) 4194304=true:=Nat.ble_eq_true_of_le (by show out.length+1<=_; omega);have ol:∀ a:ActM,(out++[a]).length=Nat.add out.length 1:=fun a=>by simp
 have os:∀ a:ActM,takeC (Nat.mul (Nat.add out.length 1) 6) (ai 0 (jZ.all (out++[a])))=jZ.all (out++[a]):=fun a=>wM (ol a).symm;have hadd:dC .i64 (c:Int) 1=((c+1:Nat):Int):=by unfold dC; rw[wrap64 (by omega) (by omega)]; omega
 simp only[g0,g1,cO,aT];refine kQ (k:=kLn) (s:=lnA s) rfl rfl ?_;have hfz3:∀ l:List OpM,(Value.iface 18446744073709551619 (.agg ⟨.slice none l.length 0::EOp.all l⟩))=au 3 l.length 0 (EOp.all l):=fun l=>by unfold au; rw[j_]
 generalize fA (lnA s)=x;obtain⟨a,th,er⟩:=x;simp only;simp only[hfz3,TE,ET,b2,b3,t1,ol,os,wM rfl,jl,Enc.all_ren,hadd,aT];have hfz0:au 6 0 0 [] = .iface 18446744073709551622 (.agg ⟨[.slice none 0 0]⟩):=by unfold au FZ; rfl
 have hfp:∀ i e:Int,kD i e = .iface 45 (.iface 18446744073709551616 (.agg ⟨[.slice none 0 0, .int .i64 i, .int .i64 e]⟩)):=fun i e=>by unfold kD iq FZ; rfl
 rw[hfz0];simp only[hfp];cases neI er 0 with
 |true=>rfl
 |false=>
  cases th with
  |false=>rfl
  |true=>
   cases eqI (ae out.length) 200<;>rfl
theorem Ry{s:ByteArray}{out:List ActM}{c:Nat}(h0:s.size=0):eu P E (qF s) 50 14 Bpa Dpa (paV s .nilIface out.length c) (paB out)=some (.tuple ⟨exV (.exit 0)::paV s .nilIface out.length c⟩,mkSt (paB out)):=by
 unfold paV paB qF;rw[Nw];have g0:neS s ⟨#[]⟩=false:=by
  rw[yT];have:s.data.toList=[]:=List.length_eq_zero_iff.1 (by rw[nT]; exact h0);rw[this]; rfl
 have b2:∀ n,Nat.ble n n=true:=fun n=>Nat.ble_eq_true_of_le (Nat.le_refl n);simp only[g0,bn,ET,b2,wM rfl,jl,Enc.all_ren,aT];have hfz0:au 6 0 0 [] = .iface 18446744073709551622 (.agg ⟨[.slice none 0 0]⟩):=by unfold au FZ; rfl
 rw[hfz0]
 rfl
def paM:Nat->ByteArray->List ActM->Nat->Option (Int×Int)×ByteArray×List ActM×Nat
 |0,s,out,c=>(none,s,out,c)
 |f+1,s,out,c=>match Nat.beq s.size 0 with
  |true=>(none,s,out,c)
  |false=>match neI (fA (lnA s)).2.2 0,(fA (lnA s)).2.1,eqI (ae out.length) 200 with
   |true,_,_=>(some (c,(fA (lnA s)).2.2),lnB s,out,c)
   |false,true,true=>(some (c,3),lnB s,out,c)
   |false,true,false=>paM f (lnB s) (out++[(fA (lnA s)).1]) (c+1)
   |false,false,_=>paM f (lnB s) out (c+1)
def paX:Option (Int×Int)->Ex
 |none=> .normal
 |some _=> .ret
def paE:Option (Int×Int)->Value
 |none=> .nilIface
 |some (i,e)=>kD i e
theorem Am:∀ (f:Nat) (s:ByteArray) (out:List ActM) (c:Nat),s.size<f->s.size<=4194302->out.length<=200->c+s.size<=4194304->
  LRX P 14 0 Bpa Dpa.head (paV s .nilIface out.length c) (paB out) (paX (paM f s out c).1) (paV (paM f s out c).2.1 (paE (paM f s out c).1) (paM f s out c).2.2.1.length (paM f s out c).2.2.2) (paB (paM f s out c).2.2.1)
 |0,s,_,_,h,_,_,_=>by omega
 |f+1,s,out,c,hf,hs,ho,hc=>by
  unfold paM;cases hb:Nat.beq s.size 0 with
  |true=>exact LRX.stop (n:=50) (dR (qF s)) aB (rM hs) qV (e:= .exit 0) (Ry (Nat.eq_of_beq_eq_true hb)) (by intro h; cases h)
  |false=>
   have h0:s.size≠0:=Nat.ne_of_beq_eq_false hb;have hlt:=(DX s).2 h0;have q:=OL (out:=out) (c:=c) hs h0 ho (by omega);cases h1:neI (fA (lnA s)).2.2 0 with
   |true=>
    rw[h1]at q;exact LRX.stop (n:=50) (dR (qF s)) aB (rM hs) qV (e:= .ret) q (by intro h; cases h)
   |false=>
    cases h2:(fA (lnA s)).2.1 with
    |false=>
     rw[h1,h2]at q;exact LRX.again (n:=50) (dR (qF s)) aB (rM hs) qV q (Am f (lnB s) out (c+1) (by omega) (by omega) ho (by omega))
    |true=>
     cases h3:eqI (ae out.length) 200 with
     |true=>
      rw[h1,h2,h3]at q;exact LRX.stop (n:=50) (dR (qF s)) aB (rM hs) qV (e:= .ret) q (by intro h; cases h)
     |false=>
      rw[h1,h2,h3]at q;have hne:out.length≠200:=by
       intro e;unfold eqI ae at h3;have:=of_decide_eq_false h3;omega
      exact LRX.again (n:=50) (dR (qF s)) aB (rM hs) qV q (Am f (lnB s) (out++[(fA (lnA s)).1]) (c+1) (by omega) (by omega) (by rw[List.length_append]; simp only[List.length_cons,List.length_nil]; omega) (by omega))
def Uu(LC:List Value->List Blk->Bool)(ok:Bool)(s2:ByteArray)(z:Value)(m:Nat)(d:List Value)(c li le:Int):Ct:=
 ed P iI 0 31 zx (kH P 14 0 Dpa (nz LC (.ite ok (.leaf (.normal,[.string s2,z, .nilIface, .slice (some ⟨0,0,none⟩) m unk, .int .i64 c],[.cells d 53 false])) (.leaf (.ret,[.string s2,z,kD li le, .slice (some ⟨0,0,none⟩) m unk, .int .i64 c],[.cells d 53 false])))) ctF)
theorem MR(LC:List Value->List Blk->Bool)(ok:Bool)(s2:ByteArray)(m:Nat)(d:List Value)(c li le:Int)(s:ByteArray):lg P E (Uu LC ok s2 (au 6 0 0 []) m d c li le) 50 iI [.val, .keep] [40,42] 0 14 [.string s] [] =
 (aC (gtI (ae s.size) 65536)
 (some ((.tuple ⟨[.iface 18446744073709551622 (.agg ⟨[.slice none 0 0]⟩),.iface 45 (.iface 18446744073709551616 (.agg ⟨[.slice none 0 0,.int .i64 (-1),.int .i64 3]⟩))]⟩),(mkSt [])))
 (af (LC [.string s,.iface 18446744073709551622 (.agg ⟨[.slice none 0 0]⟩),.nilIface,.slice (Option.some (Addr.mk 0 0 none)) 0 18446744073709551616,.int .i64 0] [Blk.cells [] 53 false])
 (aC ok
 (af (og P 0 m 18446744073709551616 (renL true (bC [] 1) d) 53)
 (some ((.tuple ⟨[.iface 18446744073709551622 (.agg ⟨(.slice none m 0)::(takeC (Nat.mul m 6) (ai 0 (renL true (bC [] 1) d)))⟩),.nilIface]⟩),(mkSt []))))
 (some ((.tuple ⟨[.iface 18446744073709551622 (.agg ⟨[.slice none 0 0]⟩),.iface 45 (.iface 18446744073709551616 (.agg ⟨[.slice none 0 0,.int .i64 li,.int .i64 le]⟩))]⟩),(mkSt [])))))):=by kernel_rfl
def yl:Con ByteArray where
 enc s:=(paV s .nilIface 0 0,paB [])
 ok s:=s.size<=4194302
 inj a b h:=by
  unfold paV at h;simp only[Prod.mk.injEq,List.cons.injEq,Value.string.injEq,and_true]at h;exact h
 dflt:=default
def nJ(s:ByteArray):Option (Int×Int)×ByteArray×List ActM×Nat:=paM (s.size+1) s [] 0
def N7(x:Option (Int×Int)×ByteArray×List ActM×Nat):DT (Ex×List Value×List Blk):=
 .ite x.1.isNone (.leaf (.normal,paV x.2.1 .nilIface x.2.2.1.length x.2.2.2,paB x.2.2.1)) (.leaf (.ret,paV x.2.1 (kD (x.1.getD (0,0)).1 (x.1.getD (0,0)).2) x.2.2.1.length x.2.2.2,paB x.2.2.1))
theorem Nq:LoopOkX P 14 0 Bpa Dpa.head (Be yl.C yl.D fun s=>N7 (nJ s)):=
 x8 yl (kU Nb) fun s ho e vs' bs' hev=>by
  have ho:s.size<=4194302:=ho;have q:=Am (s.size+1) s [] 0 (by omega) ho (by decide) (by omega);unfold N7 nJ at hev;generalize paM (s.size+1) s [] 0=x at hev q;obtain⟨o,s2,out,c⟩:=x;cases o with
  |none=>
   simp only[Option.isNone_none,DT.eval,Option.some.injEq,Prod.mk.injEq]at hev;obtain⟨rfl,rfl,rfl⟩:=hev;exact q
  |some p=>
   simp only[Option.isNone_some,DT.eval,Option.getD_some,Option.some.injEq,Prod.mk.injEq]at hev;obtain⟨rfl,rfl,rfl⟩:=hev;exact q
def ig(s:ByteArray):Option (Int×Int)×List ActM:=match gtI (ae s.size) 65536,(nJ s).1 with
 |true,_=>(some (-1,3),[])
 |false,some p=>(some p,[])
 |false,none=>(none,(nJ s).2.2.1)
def rZ(l:List ActM):Value:=au 6 l.length 0 (jZ.all l)
theorem Qh{l:List ActM}:og P 0 l.length 18446744073709551616 (jZ.all l) 53=true:=by
 have he:esz P 53=6:=by kernel_rfl
 unfold og;rw[he,jZ.all_nr,ET];have h2:Nat.ble (Nat.add 0 (Nat.mul l.length 6)) (Nat.mul l.length 6)=true:=by rw[jl]; exact Nat.ble_eq_true_of_le (Nat.le_refl _)
 rw[h2]; rfl
def TT(s:ByteArray):Ct:=ed P iI 0 31 zx (kH P 14 0 Dpa (nz (yl.at s) (N7 (nJ s))) ctF)
theorem MQ(s:ByteArray):lg P E (TT s) 50 iI [.val, .keep] [40,42] 0 14 [.string s] []=some (.tuple ⟨[rZ (ig s).2,paE (ig s).1]⟩,mkSt []):=by
 have q:=MR (yl.at s) (nJ s).1.isNone (nJ s).2.1 (nJ s).2.2.1.length (jZ.all (nJ s).2.2.1) (nJ s).2.2.2 ((nJ s).1.getD (0,0)).1 ((nJ s).1.getD (0,0)).2 s;refine Eq.trans ?_ (q.trans ?_)
 ·rfl
 clear q;have hfz0:∀ l:List ActM,rZ l = .iface 18446744073709551622 (.agg ⟨.slice none l.length 0::jZ.all l⟩):=fun l=>by unfold rZ au FZ; rfl
 have hfp:∀ i e:Int,kD i e = .iface 45 (.iface 18446744073709551616 (.agg ⟨[.slice none 0 0, .int .i64 i, .int .i64 e]⟩)):=fun i e=>by unfold kD iq FZ; rfl
 unfold ig;cases gtI (ae s.size) 65536 with
 |true=>
  simp only[cO];unfold paE;simp only[hfz0,hfp]
  rfl
 |false=>
  simp only[bn];refine kQ (k:=yl) (s:=s) (by show paV s .nilIface 0 0=_; unfold paV au FZ; rfl) rfl ?_;generalize nJ s=x;obtain⟨o,s2,out,c⟩:=x;cases o with
  |none=>
   simp only[Option.isNone_none,cO,Enc.all_ren,wM rfl,Qh,aT];simp only[hfz0]
   rfl
  |some p=>
   simp only[Option.isNone_some,bn,Option.getD_some];unfold paE;simp only[hfz0,hfp]
   rfl
end Go.VS.Tryz
end

noncomputable section
namespace Go.Proofs
open Go.RowKit Go.Shelf
section
abbrev Tryz.renS:Go.Shelf.Ren:=Tryz.lays169_ren
theorem Tryz.layS:Lays.n169 Tryz.prog Tryz.renS:=Tryz.lays169
theorem Tryz.layX:Builder.Extra Tryz.prog Tryz.renS:=Tryz.Builder_Extra_169
def Tryz.renC:Go.Shelf.Ren:=⟨fun | 240=>40 | 276=>71 | n=>n,fun | 4=>4 | 9=>9 | 20=>20 | 70=>54 | 72=>57 | 37=>55 | 164=>80 | n=>n,fun | n=>n⟩
theorem Tryz.layC:Lays.n240 Tryz.prog Tryz.renC:={
 mixed:=by kernel_rfl
 f240:=Tryz.func40.trans (congrArg some (by kernel_rfl))
 f276:=Tryz.func71.trans (congrArg some (by kernel_rfl))
 t0:=Tryz.underlying0
 a0:=Tryz.isAgg0
 z0:=Tryz.sizeOf0
 v0:=Tryz.zeroValue0
 t4:=Tryz.underlying4
 a4:=Tryz.isAgg4
 z4:=Tryz.sizeOf4
 v4:=Tryz.zeroValue4
 t9:=Tryz.underlying9
 a9:=Tryz.isAgg9
 z9:=Tryz.sizeOf9
 v9:=Tryz.zeroValue9
 t20:=Tryz.underlying20
 a20:=Tryz.isAgg20
 z20:=Tryz.sizeOf20
 v20:=Tryz.zeroValue20
 t70:=Tryz.underlying54
 a70:=Tryz.isAgg54
 z70:=Tryz.sizeOf54
 v70:=Tryz.zeroValue54
 t72:=Tryz.underlying57
 a72:=Tryz.isAgg57
 z72:=Tryz.sizeOf57
 v72:=Tryz.zeroValue57
 t164:=Tryz.underlying80
 a164:=Tryz.isAgg80
 z164:=Tryz.sizeOf80
 v164:=Tryz.zeroValue80 }
theorem Tryz.layCX:Builder.X72 Tryz.prog Tryz.renC:={ sizeBuilder:=by kernel_rfl,liesBuilder:=by kernel_rfl }
theorem Tryz.bld_fresh(b:Nat)(w:World)(h0:w.cell? ⟨b,0,none⟩=some (.pointer none))(hsh:w.shape? b=some (57,2))(hfz:w.frozen? ⟨b,0,none⟩=false) :
  Calls Tryz.prog 40 #[.pointer (some ⟨b,0,none⟩)] w fun e w'=>e = .returned (.tuple #[])/\w'=w.setCell ⟨b,0,none⟩ (.pointer (some ⟨b,0,none⟩)):=
 Any.Builder_copyCheck_fresh Tryz.layC Tryz.layCX b w h0 hsh hfz
theorem Tryz.bld_used(b:Nat)(w:World)(h0:w.cell? ⟨b,0,none⟩=some (.pointer (some ⟨b,0,none⟩))) :
  Calls Tryz.prog 40 #[.pointer (some ⟨b,0,none⟩)] w fun e w'=>e = .returned (.tuple #[])/\w'=w:=
 Any.Builder_copyCheck_used Tryz.layC Tryz.layCX b w h0
variable{P:Program}(w:World)
theorem LW{e:TypeId}(hc:P.cellsOf e=1)(count o n:Nat)(hn:o+n<=count):liesAt P P.depth e count o e n=true:=by
 have hd:P.depth=(2*(P.types.size+Made.depth)+1)+1:=rfl;rw[hd];simp only[liesAt,Bool.or_eq_true];left;rw[hd];simp[rowAt,hc,hn,sameLayout,Nat.mod_one]
theorem zF(pt it ty e:TypeId)(hp:P.underlying pt=some (.pointer e))(hc:P.cellsOf e=1)(g o cells:Nat)(hsh:w.shape? g=some (e,cells))(l:List UInt8)(h0:l≠[])(hn:o+l.length<=cells)(h63:l.length<=9223372036854775807)
  (hcell:∀ j x,l[j]? = some x->w.cell? ((⟨g,o,none⟩:Addr).add j)=some (.int .u8 x.toNat)) :
  (Builtin.unsafeString_ #[pt,it] ty #[.pointer (some ⟨g,o,none⟩), .int .i64 l.length]).run P w = .ok (.string ⟨l.toArray⟩) (w.freeze ⟨g,o,none⟩ l.length):=by
 have hl:l.length≠0:=by simpa using h0
 have hlb:=Lib.run_loadBytes (P:=P) w l ⟨g,o,none⟩ .empty hcell;have hlies:=LW (P:=P) hc (cells / P.cellsOf e) o l.length (by rw[hc]; simpa using hn);have h63':¬(9223372036854775807:Int)<(l.length:Int):=by omega
 have hdef:Builtin.unsafeString_ #[pt,it] ty #[.pointer (some ⟨g,o,none⟩), .int .i64 l.length] =
   (do
    let n <-asInt (.int .i64 l.length)
    if n<0 then runtimePanic (.error "unsafe.String: len out of range")
    if n>IntKind.i64.max then unsupported (.unsafePointer "String: a length above the largest int")
    if n=0 then pure (.string .empty)
    else if <-variablesAt ⟨g,o,none⟩ (<-elemOf pt) n.toNat then do
     let s <-loadBytes ⟨g,o,none⟩ .empty n.toNat
     freeze ⟨g,o,none⟩ n.toNat
     pure (.string s)
    else unsupported (.unsafePointer "String: not so many bytes at ptr")):=rfl
 rw[hdef];have hmax:IntKind.i64.max=9223372036854775807:=rfl;have hneg:¬(l.length:Int)<0:=by omega
 simp[asInt,asIntOf,hmax,h63',hneg,hl,variablesAt,hsh,elemOf,run_underlying hp,hlies,hlb]
set_option maxHeartbeats 2000000 in
set_option maxRecDepth 100000 in
theorem Tryz.bld_at(b g o cap:Nat)(l:List UInt8)(w:World)(h0:l≠[])(hcap:l.length<=cap)(h63:l.length<=9223372036854775807)(hb:w.cell? ⟨b,1,none⟩=some (.slice (some ⟨g,o,none⟩) l.length cap))(cells:Nat)(hsh:w.shape? g=some (5,cells))(hn:o+l.length<=cells)
  (hcell:∀ j x,l[j]? = some x->w.cell? ((⟨g,o,none⟩:Addr).add j)=some (.int .u8 x.toNat)) :
  Calls Tryz.prog 19 #[.pointer (some ⟨b,0,none⟩)] w fun e w'=>e = .returned (.string ⟨l.toArray⟩)/\w'=w.drew.freeze ⟨g,o,none⟩ l.length:=by
 have L:Lays.n169 Tryz.prog Tryz.renS:=Tryz.layS;have X:=Tryz.layX;have hl0:l.length≠0:=by simpa using h0
 have c1:w.drew.cell? ⟨b,1,none⟩=some (.slice (some ⟨g,o,none⟩) l.length cap):=hb;have hSD:(Builtin.unsafeSliceData_ #[(Tryz.renS.t 37)] (Tryz.renS.t 127) #[.slice (some ⟨g,o,none⟩) l.length cap]).run Tryz.prog w.drew = .ok (.pointer (some ⟨g,o,none⟩)) w.drew:=
  Lib.run_unsafeSliceData_row _ _ _ _ _ _ (by omega)
 have hUS:(Builtin.unsafeString_ #[(Tryz.renS.t 127),(Tryz.renS.t 3)] (Tryz.renS.t 9) #[.pointer (some ⟨g,o,none⟩), .int .i64 l.length]).run Tryz.prog w.drew = .ok (.string ⟨l.toArray⟩) (w.drew.freeze ⟨g,o,none⟩ l.length):=
  zF w.drew _ _ _ (Tryz.renS.t 5) L.t127 X.cellsByte g o cells hsh l h0 hn h63 hcell
 have mixed:=L.mixed;have t72:=L.t72; have a72:=L.a72; have z72:=L.z72; have v72:=L.v72; have u72:=run_underlying L.t72;have t70:=L.t70; have a70:=L.a70; have z70:=L.z70; have v70:=L.v70; have u70:=run_underlying L.t70;have t37:=L.t37; have a37:=L.a37; have z37:=L.z37; have v37:=L.v37; have u37:=run_underlying L.t37;have t127:=L.t127; have a127:=L.a127; have z127:=L.z127; have v127:=L.v127; have u127:=run_underlying L.t127;have t3:=L.t3; have a3:=L.a3; have z3:=L.z3; have v3:=L.v3; have u3:=run_underlying L.t3;have t9:=L.t9; have a9:=L.a9; have z9:=L.z9; have v9:=L.v9; have u9:=run_underlying L.t9;have t5:=X.t5; have a5:=X.a5; have z5:=X.z5; have v5:=X.v5; have u5:=run_underlying X.t5;clear hcap hsh hn hcell;revert L;intro L
 go_enter L.f169,Body.n169_ntmps Tryz.renS
 go_wp2
 go_region_o
 all_goals (go_wp2; go_ret; exact⟨rfl,rfl⟩)
end
end Go.Proofs
end

noncomputable section
namespace Go.VS.Tryz
open Go.VS Go.RowKit
set_option maxRecDepth 1000000
def iT:Value:= .pointer (some ⟨0,0,none⟩)
theorem FD{Y:Env}{args':Array Value}(h:VRL Y [iT] args'.toList):∃ l,Y ((0:Nat):Int)=some l/\args'=#[.pointer (some ⟨l.blk,l.base+0,none⟩)]:=by
 obtain⟨l⟩:=args';unfold iT at h;simp only[VRL]at h;obtain⟨y,ys,e1,hy,rfl⟩:=h;simp only[VR]at hy;obtain⟨_,l0,hl,rfl⟩:=hy;have e1:l=[.pointer (some ⟨l0.blk,l0.base+0,none⟩)]:=e1;subst e1;exact⟨l0,hl,rfl⟩
theorem CP{K:Prot}{Y:Env}{w:World}{p v:Value}{rest:List Blk}{l:Loc}(hr:Rel P K Y (mkSt (.cells [p,v] 57 true::rest)) w)(hl:Y ((0:Nat):Int)=some l) :
  l.virt=false/\l.base=0/\¬K l.blk/\∃ y0 y1 f,w.heap[l.blk]? = some (.cells #[y0,y1] 57 f)/\VR Y p y0/\VR Y v y1/\(f.2<=f.1\/2<=f.1):=by
 obtain⟨l1,a1,a2,a3⟩:=hr.blk 0 (.cells [p,v] 57 true) (by rw[bz]; rfl) rfl;obtain rfl:l1=l:=by rw[a1]at hl; exact Option.some.inj hl
 rcases a3 with⟨q1,q2,q3⟩ | ⟨q0,cc,f,q1,q2,q3,q4,q5,q6,q7⟩
 ·cases q3
 obtain⟨q8,q9,q10⟩:=q5 rfl;have hsz:cc.size=2:=by rw[q10,<-q8]; rfl
 obtain⟨cc⟩:=cc;have hq:VRL Y [p,v] cc:=by
  rw[q9,List.drop_zero,List.take_of_length_le (by simpa using Nat.le_of_eq hsz)]at q6;exact q6
 simp only[VRL]at hq;obtain⟨y0,ys,rfl,h0,y1,ys1,rfl,h1,rfl⟩:=hq;exact⟨q0,q9,a2 q0,y0,y1,f,q1,h0,h1,by simpa using q7.1⟩
theorem RY{p v:Value}{rest:List Blk}(hp:p = .pointer none\/p=iT):CRX P 1 40 [iT] (.cells [p,v] 57 true::rest) (.tuple ⟨[]⟩) (.cells [iT,v] 57 true::rest):=by
 intro K Y w args' cs hid ha hr;obtain⟨l,hl,rfl⟩:=FD ha;obtain⟨hv,hb,hK,y0,y1,f,hh,h0,h1,hf⟩:=CP hr hl;rw[hb];have hc0:w.cell? ⟨l.blk,0,none⟩=some y0:=by unfold World.cell?; simp only[hh]; rfl
 have hsh:w.shape? l.blk=some (57,2):=by unfold World.shape?; simp only[hh]; rfl
 have hfz:w.frozen? ⟨l.blk,0,none⟩=false:=by
  unfold World.frozen?;obtain⟨lo,hi⟩:=f;simp only[hh];rw[Bool.and_eq_false_iff];rcases hf with h | h
  ·by_cases hq:lo<=0
   ·right; exact decide_eq_false (by simp only at h; omega)
   ·left; exact decide_eq_false hq
  ·left; exact decide_eq_false (by simp only at h; omega)
 rcases hp with rfl | rfl
 ·have h0:y0 = .pointer none:=h0;subst h0;obtain⟨e1,w',fr,⟨rfl,hw'⟩,hc,h1',l1,l2,l3,fn,l4,l5⟩:=Go.Proofs.Tryz.bld_fresh l.blk w hc0 hsh hfz cs;have hx:VR Y iT (.pointer (some ⟨l.blk,l.base+0,none⟩)):=by
   unfold iT;simp only[VR];exact⟨trivial,l,hl,rfl⟩
  obtain⟨w2,s1,s2,s3,s4⟩:=hr.setCells (a:=⟨0,0,none⟩) (vs:=[iT]) (st':={ (mkSt (.cells [.pointer none,v] 57 true::rest))with heap:=(mkSt (.cells [.pointer none,v] 57 true::rest)).heap.set 0 (.cells [iT,v] 57 true) }) (by unfold setCells; rw[if_neg (by decide)]; simp only[bz]; rfl) (VRL.cons hx VRL.nil) hl;have hrun:(storeCells ⟨l.blk,l.base+0,none⟩ [.pointer (some ⟨l.blk,l.base+0,none⟩)]).run P w = .ok () (w.setCell ⟨l.blk,0,none⟩ (.pointer (some ⟨l.blk,0,none⟩))):=by
   rw[hb];simp only[storeCells,Sem.run_bind];rw[show((⟨l.blk,0+0,none⟩:Addr).add 0)=⟨l.blk,0,none⟩ from rfl,run_store P w ⟨l.blk,0,none⟩ _ _ (by rfl)];simp[hc0,hfz,Result.andThen]
  rw[hrun]at s1;have hw2:w.setCell ⟨l.blk,0,none⟩ (.pointer (some ⟨l.blk,0,none⟩))=w2:=by
   injection s1
  have hfin:Rel P K Y (mkSt (.cells [iT,v] 57 true::rest)) w2:=by
   refine tV (st:={ (mkSt (.cells [.pointer none,v] 57 true::rest))with heap:=(mkSt (.cells [.pointer none,v] 57 true::rest)).heap.set 0 (.cells [iT,v] 57 true) }) (fun j=>?_) rfl s2;show(mkSt (.cells [iT,v] 57 true::rest)).heap.get j=((mkSt (.cells [.pointer none,v] 57 true::rest)).heap.set 0 (.cells [iT,v] 57 true)).get j;rw[bz,Trie.get_set,bz];cases j<;>rfl
  rw[hw2]at hw';subst hw';exact⟨⟨Y,fr,w',_,hc,(Env.le.refl Y).leN _,hfin,s3,⟨#[],rfl,rfl⟩,l1,l2,l3,h1',fn,by rw[<-h1']; exact l4,l5⟩,by simp⟩
 ·have h0:y0 = .pointer (some ⟨l.blk,0,none⟩):=by
   unfold iT at h0;simp only[VR]at h0;obtain⟨_,l',hl',rfl⟩:=h0;obtain rfl:l'=l:=by rw[hl]at hl'; exact(Option.some.inj hl').symm
   rw[hb]
  subst h0;obtain⟨e1,w',fr,⟨rfl,rfl⟩,hc,h1',l1,l2,l3,fn,l4,l5⟩:=Go.Proofs.Tryz.bld_used l.blk w hc0 cs;exact⟨⟨Y,fr,w',_,hc,(Env.le.refl Y).leN _,hr,Bel.refl _ _,⟨#[],rfl,rfl⟩,l1,l2,l3,h1',fn,by rw[<-h1']; exact l4,l5⟩,by simp⟩
theorem O1:esz P 5=1:=by kernel_rfl
theorem CB:∀ l:List UInt8,bf (bc l)=true
 |[]=>rfl
 |x::l=>by
  have:=CB l;unfold bc at this ⊢;simp only[List.map_cons,bf,flat,this,Bool.and_self]
theorem IC{w:World}{g o n:Nat}:(w.drew.freeze ⟨g,o,none⟩ n).os=w.os/\(w.drew.freeze ⟨g,o,none⟩ n).tape=w.tape/\(w.drew.freeze ⟨g,o,none⟩ n).output=w.output/\(w.drew.freeze ⟨g,o,none⟩ n).heap.size=w.heap.size/\∀ k,k≠g->(w.drew.freeze ⟨g,o,none⟩ n).heap[k]? = w.heap[k]?:=by
 unfold World.freeze;split
 ·exact⟨rfl,rfl,rfl,rfl,fun _ _=>rfl⟩
 ·refine⟨rfl,rfl,rfl,by simp only[Array.size_modify]; rfl,fun k hk=>?_⟩;simp only[Array.getElem?_modify];rw[if_neg (fun e=>hk e.symm)]
  rfl
theorem QB{p:Value}{l:List UInt8}(h0:l≠[])(h63:l.length<=9223372036854775807):CRX P 1 19 [iT] [.cells [p, .slice (some ⟨1,0,none⟩) l.length unk] 57 true, .cells (bc l) 5 false] (.string ⟨l.toArray⟩) [.cells [p, .slice (some ⟨1,0,none⟩) l.length unk] 57 true, .dead]:=by
 intro K Y w args' cs hid ha hr;obtain⟨l0,hl,rfl⟩:=FD ha;obtain⟨hv,hb,hK,y0,y1,f,hh,hy0,hy1,hf⟩:=CP hr hl;rw[hb];have hl0:l.length≠0:=by simpa using h0
 simp only[VR]at hy1;obtain⟨_,l1,hl1,hs⟩:=hy1;obtain⟨l1',a1,a2,a3⟩:=hr.blk 1 (.cells (bc l) 5 false) (by rw[bz]; rfl) rfl;obtain rfl:l1'=l1:=by
  have hl1:Y ((1:Nat):Int)=some l1:=hl1;rw[a1]at hl1; exact Option.some.inj hl1
 rcases a3 with⟨q1,q2,q3⟩ | ⟨q0,cc,f1,q1,q2,q3,q4,q5,q6,q7⟩
 ·cases l with
  |nil=>exact absurd rfl h0
  |cons _ _=>cases q2
 have hlen:(bc l).length=l.length:=by unfold bc; rw[List.length_map]
 rw[hlen]at q4 q6;have q6:=nH (CB l) q6;unfold aI at hs;rw[if_neg (by rw[q0]; decide),if_neg (by decide),if_pos rfl]at hs;obtain⟨rfl,_⟩:=hs;rw[q2,O1,Nat.div_one,Nat.sub_zero]at hh;have hc1:w.cell? ⟨l0.blk,1,none⟩=some (.slice (some ⟨l1'.blk,l1'.base+0,none⟩) l.length l1'.total):=by unfold World.cell?; simp only[hh]; rfl
 have hcell:∀ j x,l[j]? = some x->w.cell? ((⟨l1'.blk,l1'.base+0,none⟩:Addr).add j)=some (.int .u8 x.toNat):=fun j x hj=>by
  have hlt:j<l.length:=(List.getElem?_eq_some_iff.1 hj).1;have e:((cc.toList.drop l1'.base).take l.length)[j]? = some (.int .u8 x.toNat):=by
   rw[q6]; unfold bc; rw[List.getElem?_map,hj]; rfl
  rw[List.getElem?_take_of_lt hlt,List.getElem?_drop]at e;have e2:(⟨l1'.blk,l1'.base+0,none⟩:Addr).add j=⟨l1'.blk,l1'.base+j,none⟩:=by
   unfold Addr.add;by_cases hj0:j=0
   ·subst hj0; simp
   ·simp[hj0]
  rw[e2];unfold World.cell?;simp only[q1];simpa using e
 obtain⟨e1,w',fr,⟨rfl,rfl⟩,hc,h1',k1,k2,k3,fn,k4,k5⟩:=Go.Proofs.Tryz.bld_at l0.blk l1'.blk (l1'.base+0) l1'.total l w h0 q4 h63 hc1 cc.size (by unfold World.shape?; simp only[q1]) (by omega) hcell cs;obtain⟨z1,z2,z3,z4,z5⟩:=IC (w:=w) (g:=l1'.blk) (o:=l1'.base+0) (n:=l.length);generalize w.drew.freeze ⟨l1'.blk,l1'.base+0,none⟩ l.length=W at *;have hupd:=hr.update (i:=1) (b':= .dead) (w':=W) (by rw[bz]; rfl) rfl rfl rfl a1 z4 (fun k hk=>z5 k (hk.resolve_left (by simp[q0]))) trivial;have hfin:Rel P K Y (mkSt [.cells [p, .slice (some ⟨1,0,none⟩) l.length unk] 57 true, .dead]) W:=by
  refine tV (st:={ (mkSt [.cells [p, .slice (some ⟨1,0,none⟩) l.length unk] 57 true, .cells (bc l) 5 false])with heap:=(mkSt [.cells [p, .slice (some ⟨1,0,none⟩) l.length unk] 57 true, .cells (bc l) 5 false]).heap.set 1 .dead }) (fun j=>?_) rfl hupd;show(mkSt [.cells [p, .slice (some ⟨1,0,none⟩) l.length unk] 57 true, .dead]).heap.get j=((mkSt [.cells [p, .slice (some ⟨1,0,none⟩) l.length unk] 57 true, .cells (bc l) 5 false]).heap.set 1 .dead).get j;rw[bz,Trie.get_set,bz]
  match j with
  |0=>rfl
  |1=>rfl
  |_+2=>rfl
 have hbel:Bel K w W:=⟨z1,z2,z3,by rw[z4]; exact Nat.le_refl _,fun k hk=>z5 k (fun e=>a2 q0 (e▸hk))⟩
 exact⟨⟨Y,fr,W,_,hc,(Env.le.refl Y).leN _,hfin,hbel,rfl,k1,k2,k3,h1',fn,by rw[<-h1']; exact k4,k5⟩,by simp⟩
def su:List (ByteArray×Value)->ByteArray->Option Value
 |[],_=>none
 |p::l,s=>match eqS p.1 s with
  |true=>some p.2
  |false=>su l s
theorem CZ:∀ {T:List (ByteArray×Value)} {s:ByteArray} {v:Value},su T s=some v->(s,v)∈T
 |[],_,_,h=>by cases h
 |p::l,s,v,h=>by
  simp only[su]at h;cases hq:eqS p.1 s with
  |true=>
   rw[hq]at h;obtain rfl:=Option.some.inj h;have hs:s=p.1:=yX (jD hq);subst hs;exact List.mem_cons_self ..
  |false=>
   rw[hq]at h;exact List.mem_cons_of_mem _ (CZ h)
def wP(T:List (ByteArray×Value)):dJ:=fun args bs=>match args,bs with
 |[.string s],[]=>(su T s).map fun v=> .leaf (v,[])
 |_,_=>none
theorem MF{g:FuncId}{T:List (ByteArray×Value)}(h:∀ p∈T,CRX P 0 g [.string p.1] [] p.2 []):CallOkX P 0 g (wP T):=⟨fun args bs t hR v bs' hev=>by
 unfold wP at hR;split at hR
 ·rename_i s;cases hl:su T s with
  |none=>rw[hl]at hR; cases hR
  |some v0=>
   rw[hl]at hR;obtain rfl:=Option.some.inj hR;simp only[DT.eval,Option.some.injEq,Prod.mk.injEq]at hev;obtain⟨rfl,rfl⟩:=hev;exact h _ (CZ hl)
 ·cases hR⟩
theorem CO(s:ByteArray)(h:s.size<=4194302):CRX P 0 14 [.string s] [] (.tuple ⟨[rZ (ig s).2,paE (ig s).1]⟩) []:=
 CRX.of (dR (TT s)) aB (dW (qH mP (AO yl Nq (s:=s) h)) LY) (MQ s)
def vK(a:ActM):Value:= .tuple ⟨[rZ [a], .nilIface]⟩
theorem fV{s:ByteArray}{a:ActM}(h:s.size<=4194302)(e:ig s=(none,[a])):CRX P 0 14 [.string s] [] (vK a) []:=by
 have q:=CO s h;rw[e]at q;exact q
def lnP:List (ByteArray×Value):=[
 (⟨#[99,111,109,109,105,116,32,48,32,112,117,116,32,97,32,49]⟩,vK ⟨1,0,0,0,⟨#[]⟩,[⟨true,⟨#[97]⟩,⟨#[49]⟩⟩]⟩),
 (⟨#[99,111,109,109,105,116,32,48,32,112,117,116,32,98,32,50]⟩,vK ⟨1,0,0,0,⟨#[]⟩,[⟨true,⟨#[98]⟩,⟨#[50]⟩⟩]⟩),
 (⟨#[99,111,109,109,105,116,32,48,32,112,117,116,32,99,32,51]⟩,vK ⟨1,0,0,0,⟨#[]⟩,[⟨true,⟨#[99]⟩,⟨#[51]⟩⟩]⟩),
 (⟨#[114,101,97,100,32,48,32,97]⟩,vK ⟨2,0,0,0,⟨#[97]⟩,[]⟩),
 (⟨#[114,101,97,100,32,48,32,120]⟩,vK ⟨2,0,0,0,⟨#[120]⟩,[]⟩)]
theorem TS:ig ⟨#[99,111,109,109,105,116,32,48,32,112,117,116,32,97,32,49]⟩=(none,[⟨1,0,0,0,⟨#[]⟩,[⟨true,⟨#[97]⟩,⟨#[49]⟩⟩]⟩]):=by kernel_rfl
theorem RF:ig ⟨#[99,111,109,109,105,116,32,48,32,112,117,116,32,98,32,50]⟩=(none,[⟨1,0,0,0,⟨#[]⟩,[⟨true,⟨#[98]⟩,⟨#[50]⟩⟩]⟩]):=by kernel_rfl
theorem TG:ig ⟨#[99,111,109,109,105,116,32,48,32,112,117,116,32,99,32,51]⟩=(none,[⟨1,0,0,0,⟨#[]⟩,[⟨true,⟨#[99]⟩,⟨#[51]⟩⟩]⟩]):=by kernel_rfl
theorem SS:ig ⟨#[114,101,97,100,32,48,32,97]⟩=(none,[⟨2,0,0,0,⟨#[97]⟩,[]⟩]):=by kernel_rfl
theorem TP:ig ⟨#[114,101,97,100,32,48,32,120]⟩=(none,[⟨2,0,0,0,⟨#[120]⟩,[]⟩]):=by kernel_rfl
theorem TR:CallOkX P 0 14 (wP lnP):=MF fun p hp=>by
 unfold lnP at hp;simp only[List.mem_cons,List.not_mem_nil,or_false]at hp;rcases hp with rfl | rfl | rfl | rfl | rfl
 ·exact fV (by decide) TS
 ·exact fV (by decide) RF
 ·exact fV (by decide) TG
 ·exact fV (by decide) SS
 ·exact fV (by decide) TP
theorem J5(x:Int):jg P E jR 50 28 [.int .i32 x] =
 (some ((.bool (eqI x 32)),(mkSt []))):=by kernel_rfl
theorem MH(x:Int):CR P 28 [.int .i32 x] (.bool (eqI x 32)) []:=CR.of (dR jR) aB (iR P) (n:=50) (J5 x)
def Ph:dJ:=fun args bs=>match args,bs with
 |[.string s, .func (.func g) ⟨[]⟩ ⟨[]⟩],[]=>match Nat.beq g 28,Nat.ble s.size 4194304 with
  |true,true=>some (.leaf (fzS (jm s),[]))
  |_,_=>none
 |_,_=>none
theorem SE:CallOkX P 0 27 Ph:=⟨fun args bs t hR v bs' hev=>by
 unfold Ph at hR;split at hR
 ·rename_i s g;split at hR
  ·rename_i hg ho;obtain rfl:=Option.some.inj hR;simp only[DT.eval,Option.some.injEq,Prod.mk.injEq]at hev;obtain⟨rfl,rfl⟩:=hev;obtain rfl:=Nat.eq_of_beq_eq_true hg;have ho:=Nat.le_of_ble_eq_true ho;refine CRX.ofRow (t:=9) (by decide) (BN _) fun w args' hG ⟨Y,ha⟩=>?_;have ea:args'=#[.string s, .func (.func 28) #[] #[]]:=by
    obtain⟨l⟩:=args';simp only[VRL]at ha;obtain⟨y,ys,e,hy,z,zs,rfl,hz,rfl⟩:=ha;have hy:y = .string s:=hy;subst hy;obtain⟨f',a',b',rfl,hf,h1,h2⟩:=hz;have hf:f' = .func 28:=hf;subst hf;simp only[VRA,VRL]at h1 h2;have h1:a'=#[]:=by apply Array.ext'; exact h1
    have h2:b'=#[]:=by apply Array.ext'; exact h2
    subst h1 h2;rw[e]
   subst ea;have hw:=Go.Proofs.Tryz.strings_FieldsFunc_grows 28 #[] (Go.Proofs.enters_of Go.Proofs.Tryz.func28 (by kernel_rfl) rfl) (fun x=>eqI x 32) s w (by omega) (fun W x hx hb=>by
    have:=(MH (x:Int)).calls (w:=W) (args':=#[.int .i32 x]) rfl (by
     intro p hp;obtain⟨o,h1,h2⟩:=hG p hp;refine⟨o,?_,h2⟩
     rw[hb.block p.1 (Array.getElem?_eq_some_iff.1 h1).1]; exact h1) (VRL.cons rfl VRL.nil)
    exact this)
   refine hw.mono fun e w' ⟨A,h1,h2,h3,h4⟩=>⟨A,?_,h2,?_,h4⟩
   ·rw[h1]; rfl
   ·exact h3
  ·cases hR
 ·cases hR⟩
def RQ:Pol:=fun t=>match Nat.beq t 57 with
 |true=>some [.val, .own]
 |false=>none
def OY:dJ:=fun args bs=>match args,bs with
 |[.pointer (some ⟨0,0,none⟩)], .cells [p,v] t true::rest=>match Nat.beq t 57,or (bK p iT) (bK p (.pointer none))with
  |true,true=>some (.leaf (.tuple ⟨[]⟩, .cells [iT,v] t true::rest))
  |_,_=>none
 |_,_=>none
theorem TB:CallOkX P 1 40 OY:=⟨fun args bs t hR v bs' hev=>by
 unfold OY at hR;split at hR
 ·rename_i p v0 t0 rest;split at hR
  ·rename_i ht hp;obtain rfl:=Option.some.inj hR;simp only[DT.eval,Option.some.injEq,Prod.mk.injEq]at hev;obtain⟨rfl,rfl⟩:=hev;obtain rfl:=Nat.eq_of_beq_eq_true ht;refine RY ?_;rcases Bool.or_eq_true_iff.1 hp with hp | hp
   ·exact Or.inr (jO _ _ hp)
   ·exact Or.inl (jO _ _ hp)
  ·cases hR
 ·cases hR⟩
def O0:dJ:=fun args bs=>match args,bs with
 |[.pointer (some ⟨0,0,none⟩)],[.cells [p, .slice (some ⟨1,0,none⟩) n c] t true, .cells (x::d) u false]=>match bytesOf (x::d)with
  |some l=>match and (kY (x::d) (bc l)) (and (Nat.beq n l.length) (and (Nat.beq c unk) (and (Nat.beq t 57) (and (Nat.beq u 5) (Nat.ble l.length 9223372036854775807)))))with
   |true=>some (.leaf (.string ⟨⟨l⟩⟩,[.cells [p, .slice (some ⟨1,0,none⟩) n c] t true, .dead]))
   |false=>none
  |none=>none
 |_,_=>none
theorem TQ:CallOkX P 1 19 O0:=⟨fun args bs t hR v bs' hev=>by
 unfold O0 at hR;split at hR
 ·rename_i p n c t0 x d u;split at hR
  ·rename_i l hl;split at hR
   ·rename_i hc;obtain rfl:=Option.some.inj hR;simp only[DT.eval,Option.some.injEq,Prod.mk.injEq]at hev;obtain⟨rfl,rfl⟩:=hev;have hc:(kY (x::d) (bc l)&&(Nat.beq n l.length&&(Nat.beq c unk&&(Nat.beq t0 57&&(Nat.beq u 5&&Nat.ble l.length 9223372036854775807)))))=true:=hc;simp only[Bool.and_eq_true,Nat.beq_eq]at hc;obtain⟨h1,rfl,rfl,rfl,rfl,h6⟩:=hc;rw[ng _ _ h1];refine QB (p:=p) (l:=l) ?_ (Nat.le_of_ble_eq_true h6);rintro rfl;cases ng _ _ h1
   ·cases hR
  ·cases hR
 ·cases hR⟩
def Tf:Ct:=ed P iI 0 14 (wP lnP) (ed P iI 0 27 Ph (ed P RQ 1 40 OY (ed P RQ 1 19 O0
 (b_ P 11 (DC lnA lnB lnF) (b_ P 53 (DI szS BC dM) (b_ P 54 (DD inR Fh) jR))))))
theorem Qs:CtOk P Tf:=dW (dW (dW (dW (bI (bI (bI (iR P) L6) Me) Ny) TQ) TB) SE) TR
end Go.VS.Tryz
end

noncomputable section
namespace Go.Proofs.YtfegdfjcichccaaGreatDoor
open Go.RowKit Go.Extern.Stop Go.Stop Go.Extern
theorem Tryz.isTypeOf(v:Value)(w:World):(Extern.ReflectliteType.typeOf #[.iface 49 v]).run Tryz.prog w = .ok (.iface 117 (.agg #[.pointer (some ⟨9,49,none⟩)])) w:=by kernel_rfl
theorem Tryz.isComparable(w:World):((Extern.ReflectliteType.method fun t=>do Extern.Rtype.noPackHeld "Comparable" t; (fun a=>Value.bool a.comparable) <$> typeInfo t) #[.agg #[.pointer (some ⟨9,49,none⟩)]]).run Tryz.prog w = .ok (.bool true) w:=by kernel_rfl
theorem Tryz.isMethodComparable(v:Value)(w:World):(Go.method 640 117 v "Comparable").run Tryz.prog w = .ok (426,v) w:=by kernel_rfl
theorem Tryz.isComp:(Tryz.prog.info? 49).map (·.comparable)=some true:=by kernel_rfl
set_option maxHeartbeats 4000000 in
theorem Tryz.eqErrD(d:Nat)(n m:Int)(w:World):(Op.equalIn (d+2) 42 (.iface 49 (.int .i64 n)) (.iface 49 (.int .i64 m))).run Tryz.prog w = .ok (n == m) w:=by
 obtain⟨i,hi,hcmp⟩:=Option.map_eq_some_iff.1 Tryz.isComp;simp[Op.equalIn,run_underlying Tryz.underlying42,run_underlying Tryz.underlying49,typeInfo,hi,hcmp]
theorem Tryz.eqErr(n m:Int)(w:World):(binOp .eql 42 (.iface 49 (.int .i64 n)) (.iface 49 (.int .i64 m))).run Tryz.prog w = .ok (.bool (n == m)) w:=by
 simp only[binOp];simp[Op.equal,Op.maxDepth,Tryz.eqErrD 9998]
set_option maxHeartbeats 4000000 in
set_option maxRecDepth 100000 in
theorem is_same(n:Int)(w:World) :
  Calls Tryz.prog 87 #[.iface 49 (.int .i64 n), .iface 49 (.int .i64 n)] w fun e w'=>e = .returned (.bool true)/\w'=w:=by
 obtain⟨i,hi,hcmp⟩:=Option.map_eq_some_iff.1 Tryz.isComp;have h8:=@run_callFunc_extern Tryz.prog 59 _ Extern.ReflectliteType.typeOf Tryz.func59 (by kernel_rfl) (by kernel_rfl) (by kernel_rfl) (by kernel_rfl);have h32:=@run_callFunc_extern Tryz.prog 426 _ (Extern.ReflectliteType.method fun t=>do Extern.Rtype.noPackHeld "Comparable" t; pure (.bool (<-typeInfo t).comparable)) Tryz.func426 (by kernel_rfl) (by kernel_rfl) (by kernel_rfl) (by kernel_rfl);have tT:=Tryz.isTypeOf;have cT:=Tryz.isComparable;have mR:=Tryz.isMethodComparable;have hq:=Tryz.eqErr n n w;rw[beq_self_eq_true]at hq
 go_enter Tryz.func87,Tryz.ntmps87
 go_wp2
 refine wp_loop_rounds 1 ?_;rw[rounds_succ]
 go_wp2
 go_ret
 exact⟨rfl,rfl⟩
theorem Tryz.valueOf27(t:Addr)(w:World):(ReflectliteValue.unpack (.iface 47 (.pointer (some t)))).run Tryz.prog w
  = .ok (.agg #[.pointer (some ⟨9,47,none⟩), .pointer (some ⟨w.heap.size,0,none⟩), .int .u64 150]) (w.alloc (.cells #[.pointer (some t)] 47)):=by kernel_rfl
theorem Tryz.type27(a:Addr)(w:World):(ReflectliteValue.methodAny (ReflectliteValue.valueError "reflectlite.Value.Type" 0) (fun t _ _ _=>ReflectliteType.toType t) #[.agg #[.pointer (some ⟨9,47,none⟩), .pointer (some a), .int .u64 150]]).run Tryz.prog w
  = .ok (.iface 117 (.agg #[.pointer (some ⟨9,47,none⟩)])) w:=by kernel_rfl
theorem Tryz.methodKind(h:Value)(w:World):(Go.method 640 117 (.agg #[h]) "Kind").run Tryz.prog w = .ok (414,h) w:=by kernel_rfl
theorem Tryz.kind27(w:World):((ReflectliteType.abiMethod fun t=>(fun a:Nat=>Value.int IntKind.u8 (a:Int)) <$> Rtype.kind t) #[.pointer (some ⟨9,47,none⟩)]).run Tryz.prog w = .ok (.int .u8 22) w:=by kernel_rfl
theorem Tryz.kind25(w:World):((ReflectliteType.abiMethod fun t=>(fun a:Nat=>Value.int IntKind.u8 (a:Int)) <$> Rtype.kind t) #[.pointer (some ⟨9,45,none⟩)]).run Tryz.prog w = .ok (.int .u8 22) w:=by kernel_rfl
theorem rlm(z:Sem Value)(f:TypeId->Addr->Nat->Nat->Sem Value)(v:Value) :
  ReflectliteValue.method z f #[v]=(do match <-ReflectliteValue.parts v with | none=>z | some (t,a,fl)=>f t a fl (fl % 32)):=rfl
theorem Tryz.parts27(a:Addr)(w:World):(ReflectliteValue.parts (.agg #[.pointer (some ⟨9,47,none⟩), .pointer (some a), .int .u64 150])).run Tryz.prog w = .ok (some (47,a,150)) w:=by kernel_rfl
theorem Tryz.isNil27(a p:Addr)(W:World)(ha:W.cell? a=some (.pointer (some p))) :
  (ReflectliteValue.method (ReflectliteValue.valueError "reflectlite.Value.IsNil" 0) ReflectliteValue.isNil #[.agg #[.pointer (some ⟨9,47,none⟩), .pointer (some a), .int .u64 150]]).run Tryz.prog W = .ok (.bool false) W:=by
 rw[rlm];simp only[Sem.run_bind,Tryz.parts27,Result.andThen];simp[ReflectliteValue.isNil,loadVar,isAgg,underlying,Tryz.underlying47,ha,Result.andThen]
theorem Tryz.methodElem(h:Value)(w:World):(Go.method 640 117 (.agg #[h]) "Elem").run Tryz.prog w = .ok (427, .agg #[h]) w:=by kernel_rfl
theorem Tryz.methodImplements(h:Value)(w:World):(Go.method 640 117 (.agg #[h]) "Implements").run Tryz.prog w = .ok (428, .agg #[h]) w:=by kernel_rfl
theorem Tryz.methodAssignableTo(h:Value)(w:World):(Go.method 640 117 (.agg #[h]) "AssignableTo").run Tryz.prog w = .ok (425, .agg #[h]) w:=by kernel_rfl
theorem Tryz.elem27(w:World):(ReflectliteType.method ReflectliteType.elem #[.agg #[.pointer (some ⟨9,47,none⟩)]]).run Tryz.prog w = .ok (.iface 117 (.agg #[.pointer (some ⟨9,45,none⟩)])) w:=by kernel_rfl
theorem Tryz.implements25(w:World):(ReflectliteType.relation "Implements" ReflectliteType.implements_ #[.agg #[.pointer (some ⟨9,45,none⟩)], .iface 117 (.agg #[.pointer (some ⟨9,42,none⟩)])]).run Tryz.prog w = .ok (.bool true) w:=by kernel_rfl
theorem Tryz.typeOf25(v:Value)(w:World):(ReflectliteType.typeOf #[.iface 45 v]).run Tryz.prog w = .ok (.iface 117 (.agg #[.pointer (some ⟨9,45,none⟩)])) w:=by kernel_rfl
theorem Tryz.assignable25(w:World):(ReflectliteType.relation "AssignableTo" ReflectliteType.assignableTo #[.agg #[.pointer (some ⟨9,45,none⟩)], .iface 117 (.agg #[.pointer (some ⟨9,45,none⟩)])]).run Tryz.prog w = .ok (.bool true) w:=by kernel_rfl
theorem Tryz.valueOf25(e:Addr)(w:World):(ReflectliteValue.unpack (.iface 45 (.pointer (some e)))).run Tryz.prog w
  = .ok (.agg #[.pointer (some ⟨9,45,none⟩), .pointer (some ⟨w.heap.size,0,none⟩), .int .u64 150]) (w.alloc (.cells #[.pointer (some e)] 45)):=by kernel_rfl
theorem Tryz.elemOf27(w:World):(Rtype.elem? 47).run Tryz.prog w = .ok (some 45) w:=by kernel_rfl
theorem Tryz.mk25(p:Addr)(w:World):(ReflectliteValue.mk 45 p ReflectliteValue.flagAddr).run Tryz.prog w = .ok (.agg #[.pointer (some ⟨9,45,none⟩), .pointer (some p), .int .u64 406]) w:=by kernel_rfl
theorem Tryz.elemV27(a p:Addr)(W:World)(ha:W.cell? a=some (.pointer (some p))) :
  (ReflectliteValue.method (ReflectliteValue.valueError "reflectlite.Value.Elem" 0) ReflectliteValue.elem #[.agg #[.pointer (some ⟨9,47,none⟩), .pointer (some a), .int .u64 150]]).run Tryz.prog W
   = .ok (.agg #[.pointer (some ⟨9,45,none⟩), .pointer (some p), .int .u64 406]) W:=by
 rw[rlm];simp only[Sem.run_bind,Tryz.parts27,Result.andThen];simp[ReflectliteValue.elem,loadVar,isAgg,underlying,Tryz.underlying47,ha,Result.andThen,Tryz.elemOf27,Tryz.mk25]
theorem rls(v x:Value):ReflectliteValue.set #[v,x]=(do
  let(some (dst,a,fl),some (src,b,_)):=(<-ReflectliteValue.parts v,<-ReflectliteValue.parts x)
   |unsupported (.noEntry "extern/(internal/reflectlite.Value).Set.zeroValue")
  if fl / ReflectliteValue.flagAddr % 2 == 0 then unsupported (.noEntry "extern/(internal/reflectlite.Value).Set.unaddressable")
  let val <-loadVar src b
  if <-Rtype.directlyAssignable dst src then storeVar dst a val
  else if <-Rtype.implements dst src then
   if(<-Rtype.kind src) == 20 then
    match val with
    | .nilIface=>unsupported (.noEntry "extern/reflectlite: a nil value of one interface type handed on as a value of another")
    |_=>storeVar dst a val
   else storeVar dst a (.iface src val)
  else panicString ("reflectlite.Set: value of type " ++(<-Rtype.spelt src)++ " is not assignable to type " ++(<-Rtype.spelt dst))
  pure (.tuple #[])):=rfl
theorem Tryz.parts25a(a:Addr)(w:World):(ReflectliteValue.parts (.agg #[.pointer (some ⟨9,45,none⟩), .pointer (some a), .int .u64 406])).run Tryz.prog w = .ok (some (45,a,406)) w:=by kernel_rfl
theorem Tryz.parts25(a:Addr)(w:World):(ReflectliteValue.parts (.agg #[.pointer (some ⟨9,45,none⟩), .pointer (some a), .int .u64 150])).run Tryz.prog w = .ok (some (45,a,150)) w:=by kernel_rfl
theorem Tryz.direct25(w:World):(Rtype.directlyAssignable 45 45).run Tryz.prog w = .ok true w:=by kernel_rfl
theorem Tryz.set25(ta b e:Addr)(old:Value)(W:World)(hb:W.cell? b=some (.pointer (some e)))(ht:W.cell? ta=some old)(hf:W.frozen? ta=false) :
  (ReflectliteValue.set #[.agg #[.pointer (some ⟨9,45,none⟩), .pointer (some ta), .int .u64 406], .agg #[.pointer (some ⟨9,45,none⟩), .pointer (some b), .int .u64 150]]).run Tryz.prog W
   = .ok (.tuple #[]) (W.setCell ta (.pointer (some e))):=by
 rw[rls];simp only[Sem.run_bind,Tryz.parts25a,Tryz.parts25,Result.andThen];simp[ReflectliteValue.flagAddr,loadVar,isAgg,underlying,Tryz.underlying45,hb,Result.andThen,Tryz.direct25,storeVar,Value.cells,storeCells,Addr.add];rw[run_store Tryz.prog W ta _ _ (by rfl)];simp[ht,hf]
set_option maxHeartbeats 4000000 in
theorem as_hit(e t:Addr)(old:Value)(w:World)(hg:w.cell? ⟨0,0,none⟩=some (.iface 117 (.agg #[.pointer (some ⟨9,42,none⟩)])))(ht0:w.cell? t=some old)(hf0:w.frozen? t=false) :
  Calls Tryz.prog 15 #[.iface 45 (.pointer (some e)), .iface 47 (.pointer (some t))] w fun ev w'=>ev = .returned (.bool true)/\w'=((((w.alloc (.cells #[.pointer (some t)] 47)).alloc (.cells #[.pointer (some ⟨9,47,none⟩), .pointer (some ⟨w.heap.size,0,none⟩), .int .u64 150] 83)).alloc (.cells #[.pointer (some ⟨9,47,none⟩), .pointer (some ⟨w.heap.size,0,none⟩), .int .u64 150] 83)).alloc (.cells #[.pointer (some e)] 45)).setCell t (.pointer (some e)):=by
 have h6:=@run_callFunc_extern Tryz.prog 33 _ (fun args=>ReflectliteValue.unpack (args.getD 0 (.tuple #[]))) Tryz.func33 (by kernel_rfl) (by kernel_rfl) (by kernel_rfl) (by kernel_rfl);have h7:=@run_callFunc_extern Tryz.prog 34 _ (ReflectliteValue.methodAny (ReflectliteValue.valueError "reflectlite.Value.Type" 0) (fun t _ _ _=>ReflectliteType.toType t)) Tryz.func34 (by kernel_rfl) (by kernel_rfl) (by kernel_rfl) (by kernel_rfl);have h8:=@run_callFunc_extern Tryz.prog 35 _ (ReflectliteValue.method (ReflectliteValue.valueError "reflectlite.Value.IsNil" 0) ReflectliteValue.isNil) Tryz.func35 (by kernel_rfl) (by kernel_rfl) (by kernel_rfl) (by kernel_rfl);have h27:=@run_callFunc_extern Tryz.prog 414 _ (ReflectliteType.abiMethod fun t=>do pure (.int .u8 (<-Rtype.kind t))) Tryz.func414 (by kernel_rfl) (by kernel_rfl) (by kernel_rfl) (by kernel_rfl);have h37:=@run_callFunc_extern Tryz.prog 427 _ (ReflectliteType.method ReflectliteType.elem) Tryz.func427 (by kernel_rfl) (by kernel_rfl) (by kernel_rfl) (by kernel_rfl);have h38:=@run_callFunc_extern Tryz.prog 428 _ (ReflectliteType.relation "Implements" ReflectliteType.implements_) Tryz.func428 (by kernel_rfl) (by kernel_rfl) (by kernel_rfl) (by kernel_rfl);have h10:=@run_callFunc_extern Tryz.prog 59 _ ReflectliteType.typeOf Tryz.func59 (by kernel_rfl) (by kernel_rfl) (by kernel_rfl) (by kernel_rfl);have h35:=@run_callFunc_extern Tryz.prog 425 _ (ReflectliteType.relation "AssignableTo" ReflectliteType.assignableTo) Tryz.func425 (by kernel_rfl) (by kernel_rfl) (by kernel_rfl) (by kernel_rfl);have h11:=@run_callFunc_extern Tryz.prog 60 _ (ReflectliteValue.method (ReflectliteValue.valueError "reflectlite.Value.Elem" 0) ReflectliteValue.elem) Tryz.func60 (by kernel_rfl) (by kernel_rfl) (by kernel_rfl) (by kernel_rfl);have h12:=@run_callFunc_extern Tryz.prog 61 _ ReflectliteValue.set Tryz.func61 (by kernel_rfl) (by kernel_rfl) (by kernel_rfl) (by kernel_rfl);have tO:=Tryz.typeOf25;have mA:=Tryz.methodAssignableTo;have a25:=Tryz.assignable25;have v25:=Tryz.valueOf25;have f6:=Tryz.valueOf27;have f7:=Tryz.type27;have mK:=Tryz.methodKind;have mE:=Tryz.methodElem;have mI:=Tryz.methodImplements;have k27:=Tryz.kind27;have k25:=Tryz.kind25;have e27:=Tryz.elem27;have i25:=Tryz.implements25;have n8:=Tryz.isNil27 ⟨w.heap.size,0,none⟩ t ((w.alloc (.cells #[.pointer (some t)] 47)).alloc (.cells #[.pointer (some ⟨9,47,none⟩), .pointer (some ⟨w.heap.size,0,none⟩), .int .u64 150] 83)) (by simp);have hlt:0<w.heap.size:=by
  rcases Nat.eq_zero_or_pos w.heap.size with h0 | h
  ·simp[World.cell?,h0]at hg
  ·exact h
 have hg2:((w.alloc (.cells #[.pointer (some t)] 47)).alloc (.cells #[.pointer (some ⟨9,47,none⟩), .pointer (some ⟨w.heap.size,0,none⟩), .int .u64 150] 83)).cell? ⟨0,0,none⟩=some (.iface 117 (.agg #[.pointer (some ⟨9,42,none⟩)])):=by
  rw[World.cell?_alloc_lt _ _ ⟨0,0,none⟩ (by simp),World.cell?_alloc_lt _ _ ⟨0,0,none⟩ hlt]; exact hg
 have htl:t.block<w.heap.size:=by
  rcases Nat.lt_or_ge t.block w.heap.size with h | h
  ·exact h
  ·simp[World.cell?,Array.getElem?_eq_none h]at ht0
 have el:=Tryz.elemV27 ⟨w.heap.size,0,none⟩ t (((w.alloc (.cells #[.pointer (some t)] 47)).alloc (.cells #[.pointer (some ⟨9,47,none⟩), .pointer (some ⟨w.heap.size,0,none⟩), .int .u64 150] 83)).alloc (.cells #[.pointer (some ⟨9,47,none⟩), .pointer (some ⟨w.heap.size,0,none⟩), .int .u64 150] 83)) (by rw[World.cell?_alloc_lt _ _ ⟨w.heap.size,0,none⟩ (by simp; omega)]; simp);have st:=Tryz.set25 t ⟨w.heap.size+1+1+1,0,none⟩ e old ((((w.alloc (.cells #[.pointer (some t)] 47)).alloc (.cells #[.pointer (some ⟨9,47,none⟩), .pointer (some ⟨w.heap.size,0,none⟩), .int .u64 150] 83)).alloc (.cells #[.pointer (some ⟨9,47,none⟩), .pointer (some ⟨w.heap.size,0,none⟩), .int .u64 150] 83)).alloc (.cells #[.pointer (some e)] 45))
  (by rw[World.cell?_alloc_at _ _ _ _ (by simp)]; rfl)
  (by rw[World.cell?_alloc_lt _ _ t (by simp; omega),World.cell?_alloc_lt _ _ t (by simp; omega),World.cell?_alloc_lt _ _ t (by simp; omega),World.cell?_alloc_lt _ _ t htl]; exact ht0)
  (by rw[World.frozen?_alloc_old _ _ t (by simp; omega),World.frozen?_alloc_old _ _ t (by simp; omega),World.frozen?_alloc_old _ _ t (by simp; omega),World.frozen?_alloc_old _ _ t (Nat.ne_of_lt htl)]; exact hf0)
 go_enter Tryz.func15,Tryz.ntmps15
 go_wp2
 refine wp_loop_rounds 1 ?_;rw[rounds_succ]
 go_wp2
 go_ret
 exact⟨rfl,rfl⟩
end Go.Proofs.YtfegdfjcichccaaGreatDoor
end

noncomputable section
namespace Go.VS.Tryz
open Go.VS Go.RowKit
set_option maxRecDepth 1000000
theorem NW{K:Prot}{Y:Env}{st:St}{w:World}(hr:Rel P K Y st w){c:List Value}(hc:bf c=true){v:Value}(h:VR Y (iq 0 c) v):∃ k o,v = .pointer (some ⟨k,o,none⟩)/\∀ (j:Nat) y,c[j]? = some y->w.cell? ⟨k,o+j,none⟩=some y:=by
 unfold iq at h;simp only[VR]at h;rw[if_neg (Nat.lt_irrefl FZ)]at h;simp only[VZ,VZA,VZL]at h;obtain⟨a,b,e,h⟩:=h;cases e;rw[Nat.sub_self]at h;unfold dO at h;rw[if_pos rfl]at h;obtain⟨k,o,cs,e',f,l,rfl,h2,h3,h4,h5⟩:=h;have hq:=nH hc h5;obtain⟨⟨f1,f0⟩,f2,_⟩:=hr.frz k l h2;refine⟨k,o,rfl,fun j y hj=>?_⟩;rw[h3]at f2;have hlt:j<c.length:=(List.getElem?_eq_some_iff.1 hj).1;rw[<-hq,List.getElem?_take_of_lt hlt,List.getElem?_drop]at hj;unfold World.cell?;simp only[f2];simpa using hj
theorem NU{Y:Env}{i e:Int}{b v:Value}{args':Array Value}(h:VRL Y [kD i e,b] args'.toList):∃ x y,args'=#[.iface 45 x,y]/\VR Y (iq 0 [.int .i64 i, .int .i64 e]) x/\VR Y b y:=by
 obtain⟨l⟩:=args';simp only[VRL]at h;obtain⟨y,ys,e1,hy,z,zs,rfl,hz,rfl⟩:=h;unfold kD at hy;simp only[VR]at hy;rw[if_pos (by unfold FZ; decide)]at hy;obtain⟨x,rfl,hx⟩:=hy;have e1:l=[.iface 45 x,z]:=e1;subst e1;exact⟨x,z,rfl,hx,hz⟩
def kAs:Con (Int×Int) where
 enc s:=([kD s.1 s.2, .iface 47 (.pointer (some ⟨0,0,none⟩))],[.cells [.pointer none] 45 true])
 ok _:=True
 inj a b h:=by
  obtain⟨a1,a2⟩:=a;obtain⟨b1,b2⟩:=b;unfold kD iq at h;simp only[Prod.mk.injEq,List.cons.injEq,Value.iface.injEq,Value.agg.injEq,Array.mk.injEq,Value.int.injEq,true_and,and_true]at h;obtain⟨h1,h2⟩:=h;subst h1 h2
  rfl
 dflt:=(0,0)
theorem KH{w:World}(h:GW w):w.cell? ⟨0,0,none⟩=some (.iface 117 (.agg #[.pointer (some ⟨9,42,none⟩)])):=by
 obtain⟨o,h1,e,f,rfl⟩:=h (0,_) (by simp only[globs]; exact List.mem_cons_self ..);unfold World.cell?;simp only[h1]
 rfl
theorem cell_of{K:Prot}{Y:Env}{w:World}{l:Loc}(hr0:Rel P K Y (mkSt [.cells [.pointer none] 45 true]) w)(hl:Y ((0:Nat):Int)=some l):w.cell? ⟨l.blk,l.base,none⟩=some (.pointer none)/\w.frozen? ⟨l.blk,l.base,none⟩=false:=by
 obtain⟨l0,a1,a2,a3⟩:=hr0.blk 0 (.cells [.pointer none] 45 true) rfl rfl;obtain rfl:l0=l:=by rw[a1]at hl; exact Option.some.inj hl
 rcases a3 with⟨q1,q2,q3⟩ | ⟨q0,cc,f,q1,q2,q3,q4,q5,q6,q7⟩
 ·cases q3
 ·have q8:=(q5 rfl).1;have q6:(cc.toList.drop l0.base).take 1=[.pointer none]:=nH rfl q6;have hlt:l0.base<cc.size:=by
   have hlen:l0.total=1:=q8.symm;omega
  refine⟨?_,?_⟩
  ·unfold World.cell?;simp only[q1];have:((cc.toList.drop l0.base).take 1)[0]? = some (.pointer none):=by rw[q6]; rfl
   rw[List.getElem?_take_of_lt (by decide),List.getElem?_drop]at this;simpa using this
  ·unfold World.frozen?;obtain⟨lo,hi⟩:=f;simp only[q1];have:=q7.1;simp only at this;rw[Bool.and_eq_false_iff];rcases this with h | h
   ·by_cases hq:lo<=l0.base
    ·right; exact decide_eq_false (by omega)
    ·left; exact decide_eq_false hq
   ·left; exact decide_eq_false (by omega)
theorem Ui:CallOkX P 1 15 (uO kAs.C kAs.D fun s=> .leaf (.bool true,[.cells [iq 0 [.int .i64 s.1, .int .i64 s.2]] 45 true])):=rJ kAs fun s ho v bs' hev=>by
 simp only[DT.eval,Option.some.injEq,Prod.mk.injEq]at hev;obtain⟨rfl,rfl⟩:=hev;obtain⟨i,e⟩:=s;intro K Y w args' cs hid ha hr;obtain⟨x,y,rfl,hx,hy⟩:=NU (v:= .nilFunc) ha;have hy:VR Y (.iface 47 (.pointer (some ⟨0,0,none⟩))) y:=hy;simp only[VR]at hy;rw[if_pos (by unfold FZ; decide)]at hy;obtain⟨y',rfl,_,l,hl,rfl⟩:=hy;obtain⟨k,o,rfl,hcell⟩:=NW hr rfl hx;have hr0:Rel P K Y (mkSt [.cells [.pointer none] 45 true]) w:=hr;obtain⟨ht,hfz⟩:=cell_of hr0 hl;obtain⟨e1,w',fr,⟨rfl,hw'⟩,hc,h1,l1,l2,l3,fn,l4,l5⟩:=Go.Proofs.YtfegdfjcichccaaGreatDoor.as_hit ⟨k,o,none⟩ ⟨l.blk,l.base,none⟩ (.pointer none) w (KH hr.gw) ht hfz cs;generalize hW:(((w.alloc _).alloc _).alloc _).alloc _=W at hw';have hb:Below w.heap.size w W:=by
  rw[<-hW];exact((((Below.refl _ _).alloc (Nat.le_refl _) _).alloc (by simp) _).alloc (by simp; omega) _).alloc (by simp; omega) _
 obtain⟨r1,r2⟩:=hr0.below hb;obtain⟨ht1,hf1⟩:=cell_of r1 hl;have hst:setCells (mkSt [.cells [.pointer none] 45 true]) ⟨0,0,none⟩ [iq 0 [.int .i64 i, .int .i64 e]]=some { (mkSt [.cells [.pointer none] 45 true])with heap:=(mkSt [.cells [.pointer none] 45 true]).heap.set 0 (.cells [iq 0 [.int .i64 i, .int .i64 e]] 45 true) }:=rfl;obtain⟨w2,s1,s2,s3,s4⟩:=r1.setCells hst (VRL.cons hx VRL.nil) hl;have hrun:(storeCells ⟨l.blk,l.base+0,none⟩ [.pointer (some ⟨k,o,none⟩)]).run P W = .ok () (W.setCell ⟨l.blk,l.base,none⟩ (.pointer (some ⟨k,o,none⟩))):=by
  simp only[storeCells,Sem.run_bind];rw[show((⟨l.blk,l.base+0,none⟩:Addr).add 0)=⟨l.blk,l.base,none⟩ from rfl,run_store P W ⟨l.blk,l.base,none⟩ _ _ (by rfl)];simp[ht1,hf1,Result.andThen]
 rw[hrun]at s1;have hw2:W.setCell ⟨l.blk,l.base,none⟩ (.pointer (some ⟨k,o,none⟩))=w2:=by
  injection s1
 have hfin:Rel P K Y (mkSt [.cells [iq 0 [.int .i64 i, .int .i64 e]] 45 true]) w2:=tV (fun j=>by
  rw[bz]) rfl s2
 rw[hw2]at hw';subst hw';exact⟨⟨Y,fr,w',_,hc,(Env.le.refl Y).leN _,hfin,r2.trans s3,rfl,l1,l2,l3,h1,fn,by rw[<-h1]; exact l4,l5⟩,Nat.le_refl 1⟩
def OI(g:FuncId)(p:List Value->Bool)(a b:Ct):Ct where
 call:=fun g' args st=>match Nat.beq g' g,p args with
  |true,true=>a.call g' args st
  |_,_=>b.call g' args st
 loop:=b.loop
 op:=b.op
theorem QH{g:FuncId}{p:List Value->Bool}{a b:Ct}(ha:CtOk P a)(hb:CtOk P b):CtOk P (OI g p a b) where
 call:=by
  intro K g' args st v st' h Y w args' cs;simp only[OI]at h;split at h
  ·exact ha.call K g' args st v st' h Y w args' cs
  ·exact hb.call K g' args st v st' h Y w args' cs
 loop:=hb.loop
 opc:=hb.opc
 op:=hb.op
def TF:List Value->Bool
 |[.iface _ _,_]=>true
 |_=>false
def Pm:dJ:=fun args bs=>match args,bs with
 |[a, .iface t (.pointer (some ⟨0,0,none⟩))],[.cells [.pointer none] u true]=>match and (bK a (kD 0 350)) (and (Nat.beq t 47) (Nat.beq u 45))with
  |true=>some (.leaf (.bool true,[.cells [iq 0 [.int .i64 0, .int .i64 350]] u true]))
  |false=>none
 |_,_=>none
theorem RI:CallOkX P 1 15 Pm:=⟨fun args bs t hR v bs' hev=>by
 unfold Pm at hR;split at hR
 ·rename_i a t0 u;split at hR
  ·rename_i hc;obtain rfl:=Option.some.inj hR;simp only[DT.eval,Option.some.injEq,Prod.mk.injEq]at hev;obtain⟨rfl,rfl⟩:=hev;have hc:(bK a (kD 0 350)&&(Nat.beq t0 47&&Nat.beq u 45))=true:=hc;simp only[Bool.and_eq_true,Nat.beq_eq]at hc;obtain⟨h1,rfl,rfl⟩:=hc;rw[jO _ _ h1];exact Ui.run _ _ _ rfl _ _ (by rw[kAs.C_enc (s:=(0,350)) rfl trivial,kAs.D_enc (s:=(0,350)) rfl]; rfl)
  ·cases hR
 ·cases hR⟩
def NK:dJ:=fun args bs=>match args,bs with
 |[.iface t (.int .i64 n), .iface u (.int .i64 m)],[]=>match and (Nat.beq t 49) (and (Nat.beq u 49) (decide (n=m)))with
  |true=>some (.leaf (.bool true,[]))
  |false=>none
 |_,_=>none
theorem Td:CallOkX P 0 87 NK:=⟨fun args bs t hR v bs' hev=>by
 unfold NK at hR;split at hR
 ·rename_i t0 n u m;split at hR
  ·rename_i hc;obtain rfl:=Option.some.inj hR;simp only[DT.eval,Option.some.injEq,Prod.mk.injEq]at hev;obtain⟨rfl,rfl⟩:=hev;have hc:(Nat.beq t0 49&&(Nat.beq u 49&&decide (n=m)))=true:=hc;simp only[Bool.and_eq_true,Nat.beq_eq,decide_eq_true_eq]at hc;obtain⟨rfl,rfl,rfl⟩:=hc;intro K Y w args' cs hid ha hr;obtain⟨l⟩:=args';simp only[VRL]at ha;obtain⟨y,ys,e1,hy,z,zs,rfl,hz,rfl⟩:=ha;have hy:VR Y (.iface 49 (.int .i64 n)) y:=hy;have hz:VR Y (.iface 49 (.int .i64 n)) z:=hz;simp only[VR]at hy hz;rw[if_pos (by unfold FZ; decide)]at hy hz;obtain⟨y',rfl,rfl⟩:=hy;obtain⟨z',rfl,rfl⟩:=hz;have e1:l=[.iface 49 (.int .i64 n), .iface 49 (.int .i64 n)]:=e1;subst e1;obtain⟨e1,w',fr,⟨rfl,rfl⟩,hc,h1,l1,l2,l3,fn,l4,l5⟩:=Go.Proofs.YtfegdfjcichccaaGreatDoor.is_same n w cs;exact⟨⟨Y,fr,w',_,hc,(Env.le.refl Y).leN _,hr,Bel.refl _ _,rfl,l1,l2,l3,h1,fn,by rw[<-h1]; exact l4,l5⟩,Nat.zero_le _⟩
  ·cases hR
 ·cases hR⟩
def oO(v:Value):Prop:=v = .slice none 0 0\/∃ p c,v = .slice (some p) 0 c
theorem Gq{v:Value}(hv:oO v)(w:World):Calls Go.Proofs.Tryz.prog 196 #[v] w fun e w'=>∃ r,e = .returned r/\oO r/\Below w.heap.size w w':=by
 have hq:=Go.Lib.run_eql_slice_nil (P:=Go.Proofs.Tryz.prog) w 167 170 none 0 0 0 0 Go.Proofs.Tryz.underlying167;have hp:=fun p c=>Go.Lib.run_eql_slice_nil (P:=Go.Proofs.Tryz.prog) w 167 170 (some p) 0 c 0 0 Go.Proofs.Tryz.underlying167;rcases hv with rfl | ⟨p,c,rfl⟩
 ·go_enter Go.Proofs.Tryz.func196,Go.Proofs.Tryz.ntmps196
  go_wp2
  go_ret
  exact⟨_,rfl,Or.inl rfl,Below.refl _ _⟩
 ·go_enter Go.Proofs.Tryz.func196,Go.Proofs.Tryz.ntmps196
  go_wp2
  go_ret
  exact⟨_,rfl,Or.inr ⟨_,_,rfl⟩,(Below.refl _ _).alloc (Nat.le_refl _) _⟩
theorem QG{Y:Env}{r:Value}(hr:oO r):VR Y (au 3 0 0 []) r:=by
 unfold au;simp only[VR];rw[if_neg (Nat.not_lt.2 (Nat.le_add_right _ _))];simp only[VZ,VZA,VZL];refine⟨0,0,rfl,?_⟩;unfold dO;rw[if_neg (by omega)];refine⟨by simp,?_⟩;rcases hr with rfl | ⟨p,c,rfl⟩
 ·exact Or.inl ⟨rfl,Nat.zero_le _,rfl⟩
 ·exact Or.inr (Or.inl ⟨rfl,p,c,rfl,fun h=>absurd rfl h⟩)
theorem Qd{Y:Env}{b:Nat}{y:Value}(hy:VR Y (au 3 0 b []) y):oO y:=by
 unfold au at hy;simp only[VR]at hy;rw[if_neg (Nat.not_lt.2 (Nat.le_add_right _ _))]at hy;simp only[VZ,VZA,VZL]at hy;obtain⟨a,b',e,h⟩:=hy;cases e;unfold dO at h;rw[if_neg (by omega)]at h;rcases h.2 with⟨_,_,h⟩ | ⟨_,p,cap,h,_⟩ | ⟨h0,_⟩
 ·exact Or.inl h
 ·exact Or.inr ⟨p,cap,h⟩
 ·exact absurd h0 (Nat.lt_irrefl 0)
theorem QD{Y:Env}{a:Addr}{c:Nat}{y:Value}(hy:VR Y (.slice (some a) 0 c) y):oO y:=by
 simp only[VR]at hy;obtain⟨hs,l,hl,hsl⟩:=hy;unfold aI at hsl;split at hsl
 ·exact Or.inl hsl.2.2.2
 ·split at hsl
  ·exact Or.inr ⟨_,_,hsl⟩
  ·split at hsl
   ·exact Or.inr ⟨_,_,hsl.1⟩
   ·obtain⟨_,_,_,q⟩:=hsl;split at q
    ·exact Or.inr ⟨_,_,q⟩
    ·exact Or.inr ⟨_,_,q⟩
theorem BU{v:Value}{bs:List Blk}(hv:∀ Y y,VR Y v y->oO y):CRM P 196 [v] bs (au 3 0 0 []) bs:=by
 intro K Y w args' cs hid ha hr;obtain⟨l⟩:=args';simp only[VRL]at ha;obtain⟨y,ys,e1,hy,rfl⟩:=ha;have e1:l=[y]:=e1;subst e1;obtain⟨e,w',fr,⟨r,rfl,hr1,hb⟩,hc,h1,l1,l2,l3,fn,l4,l5⟩:=Gq (hv Y y hy) w cs;obtain⟨r1,r2⟩:=hr.below hb;exact⟨⟨Y,fr,w',r,hc,Env.le.refl Y,r1,r2,QG hr1,l1,l2,l3,h1,fn,by rw[<-h1]; exact l4,l5⟩,Nat.le_refl _⟩
def OG:dJ:=fun args bs=>match args with
 |[.slice (some a) n c]=>match Nat.beq n 0 with
  |true=>some (.leaf (au 3 0 0 [],bs))
  |false=>none
 |[.iface t (.agg ⟨[.slice none n b]⟩)]=>match and (Nat.beq t 18446744073709551619) (Nat.beq n 0)with
  |true=>some (.leaf (au 3 0 0 [],bs))
  |false=>none
 |_=>none
theorem Uy:CallOkM P 196 OG:=⟨fun args bs t hR v bs' hev=>by
 unfold OG at hR;split at hR
 ·rename_i a n c;split at hR
  ·rename_i hc;obtain rfl:=Option.some.inj hR;simp only[DT.eval,Option.some.injEq,Prod.mk.injEq]at hev;obtain⟨rfl,rfl⟩:=hev;obtain rfl:=Nat.eq_of_beq_eq_true hc;exact BU fun Y y h=>QD h
  ·cases hR
 ·rename_i t0 n b;split at hR
  ·rename_i hc;obtain rfl:=Option.some.inj hR;simp only[DT.eval,Option.some.injEq,Prod.mk.injEq]at hev;obtain⟨rfl,rfl⟩:=hev;have hc:(Nat.beq t0 18446744073709551619&&Nat.beq n 0)=true:=hc;simp only[Bool.and_eq_true,Nat.beq_eq]at hc;obtain⟨rfl,rfl⟩:=hc;have e:au 3 0 b [] = .iface 18446744073709551619 (.agg ⟨[.slice none 0 b]⟩):=by unfold au; rw[j_]
   rw[<-e];exact BU fun Y y h=>Qd h
  ·cases hR
 ·cases hR⟩
def NT(i e:Int):Value:= .tuple ⟨[rZ [],kD i e]⟩
theorem BH{s:ByteArray}{i e:Int}(h:s.size<=4194302)(hp:ig s=(some (i,e),[])):CRX P 0 14 [.string s] [] (NT i e) []:=by
 have q:=CO s h;rw[hp]at q;exact q
theorem U3:ig ⟨#[112,114,111,109,111,116,101,32,49]⟩=(none,[⟨4,1,0,0,⟨#[]⟩,[]⟩]):=by kernel_rfl
theorem UX:ig ⟨#[112,117,108,108,32,48]⟩=(none,[⟨10,0,0,0,⟨#[]⟩,[]⟩]):=by kernel_rfl
theorem UH:ig ⟨#[102,114,111,98]⟩=(some (0,350),[]):=by kernel_rfl
theorem UL:ig ⟨#[116,105,99,107,32,55]⟩=(some (0,350),[]):=by kernel_rfl
def lnN:List (ByteArray×Value):=[
 (⟨#[112,114,111,109,111,116,101,32,49]⟩,vK ⟨4,1,0,0,⟨#[]⟩,[]⟩),
 (⟨#[112,117,108,108,32,48]⟩,vK ⟨10,0,0,0,⟨#[]⟩,[]⟩),
 (⟨#[102,114,111,98]⟩,NT 0 350),
 (⟨#[116,105,99,107,32,55]⟩,NT 0 350)]++lnP
theorem RS:CallOkX P 0 14 (wP lnN):=MF fun p hp=>by
 unfold lnN lnP at hp;simp only[List.cons_append,List.nil_append,List.mem_cons,List.not_mem_nil,or_false]at hp;rcases hp with rfl | rfl | rfl | rfl | rfl | rfl | rfl | rfl | rfl
 ·exact fV (by decide) U3
 ·exact fV (by decide) UX
 ·exact BH (by decide) UH
 ·exact BH (by decide) UL
 ·exact fV (by decide) TS
 ·exact fV (by decide) RF
 ·exact fV (by decide) TG
 ·exact fV (by decide) SS
 ·exact fV (by decide) TP
def yQ:Ct:=OI 15 TF (ed P iI 1 15 Pm jR) (ed P iI 0 87 NK (yB 196 OG (ed P iI 0 14 (wP lnN) Tf)))
theorem Qc:CtOk P yQ:=QH (dW (iR P) RI) (dW (Gx (dW Qs RS) Uy) Td)
end Go.VS.Tryz
end

noncomputable section
namespace Go.VS.Tryz
open Go.VS
abbrev pP(n:Nat):Value:= .pointer (some ⟨n,0,none⟩)
abbrev sL(a n:Nat):Value:= .slice (some ⟨a,0,none⟩) n 18446744073709551616
abbrev iN(n:Int):Value:= .int .i64 n
theorem aU:CtOk P yQ:=Qc
end Go.VS.Tryz
end
