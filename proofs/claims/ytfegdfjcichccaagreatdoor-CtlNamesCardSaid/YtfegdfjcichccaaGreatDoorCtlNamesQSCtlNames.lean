/- The law 'CtlNames': the worked examples of the chapter on the console come out as they are written: the call returns true; the row and its tied card. Conditions: none. -/
import Derived.Test.YtfegdfjcichccaaGreatDoorRows
import Derived.Test.YtfegdfjcichccaaGreatDoorCards
import Derived.Test.YtfegdfjcichccaaGreatDoorTie
import Derived.Test.YtfegdfjcichccaaGreatDoorCtlNamesQSCnR
import Derived.WalkKit
import Derived.ProofKit
import Derived.OpenShut
import Derived.LaidMore
import Derived.LaidSub
import Derived.LaidHandle
import Derived.Lay
import Derived.SevenTiedAt
import Derived.Stop.Joined
import Derived.Stop.LaidErr
import Derived.Lib.LaidU8
import Derived.Lib.LaidTab
import Derived.Carry
import Derived.ChangeMaps5
import Derived.Test.YtfegdfjcichccaaGreatDoorCtF1
import Derived.Test.YtfegdfjcichccaaGreatDoorCtlNamesQSCnF2
import Derived.Test.YtfegdfjcichccaaGreatDoorCtlNamesQSCnF3
import Derived.Test.YtfegdfjcichccaaGreatDoorCtlNamesQSCnF4
set_option linter.unusedSimpArgs false
set_option linter.unusedVariables false
noncomputable section
namespace Go.Proofs.YtfegdfjcichccaaGreatDoor.ctlNames
open Go.ChangeShapes Go.WideShapes Go.ChangeAt Go.RowKit
set_option maxRecDepth 1000000
theorem own:ownKnob Tryz.prog.godebug=none:=by kernel_rfl
theorem et:Tryz.prog.globalNamed "errors.errorType" =some 0:=by kernel_rfl
theorem rt:(Tryz.prog.cutTypes.find? (·.1 == "internal/reflectlite.rtype")).map (·.2)=some 117:=by kernel_rfl
theorem size:Tryz.prog.types.size=540:=by kernel_rfl
theorem oneRow:((List.range 540).filter fun t=>Tryz.prog.rowNamed t [101,114,114,111,114])=[42]:=by kernel_rfl
abbrev dataL:List (String×DataW Unit):=[("math/bits.deBruijn32tab",Rows.laid_math_bits_deBruijn32tab),("math/bits.deBruijn64tab",Rows.laid_math_bits_deBruijn64tab),("internal/strconv.uint64pow10",Rows.laid_internal_strconv_uint64pow10),("unicode/utf8.acceptRanges",Rows.laid_unicode_utf8_acceptRanges),("strconv.ErrRange",Rows.laid_strconv_ErrRange),("strconv.ErrSyntax",Rows.laid_strconv_ErrSyntax),("unicode/utf8.first",Rows.laid_unicode_utf8_first)]
theorem parts{W:World}(h:laidMetH Tryz.prog Rows.ctlNamesRow.laid W):laidMet Tryz.prog dataL W/\handlesMet Tryz.prog [("errors.errorType",Rows.laid_errors_errorType)] W:=h
theorem handle_of_laid{W:World}(h:laidMetH Tryz.prog Rows.ctlNamesRow.laid W):W.var? Tryz.prog "errors.errorType" =some #[.iface 117 (.agg #[.pointer (some ⟨9,42,none⟩)])]:=by
 obtain⟨name,u,ty,e1,e2,e3,e4,e5⟩:=(parts h).2 _ (List.mem_singleton.2 rfl);have en:name=[101,114,114,111,114]:=(Option.some.inj e1).symm;subst en;obtain rfl:=Option.some.inj (rt.symm.trans e2);have hm:ty∈(List.range 540).filter fun t=>Tryz.prog.rowNamed t [101,114,114,111,114]:=List.mem_filter.2 ⟨List.mem_range.2 (by rw[<-size]; exact e3),e4⟩;rw[oneRow]at hm;obtain rfl:=List.mem_singleton.1 hm;have hh:typeHandle Tryz.prog 42 = .pointer (some ⟨9,42,none⟩):=by kernel_rfl
 rw[hh]at e5;exact e5
theorem var_heap{P:Program}{W:World}{n:String}{g:Nat}{cs:Array Value}(hg:P.globalNamed n=some g)(h:W.var? P n=some cs):∃ e f,W.heap[g]? = some (.cells cs e f):=by
 simp only[World.var?,hg,Option.bind_some]at h;split at h
 ·rename_i c e f hh;obtain rfl:=Option.some.inj h;exact⟨e,f,hh⟩
 ·cases h
theorem star: "*" ++ "errors.errorString" = "*errors.errorString" :=by decide
theorem rowE(u:TypeId)(h:Tryz.prog.typeName? 3 u=some "*errors.errorString"):u=386:=
 typeName_ptr_named (nm:= "errors.errorString") (by rw[star]; kernel_rfl) (by kernel_rfl) (by decide) u (by rw[star]; exact h)
theorem gS:Tryz.prog.globalNamed "strconv.ErrSyntax" =some 4:=by kernel_rfl
theorem gR:Tryz.prog.globalNamed "strconv.ErrRange" =some 5:=by kernel_rfl
theorem gP:Tryz.prog.globalNamed "internal/strconv.uint64pow10" =some 6:=by kernel_rfl
theorem sentinel_of{W:World}{n:String}{text:List UInt8}{g:Nat}(h:laidMet Tryz.prog [(n, .iface "*errors.errorString" (.ptr (.agg [.lit (.string text)])))] W)(hg:Tryz.prog.globalNamed n=some g)(ht:(Tryz.prog.globals[g]?).map (·.type)=some 42) :
  ∃ t p,W.var? Tryz.prog n=some #[.iface t p]:=by
 obtain⟨a0,s0,hv0,_⟩:=laid_sentinel h hg ht Tryz.underlying42 rowE Tryz.underlying386 Tryz.underlying388 rfl rfl Tryz.underlying9 (by kernel_rfl) (by kernel_rfl);exact⟨_,_,hv0⟩
theorem gw_of_laid{W:World}(h:laidMetH Tryz.prog Rows.ctlNamesRow.laid W):VS.GW W:=by
 have hd:=(parts h).1;have hS:laidMet Tryz.prog [("strconv.ErrSyntax",Rows.laid_strconv_ErrSyntax)] W:=hd.filter fun x=>x.1 == "strconv.ErrSyntax";have hR:laidMet Tryz.prog [("strconv.ErrRange",Rows.laid_strconv_ErrRange)] W:=hd.filter fun x=>x.1 == "strconv.ErrRange";obtain⟨tS,pS,vS⟩:=sentinel_of hS gS (by kernel_rfl);obtain⟨tR,pR,vR⟩:=sentinel_of hR gR (by kernel_rfl);obtain⟨g,t,cs,fuel,p,hg,ht,hv,hread⟩:=Lib.laidMet.reads hd (n:= "internal/strconv.uint64pow10") (d:=Rows.laid_internal_strconv_uint64pow10) (by simp);obtain rfl:=Option.some.inj (gP.symm.trans hg);obtain rfl:t=390:=(Option.some.inj (ht.symm.trans (by kernel_rfl)))
 have hc:=Lib.cells_of_tab (k:= .u64) (zs:=VS.pow10L) Tryz.underlying390 Tryz.underlying12 (by kernel_rfl) (by kernel_rfl) hread;obtain⟨e0,f0,k0⟩:=var_heap et (handle_of_laid h);obtain⟨e1,f1,k1⟩:=var_heap gP hv;obtain⟨e2,f2,k2⟩:=var_heap gS vS;obtain⟨e3,f3,k3⟩:=var_heap gR vR;have hcs:cs=⟨VS.pow10L.map fun n=> .int .u64 n⟩:=by
  obtain⟨l⟩:=cs;have hc:l=VS.pow10L.map fun n=> .int .u64 n:=hc;rw[hc]
 subst hcs;intro p hp;unfold VS.globs at hp;simp only[List.mem_cons,List.not_mem_nil,or_false]at hp;rcases hp with rfl | rfl | rfl | rfl
 ·exact⟨_,k0,e0,f0,rfl⟩
 ·exact⟨_,k1,e1,f1,rfl⟩
 ·first | exact⟨_,k2,tS,pS,e2,f2,rfl⟩ | exact⟨_,k3,tR,pR,e3,f3,rfl⟩
 ·first | exact⟨_,k2,tS,pS,e2,f2,rfl⟩ | exact⟨_,k3,tR,pR,e3,f3,rfl⟩
theorem walk(w:World)(hG:VS.GW w) :
  Calls Tryz.prog 4 #[] w fun e w'=>e = .returned (.bool true)/\Below w.heap.size w w':=
 VS.isTrue_calls VS.Tryz.aB VS.Tryz.ctSL_ok' VS.Tryz.names_true VS.VRL.nil hG
def laidW(os:Os):World:=
 let w0:=World.laidAll Tryz.prog os dataL
 { w0 with heap:=w0.heap.modify 0 fun
   | .cells _ t frozen=> .cells #[.iface 117 (.agg #[.pointer (some ⟨9,42,none⟩)])] t frozen
   |o=>o }
theorem laidW_met(os:Os)(args:Array Value):laidMetH Tryz.prog Rows.ctlNamesRow.laid ((laidW os).forCall (fun _ _=>0) ⟨#[],args,[]⟩).memory:=
 laidMetH_of_parts (laidMet_of_run' 8 (by kernel_rfl) (by kernel_rfl)) (by kernel_rfl)
theorem lifted(os:Os)(started:os.Started)(H:Type)(enc:TypeId×Value->H) :
  ReturnsInHanded {} Tryz.checked os 4 .any (fun w args=>(Rows.ctlNamesSpec.pre enc Tryz.prog Tryz.f4 Rows.ctlNamesRow.domain false w args/\laidMetH Tryz.prog Rows.ctlNamesRow.laid w)/\sizedMet enc Tryz.prog Tryz.f4 (OpenSpec.ofChange Rows.ctlNamesSpec) false w args)
   (Rows.ctlNamesSpec.post enc Tryz.prog Tryz.f4 false true false false):=by
 refine returnsInHanded_of_change_and (C:=Tryz.checked) (X:=fun w _=>laidMetH Tryz.prog Rows.ctlNamesRow.laid w) (fun _ _ _ hh h=>h.of_heap hh) own started (by kernel_rfl) Tryz.func4
  (ChangeSpec.witness_at (enc:=enc) (C:=Tryz.checked) (os:=os) (X:=fun w _=>laidMetH Tryz.prog Rows.ctlNamesRow.laid w) false (laidW os) #[] 8 (World.laidAll_os _ _ _) (by kernel_rfl) (by kernel_rfl) (by kernel_rfl) (by kernel_rfl) (by kernel_rfl) (laidW_met os _)) ?_
 intro W base args ds gs before hval0 hW hc _ hL _;have hW':=hW;obtain⟨p,q,hA0,hV,rfl,_,_⟩:=hW;have hA:DataW.TrodAll enc Tryz.prog W 0 (fun _=>true) true Tryz.f4.params.toList args.toList ds p:=hA0;rw[Tryz.params4]at hA;obtain⟨hargs,rfl,rfl⟩:=trodAll_nil hA;obtain rfl:args=#[]:=by cases args; simp_all
 obtain⟨rfl,rfl⟩:=trodVars_none hV;clear hA0 hval0;refine(walk W (gw_of_laid hL)).mono fun e W' ⟨he,hg⟩=>?_;subst he;refine⟨_,rfl,_,_,_,[],[],[],hW',?_,?_,rfl,hg.frame _,fun h=>by cases h⟩
 ·exact trodAll_cons_mk (shut_bool Tryz.underlying4 _) trodAll_mk0
 ·exact trodAll_mk0
theorem k_plain:(Rows.ctlNamesRow.plainKeys == Tryz.prog.plainKeys)=true:=Facts.plain
theorem k_lifted:(Rows.ctlNamesRow.lifted == Tryz.prog.liftsFinal)=true:=by kernel_rfl
theorem k_make:(Tryz.prog.make == some Rows.ctlNamesRow.make)=true:=by kernel_rfl
theorem k_func:Tryz.pinned.checked.prog.funcNamed Rows.ctlNamesRow.func=some 4:=by kernel_rfl
theorem closed:joinedFacts Tryz.pinned.checked.prog 4 Tryz.f4 Rows.ctlNamesSpec Rows.ctlNamesRow=true:=by
 show joinedFacts Tryz.prog 4 Tryz.f4 Rows.ctlNamesSpec Rows.ctlNamesRow=true;unfold joinedFacts;rw[Facts.laid,Facts.rowed,Facts.stops,Facts.knobs,k_inPlace,k_unfollowed,k_recurses,k_named,k_plain,Facts.heard,Facts.enter,k_lifted,k_make]
 kernel_rfl
theorem over:Rows.CtlNamesSaid:=
 OpenClaim.holds_of_wide 4 Tryz.f4 rfl rfl rfl rfl rfl rfl rfl ⟨rfl,rfl,rfl,rfl,rfl⟩ rfl rfl rfl rfl rfl k_func Tryz.func4 closed
  (of_decide_eq_true (by kernel_rfl)) (by unfold Func.isWrapper; first | (rw[if_pos (by decide +kernel)]; kernel_rfl) | (rw[if_neg (by decide +kernel)]; exact⟨rfl,rfl⟩))
  (fun os started H enc _=>lifted os started H enc)
theorem proved:Rows.CtlNamesCardSaid:=
 Claim7.holds_tied_plain_at .later [] [.data, .data, .data, .data, .handle, .sentinel, .sentinel, .pinned] true (true,"e3d0bc295c331b1db37d137f42d2104940b9c94544ce448e49c0a0a419f22f44") true over (fun _ h=>by cases h) c_wf (fun _ h=>by cases h) ctlNames_row_tie rfl ⟨rfl,rfl⟩ c_main rfl
  (fun f fn hf hfn=>by
   obtain rfl:f=4:=Option.some.inj (k_func.symm.trans hf) |>.symm
   obtain rfl:fn=Tryz.f4:=(Option.some.inj (Tryz.func4.symm.trans hfn)).symm;exact⟨c_looks,fun j t ht=>by
    rw[Tryz.params4]at ht
    simp at ht⟩)
  c_goes
#print axioms proved
end Go.Proofs.YtfegdfjcichccaaGreatDoor.ctlNames
