/- Texts of the proof, merged: Sc7, Sc8, Sc9, Sc10, ScW, Sc11, ScC, Sc12, Sc13, Sc14, Se0, Se1, Se2, Se3, Se4, St1, St2, St3, St4, St5, St6, St7, St8, St9. No conditions. -/
import Derived.Test.YtlkfapppocmgpaaGreatDoorScriptNamesQ1
import Derived.Test.YtlkfapppocmgpaaGreatDoorScriptNamesQ4
import Derived.Lib.FieldsP
import Derived.Lib.DecodeN
import Derived.Lib.MapLaws
import Derived.Test.YtlkfapppocmgpaaGreatDoorProg
import Derived.WalkKit
import Derived.LaidEql
import Derived.Stop.Asserts
import Derived.RowKitTokens
import Derived.Test.YtlkfapppocmgpaaGreatDoorShelf
import Derived.Lib.ItoaLen
set_option linter.unusedSimpArgs false
set_option linter.unusedVariables false
section
namespace Go.VS.Tryz
set_option maxRecDepth 1000000
open Go.VS
noncomputable def ctLv (NC NO : ByteArray → Int → Bool) (NV : ByteArray → Int) (KC KO : ByteArray → Bool) (KV : ByteArray → ByteArray) (OC : List Value → List Blk → Bool) (ov : Value) (ob : Bool) : Ct :=
  addCallX P polD 0 42 (oneM OC (.leaf (.tuple ⟨[ov, .bool ob]⟩, []))) (addCall P 41 (RkeyV KC KO KV) (addCall P 40 (RnumV NC NO NV) ctF))
def Hli : Head := ⟨3, 53, [0, 2, 3, 4, 5, 30], []⟩
noncomputable def Bli : Code := (loopAt P 6 0).getD .skip
theorem Bli_eq : loopAt P 6 0 = some Bli := by kernel_rfl
theorem Bli_occ : Occ P 6 (.block 0 (.loop Bli)) := loopAt_has Bli_eq
theorem Bli_first : firstNext Bli Hli = some 30 := by kernel_rfl
def formV (w s : ByteArray) : Value := .agg ⟨[.string w, .string s]⟩
def liV (s : ByteArray) (n b : Nat) (c : List Value) : List Value := [.string s, .pointer (some ⟨0, 0, none⟩), .bool false, .int .i64 0, mkFz 1 n b c, .pointer (some ⟨2, 0, none⟩)]
def liB (a : List Value) (m i : Blk) : List Blk := [.cells a 24 true, m, i]
def act0 : List Value := [.int .i64 0, .int .i64 0, .int .i64 0, .int .i64 0, .string ⟨#[]⟩, .slice none 0 0]
def kkForms : List MapEntry := [⟨.int .i64 1, formV ⟨#[99, 111, 109, 109, 105, 116]⟩ ⟨#[110, 111]⟩, 0⟩, ⟨.int .i64 2, formV ⟨#[114, 101, 97, 100]⟩ ⟨#[110, 107]⟩, 1⟩, ⟨.int .i64 3, formV ⟨#[116, 105, 99, 107]⟩ ⟨#[110]⟩, 2⟩, ⟨.int .i64 4, formV ⟨#[112, 114, 111, 109, 111, 116, 101]⟩ ⟨#[110]⟩, 3⟩, ⟨.int .i64 5, formV ⟨#[102, 108, 117, 115, 104]⟩ ⟨#[110]⟩, 4⟩, ⟨.int .i64 6, formV ⟨#[100, 101, 108, 105, 118, 101, 114]⟩ ⟨#[97]⟩, 5⟩, ⟨.int .i64 7, formV ⟨#[116, 119, 105, 99, 101]⟩ ⟨#[97]⟩, 6⟩, ⟨.int .i64 8, formV ⟨#[100, 114, 111, 112]⟩ ⟨#[97]⟩, 7⟩, ⟨.int .i64 9, formV ⟨#[102, 117, 115, 101]⟩ ⟨#[110, 97]⟩, 8⟩, ⟨.int .i64 10, formV ⟨#[112, 117, 108, 108]⟩ ⟨#[110]⟩, 9⟩, ⟨.int .i64 11, formV ⟨#[115, 116, 97, 114, 116]⟩ ⟨#[110, 97, 116]⟩, 10⟩, ⟨.int .i64 12, formV ⟨#[114, 111, 117, 110, 100]⟩ ⟨#[]⟩, 11⟩]
theorem dec_li1 (NC NO : ByteArray → Int → Bool) (NV : ByteArray → Int) (KC KO : ByteArray → Bool) (KV : ByteArray → ByteArray) (OC : List Value → List Blk → Bool) (on : Nat) (oc : List Value) (ob : Bool) (s : ByteArray) (n b : Nat) (c : List Value) (se : List Nat) : pickQ P E (ctLv NC NO NV KC KO KV OC (mkFz 3 on 0 oc) ob) 50 6 Bli Hli (liV s n b c) (liB act0 (.map kkForms 12) (.miter (some 1) 12 (0 :: se) 12)) (.int .i64 1) (formV ⟨#[99, 111, 109, 109, 105, 116]⟩ ⟨#[110, 111]⟩) =
 (needB (Bool.and (Nat.beq 1 1) (inI (0 : Int) n))
 (needB (Bool.and (Nat.ble 1 (List.length c)) (etaB Eta.string (nthD c 0)))
 (iteB (eqS (ByteArray.mk #[99, 111, 109, 109, 105, 116]) (asS (nthD c 0)))
 (needB (Bool.and (Nat.beq 1 1) (cutI (1 : Int) (lenI n) n))
 (iteB (notB (ltI (0 : Int) (lenI (lapN (1 : Int) (lenI n)))))
 (some ((Value.tuple (Array.mk [(Value.int IntKind.i64 (0 : Int)), (Value.string s), (Value.pointer (Option.some (Addr.mk 0 0 none))), (Value.bool Bool.false), (Value.int IntKind.i64 (0 : Int)), (Value.iface 18446744073709551617 (Value.agg (Array.mk ((Value.slice none n b) :: c)))), (Value.pointer (Option.some (Addr.mk 2 0 none)))])), (mkSt [(Blk.cells [(Value.int IntKind.i64 (0 : Int)), (Value.int IntKind.i64 (0 : Int)), (Value.int IntKind.i64 (0 : Int)), (Value.int IntKind.i64 (0 : Int)), (Value.string (ByteArray.mk #[])), (Value.slice none 0 0)] 24 Bool.true), (Blk.map kkForms 12), (Blk.miter (Option.some 1) 12 (0 :: se) 12)])))
 (needB (Bool.and (Nat.beq 1 1) (inI (0 : Int) (lapN (1 : Int) (lenI n))))
 (needB (Bool.and (Nat.ble 1 (List.length (takeC (Nat.mul (lapN (1 : Int) (lenI n)) 1) (dropC 1 c)))) (etaB Eta.string (nthD (takeC (Nat.mul (lapN (1 : Int) (lenI n)) 1) (dropC 1 c)) 0)))
 (needB (NC (asS (nthD (takeC (Nat.mul (lapN (1 : Int) (lenI n)) 1) (dropC 1 c)) 0)) (1 : Int))
 (iteB (NO (asS (nthD (takeC (Nat.mul (lapN (1 : Int) (lenI n)) 1) (dropC 1 c)) 0)) (1 : Int))
 (iteB (notB (ltI (1 : Int) (lenI (lapN (1 : Int) (lenI n)))))
 (some ((Value.tuple (Array.mk [(Value.int IntKind.i64 (0 : Int)), (Value.string s), (Value.pointer (Option.some (Addr.mk 0 0 none))), (Value.bool Bool.false), (Value.int IntKind.i64 (0 : Int)), (Value.iface 18446744073709551617 (Value.agg (Array.mk ((Value.slice none n b) :: c)))), (Value.pointer (Option.some (Addr.mk 2 0 none)))])), (mkSt [(Blk.cells [(Value.int IntKind.i64 (0 : Int)), (Value.int IntKind.i64 (0 : Int)), (Value.int IntKind.i64 (0 : Int)), (Value.int IntKind.i64 (0 : Int)), (Value.string (ByteArray.mk #[])), (Value.slice none 0 0)] 24 Bool.true), (Blk.map kkForms 12), (Blk.miter (Option.some 1) 12 (0 :: se) 12)])))
 (needB (Bool.and (Nat.beq 1 1) (cutI (1 : Int) (lenI (lapN (1 : Int) (lenI n))) (lapN (1 : Int) (lenI n))))
 (needB (OC [(Value.iface 18446744073709551617 (Value.agg (Array.mk ((Value.slice none (lapN (1 : Int) (lenI (lapN (1 : Int) (lenI n)))) (capS (capS b 1) 1)) :: (takeC (Nat.mul (lapN (1 : Int) (lenI (lapN (1 : Int) (lenI n)))) 1) (dropC 1 (takeC (Nat.mul (lapN (1 : Int) (lenI n)) 1) (dropC 1 c))))))))] [])
 (needB (Bool.and (Nat.beq 1 1) (cutI (0 : Int) (2 : Int) (lapN (1 : Int) (lenI n))))
 (iteB (notB ob)
 (some ((Value.tuple (Array.mk [(Value.int IntKind.i64 (0 : Int)), (Value.string s), (Value.pointer (Option.some (Addr.mk 0 0 none))), (Value.bool Bool.false), (Value.int IntKind.i64 (0 : Int)), (Value.iface 18446744073709551617 (Value.agg (Array.mk ((Value.slice none n b) :: c)))), (Value.pointer (Option.some (Addr.mk 2 0 none)))])), (mkSt [(Blk.cells [(Value.int IntKind.i64 (0 : Int)), (Value.int IntKind.i64 (0 : Int)), (Value.int IntKind.i64 (0 : Int)), (Value.int IntKind.i64 (0 : Int)), (Value.string (ByteArray.mk #[])), (Value.slice none 0 0)] 24 Bool.true), (Blk.map kkForms 12), (Blk.miter (Option.some 1) 12 (0 :: se) 12)])))
 (some ((Value.tuple (Array.mk [(Value.int IntKind.i64 (-1 : Int)), (Value.string s), (Value.pointer (Option.some (Addr.mk 0 0 none))), (Value.bool Bool.true), (Value.int IntKind.i64 (0 : Int)), (Value.iface 18446744073709551617 (Value.agg (Array.mk ((Value.slice none n b) :: c)))), (Value.pointer (Option.some (Addr.mk 2 0 none)))])), (mkSt [(Blk.cells [(Value.int IntKind.i64 (1 : Int)), (Value.int IntKind.i64 (NV (asS (nthD (takeC (Nat.mul (lapN (1 : Int) (lenI n)) 1) (dropC 1 c)) 0)))), (Value.int IntKind.i64 (0 : Int)), (Value.int IntKind.i64 (0 : Int)), (Value.string (ByteArray.mk #[])), (Value.iface 18446744073709551619 (Value.agg (Array.mk ((Value.slice none on 0) :: oc))))] 24 Bool.true), (Blk.map kkForms 12), (Blk.miter (Option.some 1) 12 (0 :: se) 12)]))))))))
 (some ((Value.tuple (Array.mk [(Value.int IntKind.i64 (0 : Int)), (Value.string s), (Value.pointer (Option.some (Addr.mk 0 0 none))), (Value.bool Bool.false), (Value.int IntKind.i64 (0 : Int)), (Value.iface 18446744073709551617 (Value.agg (Array.mk ((Value.slice none n b) :: c)))), (Value.pointer (Option.some (Addr.mk 2 0 none)))])), (mkSt [(Blk.cells [(Value.int IntKind.i64 (0 : Int)), (Value.int IntKind.i64 (0 : Int)), (Value.int IntKind.i64 (0 : Int)), (Value.int IntKind.i64 (0 : Int)), (Value.string (ByteArray.mk #[])), (Value.slice none 0 0)] 24 Bool.true), (Blk.map kkForms 12), (Blk.miter (Option.some 1) 12 (0 :: se) 12)])))))))))
 (some ((Value.tuple (Array.mk [(Value.int IntKind.i64 (0 : Int)), (Value.string s), (Value.pointer (Option.some (Addr.mk 0 0 none))), (Value.bool Bool.false), (Value.int IntKind.i64 (0 : Int)), (Value.iface 18446744073709551617 (Value.agg (Array.mk ((Value.slice none n b) :: c)))), (Value.pointer (Option.some (Addr.mk 2 0 none)))])), (mkSt [(Blk.cells [(Value.int IntKind.i64 (0 : Int)), (Value.int IntKind.i64 (0 : Int)), (Value.int IntKind.i64 (0 : Int)), (Value.int IntKind.i64 (0 : Int)), (Value.string (ByteArray.mk #[])), (Value.slice none 0 0)] 24 Bool.true), (Blk.map kkForms 12), (Blk.miter (Option.some 1) 12 (0 :: se) 12)])))))) := by kernel_rfl
theorem dec_li2 (NC NO : ByteArray → Int → Bool) (NV : ByteArray → Int) (KC KO : ByteArray → Bool) (KV : ByteArray → ByteArray) (OC : List Value → List Blk → Bool) (on : Nat) (oc : List Value) (ob : Bool) (s : ByteArray) (n b : Nat) (c : List Value) (se : List Nat) : pickQ P E (ctLv NC NO NV KC KO KV OC (mkFz 3 on 0 oc) ob) 50 6 Bli Hli (liV s n b c) (liB act0 (.map kkForms 12) (.miter (some 1) 12 (1 :: se) 12)) (.int .i64 2) (formV ⟨#[114, 101, 97, 100]⟩ ⟨#[110, 107]⟩) =
 (needB (Bool.and (Nat.beq 1 1) (inI (0 : Int) n))
 (needB (Bool.and (Nat.ble 1 (List.length c)) (etaB Eta.string (nthD c 0)))
 (iteB (eqS (ByteArray.mk #[114, 101, 97, 100]) (asS (nthD c 0)))
 (needB (Bool.and (Nat.beq 1 1) (cutI (1 : Int) (lenI n) n))
 (iteB (notB (ltI (0 : Int) (lenI (lapN (1 : Int) (lenI n)))))
 (some ((Value.tuple (Array.mk [(Value.int IntKind.i64 (0 : Int)), (Value.string s), (Value.pointer (Option.some (Addr.mk 0 0 none))), (Value.bool Bool.false), (Value.int IntKind.i64 (0 : Int)), (Value.iface 18446744073709551617 (Value.agg (Array.mk ((Value.slice none n b) :: c)))), (Value.pointer (Option.some (Addr.mk 2 0 none)))])), (mkSt [(Blk.cells [(Value.int IntKind.i64 (0 : Int)), (Value.int IntKind.i64 (0 : Int)), (Value.int IntKind.i64 (0 : Int)), (Value.int IntKind.i64 (0 : Int)), (Value.string (ByteArray.mk #[])), (Value.slice none 0 0)] 24 Bool.true), (Blk.map kkForms 12), (Blk.miter (Option.some 1) 12 (1 :: se) 12)])))
 (needB (Bool.and (Nat.beq 1 1) (inI (0 : Int) (lapN (1 : Int) (lenI n))))
 (needB (Bool.and (Nat.ble 1 (List.length (takeC (Nat.mul (lapN (1 : Int) (lenI n)) 1) (dropC 1 c)))) (etaB Eta.string (nthD (takeC (Nat.mul (lapN (1 : Int) (lenI n)) 1) (dropC 1 c)) 0)))
 (needB (NC (asS (nthD (takeC (Nat.mul (lapN (1 : Int) (lenI n)) 1) (dropC 1 c)) 0)) (1 : Int))
 (iteB (NO (asS (nthD (takeC (Nat.mul (lapN (1 : Int) (lenI n)) 1) (dropC 1 c)) 0)) (1 : Int))
 (iteB (notB (ltI (1 : Int) (lenI (lapN (1 : Int) (lenI n)))))
 (some ((Value.tuple (Array.mk [(Value.int IntKind.i64 (0 : Int)), (Value.string s), (Value.pointer (Option.some (Addr.mk 0 0 none))), (Value.bool Bool.false), (Value.int IntKind.i64 (0 : Int)), (Value.iface 18446744073709551617 (Value.agg (Array.mk ((Value.slice none n b) :: c)))), (Value.pointer (Option.some (Addr.mk 2 0 none)))])), (mkSt [(Blk.cells [(Value.int IntKind.i64 (0 : Int)), (Value.int IntKind.i64 (0 : Int)), (Value.int IntKind.i64 (0 : Int)), (Value.int IntKind.i64 (0 : Int)), (Value.string (ByteArray.mk #[])), (Value.slice none 0 0)] 24 Bool.true), (Blk.map kkForms 12), (Blk.miter (Option.some 1) 12 (1 :: se) 12)])))
 (needB (Bool.and (Nat.beq 1 1) (inI (1 : Int) (lapN (1 : Int) (lenI n))))
 (needB (Bool.and (Nat.ble 2 (List.length (takeC (Nat.mul (lapN (1 : Int) (lenI n)) 1) (dropC 1 c)))) (etaB Eta.string (nthD (takeC (Nat.mul (lapN (1 : Int) (lenI n)) 1) (dropC 1 c)) 1)))
 (needB (KC (asS (nthD (takeC (Nat.mul (lapN (1 : Int) (lenI n)) 1) (dropC 1 c)) 1)))
 (iteB (notB (KO (asS (nthD (takeC (Nat.mul (lapN (1 : Int) (lenI n)) 1) (dropC 1 c)) 1))))
 (some ((Value.tuple (Array.mk [(Value.int IntKind.i64 (0 : Int)), (Value.string s), (Value.pointer (Option.some (Addr.mk 0 0 none))), (Value.bool Bool.false), (Value.int IntKind.i64 (0 : Int)), (Value.iface 18446744073709551617 (Value.agg (Array.mk ((Value.slice none n b) :: c)))), (Value.pointer (Option.some (Addr.mk 2 0 none)))])), (mkSt [(Blk.cells [(Value.int IntKind.i64 (0 : Int)), (Value.int IntKind.i64 (0 : Int)), (Value.int IntKind.i64 (0 : Int)), (Value.int IntKind.i64 (0 : Int)), (Value.string (ByteArray.mk #[])), (Value.slice none 0 0)] 24 Bool.true), (Blk.map kkForms 12), (Blk.miter (Option.some 1) 12 (1 :: se) 12)])))
 (iteB (eqI (lenI (lapN (1 : Int) (lenI n))) (2 : Int))
 (some ((Value.tuple (Array.mk [(Value.int IntKind.i64 (-1 : Int)), (Value.string s), (Value.pointer (Option.some (Addr.mk 0 0 none))), (Value.bool Bool.true), (Value.int IntKind.i64 (0 : Int)), (Value.iface 18446744073709551617 (Value.agg (Array.mk ((Value.slice none n b) :: c)))), (Value.pointer (Option.some (Addr.mk 2 0 none)))])), (mkSt [(Blk.cells [(Value.int IntKind.i64 (2 : Int)), (Value.int IntKind.i64 (NV (asS (nthD (takeC (Nat.mul (lapN (1 : Int) (lenI n)) 1) (dropC 1 c)) 0)))), (Value.int IntKind.i64 (0 : Int)), (Value.int IntKind.i64 (0 : Int)), (Value.string (KV (asS (nthD (takeC (Nat.mul (lapN (1 : Int) (lenI n)) 1) (dropC 1 c)) 1)))), (Value.slice none 0 0)] 24 Bool.true), (Blk.map kkForms 12), (Blk.miter (Option.some 1) 12 (1 :: se) 12)])))
 (some ((Value.tuple (Array.mk [(Value.int IntKind.i64 (0 : Int)), (Value.string s), (Value.pointer (Option.some (Addr.mk 0 0 none))), (Value.bool Bool.false), (Value.int IntKind.i64 (0 : Int)), (Value.iface 18446744073709551617 (Value.agg (Array.mk ((Value.slice none n b) :: c)))), (Value.pointer (Option.some (Addr.mk 2 0 none)))])), (mkSt [(Blk.cells [(Value.int IntKind.i64 (0 : Int)), (Value.int IntKind.i64 (0 : Int)), (Value.int IntKind.i64 (0 : Int)), (Value.int IntKind.i64 (0 : Int)), (Value.string (ByteArray.mk #[])), (Value.slice none 0 0)] 24 Bool.true), (Blk.map kkForms 12), (Blk.miter (Option.some 1) 12 (1 :: se) 12)])))))))))
 (some ((Value.tuple (Array.mk [(Value.int IntKind.i64 (0 : Int)), (Value.string s), (Value.pointer (Option.some (Addr.mk 0 0 none))), (Value.bool Bool.false), (Value.int IntKind.i64 (0 : Int)), (Value.iface 18446744073709551617 (Value.agg (Array.mk ((Value.slice none n b) :: c)))), (Value.pointer (Option.some (Addr.mk 2 0 none)))])), (mkSt [(Blk.cells [(Value.int IntKind.i64 (0 : Int)), (Value.int IntKind.i64 (0 : Int)), (Value.int IntKind.i64 (0 : Int)), (Value.int IntKind.i64 (0 : Int)), (Value.string (ByteArray.mk #[])), (Value.slice none 0 0)] 24 Bool.true), (Blk.map kkForms 12), (Blk.miter (Option.some 1) 12 (1 :: se) 12)])))))))))
 (some ((Value.tuple (Array.mk [(Value.int IntKind.i64 (0 : Int)), (Value.string s), (Value.pointer (Option.some (Addr.mk 0 0 none))), (Value.bool Bool.false), (Value.int IntKind.i64 (0 : Int)), (Value.iface 18446744073709551617 (Value.agg (Array.mk ((Value.slice none n b) :: c)))), (Value.pointer (Option.some (Addr.mk 2 0 none)))])), (mkSt [(Blk.cells [(Value.int IntKind.i64 (0 : Int)), (Value.int IntKind.i64 (0 : Int)), (Value.int IntKind.i64 (0 : Int)), (Value.int IntKind.i64 (0 : Int)), (Value.string (ByteArray.mk #[])), (Value.slice none 0 0)] 24 Bool.true), (Blk.map kkForms 12), (Blk.miter (Option.some 1) 12 (1 :: se) 12)])))))) := by kernel_rfl
noncomputable def treeN (NC NO : ByteArray → Int → Bool) (NV : ByteArray → Int) (KC KO : ByteArray → Bool) (KV : ByteArray → ByteArray) (OC : List Value → List Blk → Bool) (on : Nat) (oc : List Value) (ob : Bool) (s : ByteArray) (n b : Nat) (c : List Value) (se : List Nat) (W : ByteArray) (kd : Int) (sq : List Nat) : Res :=
 (needB (Bool.and (Nat.beq 1 1) (inI (0 : Int) n))
 (needB (Bool.and (Nat.ble 1 (List.length c)) (etaB Eta.string (nthD c 0)))
 (iteB (eqS W (asS (nthD c 0)))
 (needB (Bool.and (Nat.beq 1 1) (cutI (1 : Int) (lenI n) n))
 (iteB (notB (ltI (0 : Int) (lenI (lapN (1 : Int) (lenI n)))))
 (some ((Value.tuple (Array.mk [(Value.int IntKind.i64 (0 : Int)), (Value.string s), (Value.pointer (Option.some (Addr.mk 0 0 none))), (Value.bool Bool.false), (Value.int IntKind.i64 (0 : Int)), (Value.iface 18446744073709551617 (Value.agg (Array.mk ((Value.slice none n b) :: c)))), (Value.pointer (Option.some (Addr.mk 2 0 none)))])), (mkSt [(Blk.cells [(Value.int IntKind.i64 (0 : Int)), (Value.int IntKind.i64 (0 : Int)), (Value.int IntKind.i64 (0 : Int)), (Value.int IntKind.i64 (0 : Int)), (Value.string (ByteArray.mk #[])), (Value.slice none 0 0)] 24 Bool.true), (Blk.map kkForms 12), (Blk.miter (Option.some 1) 12 sq 12)])))
 (needB (Bool.and (Nat.beq 1 1) (inI (0 : Int) (lapN (1 : Int) (lenI n))))
 (needB (Bool.and (Nat.ble 1 (List.length (takeC (Nat.mul (lapN (1 : Int) (lenI n)) 1) (dropC 1 c)))) (etaB Eta.string (nthD (takeC (Nat.mul (lapN (1 : Int) (lenI n)) 1) (dropC 1 c)) 0)))
 (needB (NC (asS (nthD (takeC (Nat.mul (lapN (1 : Int) (lenI n)) 1) (dropC 1 c)) 0)) (1 : Int))
 (iteB (NO (asS (nthD (takeC (Nat.mul (lapN (1 : Int) (lenI n)) 1) (dropC 1 c)) 0)) (1 : Int))
 (iteB (eqI (lenI (lapN (1 : Int) (lenI n))) (1 : Int))
 (some ((Value.tuple (Array.mk [(Value.int IntKind.i64 (-1 : Int)), (Value.string s), (Value.pointer (Option.some (Addr.mk 0 0 none))), (Value.bool Bool.true), (Value.int IntKind.i64 (0 : Int)), (Value.iface 18446744073709551617 (Value.agg (Array.mk ((Value.slice none n b) :: c)))), (Value.pointer (Option.some (Addr.mk 2 0 none)))])), (mkSt [(Blk.cells [(Value.int IntKind.i64 kd), (Value.int IntKind.i64 (NV (asS (nthD (takeC (Nat.mul (lapN (1 : Int) (lenI n)) 1) (dropC 1 c)) 0)))), (Value.int IntKind.i64 (0 : Int)), (Value.int IntKind.i64 (0 : Int)), (Value.string (ByteArray.mk #[])), (Value.slice none 0 0)] 24 Bool.true), (Blk.map kkForms 12), (Blk.miter (Option.some 1) 12 sq 12)])))
 (some ((Value.tuple (Array.mk [(Value.int IntKind.i64 (0 : Int)), (Value.string s), (Value.pointer (Option.some (Addr.mk 0 0 none))), (Value.bool Bool.false), (Value.int IntKind.i64 (0 : Int)), (Value.iface 18446744073709551617 (Value.agg (Array.mk ((Value.slice none n b) :: c)))), (Value.pointer (Option.some (Addr.mk 2 0 none)))])), (mkSt [(Blk.cells [(Value.int IntKind.i64 (0 : Int)), (Value.int IntKind.i64 (0 : Int)), (Value.int IntKind.i64 (0 : Int)), (Value.int IntKind.i64 (0 : Int)), (Value.string (ByteArray.mk #[])), (Value.slice none 0 0)] 24 Bool.true), (Blk.map kkForms 12), (Blk.miter (Option.some 1) 12 sq 12)]))))
 (some ((Value.tuple (Array.mk [(Value.int IntKind.i64 (0 : Int)), (Value.string s), (Value.pointer (Option.some (Addr.mk 0 0 none))), (Value.bool Bool.false), (Value.int IntKind.i64 (0 : Int)), (Value.iface 18446744073709551617 (Value.agg (Array.mk ((Value.slice none n b) :: c)))), (Value.pointer (Option.some (Addr.mk 2 0 none)))])), (mkSt [(Blk.cells [(Value.int IntKind.i64 (0 : Int)), (Value.int IntKind.i64 (0 : Int)), (Value.int IntKind.i64 (0 : Int)), (Value.int IntKind.i64 (0 : Int)), (Value.string (ByteArray.mk #[])), (Value.slice none 0 0)] 24 Bool.true), (Blk.map kkForms 12), (Blk.miter (Option.some 1) 12 sq 12)])))))))))
 (some ((Value.tuple (Array.mk [(Value.int IntKind.i64 (0 : Int)), (Value.string s), (Value.pointer (Option.some (Addr.mk 0 0 none))), (Value.bool Bool.false), (Value.int IntKind.i64 (0 : Int)), (Value.iface 18446744073709551617 (Value.agg (Array.mk ((Value.slice none n b) :: c)))), (Value.pointer (Option.some (Addr.mk 2 0 none)))])), (mkSt [(Blk.cells [(Value.int IntKind.i64 (0 : Int)), (Value.int IntKind.i64 (0 : Int)), (Value.int IntKind.i64 (0 : Int)), (Value.int IntKind.i64 (0 : Int)), (Value.string (ByteArray.mk #[])), (Value.slice none 0 0)] 24 Bool.true), (Blk.map kkForms 12), (Blk.miter (Option.some 1) 12 sq 12)]))))))
theorem dec_li3 (NC NO : ByteArray → Int → Bool) (NV : ByteArray → Int) (KC KO : ByteArray → Bool) (KV : ByteArray → ByteArray) (OC : List Value → List Blk → Bool) (on : Nat) (oc : List Value) (ob : Bool) (s : ByteArray) (n b : Nat) (c : List Value) (se : List Nat) : pickQ P E (ctLv NC NO NV KC KO KV OC (mkFz 3 on 0 oc) ob) 50 6 Bli Hli (liV s n b c) (liB act0 (.map kkForms 12) (.miter (some 1) 12 (2 :: se) 12)) (.int .i64 3) (formV ⟨#[116, 105, 99, 107]⟩ ⟨#[110]⟩) = treeN NC NO NV KC KO KV OC on oc ob s n b c se (ByteArray.mk #[116, 105, 99, 107]) (3 : Int) (2 :: se) := by kernel_rfl
theorem dec_li4 (NC NO : ByteArray → Int → Bool) (NV : ByteArray → Int) (KC KO : ByteArray → Bool) (KV : ByteArray → ByteArray) (OC : List Value → List Blk → Bool) (on : Nat) (oc : List Value) (ob : Bool) (s : ByteArray) (n b : Nat) (c : List Value) (se : List Nat) : pickQ P E (ctLv NC NO NV KC KO KV OC (mkFz 3 on 0 oc) ob) 50 6 Bli Hli (liV s n b c) (liB act0 (.map kkForms 12) (.miter (some 1) 12 (3 :: se) 12)) (.int .i64 4) (formV ⟨#[112, 114, 111, 109, 111, 116, 101]⟩ ⟨#[110]⟩) = treeN NC NO NV KC KO KV OC on oc ob s n b c se (ByteArray.mk #[112, 114, 111, 109, 111, 116, 101]) 4 (3 :: se) := by kernel_rfl
theorem dec_li5 (NC NO : ByteArray → Int → Bool) (NV : ByteArray → Int) (KC KO : ByteArray → Bool) (KV : ByteArray → ByteArray) (OC : List Value → List Blk → Bool) (on : Nat) (oc : List Value) (ob : Bool) (s : ByteArray) (n b : Nat) (c : List Value) (se : List Nat) : pickQ P E (ctLv NC NO NV KC KO KV OC (mkFz 3 on 0 oc) ob) 50 6 Bli Hli (liV s n b c) (liB act0 (.map kkForms 12) (.miter (some 1) 12 (4 :: se) 12)) (.int .i64 5) (formV ⟨#[102, 108, 117, 115, 104]⟩ ⟨#[110]⟩) = treeN NC NO NV KC KO KV OC on oc ob s n b c se (ByteArray.mk #[102, 108, 117, 115, 104]) 5 (4 :: se) := by kernel_rfl
noncomputable def treeA (NC NO : ByteArray → Int → Bool) (NV : ByteArray → Int) (KC KO : ByteArray → Bool) (KV : ByteArray → ByteArray) (OC : List Value → List Blk → Bool) (on : Nat) (oc : List Value) (ob : Bool) (s : ByteArray) (n b : Nat) (c : List Value) (se : List Nat) (W : ByteArray) (kd : Int) (sq : List Nat) : Res :=
 (needB (Bool.and (Nat.beq 1 1) (inI (0 : Int) n))
 (needB (Bool.and (Nat.ble 1 (List.length c)) (etaB Eta.string (nthD c 0)))
 (iteB (eqS W (asS (nthD c 0)))
 (needB (Bool.and (Nat.beq 1 1) (cutI (1 : Int) (lenI n) n))
 (iteB (notB (ltI (0 : Int) (lenI (lapN (1 : Int) (lenI n)))))
 (some ((Value.tuple (Array.mk [(Value.int IntKind.i64 (0 : Int)), (Value.string s), (Value.pointer (Option.some (Addr.mk 0 0 none))), (Value.bool Bool.false), (Value.int IntKind.i64 (0 : Int)), (Value.iface 18446744073709551617 (Value.agg (Array.mk ((Value.slice none n b) :: c)))), (Value.pointer (Option.some (Addr.mk 2 0 none)))])), (mkSt [(Blk.cells [(Value.int IntKind.i64 (0 : Int)), (Value.int IntKind.i64 (0 : Int)), (Value.int IntKind.i64 (0 : Int)), (Value.int IntKind.i64 (0 : Int)), (Value.string (ByteArray.mk #[])), (Value.slice none 0 0)] 24 Bool.true), (Blk.map kkForms 12), (Blk.miter (Option.some 1) 12 sq 12)])))
 (needB (Bool.and (Nat.beq 1 1) (inI (0 : Int) (lapN (1 : Int) (lenI n))))
 (needB (Bool.and (Nat.ble 1 (List.length (takeC (Nat.mul (lapN (1 : Int) (lenI n)) 1) (dropC 1 c)))) (etaB Eta.string (nthD (takeC (Nat.mul (lapN (1 : Int) (lenI n)) 1) (dropC 1 c)) 0)))
 (needB (NC (asS (nthD (takeC (Nat.mul (lapN (1 : Int) (lenI n)) 1) (dropC 1 c)) 0)) (999999999 : Int))
 (iteB (NO (asS (nthD (takeC (Nat.mul (lapN (1 : Int) (lenI n)) 1) (dropC 1 c)) 0)) (999999999 : Int))
 (iteB (eqI (lenI (lapN (1 : Int) (lenI n))) (1 : Int))
 (some ((Value.tuple (Array.mk [(Value.int IntKind.i64 (-1 : Int)), (Value.string s), (Value.pointer (Option.some (Addr.mk 0 0 none))), (Value.bool Bool.true), (Value.int IntKind.i64 (0 : Int)), (Value.iface 18446744073709551617 (Value.agg (Array.mk ((Value.slice none n b) :: c)))), (Value.pointer (Option.some (Addr.mk 2 0 none)))])), (mkSt [(Blk.cells [(Value.int IntKind.i64 kd), (Value.int IntKind.i64 (0 : Int)), (Value.int IntKind.i64 (NV (asS (nthD (takeC (Nat.mul (lapN (1 : Int) (lenI n)) 1) (dropC 1 c)) 0)))), (Value.int IntKind.i64 (0 : Int)), (Value.string (ByteArray.mk #[])), (Value.slice none 0 0)] 24 Bool.true), (Blk.map kkForms 12), (Blk.miter (Option.some 1) 12 sq 12)])))
 (some ((Value.tuple (Array.mk [(Value.int IntKind.i64 (0 : Int)), (Value.string s), (Value.pointer (Option.some (Addr.mk 0 0 none))), (Value.bool Bool.false), (Value.int IntKind.i64 (0 : Int)), (Value.iface 18446744073709551617 (Value.agg (Array.mk ((Value.slice none n b) :: c)))), (Value.pointer (Option.some (Addr.mk 2 0 none)))])), (mkSt [(Blk.cells [(Value.int IntKind.i64 (0 : Int)), (Value.int IntKind.i64 (0 : Int)), (Value.int IntKind.i64 (0 : Int)), (Value.int IntKind.i64 (0 : Int)), (Value.string (ByteArray.mk #[])), (Value.slice none 0 0)] 24 Bool.true), (Blk.map kkForms 12), (Blk.miter (Option.some 1) 12 sq 12)]))))
 (some ((Value.tuple (Array.mk [(Value.int IntKind.i64 (0 : Int)), (Value.string s), (Value.pointer (Option.some (Addr.mk 0 0 none))), (Value.bool Bool.false), (Value.int IntKind.i64 (0 : Int)), (Value.iface 18446744073709551617 (Value.agg (Array.mk ((Value.slice none n b) :: c)))), (Value.pointer (Option.some (Addr.mk 2 0 none)))])), (mkSt [(Blk.cells [(Value.int IntKind.i64 (0 : Int)), (Value.int IntKind.i64 (0 : Int)), (Value.int IntKind.i64 (0 : Int)), (Value.int IntKind.i64 (0 : Int)), (Value.string (ByteArray.mk #[])), (Value.slice none 0 0)] 24 Bool.true), (Blk.map kkForms 12), (Blk.miter (Option.some 1) 12 sq 12)])))))))))
 (some ((Value.tuple (Array.mk [(Value.int IntKind.i64 (0 : Int)), (Value.string s), (Value.pointer (Option.some (Addr.mk 0 0 none))), (Value.bool Bool.false), (Value.int IntKind.i64 (0 : Int)), (Value.iface 18446744073709551617 (Value.agg (Array.mk ((Value.slice none n b) :: c)))), (Value.pointer (Option.some (Addr.mk 2 0 none)))])), (mkSt [(Blk.cells [(Value.int IntKind.i64 (0 : Int)), (Value.int IntKind.i64 (0 : Int)), (Value.int IntKind.i64 (0 : Int)), (Value.int IntKind.i64 (0 : Int)), (Value.string (ByteArray.mk #[])), (Value.slice none 0 0)] 24 Bool.true), (Blk.map kkForms 12), (Blk.miter (Option.some 1) 12 sq 12)]))))))
theorem dec_li6 (NC NO : ByteArray → Int → Bool) (NV : ByteArray → Int) (KC KO : ByteArray → Bool) (KV : ByteArray → ByteArray) (OC : List Value → List Blk → Bool) (on : Nat) (oc : List Value) (ob : Bool) (s : ByteArray) (n b : Nat) (c : List Value) (se : List Nat) : pickQ P E (ctLv NC NO NV KC KO KV OC (mkFz 3 on 0 oc) ob) 50 6 Bli Hli (liV s n b c) (liB act0 (.map kkForms 12) (.miter (some 1) 12 (5 :: se) 12)) (.int .i64 6) (formV ⟨#[100, 101, 108, 105, 118, 101, 114]⟩ ⟨#[97]⟩) = treeA NC NO NV KC KO KV OC on oc ob s n b c se (ByteArray.mk #[100, 101, 108, 105, 118, 101, 114]) (6 : Int) (5 :: se) := by kernel_rfl
theorem dec_li7 (NC NO : ByteArray → Int → Bool) (NV : ByteArray → Int) (KC KO : ByteArray → Bool) (KV : ByteArray → ByteArray) (OC : List Value → List Blk → Bool) (on : Nat) (oc : List Value) (ob : Bool) (s : ByteArray) (n b : Nat) (c : List Value) (se : List Nat) : pickQ P E (ctLv NC NO NV KC KO KV OC (mkFz 3 on 0 oc) ob) 50 6 Bli Hli (liV s n b c) (liB act0 (.map kkForms 12) (.miter (some 1) 12 (6 :: se) 12)) (.int .i64 7) (formV ⟨#[116, 119, 105, 99, 101]⟩ ⟨#[97]⟩) = treeA NC NO NV KC KO KV OC on oc ob s n b c se (ByteArray.mk #[116, 119, 105, 99, 101]) 7 (6 :: se) := by kernel_rfl
theorem dec_li8 (NC NO : ByteArray → Int → Bool) (NV : ByteArray → Int) (KC KO : ByteArray → Bool) (KV : ByteArray → ByteArray) (OC : List Value → List Blk → Bool) (on : Nat) (oc : List Value) (ob : Bool) (s : ByteArray) (n b : Nat) (c : List Value) (se : List Nat) : pickQ P E (ctLv NC NO NV KC KO KV OC (mkFz 3 on 0 oc) ob) 50 6 Bli Hli (liV s n b c) (liB act0 (.map kkForms 12) (.miter (some 1) 12 (7 :: se) 12)) (.int .i64 8) (formV ⟨#[100, 114, 111, 112]⟩ ⟨#[97]⟩) = treeA NC NO NV KC KO KV OC on oc ob s n b c se (ByteArray.mk #[100, 114, 111, 112]) 8 (7 :: se) := by kernel_rfl
theorem dec_li9 (NC NO : ByteArray → Int → Bool) (NV : ByteArray → Int) (KC KO : ByteArray → Bool) (KV : ByteArray → ByteArray) (OC : List Value → List Blk → Bool) (on : Nat) (oc : List Value) (ob : Bool) (s : ByteArray) (n b : Nat) (c : List Value) (se : List Nat) : pickQ P E (ctLv NC NO NV KC KO KV OC (mkFz 3 on 0 oc) ob) 50 6 Bli Hli (liV s n b c) (liB act0 (.map kkForms 12) (.miter (some 1) 12 (8 :: se) 12)) (.int .i64 9) (formV ⟨#[102, 117, 115, 101]⟩ ⟨#[110, 97]⟩) =
 (needB (Bool.and (Nat.beq 1 1) (inI (0 : Int) n))
 (needB (Bool.and (Nat.ble 1 (List.length c)) (etaB Eta.string (nthD c 0)))
 (iteB (eqS (ByteArray.mk #[102, 117, 115, 101]) (asS (nthD c 0)))
 (needB (Bool.and (Nat.beq 1 1) (cutI (1 : Int) (lenI n) n))
 (iteB (notB (ltI (0 : Int) (lenI (lapN (1 : Int) (lenI n)))))
 (some ((Value.tuple (Array.mk [(Value.int IntKind.i64 (0 : Int)), (Value.string s), (Value.pointer (Option.some (Addr.mk 0 0 none))), (Value.bool Bool.false), (Value.int IntKind.i64 (0 : Int)), (Value.iface 18446744073709551617 (Value.agg (Array.mk ((Value.slice none n b) :: c)))), (Value.pointer (Option.some (Addr.mk 2 0 none)))])), (mkSt [(Blk.cells [(Value.int IntKind.i64 (0 : Int)), (Value.int IntKind.i64 (0 : Int)), (Value.int IntKind.i64 (0 : Int)), (Value.int IntKind.i64 (0 : Int)), (Value.string (ByteArray.mk #[])), (Value.slice none 0 0)] 24 Bool.true), (Blk.map kkForms 12), (Blk.miter (Option.some 1) 12 (8 :: se) 12)])))
 (needB (Bool.and (Nat.beq 1 1) (inI (0 : Int) (lapN (1 : Int) (lenI n))))
 (needB (Bool.and (Nat.ble 1 (List.length (takeC (Nat.mul (lapN (1 : Int) (lenI n)) 1) (dropC 1 c)))) (etaB Eta.string (nthD (takeC (Nat.mul (lapN (1 : Int) (lenI n)) 1) (dropC 1 c)) 0)))
 (needB (NC (asS (nthD (takeC (Nat.mul (lapN (1 : Int) (lenI n)) 1) (dropC 1 c)) 0)) (1 : Int))
 (iteB (NO (asS (nthD (takeC (Nat.mul (lapN (1 : Int) (lenI n)) 1) (dropC 1 c)) 0)) (1 : Int))
 (iteB (notB (ltI (1 : Int) (lenI (lapN (1 : Int) (lenI n)))))
 (some ((Value.tuple (Array.mk [(Value.int IntKind.i64 (0 : Int)), (Value.string s), (Value.pointer (Option.some (Addr.mk 0 0 none))), (Value.bool Bool.false), (Value.int IntKind.i64 (0 : Int)), (Value.iface 18446744073709551617 (Value.agg (Array.mk ((Value.slice none n b) :: c)))), (Value.pointer (Option.some (Addr.mk 2 0 none)))])), (mkSt [(Blk.cells [(Value.int IntKind.i64 (0 : Int)), (Value.int IntKind.i64 (0 : Int)), (Value.int IntKind.i64 (0 : Int)), (Value.int IntKind.i64 (0 : Int)), (Value.string (ByteArray.mk #[])), (Value.slice none 0 0)] 24 Bool.true), (Blk.map kkForms 12), (Blk.miter (Option.some 1) 12 (8 :: se) 12)])))
 (needB (Bool.and (Nat.beq 1 1) (inI (1 : Int) (lapN (1 : Int) (lenI n))))
 (needB (Bool.and (Nat.ble 2 (List.length (takeC (Nat.mul (lapN (1 : Int) (lenI n)) 1) (dropC 1 c)))) (etaB Eta.string (nthD (takeC (Nat.mul (lapN (1 : Int) (lenI n)) 1) (dropC 1 c)) 1)))
 (needB (NC (asS (nthD (takeC (Nat.mul (lapN (1 : Int) (lenI n)) 1) (dropC 1 c)) 1)) (999999999 : Int))
 (iteB (NO (asS (nthD (takeC (Nat.mul (lapN (1 : Int) (lenI n)) 1) (dropC 1 c)) 1)) (999999999 : Int))
 (iteB (eqI (lenI (lapN (1 : Int) (lenI n))) (2 : Int))
 (some ((Value.tuple (Array.mk [(Value.int IntKind.i64 (-1 : Int)), (Value.string s), (Value.pointer (Option.some (Addr.mk 0 0 none))), (Value.bool Bool.true), (Value.int IntKind.i64 (0 : Int)), (Value.iface 18446744073709551617 (Value.agg (Array.mk ((Value.slice none n b) :: c)))), (Value.pointer (Option.some (Addr.mk 2 0 none)))])), (mkSt [(Blk.cells [(Value.int IntKind.i64 (9 : Int)), (Value.int IntKind.i64 (NV (asS (nthD (takeC (Nat.mul (lapN (1 : Int) (lenI n)) 1) (dropC 1 c)) 0)))), (Value.int IntKind.i64 (NV (asS (nthD (takeC (Nat.mul (lapN (1 : Int) (lenI n)) 1) (dropC 1 c)) 1)))), (Value.int IntKind.i64 (0 : Int)), (Value.string (ByteArray.mk #[])), (Value.slice none 0 0)] 24 Bool.true), (Blk.map kkForms 12), (Blk.miter (Option.some 1) 12 (8 :: se) 12)])))
 (some ((Value.tuple (Array.mk [(Value.int IntKind.i64 (0 : Int)), (Value.string s), (Value.pointer (Option.some (Addr.mk 0 0 none))), (Value.bool Bool.false), (Value.int IntKind.i64 (0 : Int)), (Value.iface 18446744073709551617 (Value.agg (Array.mk ((Value.slice none n b) :: c)))), (Value.pointer (Option.some (Addr.mk 2 0 none)))])), (mkSt [(Blk.cells [(Value.int IntKind.i64 (0 : Int)), (Value.int IntKind.i64 (0 : Int)), (Value.int IntKind.i64 (0 : Int)), (Value.int IntKind.i64 (0 : Int)), (Value.string (ByteArray.mk #[])), (Value.slice none 0 0)] 24 Bool.true), (Blk.map kkForms 12), (Blk.miter (Option.some 1) 12 (8 :: se) 12)]))))
 (some ((Value.tuple (Array.mk [(Value.int IntKind.i64 (0 : Int)), (Value.string s), (Value.pointer (Option.some (Addr.mk 0 0 none))), (Value.bool Bool.false), (Value.int IntKind.i64 (0 : Int)), (Value.iface 18446744073709551617 (Value.agg (Array.mk ((Value.slice none n b) :: c)))), (Value.pointer (Option.some (Addr.mk 2 0 none)))])), (mkSt [(Blk.cells [(Value.int IntKind.i64 (0 : Int)), (Value.int IntKind.i64 (0 : Int)), (Value.int IntKind.i64 (0 : Int)), (Value.int IntKind.i64 (0 : Int)), (Value.string (ByteArray.mk #[])), (Value.slice none 0 0)] 24 Bool.true), (Blk.map kkForms 12), (Blk.miter (Option.some 1) 12 (8 :: se) 12)]))))))))
 (some ((Value.tuple (Array.mk [(Value.int IntKind.i64 (0 : Int)), (Value.string s), (Value.pointer (Option.some (Addr.mk 0 0 none))), (Value.bool Bool.false), (Value.int IntKind.i64 (0 : Int)), (Value.iface 18446744073709551617 (Value.agg (Array.mk ((Value.slice none n b) :: c)))), (Value.pointer (Option.some (Addr.mk 2 0 none)))])), (mkSt [(Blk.cells [(Value.int IntKind.i64 (0 : Int)), (Value.int IntKind.i64 (0 : Int)), (Value.int IntKind.i64 (0 : Int)), (Value.int IntKind.i64 (0 : Int)), (Value.string (ByteArray.mk #[])), (Value.slice none 0 0)] 24 Bool.true), (Blk.map kkForms 12), (Blk.miter (Option.some 1) 12 (8 :: se) 12)])))))))))
 (some ((Value.tuple (Array.mk [(Value.int IntKind.i64 (0 : Int)), (Value.string s), (Value.pointer (Option.some (Addr.mk 0 0 none))), (Value.bool Bool.false), (Value.int IntKind.i64 (0 : Int)), (Value.iface 18446744073709551617 (Value.agg (Array.mk ((Value.slice none n b) :: c)))), (Value.pointer (Option.some (Addr.mk 2 0 none)))])), (mkSt [(Blk.cells [(Value.int IntKind.i64 (0 : Int)), (Value.int IntKind.i64 (0 : Int)), (Value.int IntKind.i64 (0 : Int)), (Value.int IntKind.i64 (0 : Int)), (Value.string (ByteArray.mk #[])), (Value.slice none 0 0)] 24 Bool.true), (Blk.map kkForms 12), (Blk.miter (Option.some 1) 12 (8 :: se) 12)])))))) := by kernel_rfl
theorem dec_li10 (NC NO : ByteArray → Int → Bool) (NV : ByteArray → Int) (KC KO : ByteArray → Bool) (KV : ByteArray → ByteArray) (OC : List Value → List Blk → Bool) (on : Nat) (oc : List Value) (ob : Bool) (s : ByteArray) (n b : Nat) (c : List Value) (se : List Nat) : pickQ P E (ctLv NC NO NV KC KO KV OC (mkFz 3 on 0 oc) ob) 50 6 Bli Hli (liV s n b c) (liB act0 (.map kkForms 12) (.miter (some 1) 12 (9 :: se) 12)) (.int .i64 10) (formV ⟨#[112, 117, 108, 108]⟩ ⟨#[110]⟩) = treeN NC NO NV KC KO KV OC on oc ob s n b c se (ByteArray.mk #[112, 117, 108, 108]) 10 (9 :: se) := by kernel_rfl
theorem dec_li11 (NC NO : ByteArray → Int → Bool) (NV : ByteArray → Int) (KC KO : ByteArray → Bool) (KV : ByteArray → ByteArray) (OC : List Value → List Blk → Bool) (on : Nat) (oc : List Value) (ob : Bool) (s : ByteArray) (n b : Nat) (c : List Value) (se : List Nat) : pickQ P E (ctLv NC NO NV KC KO KV OC (mkFz 3 on 0 oc) ob) 50 6 Bli Hli (liV s n b c) (liB act0 (.map kkForms 12) (.miter (some 1) 12 (10 :: se) 12)) (.int .i64 11) (formV ⟨#[115, 116, 97, 114, 116]⟩ ⟨#[110, 97, 116]⟩) =
 (needB (Bool.and (Nat.beq 1 1) (inI (0 : Int) n))
 (needB (Bool.and (Nat.ble 1 (List.length c)) (etaB Eta.string (nthD c 0)))
 (iteB (eqS (ByteArray.mk #[115, 116, 97, 114, 116]) (asS (nthD c 0)))
 (needB (Bool.and (Nat.beq 1 1) (cutI (1 : Int) (lenI n) n))
 (iteB (notB (ltI (0 : Int) (lenI (lapN (1 : Int) (lenI n)))))
 (some ((Value.tuple (Array.mk [(Value.int IntKind.i64 (0 : Int)), (Value.string s), (Value.pointer (Option.some (Addr.mk 0 0 none))), (Value.bool Bool.false), (Value.int IntKind.i64 (0 : Int)), (Value.iface 18446744073709551617 (Value.agg (Array.mk ((Value.slice none n b) :: c)))), (Value.pointer (Option.some (Addr.mk 2 0 none)))])), (mkSt [(Blk.cells [(Value.int IntKind.i64 (0 : Int)), (Value.int IntKind.i64 (0 : Int)), (Value.int IntKind.i64 (0 : Int)), (Value.int IntKind.i64 (0 : Int)), (Value.string (ByteArray.mk #[])), (Value.slice none 0 0)] 24 Bool.true), (Blk.map kkForms 12), (Blk.miter (Option.some 1) 12 (10 :: se) 12)])))
 (needB (Bool.and (Nat.beq 1 1) (inI (0 : Int) (lapN (1 : Int) (lenI n))))
 (needB (Bool.and (Nat.ble 1 (List.length (takeC (Nat.mul (lapN (1 : Int) (lenI n)) 1) (dropC 1 c)))) (etaB Eta.string (nthD (takeC (Nat.mul (lapN (1 : Int) (lenI n)) 1) (dropC 1 c)) 0)))
 (needB (NC (asS (nthD (takeC (Nat.mul (lapN (1 : Int) (lenI n)) 1) (dropC 1 c)) 0)) (1 : Int))
 (iteB (NO (asS (nthD (takeC (Nat.mul (lapN (1 : Int) (lenI n)) 1) (dropC 1 c)) 0)) (1 : Int))
 (iteB (notB (ltI (1 : Int) (lenI (lapN (1 : Int) (lenI n)))))
 (some ((Value.tuple (Array.mk [(Value.int IntKind.i64 (0 : Int)), (Value.string s), (Value.pointer (Option.some (Addr.mk 0 0 none))), (Value.bool Bool.false), (Value.int IntKind.i64 (0 : Int)), (Value.iface 18446744073709551617 (Value.agg (Array.mk ((Value.slice none n b) :: c)))), (Value.pointer (Option.some (Addr.mk 2 0 none)))])), (mkSt [(Blk.cells [(Value.int IntKind.i64 (0 : Int)), (Value.int IntKind.i64 (0 : Int)), (Value.int IntKind.i64 (0 : Int)), (Value.int IntKind.i64 (0 : Int)), (Value.string (ByteArray.mk #[])), (Value.slice none 0 0)] 24 Bool.true), (Blk.map kkForms 12), (Blk.miter (Option.some 1) 12 (10 :: se) 12)])))
 (needB (Bool.and (Nat.beq 1 1) (inI (1 : Int) (lapN (1 : Int) (lenI n))))
 (needB (Bool.and (Nat.ble 2 (List.length (takeC (Nat.mul (lapN (1 : Int) (lenI n)) 1) (dropC 1 c)))) (etaB Eta.string (nthD (takeC (Nat.mul (lapN (1 : Int) (lenI n)) 1) (dropC 1 c)) 1)))
 (needB (NC (asS (nthD (takeC (Nat.mul (lapN (1 : Int) (lenI n)) 1) (dropC 1 c)) 1)) (999999999 : Int))
 (iteB (NO (asS (nthD (takeC (Nat.mul (lapN (1 : Int) (lenI n)) 1) (dropC 1 c)) 1)) (999999999 : Int))
 (iteB (notB (ltI (2 : Int) (lenI (lapN (1 : Int) (lenI n)))))
 (some ((Value.tuple (Array.mk [(Value.int IntKind.i64 (0 : Int)), (Value.string s), (Value.pointer (Option.some (Addr.mk 0 0 none))), (Value.bool Bool.false), (Value.int IntKind.i64 (0 : Int)), (Value.iface 18446744073709551617 (Value.agg (Array.mk ((Value.slice none n b) :: c)))), (Value.pointer (Option.some (Addr.mk 2 0 none)))])), (mkSt [(Blk.cells [(Value.int IntKind.i64 (0 : Int)), (Value.int IntKind.i64 (0 : Int)), (Value.int IntKind.i64 (0 : Int)), (Value.int IntKind.i64 (0 : Int)), (Value.string (ByteArray.mk #[])), (Value.slice none 0 0)] 24 Bool.true), (Blk.map kkForms 12), (Blk.miter (Option.some 1) 12 (10 :: se) 12)])))
 (needB (Bool.and (Nat.beq 1 1) (inI (2 : Int) (lapN (1 : Int) (lenI n))))
 (needB (Bool.and (Nat.ble 3 (List.length (takeC (Nat.mul (lapN (1 : Int) (lenI n)) 1) (dropC 1 c)))) (etaB Eta.string (nthD (takeC (Nat.mul (lapN (1 : Int) (lenI n)) 1) (dropC 1 c)) 2)))
 (needB (NC (asS (nthD (takeC (Nat.mul (lapN (1 : Int) (lenI n)) 1) (dropC 1 c)) 2)) (999999999 : Int))
 (iteB (NO (asS (nthD (takeC (Nat.mul (lapN (1 : Int) (lenI n)) 1) (dropC 1 c)) 2)) (999999999 : Int))
 (iteB (eqI (lenI (lapN (1 : Int) (lenI n))) (3 : Int))
 (some ((Value.tuple (Array.mk [(Value.int IntKind.i64 (-1 : Int)), (Value.string s), (Value.pointer (Option.some (Addr.mk 0 0 none))), (Value.bool Bool.true), (Value.int IntKind.i64 (0 : Int)), (Value.iface 18446744073709551617 (Value.agg (Array.mk ((Value.slice none n b) :: c)))), (Value.pointer (Option.some (Addr.mk 2 0 none)))])), (mkSt [(Blk.cells [(Value.int IntKind.i64 (11 : Int)), (Value.int IntKind.i64 (NV (asS (nthD (takeC (Nat.mul (lapN (1 : Int) (lenI n)) 1) (dropC 1 c)) 0)))), (Value.int IntKind.i64 (NV (asS (nthD (takeC (Nat.mul (lapN (1 : Int) (lenI n)) 1) (dropC 1 c)) 1)))), (Value.int IntKind.i64 (NV (asS (nthD (takeC (Nat.mul (lapN (1 : Int) (lenI n)) 1) (dropC 1 c)) 2)))), (Value.string (ByteArray.mk #[])), (Value.slice none 0 0)] 24 Bool.true), (Blk.map kkForms 12), (Blk.miter (Option.some 1) 12 (10 :: se) 12)])))
 (some ((Value.tuple (Array.mk [(Value.int IntKind.i64 (0 : Int)), (Value.string s), (Value.pointer (Option.some (Addr.mk 0 0 none))), (Value.bool Bool.false), (Value.int IntKind.i64 (0 : Int)), (Value.iface 18446744073709551617 (Value.agg (Array.mk ((Value.slice none n b) :: c)))), (Value.pointer (Option.some (Addr.mk 2 0 none)))])), (mkSt [(Blk.cells [(Value.int IntKind.i64 (0 : Int)), (Value.int IntKind.i64 (0 : Int)), (Value.int IntKind.i64 (0 : Int)), (Value.int IntKind.i64 (0 : Int)), (Value.string (ByteArray.mk #[])), (Value.slice none 0 0)] 24 Bool.true), (Blk.map kkForms 12), (Blk.miter (Option.some 1) 12 (10 :: se) 12)]))))
 (some ((Value.tuple (Array.mk [(Value.int IntKind.i64 (0 : Int)), (Value.string s), (Value.pointer (Option.some (Addr.mk 0 0 none))), (Value.bool Bool.false), (Value.int IntKind.i64 (0 : Int)), (Value.iface 18446744073709551617 (Value.agg (Array.mk ((Value.slice none n b) :: c)))), (Value.pointer (Option.some (Addr.mk 2 0 none)))])), (mkSt [(Blk.cells [(Value.int IntKind.i64 (0 : Int)), (Value.int IntKind.i64 (0 : Int)), (Value.int IntKind.i64 (0 : Int)), (Value.int IntKind.i64 (0 : Int)), (Value.string (ByteArray.mk #[])), (Value.slice none 0 0)] 24 Bool.true), (Blk.map kkForms 12), (Blk.miter (Option.some 1) 12 (10 :: se) 12)]))))))))
 (some ((Value.tuple (Array.mk [(Value.int IntKind.i64 (0 : Int)), (Value.string s), (Value.pointer (Option.some (Addr.mk 0 0 none))), (Value.bool Bool.false), (Value.int IntKind.i64 (0 : Int)), (Value.iface 18446744073709551617 (Value.agg (Array.mk ((Value.slice none n b) :: c)))), (Value.pointer (Option.some (Addr.mk 2 0 none)))])), (mkSt [(Blk.cells [(Value.int IntKind.i64 (0 : Int)), (Value.int IntKind.i64 (0 : Int)), (Value.int IntKind.i64 (0 : Int)), (Value.int IntKind.i64 (0 : Int)), (Value.string (ByteArray.mk #[])), (Value.slice none 0 0)] 24 Bool.true), (Blk.map kkForms 12), (Blk.miter (Option.some 1) 12 (10 :: se) 12)]))))))))
 (some ((Value.tuple (Array.mk [(Value.int IntKind.i64 (0 : Int)), (Value.string s), (Value.pointer (Option.some (Addr.mk 0 0 none))), (Value.bool Bool.false), (Value.int IntKind.i64 (0 : Int)), (Value.iface 18446744073709551617 (Value.agg (Array.mk ((Value.slice none n b) :: c)))), (Value.pointer (Option.some (Addr.mk 2 0 none)))])), (mkSt [(Blk.cells [(Value.int IntKind.i64 (0 : Int)), (Value.int IntKind.i64 (0 : Int)), (Value.int IntKind.i64 (0 : Int)), (Value.int IntKind.i64 (0 : Int)), (Value.string (ByteArray.mk #[])), (Value.slice none 0 0)] 24 Bool.true), (Blk.map kkForms 12), (Blk.miter (Option.some 1) 12 (10 :: se) 12)])))))))))
 (some ((Value.tuple (Array.mk [(Value.int IntKind.i64 (0 : Int)), (Value.string s), (Value.pointer (Option.some (Addr.mk 0 0 none))), (Value.bool Bool.false), (Value.int IntKind.i64 (0 : Int)), (Value.iface 18446744073709551617 (Value.agg (Array.mk ((Value.slice none n b) :: c)))), (Value.pointer (Option.some (Addr.mk 2 0 none)))])), (mkSt [(Blk.cells [(Value.int IntKind.i64 (0 : Int)), (Value.int IntKind.i64 (0 : Int)), (Value.int IntKind.i64 (0 : Int)), (Value.int IntKind.i64 (0 : Int)), (Value.string (ByteArray.mk #[])), (Value.slice none 0 0)] 24 Bool.true), (Blk.map kkForms 12), (Blk.miter (Option.some 1) 12 (10 :: se) 12)])))))) := by kernel_rfl
theorem dec_li12 (NC NO : ByteArray → Int → Bool) (NV : ByteArray → Int) (KC KO : ByteArray → Bool) (KV : ByteArray → ByteArray) (OC : List Value → List Blk → Bool) (on : Nat) (oc : List Value) (ob : Bool) (s : ByteArray) (n b : Nat) (c : List Value) (se : List Nat) : pickQ P E (ctLv NC NO NV KC KO KV OC (mkFz 3 on 0 oc) ob) 50 6 Bli Hli (liV s n b c) (liB act0 (.map kkForms 12) (.miter (some 1) 12 (11 :: se) 12)) (.int .i64 12) (formV ⟨#[114, 111, 117, 110, 100]⟩ ⟨#[]⟩) =
 (needB (Bool.and (Nat.beq 1 1) (inI (0 : Int) n))
 (needB (Bool.and (Nat.ble 1 (List.length c)) (etaB Eta.string (nthD c 0)))
 (iteB (eqS (ByteArray.mk #[114, 111, 117, 110, 100]) (asS (nthD c 0)))
 (needB (Bool.and (Nat.beq 1 1) (cutI (1 : Int) (lenI n) n))
 (iteB (eqI (lenI (lapN (1 : Int) (lenI n))) (0 : Int))
 (some ((Value.tuple (Array.mk [(Value.int IntKind.i64 (-1 : Int)), (Value.string s), (Value.pointer (Option.some (Addr.mk 0 0 none))), (Value.bool Bool.true), (Value.int IntKind.i64 (0 : Int)), (Value.iface 18446744073709551617 (Value.agg (Array.mk ((Value.slice none n b) :: c)))), (Value.pointer (Option.some (Addr.mk 2 0 none)))])), (mkSt [(Blk.cells [(Value.int IntKind.i64 (12 : Int)), (Value.int IntKind.i64 (0 : Int)), (Value.int IntKind.i64 (0 : Int)), (Value.int IntKind.i64 (0 : Int)), (Value.string (ByteArray.mk #[])), (Value.slice none 0 0)] 24 Bool.true), (Blk.map kkForms 12), (Blk.miter (Option.some 1) 12 (11 :: se) 12)])))
 (some ((Value.tuple (Array.mk [(Value.int IntKind.i64 (0 : Int)), (Value.string s), (Value.pointer (Option.some (Addr.mk 0 0 none))), (Value.bool Bool.false), (Value.int IntKind.i64 (0 : Int)), (Value.iface 18446744073709551617 (Value.agg (Array.mk ((Value.slice none n b) :: c)))), (Value.pointer (Option.some (Addr.mk 2 0 none)))])), (mkSt [(Blk.cells [(Value.int IntKind.i64 (0 : Int)), (Value.int IntKind.i64 (0 : Int)), (Value.int IntKind.i64 (0 : Int)), (Value.int IntKind.i64 (0 : Int)), (Value.string (ByteArray.mk #[])), (Value.slice none 0 0)] 24 Bool.true), (Blk.map kkForms 12), (Blk.miter (Option.some 1) 12 (11 :: se) 12)])))))
 (some ((Value.tuple (Array.mk [(Value.int IntKind.i64 (0 : Int)), (Value.string s), (Value.pointer (Option.some (Addr.mk 0 0 none))), (Value.bool Bool.false), (Value.int IntKind.i64 (0 : Int)), (Value.iface 18446744073709551617 (Value.agg (Array.mk ((Value.slice none n b) :: c)))), (Value.pointer (Option.some (Addr.mk 2 0 none)))])), (mkSt [(Blk.cells [(Value.int IntKind.i64 (0 : Int)), (Value.int IntKind.i64 (0 : Int)), (Value.int IntKind.i64 (0 : Int)), (Value.int IntKind.i64 (0 : Int)), (Value.string (ByteArray.mk #[])), (Value.slice none 0 0)] 24 Bool.true), (Blk.map kkForms 12), (Blk.miter (Option.some 1) 12 (11 :: se) 12)])))))) := by kernel_rfl
theorem dec_li0 (s : ByteArray) (n b : Nat) (c : List Value) (se : List Nat) : overQ P E ctF 50 6 Bli Hli (liV s n b c) (liB act0 (.map kkForms 12) (.miter (some 1) 12 se 12)) =
 (some ((Value.tuple (Array.mk [(Value.int IntKind.i64 (1 : Int)), (Value.string s), (Value.pointer (Option.some (Addr.mk 0 0 none))), (Value.bool Bool.false), (Value.int IntKind.i64 (0 : Int)), (Value.iface 18446744073709551617 (Value.agg (Array.mk ((Value.slice none n b) :: c)))), (Value.pointer (Option.some (Addr.mk 2 0 none)))])), (mkSt [(Blk.cells [(Value.int IntKind.i64 (0 : Int)), (Value.int IntKind.i64 (0 : Int)), (Value.int IntKind.i64 (0 : Int)), (Value.int IntKind.i64 (0 : Int)), (Value.string (ByteArray.mk #[])), (Value.slice none 0 0)] 24 Bool.true), (Blk.map kkForms 12), (Blk.miter (Option.some 1) 12 se 12)]))) := by kernel_rfl
end Go.VS.Tryz
end

section
namespace Go.VS.Tryz
set_option maxRecDepth 1000000
open Go.VS
structure ActM where
  kind : Int
  node : Int
  n : Int
  t : Int
  key : ByteArray
  ops : List OpM
def actC (a : ActM) (o : Value) : List Value := [.int .i64 a.kind, .int .i64 a.node, .int .i64 a.n, .int .i64 a.t, .string a.key, o]
def nilS : Value := .slice none 0 0
noncomputable def liR (ex : Ex) (s : ByteArray) (ws : List ByteArray) (a : List Value) (th : Bool) (se : List Nat) : Res :=
  some (.tuple ⟨exV ex :: [.string s, .pointer (some ⟨0, 0, none⟩), .bool th, .int .i64 0, fzS ws, .pointer (some ⟨2, 0, none⟩)]⟩, mkSt (liB a (.map kkForms 12) (.miter (some 1) 12 se 12)))
noncomputable def again (s : ByteArray) (ws : List ByteArray) (se : List Nat) : Res := liR .normal s ws act0 false se
noncomputable def found (s : ByteArray) (ws : List ByteArray) (se : List Nat) (a : ActM) (o : Value) : Res := liR .ret s ws (actC a o) true se
theorem numC_of {a : ByteArray} {m : Int} (h : a.size ≤ 4194304) (hm : m ≤ 1000000000) : numC a m = true := by
  unfold numC leI
  rw [szS_of h, decide_eq_true hm]; rfl
section
variable {w0 : ByteArray} {r : List ByteArray}
theorem l_in : inI 0 (w0 :: r).length = true := inI_ok (i := 0) (by simp)
theorem l_cl (l : List ByteArray) : (l.map Value.string).length = l.length := List.length_map ..
theorem l_b1 : Nat.ble 1 (w0 :: r).length = true := Nat.ble_eq_true_of_le (by simp)
theorem l_n0 : nthD ((w0 :: r).map Value.string) 0 = .string w0 := rfl
theorem l_aS (b : ByteArray) : asS (.string b) = b := rfl
theorem l_eS (b : ByteArray) : etaB .string (.string b) = true := rfl
theorem l_cut : cutI 1 (lenI (w0 :: r).length) (w0 :: r).length = true := cutI_ok (by omega) (by unfold lenI; simp only [List.length_cons]; omega) (by unfold lenI; omega)
theorem l_lap : lapN 1 (lenI (w0 :: r).length) = r.length := by simp only [lapN, lenI, List.length_cons]; omega
theorem l_tl : takeC r.length (dropC 1 ((w0 :: r).map Value.string)) = r.map Value.string := cutStr_all (by simp)
theorem l_bb (n : Nat) : Nat.beq n n = true := Nat.beq_refl n
end
theorem len_lt {i : Nat} {l : List ByteArray} (h : i < l.length) : ltI (i : Int) (lenI l.length) = true := by unfold ltI lenI; exact decide_eq_true (by omega)
theorem len_ne {k : Nat} {l : List ByteArray} (h : l.length ≠ k) : eqI (lenI l.length) (k : Int) = false := by unfold eqI lenI; exact decide_eq_false (by omega)
theorem len_ble {k : Nat} {l : List ByteArray} (h : k ≤ l.length) : Nat.ble k l.length = true := Nat.ble_eq_true_of_le h
def SzW (ws : List ByteArray) : Prop := ∀ w ∈ ws, w.size ≤ 4194304
theorem l_not : notB true = false := rfl
noncomputable def resA (s : ByteArray) (ws : List ByteArray) (se : List Nat) : Option (ActM × Value) → Res
  | some p => found s ws se p.1 p.2
  | none => again s ws se
def formN (W : ByteArray) (kd : Int) (w0 : ByteArray) (r : List ByteArray) : Option (ActM × Value) := match eqS W w0, r with
      | true, [a] => (match numOk a 1 with
        | true => some (⟨kd, atoV a, 0, 0, ⟨#[]⟩, []⟩, nilS)
        | _ => none)
      | _, _ => none
def formA (W : ByteArray) (kd : Int) (w0 : ByteArray) (r : List ByteArray) : Option (ActM × Value) := match eqS W w0, r with
      | true, [a] => (match numOk a 999999999 with
        | true => some (⟨kd, 0, atoV a, 0, ⟨#[]⟩, []⟩, nilS)
        | _ => none)
      | _, _ => none
def formNK (W : ByteArray) (kd : Int) (w0 : ByteArray) (r : List ByteArray) : Option (ActM × Value) := match eqS W w0, r with
      | true, [a, b] => (match numOk a 1, keyO b with
        | true, true => some (⟨kd, atoV a, 0, 0, byS b, []⟩, nilS)
        | _, _ => none)
      | _, _ => none
def formNA (W : ByteArray) (kd : Int) (w0 : ByteArray) (r : List ByteArray) : Option (ActM × Value) := match eqS W w0, r with
      | true, [a, b] => (match numOk a 1, numOk b 999999999 with
        | true, true => some (⟨kd, atoV a, atoV b, 0, ⟨#[]⟩, []⟩, nilS)
        | _, _ => none)
      | _, _ => none
def formNAT (W : ByteArray) (kd : Int) (w0 : ByteArray) (r : List ByteArray) : Option (ActM × Value) := match eqS W w0, r with
      | true, [a, b, c] => (match numOk a 1, numOk b 999999999, numOk c 999999999 with
        | true, true, true => some (⟨kd, atoV a, atoV b, atoV c, ⟨#[]⟩, []⟩, nilS)
        | _, _, _ => none)
      | _, _ => none
def form0 (W : ByteArray) (kd : Int) (w0 : ByteArray) (r : List ByteArray) : Option (ActM × Value) := match eqS W w0, r with
      | true, [] => some (⟨kd, 0, 0, 0, ⟨#[]⟩, []⟩, nilS)
      | _, _ => none
theorem treeN_eq {OC : List Value → List Blk → Bool} {on : Nat} {oc : List Value} {ob : Bool} {s w0 : ByteArray} {r : List ByteArray} {se : List Nat} (hs : SzW r) {W : ByteArray} {kd : Int} {sq : List Nat} : treeN numC numOk atoV szS keyO byS OC on oc ob s (w0 :: r).length 0 ((w0 :: r).map Value.string) se W kd sq = resA s (w0 :: r) sq (formN W kd w0 r) := by
  unfold treeN
  unfold resA again found liR formN fzS mkFz
  rw [fzU]
  simp only [l_in, l_cl, l_b1, l_n0, l_aS, l_eS, l_cut, l_lap, mulOne, l_tl, l_bb, Bool.and_self, need_tt]
  cases eqS _ w0 with
  | false => rfl
  | true =>
    match r, hs with
    | [], hs =>
      rfl
    | [a], hs =>
      have h0 := numC_of (m := 1) (hs a (by simp)) (by omega)
      have n0 : nthD ([a].map Value.string) 0 = .string a := rfl
      have i0 : inI 0 [a].length = true := inI_ok (i := 0) (by simp)
      have g0 : ltI 0 (lenI [a].length) = true := len_lt (i := 0) (by simp)
      have b0 : Nat.ble 1 [a].length = true := len_ble (by simp)
      simp only [l_aS, l_eS, l_not, h0, n0, i0, g0, b0, Bool.and_self, need_tt, ite_tt, ite_ff]
      cases numOk a 1 <;> rfl
    | a :: b :: t, hs =>
      have h0 := numC_of (m := 1) (hs a (by simp)) (by omega)
      have n0 : nthD ((a :: b :: t).map Value.string) 0 = .string a := rfl
      have i0 : inI 0 (a :: b :: t).length = true := inI_ok (i := 0) (by simp)
      have g0 : ltI 0 (lenI (a :: b :: t).length) = true := len_lt (i := 0) (by simp)
      have b0 : Nat.ble 1 (a :: b :: t).length = true := len_ble (by simp)
      have e : eqI (lenI (a :: b :: t).length) 1 = false := len_ne (k := 1) (by simp)
      simp only [l_aS, l_eS, l_not, h0, n0, i0, g0, b0, e, Bool.and_self, need_tt, ite_tt, ite_ff]
      cases numOk a 1 <;> rfl
theorem treeA_eq {OC : List Value → List Blk → Bool} {on : Nat} {oc : List Value} {ob : Bool} {s w0 : ByteArray} {r : List ByteArray} {se : List Nat} (hs : SzW r) {W : ByteArray} {kd : Int} {sq : List Nat} : treeA numC numOk atoV szS keyO byS OC on oc ob s (w0 :: r).length 0 ((w0 :: r).map Value.string) se W kd sq = resA s (w0 :: r) sq (formA W kd w0 r) := by
  unfold treeA
  unfold resA again found liR formA fzS mkFz
  rw [fzU]
  simp only [l_in, l_cl, l_b1, l_n0, l_aS, l_eS, l_cut, l_lap, mulOne, l_tl, l_bb, Bool.and_self, need_tt]
  cases eqS _ w0 with
  | false => rfl
  | true =>
    match r, hs with
    | [], hs =>
      rfl
    | [a], hs =>
      have h0 := numC_of (m := 999999999) (hs a (by simp)) (by omega)
      have n0 : nthD ([a].map Value.string) 0 = .string a := rfl
      have i0 : inI 0 [a].length = true := inI_ok (i := 0) (by simp)
      have g0 : ltI 0 (lenI [a].length) = true := len_lt (i := 0) (by simp)
      have b0 : Nat.ble 1 [a].length = true := len_ble (by simp)
      simp only [l_aS, l_eS, l_not, h0, n0, i0, g0, b0, Bool.and_self, need_tt, ite_tt, ite_ff]
      cases numOk a 999999999 <;> rfl
    | a :: b :: t, hs =>
      have h0 := numC_of (m := 999999999) (hs a (by simp)) (by omega)
      have n0 : nthD ((a :: b :: t).map Value.string) 0 = .string a := rfl
      have i0 : inI 0 (a :: b :: t).length = true := inI_ok (i := 0) (by simp)
      have g0 : ltI 0 (lenI (a :: b :: t).length) = true := len_lt (i := 0) (by simp)
      have b0 : Nat.ble 1 (a :: b :: t).length = true := len_ble (by simp)
      have e : eqI (lenI (a :: b :: t).length) 1 = false := len_ne (k := 1) (by simp)
      simp only [l_aS, l_eS, l_not, h0, n0, i0, g0, b0, e, Bool.and_self, need_tt, ite_tt, ite_ff]
      cases numOk a 999999999 <;> rfl
theorem li_1 {OC : List Value → List Blk → Bool} {on : Nat} {oc : List Value} {ob : Bool} {s w0 : ByteArray} {r : List ByteArray} {se : List Nat} (hs : SzW r) : pickQ P E (ctLv numC numOk atoV szS keyO byS OC (mkFz 3 on 0 oc) ob) 50 6 Bli Hli (liV s (w0 :: r).length 0 ((w0 :: r).map Value.string)) (liB act0 (.map kkForms 12) (.miter (some 1) 12 (1 :: se) 12)) (.int .i64 2) (formV ⟨#[114, 101, 97, 100]⟩ ⟨#[110, 107]⟩) = resA s (w0 :: r) (1 :: se) (formNK ⟨#[114, 101, 97, 100]⟩ 2 w0 r) := by
  rw [dec_li2]
  unfold resA again found liR formNK fzS mkFz
  rw [fzU]
  simp only [l_in, l_cl, l_b1, l_n0, l_aS, l_eS, l_cut, l_lap, mulOne, l_tl, l_bb, Bool.and_self, need_tt]
  cases eqS _ w0 with
  | false => rfl
  | true =>
    match r, hs with
    | [], hs =>
      rfl
    | [a], hs =>
      have h0 := numC_of (m := 1) (hs a (by simp)) (by omega)
      have n0 : nthD ([a].map Value.string) 0 = .string a := rfl
      have i0 : inI 0 [a].length = true := inI_ok (i := 0) (by simp)
      have g0 : ltI 0 (lenI [a].length) = true := len_lt (i := 0) (by simp)
      have b0 : Nat.ble 1 [a].length = true := len_ble (by simp)
      simp only [l_aS, l_eS, l_not, h0, n0, i0, g0, b0, Bool.and_self, need_tt, ite_tt, ite_ff]
      cases numOk a 1 <;> rfl
    | [a, b], hs =>
      have h0 := numC_of (m := 1) (hs a (by simp)) (by omega)
      have n0 : nthD ([a, b].map Value.string) 0 = .string a := rfl
      have i0 : inI 0 [a, b].length = true := inI_ok (i := 0) (by simp)
      have g0 : ltI 0 (lenI [a, b].length) = true := len_lt (i := 0) (by simp)
      have b0 : Nat.ble 1 [a, b].length = true := len_ble (by simp)
      have h1 := szS_of (hs b (by simp))
      have n1 : nthD ([a, b].map Value.string) 1 = .string b := rfl
      have i1 : inI 1 [a, b].length = true := inI_ok (i := 1) (by simp)
      have g1 : ltI 1 (lenI [a, b].length) = true := len_lt (i := 1) (by simp)
      have b1 : Nat.ble 2 [a, b].length = true := len_ble (by simp)
      simp only [l_aS, l_eS, l_not, h0, n0, i0, g0, b0, h1, n1, i1, g1, b1, Bool.and_self, need_tt, ite_tt, ite_ff]
      cases numOk a 1 <;> cases keyO b <;> rfl
    | a :: b :: c :: t, hs =>
      have h0 := numC_of (m := 1) (hs a (by simp)) (by omega)
      have n0 : nthD ((a :: b :: c :: t).map Value.string) 0 = .string a := rfl
      have i0 : inI 0 (a :: b :: c :: t).length = true := inI_ok (i := 0) (by simp)
      have g0 : ltI 0 (lenI (a :: b :: c :: t).length) = true := len_lt (i := 0) (by simp)
      have b0 : Nat.ble 1 (a :: b :: c :: t).length = true := len_ble (by simp)
      have h1 := szS_of (hs b (by simp))
      have n1 : nthD ((a :: b :: c :: t).map Value.string) 1 = .string b := rfl
      have i1 : inI 1 (a :: b :: c :: t).length = true := inI_ok (i := 1) (by simp)
      have g1 : ltI 1 (lenI (a :: b :: c :: t).length) = true := len_lt (i := 1) (by simp)
      have b1 : Nat.ble 2 (a :: b :: c :: t).length = true := len_ble (by simp)
      have e : eqI (lenI (a :: b :: c :: t).length) 2 = false := len_ne (k := 2) (by simp)
      simp only [l_aS, l_eS, l_not, h0, n0, i0, g0, b0, h1, n1, i1, g1, b1, e, Bool.and_self, need_tt, ite_tt, ite_ff]
      cases numOk a 1 <;> cases keyO b <;> rfl
theorem li_2 {OC : List Value → List Blk → Bool} {on : Nat} {oc : List Value} {ob : Bool} {s w0 : ByteArray} {r : List ByteArray} {se : List Nat} (hs : SzW r) : pickQ P E (ctLv numC numOk atoV szS keyO byS OC (mkFz 3 on 0 oc) ob) 50 6 Bli Hli (liV s (w0 :: r).length 0 ((w0 :: r).map Value.string)) (liB act0 (.map kkForms 12) (.miter (some 1) 12 (2 :: se) 12)) (.int .i64 3) (formV ⟨#[116, 105, 99, 107]⟩ ⟨#[110]⟩) = resA s (w0 :: r) (2 :: se) (formN ⟨#[116, 105, 99, 107]⟩ 3 w0 r) := by
  rw [dec_li3]
  exact treeN_eq hs
theorem li_3 {OC : List Value → List Blk → Bool} {on : Nat} {oc : List Value} {ob : Bool} {s w0 : ByteArray} {r : List ByteArray} {se : List Nat} (hs : SzW r) : pickQ P E (ctLv numC numOk atoV szS keyO byS OC (mkFz 3 on 0 oc) ob) 50 6 Bli Hli (liV s (w0 :: r).length 0 ((w0 :: r).map Value.string)) (liB act0 (.map kkForms 12) (.miter (some 1) 12 (3 :: se) 12)) (.int .i64 4) (formV ⟨#[112, 114, 111, 109, 111, 116, 101]⟩ ⟨#[110]⟩) = resA s (w0 :: r) (3 :: se) (formN ⟨#[112, 114, 111, 109, 111, 116, 101]⟩ 4 w0 r) := by
  rw [dec_li4]
  exact treeN_eq hs
theorem li_4 {OC : List Value → List Blk → Bool} {on : Nat} {oc : List Value} {ob : Bool} {s w0 : ByteArray} {r : List ByteArray} {se : List Nat} (hs : SzW r) : pickQ P E (ctLv numC numOk atoV szS keyO byS OC (mkFz 3 on 0 oc) ob) 50 6 Bli Hli (liV s (w0 :: r).length 0 ((w0 :: r).map Value.string)) (liB act0 (.map kkForms 12) (.miter (some 1) 12 (4 :: se) 12)) (.int .i64 5) (formV ⟨#[102, 108, 117, 115, 104]⟩ ⟨#[110]⟩) = resA s (w0 :: r) (4 :: se) (formN ⟨#[102, 108, 117, 115, 104]⟩ 5 w0 r) := by
  rw [dec_li5]
  exact treeN_eq hs
theorem li_5 {OC : List Value → List Blk → Bool} {on : Nat} {oc : List Value} {ob : Bool} {s w0 : ByteArray} {r : List ByteArray} {se : List Nat} (hs : SzW r) : pickQ P E (ctLv numC numOk atoV szS keyO byS OC (mkFz 3 on 0 oc) ob) 50 6 Bli Hli (liV s (w0 :: r).length 0 ((w0 :: r).map Value.string)) (liB act0 (.map kkForms 12) (.miter (some 1) 12 (5 :: se) 12)) (.int .i64 6) (formV ⟨#[100, 101, 108, 105, 118, 101, 114]⟩ ⟨#[97]⟩) = resA s (w0 :: r) (5 :: se) (formA ⟨#[100, 101, 108, 105, 118, 101, 114]⟩ 6 w0 r) := by
  rw [dec_li6]
  exact treeA_eq hs
theorem li_6 {OC : List Value → List Blk → Bool} {on : Nat} {oc : List Value} {ob : Bool} {s w0 : ByteArray} {r : List ByteArray} {se : List Nat} (hs : SzW r) : pickQ P E (ctLv numC numOk atoV szS keyO byS OC (mkFz 3 on 0 oc) ob) 50 6 Bli Hli (liV s (w0 :: r).length 0 ((w0 :: r).map Value.string)) (liB act0 (.map kkForms 12) (.miter (some 1) 12 (6 :: se) 12)) (.int .i64 7) (formV ⟨#[116, 119, 105, 99, 101]⟩ ⟨#[97]⟩) = resA s (w0 :: r) (6 :: se) (formA ⟨#[116, 119, 105, 99, 101]⟩ 7 w0 r) := by
  rw [dec_li7]
  exact treeA_eq hs
theorem li_7 {OC : List Value → List Blk → Bool} {on : Nat} {oc : List Value} {ob : Bool} {s w0 : ByteArray} {r : List ByteArray} {se : List Nat} (hs : SzW r) : pickQ P E (ctLv numC numOk atoV szS keyO byS OC (mkFz 3 on 0 oc) ob) 50 6 Bli Hli (liV s (w0 :: r).length 0 ((w0 :: r).map Value.string)) (liB act0 (.map kkForms 12) (.miter (some 1) 12 (7 :: se) 12)) (.int .i64 8) (formV ⟨#[100, 114, 111, 112]⟩ ⟨#[97]⟩) = resA s (w0 :: r) (7 :: se) (formA ⟨#[100, 114, 111, 112]⟩ 8 w0 r) := by
  rw [dec_li8]
  exact treeA_eq hs
theorem li_8 {OC : List Value → List Blk → Bool} {on : Nat} {oc : List Value} {ob : Bool} {s w0 : ByteArray} {r : List ByteArray} {se : List Nat} (hs : SzW r) : pickQ P E (ctLv numC numOk atoV szS keyO byS OC (mkFz 3 on 0 oc) ob) 50 6 Bli Hli (liV s (w0 :: r).length 0 ((w0 :: r).map Value.string)) (liB act0 (.map kkForms 12) (.miter (some 1) 12 (8 :: se) 12)) (.int .i64 9) (formV ⟨#[102, 117, 115, 101]⟩ ⟨#[110, 97]⟩) = resA s (w0 :: r) (8 :: se) (formNA ⟨#[102, 117, 115, 101]⟩ 9 w0 r) := by
  rw [dec_li9]
  unfold resA again found liR formNA fzS mkFz
  rw [fzU]
  simp only [l_in, l_cl, l_b1, l_n0, l_aS, l_eS, l_cut, l_lap, mulOne, l_tl, l_bb, Bool.and_self, need_tt]
  cases eqS _ w0 with
  | false => rfl
  | true =>
    match r, hs with
    | [], hs =>
      rfl
    | [a], hs =>
      have h0 := numC_of (m := 1) (hs a (by simp)) (by omega)
      have n0 : nthD ([a].map Value.string) 0 = .string a := rfl
      have i0 : inI 0 [a].length = true := inI_ok (i := 0) (by simp)
      have g0 : ltI 0 (lenI [a].length) = true := len_lt (i := 0) (by simp)
      have b0 : Nat.ble 1 [a].length = true := len_ble (by simp)
      simp only [l_aS, l_eS, l_not, h0, n0, i0, g0, b0, Bool.and_self, need_tt, ite_tt, ite_ff]
      cases numOk a 1 <;> rfl
    | [a, b], hs =>
      have h0 := numC_of (m := 1) (hs a (by simp)) (by omega)
      have n0 : nthD ([a, b].map Value.string) 0 = .string a := rfl
      have i0 : inI 0 [a, b].length = true := inI_ok (i := 0) (by simp)
      have g0 : ltI 0 (lenI [a, b].length) = true := len_lt (i := 0) (by simp)
      have b0 : Nat.ble 1 [a, b].length = true := len_ble (by simp)
      have h1 := numC_of (m := 999999999) (hs b (by simp)) (by omega)
      have n1 : nthD ([a, b].map Value.string) 1 = .string b := rfl
      have i1 : inI 1 [a, b].length = true := inI_ok (i := 1) (by simp)
      have g1 : ltI 1 (lenI [a, b].length) = true := len_lt (i := 1) (by simp)
      have b1 : Nat.ble 2 [a, b].length = true := len_ble (by simp)
      simp only [l_aS, l_eS, l_not, h0, n0, i0, g0, b0, h1, n1, i1, g1, b1, Bool.and_self, need_tt, ite_tt, ite_ff]
      cases numOk a 1 <;> cases numOk b 999999999 <;> rfl
    | a :: b :: c :: t, hs =>
      have h0 := numC_of (m := 1) (hs a (by simp)) (by omega)
      have n0 : nthD ((a :: b :: c :: t).map Value.string) 0 = .string a := rfl
      have i0 : inI 0 (a :: b :: c :: t).length = true := inI_ok (i := 0) (by simp)
      have g0 : ltI 0 (lenI (a :: b :: c :: t).length) = true := len_lt (i := 0) (by simp)
      have b0 : Nat.ble 1 (a :: b :: c :: t).length = true := len_ble (by simp)
      have h1 := numC_of (m := 999999999) (hs b (by simp)) (by omega)
      have n1 : nthD ((a :: b :: c :: t).map Value.string) 1 = .string b := rfl
      have i1 : inI 1 (a :: b :: c :: t).length = true := inI_ok (i := 1) (by simp)
      have g1 : ltI 1 (lenI (a :: b :: c :: t).length) = true := len_lt (i := 1) (by simp)
      have b1 : Nat.ble 2 (a :: b :: c :: t).length = true := len_ble (by simp)
      have e : eqI (lenI (a :: b :: c :: t).length) 2 = false := len_ne (k := 2) (by simp)
      simp only [l_aS, l_eS, l_not, h0, n0, i0, g0, b0, h1, n1, i1, g1, b1, e, Bool.and_self, need_tt, ite_tt, ite_ff]
      cases numOk a 1 <;> cases numOk b 999999999 <;> rfl
theorem li_9 {OC : List Value → List Blk → Bool} {on : Nat} {oc : List Value} {ob : Bool} {s w0 : ByteArray} {r : List ByteArray} {se : List Nat} (hs : SzW r) : pickQ P E (ctLv numC numOk atoV szS keyO byS OC (mkFz 3 on 0 oc) ob) 50 6 Bli Hli (liV s (w0 :: r).length 0 ((w0 :: r).map Value.string)) (liB act0 (.map kkForms 12) (.miter (some 1) 12 (9 :: se) 12)) (.int .i64 10) (formV ⟨#[112, 117, 108, 108]⟩ ⟨#[110]⟩) = resA s (w0 :: r) (9 :: se) (formN ⟨#[112, 117, 108, 108]⟩ 10 w0 r) := by
  rw [dec_li10]
  exact treeN_eq hs
theorem li_10 {OC : List Value → List Blk → Bool} {on : Nat} {oc : List Value} {ob : Bool} {s w0 : ByteArray} {r : List ByteArray} {se : List Nat} (hs : SzW r) : pickQ P E (ctLv numC numOk atoV szS keyO byS OC (mkFz 3 on 0 oc) ob) 50 6 Bli Hli (liV s (w0 :: r).length 0 ((w0 :: r).map Value.string)) (liB act0 (.map kkForms 12) (.miter (some 1) 12 (10 :: se) 12)) (.int .i64 11) (formV ⟨#[115, 116, 97, 114, 116]⟩ ⟨#[110, 97, 116]⟩) = resA s (w0 :: r) (10 :: se) (formNAT ⟨#[115, 116, 97, 114, 116]⟩ 11 w0 r) := by
  rw [dec_li11]
  unfold resA again found liR formNAT fzS mkFz
  rw [fzU]
  simp only [l_in, l_cl, l_b1, l_n0, l_aS, l_eS, l_cut, l_lap, mulOne, l_tl, l_bb, Bool.and_self, need_tt]
  cases eqS _ w0 with
  | false => rfl
  | true =>
    match r, hs with
    | [], hs =>
      rfl
    | [a], hs =>
      have h0 := numC_of (m := 1) (hs a (by simp)) (by omega)
      have n0 : nthD ([a].map Value.string) 0 = .string a := rfl
      have i0 : inI 0 [a].length = true := inI_ok (i := 0) (by simp)
      have g0 : ltI 0 (lenI [a].length) = true := len_lt (i := 0) (by simp)
      have b0 : Nat.ble 1 [a].length = true := len_ble (by simp)
      simp only [l_aS, l_eS, l_not, h0, n0, i0, g0, b0, Bool.and_self, need_tt, ite_tt, ite_ff]
      cases numOk a 1 <;> rfl
    | [a, b], hs =>
      have h0 := numC_of (m := 1) (hs a (by simp)) (by omega)
      have n0 : nthD ([a, b].map Value.string) 0 = .string a := rfl
      have i0 : inI 0 [a, b].length = true := inI_ok (i := 0) (by simp)
      have g0 : ltI 0 (lenI [a, b].length) = true := len_lt (i := 0) (by simp)
      have b0 : Nat.ble 1 [a, b].length = true := len_ble (by simp)
      have h1 := numC_of (m := 999999999) (hs b (by simp)) (by omega)
      have n1 : nthD ([a, b].map Value.string) 1 = .string b := rfl
      have i1 : inI 1 [a, b].length = true := inI_ok (i := 1) (by simp)
      have g1 : ltI 1 (lenI [a, b].length) = true := len_lt (i := 1) (by simp)
      have b1 : Nat.ble 2 [a, b].length = true := len_ble (by simp)
      simp only [l_aS, l_eS, l_not, h0, n0, i0, g0, b0, h1, n1, i1, g1, b1, Bool.and_self, need_tt, ite_tt, ite_ff]
      cases numOk a 1 <;> cases numOk b 999999999 <;> rfl
    | [a, b, c], hs =>
      have h0 := numC_of (m := 1) (hs a (by simp)) (by omega)
      have n0 : nthD ([a, b, c].map Value.string) 0 = .string a := rfl
      have i0 : inI 0 [a, b, c].length = true := inI_ok (i := 0) (by simp)
      have g0 : ltI 0 (lenI [a, b, c].length) = true := len_lt (i := 0) (by simp)
      have b0 : Nat.ble 1 [a, b, c].length = true := len_ble (by simp)
      have h1 := numC_of (m := 999999999) (hs b (by simp)) (by omega)
      have n1 : nthD ([a, b, c].map Value.string) 1 = .string b := rfl
      have i1 : inI 1 [a, b, c].length = true := inI_ok (i := 1) (by simp)
      have g1 : ltI 1 (lenI [a, b, c].length) = true := len_lt (i := 1) (by simp)
      have b1 : Nat.ble 2 [a, b, c].length = true := len_ble (by simp)
      have h2 := numC_of (m := 999999999) (hs c (by simp)) (by omega)
      have n2 : nthD ([a, b, c].map Value.string) 2 = .string c := rfl
      have i2 : inI 2 [a, b, c].length = true := inI_ok (i := 2) (by simp)
      have g2 : ltI 2 (lenI [a, b, c].length) = true := len_lt (i := 2) (by simp)
      have b2 : Nat.ble 3 [a, b, c].length = true := len_ble (by simp)
      simp only [l_aS, l_eS, l_not, h0, n0, i0, g0, b0, h1, n1, i1, g1, b1, h2, n2, i2, g2, b2, Bool.and_self, need_tt, ite_tt, ite_ff]
      cases numOk a 1 <;> cases numOk b 999999999 <;> cases numOk c 999999999 <;> rfl
    | a :: b :: c :: d :: t, hs =>
      have h0 := numC_of (m := 1) (hs a (by simp)) (by omega)
      have n0 : nthD ((a :: b :: c :: d :: t).map Value.string) 0 = .string a := rfl
      have i0 : inI 0 (a :: b :: c :: d :: t).length = true := inI_ok (i := 0) (by simp)
      have g0 : ltI 0 (lenI (a :: b :: c :: d :: t).length) = true := len_lt (i := 0) (by simp)
      have b0 : Nat.ble 1 (a :: b :: c :: d :: t).length = true := len_ble (by simp)
      have h1 := numC_of (m := 999999999) (hs b (by simp)) (by omega)
      have n1 : nthD ((a :: b :: c :: d :: t).map Value.string) 1 = .string b := rfl
      have i1 : inI 1 (a :: b :: c :: d :: t).length = true := inI_ok (i := 1) (by simp)
      have g1 : ltI 1 (lenI (a :: b :: c :: d :: t).length) = true := len_lt (i := 1) (by simp)
      have b1 : Nat.ble 2 (a :: b :: c :: d :: t).length = true := len_ble (by simp)
      have h2 := numC_of (m := 999999999) (hs c (by simp)) (by omega)
      have n2 : nthD ((a :: b :: c :: d :: t).map Value.string) 2 = .string c := rfl
      have i2 : inI 2 (a :: b :: c :: d :: t).length = true := inI_ok (i := 2) (by simp)
      have g2 : ltI 2 (lenI (a :: b :: c :: d :: t).length) = true := len_lt (i := 2) (by simp)
      have b2 : Nat.ble 3 (a :: b :: c :: d :: t).length = true := len_ble (by simp)
      have e : eqI (lenI (a :: b :: c :: d :: t).length) 3 = false := len_ne (k := 3) (by simp)
      simp only [l_aS, l_eS, l_not, h0, n0, i0, g0, b0, h1, n1, i1, g1, b1, h2, n2, i2, g2, b2, e, Bool.and_self, need_tt, ite_tt, ite_ff]
      cases numOk a 1 <;> cases numOk b 999999999 <;> cases numOk c 999999999 <;> rfl
theorem li_11 {OC : List Value → List Blk → Bool} {on : Nat} {oc : List Value} {ob : Bool} {s w0 : ByteArray} {r : List ByteArray} {se : List Nat} (hs : SzW r) : pickQ P E (ctLv numC numOk atoV szS keyO byS OC (mkFz 3 on 0 oc) ob) 50 6 Bli Hli (liV s (w0 :: r).length 0 ((w0 :: r).map Value.string)) (liB act0 (.map kkForms 12) (.miter (some 1) 12 (11 :: se) 12)) (.int .i64 12) (formV ⟨#[114, 111, 117, 110, 100]⟩ ⟨#[]⟩) = resA s (w0 :: r) (11 :: se) (form0 ⟨#[114, 111, 117, 110, 100]⟩ 12 w0 r) := by
  rw [dec_li12]
  unfold resA again found liR form0 fzS mkFz
  rw [fzU]
  simp only [l_in, l_cl, l_b1, l_n0, l_aS, l_eS, l_cut, l_lap, mulOne, l_tl, l_bb, Bool.and_self, need_tt]
  cases eqS _ w0 with
  | false => rfl
  | true =>
    match r, hs with
    | [], hs =>
      rfl
    | a :: t, hs =>
      have e : eqI (lenI (a :: t).length) 0 = false := len_ne (k := 0) (by simp)
      simp only [l_aS, l_eS, l_not, e, Bool.and_self, need_tt, ite_tt, ite_ff]
      rfl
end Go.VS.Tryz
end

section
namespace Go.VS.Tryz
set_option maxRecDepth 1000000
open Go.VS
def commitW : ByteArray := ⟨#[99, 111, 109, 109, 105, 116]⟩
def formNO (w0 : ByteArray) (r : List ByteArray) : Option (ActM × Value) := match eqS commitW w0, r with
  | true, a :: b :: t => (match numOk a 1, opsB (b :: t) with
    | true, true => some (⟨1, atoV a, 0, 0, ⟨#[]⟩, opsV (b :: t)⟩, fzOps (opsV (b :: t)))
    | _, _ => none)
  | _, _ => none
theorem li_0 {s w0 : ByteArray} {r : List ByteArray} {se : List Nat} (hs : SzW r) : pickQ P E (ctLv numC numOk atoV szS keyO byS (kOps.at (r.drop 1)) (mkFz 3 (opsV (r.drop 1)).length 0 (EOp.all (opsV (r.drop 1)))) (opsB (r.drop 1))) 50 6 Bli Hli (liV s (w0 :: r).length 0 ((w0 :: r).map Value.string)) (liB act0 (.map kkForms 12) (.miter (some 1) 12 (0 :: se) 12)) (.int .i64 1) (formV ⟨#[99, 111, 109, 109, 105, 116]⟩ ⟨#[110, 111]⟩) = resA s (w0 :: r) (0 :: se) (formNO w0 r) := by
  rw [dec_li1]
  unfold resA again found liR formNO fzS
  rw [show commitW = ⟨#[99, 111, 109, 109, 105, 116]⟩ from rfl]
  simp only [l_in, l_cl, l_b1, l_n0, l_aS, l_eS, l_cut, l_lap, mulOne, l_tl, l_bb, Bool.and_self, need_tt]
  cases eqS _ w0 with
  | false => unfold mkFz; rw [fzU]; rfl
  | true =>
    match r, hs with
    | [], hs => unfold mkFz; rw [fzU]; rfl
    | [a], hs =>
      have h0 := numC_of (m := 1) (hs a (by simp)) (by omega)
      have n0 : nthD ([a].map Value.string) 0 = .string a := rfl
      have i0 : inI 0 [a].length = true := inI_ok (i := 0) (by simp)
      have g0 : ltI 0 (lenI [a].length) = true := len_lt (i := 0) (by simp)
      have b0 : Nat.ble 1 [a].length = true := len_ble (by simp)
      simp only [l_aS, l_eS, l_not, h0, n0, i0, g0, b0, Bool.and_self, need_tt, ite_tt, ite_ff]
      unfold mkFz; rw [fzU]
      cases numOk a 1 <;> rfl
    | a :: b :: t, hs =>
      have h0 := numC_of (m := 1) (hs a (by simp)) (by omega)
      have n0 : nthD ((a :: b :: t).map Value.string) 0 = .string a := rfl
      have i0 : inI 0 (a :: b :: t).length = true := inI_ok (i := 0) (by simp)
      have g0 : ltI 0 (lenI (a :: b :: t).length) = true := len_lt (i := 0) (by simp)
      have g1 : ltI 1 (lenI (a :: b :: t).length) = true := len_lt (i := 1) (by simp)
      have b0 : Nat.ble 1 (a :: b :: t).length = true := len_ble (by simp)
      have c2 : cutI 0 2 (a :: b :: t).length = true := cutI_ok (by omega) (by omega) (by simp only [List.length_cons]; omega)
      have d1 : (a :: b :: t).drop 1 = b :: t := rfl
      simp only [l_aS, l_eS, l_not, h0, n0, i0, g0, g1, b0, c2, d1, l_cut, l_lap, mulOne, l_tl, cap0, Bool.and_self, need_tt, ite_tt, ite_ff]
      cases numOk a 1 with
      | false => unfold mkFz; rw [fzU]; rfl
      | true =>
        simp only [ite_tt]
        refine need_at (k := kOps) (s := b :: t) (by show [fzS _] = _; unfold fzS mkFz; rw [fzU]) rfl ?_
        unfold fzOps mkFz
        rw [fzU, fzU3]
        cases opsB (b :: t) <;> rfl
noncomputable def ctL (ws : List ByteArray) : Ct := ctLv numC numOk atoV szS keyO byS (kOps.at (ws.drop 2)) (fzOps (opsV (ws.drop 2))) (opsB (ws.drop 2))
theorem ctL_ok {ws : List ByteArray} (h : WsOk ws) (hl : ws.length < 4194304) : CtOk P (ctL ws) :=
  addCallX_ok (addCall_ok (addCall_ok ctF_ok num_ok) key_ok) (oneM_ok kOps ops_ok (s := ws.drop 2) ⟨⟨fun w hw => h.1 w (List.mem_of_mem_drop hw), by rw [List.length_drop]; omega⟩, by rw [List.length_drop]; omega⟩)
def formF (k : Nat) (w0 : ByteArray) (r : List ByteArray) : Option (ActM × Value) := match k with
  | 0 => formNO w0 r
  | 1 => formNK ⟨#[114, 101, 97, 100]⟩ 2 w0 r
  | 2 => formN ⟨#[116, 105, 99, 107]⟩ 3 w0 r
  | 3 => formN ⟨#[112, 114, 111, 109, 111, 116, 101]⟩ 4 w0 r
  | 4 => formN ⟨#[102, 108, 117, 115, 104]⟩ 5 w0 r
  | 5 => formA ⟨#[100, 101, 108, 105, 118, 101, 114]⟩ 6 w0 r
  | 6 => formA ⟨#[116, 119, 105, 99, 101]⟩ 7 w0 r
  | 7 => formA ⟨#[100, 114, 111, 112]⟩ 8 w0 r
  | 8 => formNA ⟨#[102, 117, 115, 101]⟩ 9 w0 r
  | 9 => formN ⟨#[112, 117, 108, 108]⟩ 10 w0 r
  | 10 => formNAT ⟨#[115, 116, 97, 114, 116]⟩ 11 w0 r
  | 11 => form0 ⟨#[114, 111, 117, 110, 100]⟩ 12 w0 r
  | _ => none
theorem li_all {s w0 : ByteArray} {r : List ByteArray} {se : List Nat} (hs : SzW r) {e : MapEntry} (he : e ∈ kkForms) : pickQ P E (ctL (w0 :: r)) 50 6 Bli Hli (liV s (w0 :: r).length 0 ((w0 :: r).map Value.string)) (liB act0 (.map kkForms 12) (.miter (some 1) 12 (e.born :: se) 12)) e.key e.val = resA s (w0 :: r) (e.born :: se) (formF e.born w0 r) := by
  unfold kkForms at he
  simp only [List.mem_cons, List.not_mem_nil, or_false] at he
  rcases he with rfl | rfl | rfl | rfl | rfl | rfl | rfl | rfl | rfl | rfl | rfl | rfl
  · exact li_0 hs
  · exact li_1 hs
  · exact li_2 hs
  · exact li_3 hs
  · exact li_4 hs
  · exact li_5 hs
  · exact li_6 hs
  · exact li_7 hs
  · exact li_8 hs
  · exact li_9 hs
  · exact li_10 hs
  · exact li_11 hs
end Go.VS.Tryz
end

section
namespace Go.VS.Tryz
set_option maxRecDepth 1000000
open Go.VS
def wordK (k : Nat) : List UInt8 := ([[99, 111, 109, 109, 105, 116], [114, 101, 97, 100], [116, 105, 99, 107], [112, 114, 111, 109, 111, 116, 101], [102, 108, 117, 115, 104], [100, 101, 108, 105, 118, 101, 114], [116, 119, 105, 99, 101], [100, 114, 111, 112], [102, 117, 115, 101], [112, 117, 108, 108], [115, 116, 97, 114, 116], [114, 111, 117, 110, 100]] : List (List UInt8)).getD k []
theorem eqS_word {W w0 : ByteArray} (h : eqS W w0 = true) : w0.data.toList = W.data.toList := by
  rw [eqS_eq] at h
  exact (beq_iff_eq.1 h).symm
theorem formNO_w {w0 : ByteArray} {r : List ByteArray} {p : ActM × Value} (h : formNO w0 r = some p) : w0.data.toList = commitW.data.toList := by
  unfold formNO at h
  cases hq : eqS commitW w0 with
  | true => exact eqS_word hq
  | false => rw [hq] at h; cases h
theorem formN_w {W : ByteArray} {kd : Int} {w0 : ByteArray} {r : List ByteArray} {p : ActM × Value} (h : formN W kd w0 r = some p) : w0.data.toList = W.data.toList := by
  unfold formN at h
  cases hq : eqS W w0 with
  | true => exact eqS_word hq
  | false => rw [hq] at h; cases h
theorem formA_w {W : ByteArray} {kd : Int} {w0 : ByteArray} {r : List ByteArray} {p : ActM × Value} (h : formA W kd w0 r = some p) : w0.data.toList = W.data.toList := by
  unfold formA at h
  cases hq : eqS W w0 with
  | true => exact eqS_word hq
  | false => rw [hq] at h; cases h
theorem formNK_w {W : ByteArray} {kd : Int} {w0 : ByteArray} {r : List ByteArray} {p : ActM × Value} (h : formNK W kd w0 r = some p) : w0.data.toList = W.data.toList := by
  unfold formNK at h
  cases hq : eqS W w0 with
  | true => exact eqS_word hq
  | false => rw [hq] at h; cases h
theorem formNA_w {W : ByteArray} {kd : Int} {w0 : ByteArray} {r : List ByteArray} {p : ActM × Value} (h : formNA W kd w0 r = some p) : w0.data.toList = W.data.toList := by
  unfold formNA at h
  cases hq : eqS W w0 with
  | true => exact eqS_word hq
  | false => rw [hq] at h; cases h
theorem formNAT_w {W : ByteArray} {kd : Int} {w0 : ByteArray} {r : List ByteArray} {p : ActM × Value} (h : formNAT W kd w0 r = some p) : w0.data.toList = W.data.toList := by
  unfold formNAT at h
  cases hq : eqS W w0 with
  | true => exact eqS_word hq
  | false => rw [hq] at h; cases h
theorem form0_w {W : ByteArray} {kd : Int} {w0 : ByteArray} {r : List ByteArray} {p : ActM × Value} (h : form0 W kd w0 r = some p) : w0.data.toList = W.data.toList := by
  unfold form0 at h
  cases hq : eqS W w0 with
  | true => exact eqS_word hq
  | false => rw [hq] at h; cases h
theorem formF_w : ∀ {k : Nat} {w0 : ByteArray} {r : List ByteArray} {p : ActM × Value}, formF k w0 r = some p → k < 12 ∧ w0.data.toList = wordK k
  | 0, _, _, _, h => ⟨by omega, formNO_w h⟩
  | 1, _, _, _, h => ⟨by omega, formNK_w h⟩
  | 2, _, _, _, h => ⟨by omega, formN_w h⟩
  | 3, _, _, _, h => ⟨by omega, formN_w h⟩
  | 4, _, _, _, h => ⟨by omega, formN_w h⟩
  | 5, _, _, _, h => ⟨by omega, formA_w h⟩
  | 6, _, _, _, h => ⟨by omega, formA_w h⟩
  | 7, _, _, _, h => ⟨by omega, formA_w h⟩
  | 8, _, _, _, h => ⟨by omega, formNA_w h⟩
  | 9, _, _, _, h => ⟨by omega, formN_w h⟩
  | 10, _, _, _, h => ⟨by omega, formNAT_w h⟩
  | 11, _, _, _, h => ⟨by omega, form0_w h⟩
  | _ + 12, _, _, _, h => by cases h
theorem wordK_inj : ∀ i j : Fin 12, wordK i.val = wordK j.val → i = j := by decide
theorem formF_one {i j : Nat} {w0 : ByteArray} {r : List ByteArray} {p q : ActM × Value} (h : formF i w0 r = some p) (k : formF j w0 r = some q) : i = j := by
  obtain ⟨h1, h2⟩ := formF_w h
  obtain ⟨k1, k2⟩ := formF_w k
  have := wordK_inj ⟨i, h1⟩ ⟨j, k1⟩ (h2.symm.trans k2)
  exact congrArg Fin.val this
def lineF (w0 : ByteArray) (r : List ByteArray) : Option (ActM × Value) := (List.range 12).findSome? fun k => formF k w0 r
theorem lineF_some {k : Nat} {w0 : ByteArray} {r : List ByteArray} {p : ActM × Value} (h : formF k w0 r = some p) : lineF w0 r = some p := by
  cases hq : lineF w0 r with
  | none =>
    unfold lineF at hq
    rw [List.findSome?_eq_none_iff] at hq
    have := hq k (List.mem_range.2 (formF_w h).1)
    rw [this] at h; cases h
  | some q =>
    unfold lineF at hq
    obtain ⟨j, hj, hf⟩ := List.exists_of_findSome?_eq_some hq
    obtain rfl := formF_one h hf
    rw [h] at hf; exact hf.symm
theorem lineF_none {w0 : ByteArray} {r : List ByteArray} (h : ∀ k, k < 12 → formF k w0 r = none) : lineF w0 r = none := by
  unfold lineF
  rw [List.findSome?_eq_none_iff]
  intro k hk
  exact h k (List.mem_range.1 hk)
def endV (s : ByteArray) (ws : List ByteArray) (th : Bool) : List Value := [.string s, .pointer (some ⟨0, 0, none⟩), .bool th, .int .i64 0, fzS ws, .pointer (some ⟨2, 0, none⟩)]
def endX : Option (ActM × Value) → Ex
  | some _ => .ret
  | none => .normal
def endA : Option (ActM × Value) → List Value
  | some p => actC p.1 (fzOps p.1.ops)
  | none => act0
def endA0 : Option (ActM × Value) → List Value
  | some p => actC p.1 p.2
  | none => act0
theorem nil_fz {β : Env} {v : Value} (h : VR β nilS v) : VR β (fzOps []) v := by
  have h : v = .slice none 0 0 := h
  subst h
  unfold fzOps mkFz
  simp only [VR]
  rw [if_neg (Nat.not_lt_of_le (Nat.le_add_right FZ 3))]
  simp only [VZ, VZA, VZL]
  refine ⟨0, 0, rfl, ?_⟩
  have e1 : FZ + 3 - FZ = 3 := by omega
  rw [e1]
  unfold FrzR
  rw [if_neg (by decide)]
  exact ⟨rfl, Or.inl ⟨rfl, by decide, rfl⟩⟩
theorem formF_o {k : Nat} {w0 : ByteArray} {r : List ByteArray} {p : ActM × Value} (h : formF k w0 r = some p) : (p.2 = nilS ∧ p.1.ops = []) ∨ p.2 = fzOps p.1.ops := by
  unfold formF at h
  split at h
  · right
    unfold formNO at h
    split at h
    · split at h
      · obtain rfl := Option.some.inj h; rfl
      · cases h
    · cases h
  all_goals first
    | (cases h; done)
    | (left
       first | unfold formNK at h | unfold formNAT at h | unfold formNA at h | unfold formN at h | unfold formA at h | unfold form0 at h
       split at h
       · first
         | (split at h
            · obtain rfl := Option.some.inj h; exact ⟨rfl, rfl⟩
            · cases h)
         | (obtain rfl := Option.some.inj h; exact ⟨rfl, rfl⟩)
       · cases h)
theorem end_weak {k : Nat} {w0 : ByteArray} {r : List ByteArray} {β : Env} {l : List Value} (h : VRL β (endA0 (formF k w0 r)) l) : VRL β (endA (formF k w0 r)) l := by
  cases hf : formF k w0 r with
  | none => rw [hf] at h; exact h
  | some p =>
    rw [hf] at h
    rcases formF_o hf with ⟨h1, h2⟩ | h1
    · unfold endA0 actC at h
      unfold endA actC
      simp only at h ⊢
      rw [h1] at h
      rw [h2]
      simp only [VRL] at h ⊢
      obtain ⟨y1, l1, rfl, q1, y2, l2, rfl, q2, y3, l3, rfl, q3, y4, l4, rfl, q4, y5, l5, rfl, q5, y6, l6, rfl, q6, q7⟩ := h
      exact ⟨y1, _, rfl, q1, y2, _, rfl, q2, y3, _, rfl, q3, y4, _, rfl, q4, y5, _, rfl, q5, y6, _, rfl, nil_fz q6, q7⟩
    · unfold endA0 at h
      unfold endA
      simp only at h ⊢
      rw [← h1]; exact h
def endB (a : List Value) : List Blk := [.cells a 24 true, .dead, .dead]
theorem to_end {K : Prot} {β : Env} {w : World} {a : List Value} {es : List MapEntry} {c s l : Nat} {m : Option Nat} {se : List Nat} (h : Rel P K β (mkSt [.cells a 24 true, .map es c, .miter m s se l]) w) : Rel P K β (mkSt (endB a)) w := by
  have h1 := rel_dead 2 (fun b hb => by cases hb; rfl) h
  exact rel_dead 1 (fun b hb => by cases hb; rfl) h1
theorem Hli_ok : okL Hli = true := by kernel_rfl
theorem forms_old : ∀ e ∈ kkForms, e.born < 12 := by
  intro e he
  unfold kkForms at he
  simp only [List.mem_cons, List.not_mem_nil, or_false] at he
  rcases he with rfl | rfl | rfl | rfl | rfl | rfl | rfl | rfl | rfl | rfl | rfl | rfl <;> decide
theorem forms_new : kkForms.all (fun e => decide (e.born ≥ 12)) = false := rfl
theorem forms_all : ∀ k, k < 12 → ∃ e ∈ kkForms, e.born = k := by
  intro k hk
  have : ∀ j : Fin 12, ((kkForms.map (·.born))[j.val]?) = some j.val := by decide
  have hm := List.mem_of_getElem? (this ⟨k, hk⟩)
  obtain ⟨e, he, h⟩ := List.mem_map.1 hm
  exact ⟨e, he, h⟩
theorem left_less {se : List Nat} {e : MapEntry} (he : e ∈ leftM se kkForms) : (leftM (e.born :: se) kkForms).length < (leftM se kkForms).length := by
  have h1 : leftM (e.born :: se) kkForms = (leftM se kkForms).filter fun x => !(x.born == e.born) := by
    unfold leftM
    rw [List.filter_filter]
    apply List.filter_congr
    intro x _
    rw [List.contains_cons, Bool.not_or]
  rw [h1]
  exact List.length_filter_lt_length_iff_exists.2 ⟨e, he, by simp⟩
theorem li_loop {s w0 : ByteArray} {r : List ByteArray} (hw : WsOk (w0 :: r)) (hl : (w0 :: r).length < 4194304) : ∀ (m : Nat) (se : List Nat), (leftM se kkForms).length ≤ m → (∀ k ∈ se, formF k w0 r = none) →
    LR P 6 0 Bli Hli (liV s (w0 :: r).length 0 ((w0 :: r).map Value.string)) (liB act0 (.map kkForms 12) (.miter (some 1) 12 se 12)) (endX (lineF w0 r)) (endV s (w0 :: r) (lineF w0 r).isSome) (endB (endA (lineF w0 r))) := by
  have hs : SzW r := fun w h => hw.1 w (List.mem_cons_of_mem _ h)
  have hit : (Hli.fr (liV s (w0 :: r).length 0 ((w0 :: r).map Value.string))).eval (.tmp 30) = .pointer (some ⟨2, 0, none⟩) := rfl
  have stop : ∀ se, leftM se kkForms = [] → (∀ k ∈ se, formF k w0 r = none) → LR P 6 0 Bli Hli (liV s (w0 :: r).length 0 ((w0 :: r).map Value.string)) (liB act0 (.map kkForms 12) (.miter (some 1) 12 se 12)) (endX (lineF w0 r)) (endV s (w0 :: r) (lineF w0 r).isSome) (endB (endA (lineF w0 r))) := by
    intro se hleft hse
    have hn : lineF w0 r = none := lineF_none fun k hk => by
      obtain ⟨e, he, rfl⟩ := forms_all k hk
      by_cases hc : e.born ∈ se
      · exact hse _ hc
      · exfalso
        have : e ∈ leftM se kkForms := List.mem_filter.2 ⟨he, by simpa using hc⟩
        rw [hleft] at this
        cases this
    rw [hn]
    have q := dec_li0 s (w0 :: r).length 0 ((w0 :: r).map Value.string) se
    refine LR.over (n := 50) (j := 0) (engOk ctF) noNum ctF_ok Bli_occ Hli_ok (FirstNext.of Bli_first) hit rfl rfl (Or.inl forms_new) hleft (vs1 := endV s (w0 :: r) false) (bs1 := liB act0 (.map kkForms 12) (.miter (some 1) 12 se 12)) (q.trans ?_) rfl fun K β w h => to_end h
    unfold endV fzS mkFz
    rw [fzU]
    rfl
  intro m
  induction m with
  | zero =>
    intro se hm hse
    exact stop se (List.length_eq_zero_iff.1 (by omega)) hse
  | succ m ih =>
    intro se hm hse
    by_cases hne : leftM se kkForms = []
    · exact stop se hne hse
    · refine LR.pick (n := 50) (engOk (ctL (w0 :: r))) noNum (ctL_ok hw hl) Bli_occ Hli_ok (FirstNext.of Bli_first) hit ⟨rfl, rfl, Or.inl forms_new, forms_old, hne⟩
        (ex := fun e => endX (formF e.born w0 r)) (vs1 := fun e => endV s (w0 :: r) (formF e.born w0 r).isSome) (bs1 := fun e => liB (endA0 (formF e.born w0 r)) (.map kkForms 12) (.miter (some 1) 12 (e.born :: se) 12)) (fun e he => ?_) (fun e he => ?_)
      · have q := li_all (s := s) (w0 := w0) (r := r) (se := se) hs (List.mem_filter.1 he).1
        refine Eq.trans ?_ (q.trans ?_)
        · rfl
        cases formF e.born w0 r <;> rfl
      · cases hf : formF e.born w0 r with
        | none =>
          refine Or.inl ⟨rfl, ?_⟩
          exact ih (e.born :: se) (by have := left_less he; omega) (fun k hk => by
            rcases List.mem_cons.1 hk with rfl | hk
            · exact hf
            · exact hse k hk)
        | some p =>
          rw [lineF_some hf]
          refine Or.inr ⟨(by intro h; cases h), rfl, rfl, fun K β w h => ?_⟩
          have hw2 : ∀ β l, VRL β (endA0 (some p)) l → VRL β (endA (some p)) l := fun β l h => by
            have := end_weak (k := e.born) (w0 := w0) (r := r) (β := β) (l := l)
            rw [hf] at this
            exact this h
          exact to_end (rel_weak (r := 0) rfl (by rfl) hw2 h)
end Go.VS.Tryz
end

section
namespace Go.VS.Pl
def wordsB : List UInt8 → List UInt8 → List (List UInt8)
  | cur, [] => match cur with
    | [] => []
    | c :: t => [c :: t]
  | cur, b :: l => match b == 32 with
    | true => match cur with
      | [] => wordsB [] l
      | c :: t => (c :: t) :: wordsB [] l
    | false => wordsB (cur ++ [b]) l
theorem wordsB_skip : ∀ (k : Nat) (cur l : List UInt8), k ≤ l.length → (∀ j, j < k → l.getD j 0 ≠ 32) → wordsB cur l = wordsB (cur ++ l.take k) (l.drop k)
  | 0, cur, l, _, _ => by simp
  | k + 1, cur, [], h, _ => by simp at h
  | k + 1, cur, b :: l, h, hz => by
    have h0 : (b == 32) = false := by
      have := hz 0 (by omega)
      simpa using this
    show (match b == 32 with | true => _ | false => _) = _
    rw [h0]
    simp only
    rw [wordsB_skip k (cur ++ [b]) l (by simpa using h) (fun j hj => by have := hz (j + 1) (by omega); simpa using this)]
    simp
theorem get_bang (s : ByteArray) (i : Nat) : s.get! i = s.data.toList.getD i 0 := by
  show s.data[i]! = _
  by_cases h : i < s.data.size
  · rw [getElem!_pos s.data i h, List.getD_eq_getElem?_getD, List.getElem?_eq_getElem (by simpa using h)]
    simp
  · rw [getElem!_neg s.data i h, List.getD_eq_getElem?_getD, List.getElem?_eq_none (by simpa using h)]
    rfl
theorem rune_blank (s : ByteArray) (i : Nat) (hi : i < s.size) : ((Utf8.decode s i).1 = 32 ↔ s.data.toList.getD i 0 = 32) ∧ (s.data.toList.getD i 0 = 32 → (Utf8.decode s i).2 = 1) ∧ 1 ≤ (Utf8.decode s i).2 ∧ i + (Utf8.decode s i).2 ≤ s.size ∧
    (s.data.toList.getD i 0 ≠ 32 → ∀ j, j < (Utf8.decode s i).2 → s.data.toList.getD (i + j) 0 ≠ 32) := by
  rw [Lib.decode_at]
  simp only [get_bang]
  generalize hb0 : s.data.toList.getD i 0 = b0
  generalize hb1 : s.data.toList.getD (i + 1) 0 = b1
  generalize hb2 : s.data.toList.getD (i + 2) 0 = b2
  generalize hb3 : s.data.toList.getD (i + 3) 0 = b3
  have q0 : b0 = 32 ↔ b0.toNat = 32 := ⟨fun h => by rw [h]; rfl, fun h => UInt8.toNat_inj.1 h⟩
  have n1 : b1.toNat / 64 = 2 → b1 ≠ 32 := fun h e => by rw [e] at h; exact absurd h (by decide)
  have n2 : b2.toNat / 64 = 2 → b2 ≠ 32 := fun h e => by rw [e] at h; exact absurd h (by decide)
  have n3 : b3.toNat / 64 = 2 → b3 ≠ 32 := fun h e => by rw [e] at h; exact absurd h (by decide)
  have j0 : s.data.toList.getD (i + 0) 0 = b0 := hb0
  rw [q0]
  by_cases hlt : b0.toNat < 128
  · have e : Lib.decodeN (s.size - i) b0.toNat b1.toNat b2.toNat b3.toNat = (b0.toNat, 1) := by unfold Lib.decodeN; rw [if_pos hlt]
    rw [e]
    refine ⟨Iff.rfl, fun _ => rfl, Nat.le_refl _, by simp only; omega, fun h j hj => ?_⟩
    obtain rfl : j = 0 := by simp only at hj; omega
    rw [j0]; exact h
  · have h32 : b0.toNat ≠ 32 := by omega
    rcases Lib.decodeN_shape (s.size - i) b0.toNat b1.toNat b2.toNat b3.toNat with ⟨c, _⟩ | ⟨c1, c2, c3, cv, e⟩ | ⟨c1, c2, c3, c4, cv, _, e⟩ | ⟨c1, c2, c3, c4, c5, cv, _, e⟩ | e
    · exact absurd c hlt
    · rw [e]
      refine ⟨⟨fun h => by simp only at h; omega, fun h => absurd h h32⟩, fun h => absurd h h32, by simp only; omega, by simp only; omega, fun h j hj => ?_⟩
      simp only at hj
      match j, hj with
      | 0, _ => rw [j0]; exact h
      | 1, _ => rw [hb1]; exact n1 c3
    · rw [e]
      refine ⟨⟨fun h => by simp only at h; omega, fun h => absurd h h32⟩, fun h => absurd h h32, by simp only; omega, by simp only; omega, fun h j hj => ?_⟩
      simp only at hj
      match j, hj with
      | 0, _ => rw [j0]; exact h
      | 1, _ => rw [hb1]; exact n1 c3
      | 2, _ => rw [hb2]; exact n2 c4
    · rw [e]
      refine ⟨⟨fun h => by simp only at h; omega, fun h => absurd h h32⟩, fun h => absurd h h32, by simp only; omega, by simp only; omega, fun h j hj => ?_⟩
      simp only at hj
      match j, hj with
      | 0, _ => rw [j0]; exact h
      | 1, _ => rw [hb1]; exact n1 c3
      | 2, _ => rw [hb2]; exact n2 c4
      | 3, _ => rw [hb3]; exact n3 c5
    · rw [e]
      refine ⟨⟨fun h => by simp only at h; omega, fun h => absurd h h32⟩, fun h => absurd h h32, by simp only; omega, by simp only; omega, fun h j hj => ?_⟩
      obtain rfl : j = 0 := by simp only at hj; omega
      rw [j0]; exact h
def curB (s : ByteArray) (pos : Nat) : Option Nat → List UInt8
  | some a => (s.data.toList.drop a).take (pos - a)
  | none => []
def ext (s : ByteArray) (x : Nat × Nat) : List UInt8 := (s.data.toList.drop x.1).take (x.2 - x.1)
theorem getD_drop (l : List UInt8) (i j : Nat) : (l.drop i).getD j 0 = l.getD (i + j) 0 := by
  rw [List.getD_eq_getElem?_getD, List.getD_eq_getElem?_getD, List.getElem?_drop]
theorem spans_words (s : ByteArray) (p : Nat → Bool) (hp : ∀ x, p x = true ↔ x = 32) : ∀ (f pos : Nat) (st : Option Nat) (acc : List (Nat × Nat)), s.size ≤ pos + f → pos ≤ s.size → (∀ a, st = some a → a < pos) →
    (Lib.closeSpans s (Lib.spansFromP p s f pos st acc)).map (ext s) = acc.map (ext s) ++ wordsB (curB s pos st) (s.data.toList.drop pos) := by
  have hlen : s.data.toList.length = s.size := by simp
  have fin : ∀ (pos : Nat) (st : Option Nat) (acc : List (Nat × Nat)), pos = s.size → (∀ a, st = some a → a < pos) → (Lib.closeSpans s (acc, st)).map (ext s) = acc.map (ext s) ++ wordsB (curB s pos st) (s.data.toList.drop pos) := by
    intro pos st acc hpos hst
    subst hpos
    rw [List.drop_of_length_le (by rw [hlen]; exact Nat.le_refl _)]
    cases st with
    | none => simp [Lib.closeSpans, curB, wordsB]
    | some a =>
      have ha := hst a rfl
      have hne : curB s s.size (some a) ≠ [] := by
        unfold curB
        intro h
        have := congrArg List.length h
        rw [List.length_take, List.length_drop, hlen] at this
        simp only [List.length_nil] at this
        omega
      have hw : wordsB (curB s s.size (some a)) [] = [curB s s.size (some a)] := by
        cases hc : curB s s.size (some a) with
        | nil => exact absurd hc hne
        | cons c t => rfl
      rw [hw]
      simp [Lib.closeSpans, ext, curB]
  intro f
  induction f with
  | zero =>
    intro pos st acc h1 h2 hst
    exact fin pos st acc (by omega) hst
  | succ f ih =>
    intro pos st acc h1 h2 hst
    unfold Lib.spansFromP
    by_cases hlt : pos < s.size
    · rw [if_pos hlt]
      obtain ⟨r1, r2, r3, r4, r5⟩ := rune_blank s pos hlt
      have hd0 : s.data.toList.drop pos = s.data.toList.getD pos 0 :: s.data.toList.drop (pos + 1) := by
        rw [List.drop_eq_getElem_cons (by rw [hlen]; exact hlt), List.getD_eq_getElem?_getD, List.getElem?_eq_getElem (by rw [hlen]; exact hlt)]
        rfl
      by_cases hb : s.data.toList.getD pos 0 = 32
      · have hpt : p (Utf8.decode s pos).1 = true := (hp _).2 (r1.2 hb)
        rw [if_pos hpt, r2 hb]
        have hw : ∀ cur, wordsB cur (s.data.toList.drop pos) = match cur with | [] => wordsB [] (s.data.toList.drop (pos + 1)) | c :: t => (c :: t) :: wordsB [] (s.data.toList.drop (pos + 1)) := by
          intro cur
          rw [hd0, hb]
          rfl
        cases st with
        | none =>
          simp only
          rw [ih _ _ _ (by omega) (by omega) (by intro a h; cases h), hw]
          rfl
        | some a =>
          have ha := hst a rfl
          simp only
          rw [ih _ _ _ (by omega) (by omega) (by intro a h; cases h), hw]
          cases hc : curB s pos (some a) with
          | nil =>
            exfalso
            have := congrArg List.length hc
            unfold curB at this
            rw [List.length_take, List.length_drop, hlen] at this
            simp only [List.length_nil] at this
            omega
          | cons c t =>
            have : ext s (a, pos) = c :: t := hc
            simp [this, curB]
      · have hpf : ¬ (p (Utf8.decode s pos).1 = true) := fun h => hb (r1.1 ((hp _).1 h))
        rw [if_neg hpf]
        have hskip := fun cur => wordsB_skip (Utf8.decode s pos).2 cur (s.data.toList.drop pos) (by rw [List.length_drop, hlen]; omega) (fun j hj => by rw [getD_drop]; exact r5 hb j hj)
        have hcur : ∀ a, a ≤ pos → (s.data.toList.drop a).take (pos + (Utf8.decode s pos).2 - a) = (s.data.toList.drop a).take (pos - a) ++ (s.data.toList.drop pos).take (Utf8.decode s pos).2 := by
          intro a ha
          rw [show pos + (Utf8.decode s pos).2 - a = (pos - a) + (Utf8.decode s pos).2 by omega, List.take_add, List.drop_drop, show a + (pos - a) = pos by omega]
        cases st with
        | none =>
          simp only
          rw [ih _ _ _ (by omega) r4 (by intro a h; cases h; omega), hskip, List.drop_drop]
          unfold curB
          simp only
          rw [show pos + (Utf8.decode s pos).2 - pos = (Utf8.decode s pos).2 by omega]
          rfl
        | some a =>
          have ha := hst a rfl
          simp only
          rw [ih _ _ _ (by omega) r4 (by intro b h; cases h; omega), hskip, List.drop_drop]
          unfold curB
          simp only
          rw [hcur a (by omega)]
    · rw [if_neg hlt]
      exact fin pos st acc (by omega) hst
theorem fields_words (s : ByteArray) (p : Nat → Bool) (hp : ∀ x, p x = true ↔ x = 32) : (Lib.goFieldsP p s).map (fun w => w.data.toList) = wordsB [] s.data.toList := by
  have h := spans_words s p hp s.size 0 none [] (by omega) (Nat.zero_le _) (by intro a h; cases h)
  simp only [List.map_nil, List.nil_append, List.drop_zero, curB] at h
  rw [← h]
  unfold Lib.goFieldsP Lib.spansOfP
  rw [List.map_map]
  apply List.map_congr_left
  intro x _
  show (s.extract x.1 x.2).data.toList = _
  unfold ext
  simp [ByteArray.extract, ByteArray.copySlice, List.extract_eq_take_drop]
theorem wordsB_facts : ∀ (l cur : List UInt8), (∀ w ∈ wordsB cur l, w ≠ [] ∧ w.length ≤ cur.length + l.length) ∧ (wordsB cur l).length ≤ l.length + 1
  | [], cur => by
    cases cur with
    | nil => simp [wordsB]
    | cons c t => simp [wordsB]
  | b :: l, cur => by
    unfold wordsB
    cases b == 32 with
    | true =>
      obtain ⟨h1, h2⟩ := wordsB_facts l []
      cases cur with
      | nil =>
        refine ⟨fun w hw => ?_, ?_⟩
        · obtain ⟨q1, q2⟩ := h1 w hw
          exact ⟨q1, by simp only [List.length_cons, List.length_nil] at q2 ⊢; omega⟩
        · simp only [List.length_cons]; omega
      | cons c t =>
        refine ⟨fun w hw => ?_, ?_⟩
        · rcases List.mem_cons.1 hw with rfl | hw
          · exact ⟨by simp, by simp only [List.length_cons]; omega⟩
          · obtain ⟨q1, q2⟩ := h1 w hw
            exact ⟨q1, by simp only [List.length_cons, List.length_nil] at q2 ⊢; omega⟩
        · simp only [List.length_cons]; omega
    | false =>
      obtain ⟨h1, h2⟩ := wordsB_facts l (cur ++ [b])
      refine ⟨fun w hw => ?_, ?_⟩
      · obtain ⟨q1, q2⟩ := h1 w hw
        exact ⟨q1, by simp only [List.length_append, List.length_cons, List.length_nil] at q2 ⊢; omega⟩
      · simp only [List.length_cons]; omega
end Go.VS.Pl
end

section
namespace Go.VS.Tryz
set_option maxRecDepth 1000000
open Go.VS
noncomputable def ctLnv (I : ByteArray → UInt8 → Bool) (WC : List Value → List Blk → Bool) (wn : Nat) (wc : List Value) (LC : List Value → List Blk → Bool) (ok : Bool) (s : ByteArray) (z : Value) (k nd n t : Int) (key : ByteArray) (on : Nat) (oc : List Value) : Ct :=
  addLoop 6 0 Hli (oneL LC (.ite ok (.leaf (.ret, [.string s, .pointer (some ⟨0, 0, none⟩), .bool true, .int .i64 0, z, .pointer (some ⟨2, 0, none⟩)], endB [.int .i64 k, .int .i64 nd, .int .i64 n, .int .i64 t, .string key, mkFz 3 on 0 oc])) (.leaf (.normal, [.string s, .pointer (some ⟨0, 0, none⟩), .bool false, .int .i64 0, z, .pointer (some ⟨2, 0, none⟩)], endB act0))))
   (addCallX P polD 0 38 (oneM WC (.leaf (mkFz 1 wn 0 wc, []))) (addCall P 16 (RinV I) ctF))
theorem dec_line (I : ByteArray → UInt8 → Bool) (WC : List Value → List Blk → Bool) (wn : Nat) (wc : List Value) (LC : List Value → List Blk → Bool) (ok : Bool) (z : Value) (k nd n t : Int) (key : ByteArray) (on : Nat) (oc : List Value) (s : ByteArray) : callQX P E (ctLnv I WC wn wc LC ok s z k nd n t key on oc) 50 polD [.keep, .val, .val] [24, 4, 25] 0 6 [.string s] [] =
 (iteB (gtI (lenI (ByteArray.size s)) (65536 : Int))
 (some ((Value.tuple (Array.mk [(Value.agg (Array.mk [(Value.int IntKind.i64 (0 : Int)), (Value.int IntKind.i64 (0 : Int)), (Value.int IntKind.i64 (0 : Int)), (Value.int IntKind.i64 (0 : Int)), (Value.string (ByteArray.mk #[])), (Value.slice none 0 0)])), (Value.bool Bool.false), (Value.int IntKind.i64 (3 : Int))])), (mkSt [])))
 (iteB (I s (OfNat.ofNat 10))
 (some ((Value.tuple (Array.mk [(Value.agg (Array.mk [(Value.int IntKind.i64 (0 : Int)), (Value.int IntKind.i64 (0 : Int)), (Value.int IntKind.i64 (0 : Int)), (Value.int IntKind.i64 (0 : Int)), (Value.string (ByteArray.mk #[])), (Value.slice none 0 0)])), (Value.bool Bool.false), (Value.int IntKind.i64 (350 : Int))])), (mkSt [])))
 (needB (WC [(Value.string s), (Value.func (Go.Fn.func 39) (Array.mk []) (Array.mk []))] [])
 (iteB (eqI (lenI wn) (0 : Int))
 (some ((Value.tuple (Array.mk [(Value.agg (Array.mk [(Value.int IntKind.i64 (0 : Int)), (Value.int IntKind.i64 (0 : Int)), (Value.int IntKind.i64 (0 : Int)), (Value.int IntKind.i64 (0 : Int)), (Value.string (ByteArray.mk #[])), (Value.slice none 0 0)])), (Value.bool Bool.false), (Value.int IntKind.i64 (0 : Int))])), (mkSt [])))
 (needB (Bool.and (Nat.beq 1 1) (inI (0 : Int) wn))
 (needB (Bool.and (Nat.ble 1 (List.length wc)) (etaB Eta.string (nthD wc 0)))
 (needB (inI (0 : Int) (ByteArray.size (asS (nthD wc 0))))
 (iteB (eqI (bAt (asS (nthD wc 0)) (0 : Int)) (35 : Int))
 (some ((Value.tuple (Array.mk [(Value.agg (Array.mk [(Value.int IntKind.i64 (0 : Int)), (Value.int IntKind.i64 (0 : Int)), (Value.int IntKind.i64 (0 : Int)), (Value.int IntKind.i64 (0 : Int)), (Value.string (ByteArray.mk #[])), (Value.slice none 0 0)])), (Value.bool Bool.false), (Value.int IntKind.i64 (0 : Int))])), (mkSt [])))
 (needB (LC [(Value.string s), (Value.pointer (Option.some (Addr.mk 0 0 none))), (Value.bool Bool.false), (Value.int IntKind.i64 (0 : Int)), (Value.iface 18446744073709551617 (Value.agg (Array.mk ((Value.slice none wn 0) :: wc)))), (Value.pointer (Option.some (Addr.mk 2 0 none)))] [(Blk.cells [(Value.int IntKind.i64 (0 : Int)), (Value.int IntKind.i64 (0 : Int)), (Value.int IntKind.i64 (0 : Int)), (Value.int IntKind.i64 (0 : Int)), (Value.string (ByteArray.mk #[])), (Value.slice none 0 0)] 24 Bool.true), (Blk.map [(Go.MapEntry.mk (Value.int IntKind.i64 (1 : Int)) (Value.agg (Array.mk [(Value.string (ByteArray.mk #[99, 111, 109, 109, 105, 116])), (Value.string (ByteArray.mk #[110, 111]))])) 0), (Go.MapEntry.mk (Value.int IntKind.i64 (2 : Int)) (Value.agg (Array.mk [(Value.string (ByteArray.mk #[114, 101, 97, 100])), (Value.string (ByteArray.mk #[110, 107]))])) 1), (Go.MapEntry.mk (Value.int IntKind.i64 (3 : Int)) (Value.agg (Array.mk [(Value.string (ByteArray.mk #[116, 105, 99, 107])), (Value.string (ByteArray.mk #[110]))])) 2), (Go.MapEntry.mk (Value.int IntKind.i64 (4 : Int)) (Value.agg (Array.mk [(Value.string (ByteArray.mk #[112, 114, 111, 109, 111, 116, 101])), (Value.string (ByteArray.mk #[110]))])) 3), (Go.MapEntry.mk (Value.int IntKind.i64 (5 : Int)) (Value.agg (Array.mk [(Value.string (ByteArray.mk #[102, 108, 117, 115, 104])), (Value.string (ByteArray.mk #[110]))])) 4), (Go.MapEntry.mk (Value.int IntKind.i64 (6 : Int)) (Value.agg (Array.mk [(Value.string (ByteArray.mk #[100, 101, 108, 105, 118, 101, 114])), (Value.string (ByteArray.mk #[97]))])) 5), (Go.MapEntry.mk (Value.int IntKind.i64 (7 : Int)) (Value.agg (Array.mk [(Value.string (ByteArray.mk #[116, 119, 105, 99, 101])), (Value.string (ByteArray.mk #[97]))])) 6), (Go.MapEntry.mk (Value.int IntKind.i64 (8 : Int)) (Value.agg (Array.mk [(Value.string (ByteArray.mk #[100, 114, 111, 112])), (Value.string (ByteArray.mk #[97]))])) 7), (Go.MapEntry.mk (Value.int IntKind.i64 (9 : Int)) (Value.agg (Array.mk [(Value.string (ByteArray.mk #[102, 117, 115, 101])), (Value.string (ByteArray.mk #[110, 97]))])) 8), (Go.MapEntry.mk (Value.int IntKind.i64 (10 : Int)) (Value.agg (Array.mk [(Value.string (ByteArray.mk #[112, 117, 108, 108])), (Value.string (ByteArray.mk #[110]))])) 9), (Go.MapEntry.mk (Value.int IntKind.i64 (11 : Int)) (Value.agg (Array.mk [(Value.string (ByteArray.mk #[115, 116, 97, 114, 116])), (Value.string (ByteArray.mk #[110, 97, 116]))])) 10), (Go.MapEntry.mk (Value.int IntKind.i64 (12 : Int)) (Value.agg (Array.mk [(Value.string (ByteArray.mk #[114, 111, 117, 110, 100])), (Value.string (ByteArray.mk #[]))])) 11)] 12), (Blk.miter (Option.some 1) 12 [] 12)])
 (iteB ok
 (some ((Value.tuple (Array.mk [(Value.agg (Array.mk [(Value.int IntKind.i64 k), (Value.int IntKind.i64 nd), (Value.int IntKind.i64 n), (Value.int IntKind.i64 t), (Value.string key), (Value.iface 18446744073709551619 (Value.agg (Array.mk ((Value.slice none on 0) :: oc))))])), (Value.bool Bool.true), (Value.int IntKind.i64 (0 : Int))])), (mkSt [])))
 (some ((Value.tuple (Array.mk [(Value.agg (Array.mk [(Value.int IntKind.i64 (0 : Int)), (Value.int IntKind.i64 (0 : Int)), (Value.int IntKind.i64 (0 : Int)), (Value.int IntKind.i64 (0 : Int)), (Value.string (ByteArray.mk #[])), (Value.slice none 0 0)])), (Value.bool Bool.false), (Value.int IntKind.i64 (350 : Int))])), (mkSt []))))))))))))) := by kernel_rfl
theorem wordsL_eq (s : ByteArray) : (wordsL s).map (fun w => w.data.toList) = Pl.wordsB [] s.data.toList := Pl.fields_words s _ fun x => by
  show decide ((x : Int) = 32) = true ↔ x = 32
  rw [decide_eq_true_iff]; omega
theorem ba_len (s : ByteArray) : s.data.toList.length = s.size := by simp
theorem wordsL_ok {s : ByteArray} (h : s.size ≤ 4194302) : WsOk (wordsL s) ∧ (wordsL s).length < 4194304 ∧ ∀ w ∈ wordsL s, 0 < w.size := by
  obtain ⟨h1, h2⟩ := Pl.wordsB_facts s.data.toList []
  have hl : (wordsL s).length = (Pl.wordsB [] s.data.toList).length := by rw [← wordsL_eq, List.length_map]
  rw [ba_len] at h2
  have hm : ∀ w ∈ wordsL s, w.data.toList ∈ Pl.wordsB [] s.data.toList := fun w hw => by rw [← wordsL_eq]; exact List.mem_map.2 ⟨w, hw, rfl⟩
  refine ⟨⟨fun w hw => ?_, by omega⟩, by omega, fun w hw => ?_⟩
  · have := (h1 _ (hm w hw)).2
    rw [ba_len, ba_len] at this
    simp only [List.length_nil] at this
    omega
  · have := (h1 _ (hm w hw)).1
    rw [← ba_len]
    exact List.length_pos_iff.2 this
def act00 : ActM := ⟨0, 0, 0, 0, ⟨#[]⟩, []⟩
def isRem (w0 : ByteArray) : Bool := eqI (bAt w0 0) 35
def lineM (s : ByteArray) : ActM × Bool × Int := match gtI (lenI s.size) 65536, inB s 10, wordsL s with
  | true, _, _ => (act00, false, 3)
  | false, true, _ => (act00, false, 350)
  | false, false, [] => (act00, false, 0)
  | false, false, w0 :: r => match isRem w0, lineF w0 r with
    | true, _ => (act00, false, 0)
    | false, some p => (p.1, true, 0)
    | false, none => (act00, false, 350)
def actV (a : ActM) : Value := .agg ⟨actC a (fzOps a.ops)⟩
def resLi (x : ActM × Bool × Int) : Value := .tuple ⟨[actV x.1, .bool x.2.1, .int .i64 x.2.2]⟩
def kLi : Con (ByteArray × List ByteArray) where
  enc x := (liV x.1 x.2.length 0 (x.2.map Value.string), liB act0 (.map kkForms 12) (.miter (some 1) 12 [] 12))
  ok _ := True
  inj a b h := by
    unfold liV at h
    simp only [Prod.mk.injEq, List.cons.injEq, Value.string.injEq, true_and, and_true] at h
    obtain ⟨a1, a2⟩ := a
    obtain ⟨b1, b2⟩ := b
    obtain ⟨h1, h2⟩ := h
    simp only at h1 h2
    rw [h1, strs_inj (fz_inj h2)]
  dflt := (default, [])
noncomputable def liDT (s : ByteArray) (ws : List ByteArray) (o : Option (ActM × Value)) : DT (Ex × List Value × List Blk) :=
  .ite o.isSome (.leaf (.ret, endV s ws true, endB (actC ((o.map (·.1)).getD act00) (fzOps ((o.map (·.1)).getD act00).ops)))) (.leaf (.normal, endV s ws false, endB act0))
theorem li_loopOk {s w0 : ByteArray} {r : List ByteArray} (hw : WsOk (w0 :: r)) (hl : (w0 :: r).length < 4194304) : LoopOk P 6 0 Bli Hli (oneL (kLi.at (s, w0 :: r)) (liDT s (w0 :: r) (lineF w0 r))) :=
  oneLP_ok kLi (loopAt_occ Bli_eq) Hli_ok fun e vs' bs' hev => by
    have q := li_loop (s := s) hw hl 12 [] (by decide) (fun k hk => by cases hk)
    unfold liDT at hev
    cases hf : lineF w0 r with
    | none =>
      rw [hf] at hev q
      simp only [Option.isSome_none, DT.eval, Option.some.injEq, Prod.mk.injEq] at hev
      obtain ⟨rfl, rfl, rfl⟩ := hev
      exact q
    | some p =>
      rw [hf] at hev q
      simp only [Option.isSome_some, Option.map_some, Option.getD_some, DT.eval, Option.some.injEq, Prod.mk.injEq] at hev
      obtain ⟨rfl, rfl, rfl⟩ := hev
      exact q
theorem nil_act {β : Env} {b i x : Value} (h : VR β (.tuple ⟨[.agg ⟨act0⟩, b, i]⟩) x) : VR β (.tuple ⟨[actV act00, b, i]⟩) x := by
  simp only [VR, VRA, VRL] at h
  obtain ⟨a', rfl, y, ys, e, ⟨c, rfl, hc⟩, hrest⟩ := h
  unfold act0 at hc
  simp only [VRL] at hc
  obtain ⟨y1, l1, e1, q1, y2, l2, rfl, q2, y3, l3, rfl, q3, y4, l4, rfl, q4, y5, l5, rfl, q5, y6, l6, rfl, q6, q7⟩ := hc
  refine ⟨a', rfl, ?_⟩
  simp only [VRA, VRL]
  refine ⟨_, ys, e, ⟨c, rfl, ?_⟩, hrest⟩
  simp only [VRA, VRL, actC, act00]
  exact ⟨y1, _, e1, q1, y2, _, rfl, q2, y3, _, rfl, q3, y4, _, rfl, q4, y5, _, rfl, q5, y6, _, rfl, nil_fz q6, q7⟩
def kLn : Con ByteArray where
  enc s := ([.string s], [])
  ok s := s.size ≤ 4194302
  inj a b h := by simp only [Prod.mk.injEq, List.cons.injEq, Value.string.injEq, and_true] at h; exact h
  dflt := default
noncomputable def ctLn (s : ByteArray) (w0 : ByteArray) (r : List ByteArray) : Ct :=
  addLoop 6 0 Hli (oneL (kLi.at (s, w0 :: r)) (liDT s (w0 :: r) (lineF w0 r))) (addCallX P polD 0 38 (oneM (kWo.at s) (.leaf (fzS (wordsL s), []))) (addCall P 16 (RinV inB) ctF))
theorem ctLn_ok {s w0 : ByteArray} {r : List ByteArray} (hs : s.size ≤ 4194302) (hw : WsOk (w0 :: r)) (hl : (w0 :: r).length < 4194304) : CtOk P (ctLn s w0 r) :=
  addLoop_ok (addCallX_ok (addCall_ok ctF_ok in_ok) (oneM_ok kWo fields_ok (s := s) (by show s.size ≤ 4194304; omega))) (li_loopOk hw hl)
theorem line_crx (s : ByteArray) (hs : s.size ≤ 4194302) : CRX P 0 6 [.string s] [] (resLi (lineM s)) [] := by
  obtain ⟨hw, hl, hp⟩ := wordsL_ok hs
  have z : ∀ {e : Int}, CRX P 0 6 [.string s] [] (.tuple ⟨[.agg ⟨act0⟩, .bool false, .int .i64 e]⟩) [] → CRX P 0 6 [.string s] [] (resLi (act00, false, e)) [] := fun h => h.weak fun β x hx => nil_act hx
  have hqs : ∀ (w0 : ByteArray) (r : List ByteArray), WsOk (w0 :: r) → (w0 :: r).length < 4194304 → ∀ v, callQX P E (ctLn s w0 r) 50 polD [.keep, .val, .val] [24, 4, 25] 0 6 [.string s] [] = some (v, mkSt []) → CRX P 0 6 [.string s] [] v [] :=
    fun w0 r h1 h2 v h => CRX.of (engOk (ctLn s w0 r)) noNum (ctLn_ok hs h1 h2) h
  have q := fun (w0 : ByteArray) (r : List ByteArray) => dec_line inB (kWo.at s) (wordsL s).length ((wordsL s).map Value.string) (kLi.at (s, w0 :: r)) (lineF w0 r).isSome (fzS (w0 :: r)) (((lineF w0 r).map (·.1)).getD act00).kind (((lineF w0 r).map (·.1)).getD act00).node (((lineF w0 r).map (·.1)).getD act00).n (((lineF w0 r).map (·.1)).getD act00).t (((lineF w0 r).map (·.1)).getD act00).key (((lineF w0 r).map (·.1)).getD act00).ops.length (EOp.all (((lineF w0 r).map (·.1)).getD act00).ops) s
  have e0 : WsOk [(default : ByteArray)] := ⟨fun w hw => by simp at hw; subst hw; decide, by decide⟩
  unfold lineM
  cases h1 : gtI (lenI s.size) 65536 with
  | true =>
    refine z (hqs default [] e0 (by decide) _ ((q default []).trans ?_))
    rw [h1]; rfl
  | false =>
  cases h2 : inB s 10 with
  | true =>
    refine z (hqs default [] e0 (by decide) _ ((q default []).trans ?_))
    rw [h1]
    refine Eq.trans ite_ff ?_
    have h2 : inB s (OfNat.ofNat 10) = true := h2
    rw [h2]; rfl
  | false =>
  have h2 : inB s (OfNat.ofNat 10) = false := h2
  cases h3 : wordsL s with
  | nil =>
    refine z (hqs default [] e0 (by decide) _ ((q default []).trans ?_))
    rw [h1]
    refine Eq.trans ite_ff ?_
    rw [h2]
    refine Eq.trans ite_ff ?_
    refine need_at (k := kWo) (s := s) rfl rfl ?_
    rw [h3]
    rfl
  | cons w0 r =>
    rw [h3] at hw hl hp
    have a1 : eqI (lenI (w0 :: r).length) 0 = false := by unfold eqI lenI; exact decide_eq_false (by simp only [List.length_cons]; omega)
    have a2 : inI 0 w0.size = true := inI_ok (i := 0) (hp w0 (by simp))
    have key : ∀ v, (iteB (isRem w0) (some (.tuple ⟨[.agg ⟨act0⟩, .bool false, .int .i64 0]⟩, mkSt [])) (iteB (lineF w0 r).isSome (some (.tuple ⟨[actV (((lineF w0 r).map (·.1)).getD act00), .bool true, .int .i64 0]⟩, mkSt [])) (some (.tuple ⟨[.agg ⟨act0⟩, .bool false, .int .i64 350]⟩, mkSt []))) : Res) = some (v, mkSt []) →
        CRX P 0 6 [.string s] [] v [] := fun v hv => by
      refine hqs w0 r hw hl v ((q w0 r).trans ?_)
      rw [h1]
      refine Eq.trans ite_ff ?_
      rw [h2]
      refine Eq.trans ite_ff ?_
      refine need_at (k := kWo) (s := s) rfl rfl ?_
      rw [h3]
      simp only [a1, l_in, l_cl, l_b1, l_n0, l_aS, l_eS, l_bb, a2, Bool.and_self, need_tt, ite_ff]
      refine Eq.trans ?_ hv
      have hk : ∀ x : Res, needB (kLi.at (s, w0 :: r) (liV s (w0 :: r).length 0 ((w0 :: r).map Value.string)) (liB act0 (.map kkForms 12) (.miter (some 1) 12 [] 12))) x = x := fun x => need_at (k := kLi) (s := (s, w0 :: r)) rfl rfl rfl
      unfold isRem
      cases eqI (bAt w0 0) 35 with
      | true => rfl
      | false =>
        simp only [ite_ff]
        refine Eq.trans ?_ (hk _)
        unfold actV actC fzOps liV mkFz
        rw [fzU, fzU3]
        rfl
    simp only
    cases h4 : isRem w0 with
    | true => exact z (key _ (by rw [h4]; rfl))
    | false =>
      cases h5 : lineF w0 r with
      | none => exact z (key _ (by rw [h4, h5]; rfl))
      | some p => exact key _ (by rw [h4, h5]; rfl)
theorem line_ok : CallOkX P 0 6 (conM kLn.C kLn.D fun s => .leaf (resLi (lineM s), [])) := conX_ok kLn fun s ho v bs' hev => by
  simp only [DT.eval, Option.some.injEq, Prod.mk.injEq] at hev
  obtain ⟨rfl, rfl⟩ := hev
  exact line_crx s ho
end Go.VS.Tryz
end

section
namespace Go.VS.Tryz
set_option maxRecDepth 1000000
open Go.VS
noncomputable def ctIv (IX : ByteArray → Int → Int) : Ct := addCall P 85 (RixV IX) noCt
theorem dec_cut (IX : ByteArray → Int → Int) (s : ByteArray) : callQ P E (ctIv IX) 50 27 [.string s, .string ⟨#[10]⟩] =
 (iteB (eqS (ByteArray.mk #[10]) s)
 (needB (cutI (1 : Int) (lenI (ByteArray.size s)) (ByteArray.size s))
 (some ((Value.tuple (Array.mk [(Value.string (cutS s (0 : Int) (0 : Int))), (Value.string (cutS s (1 : Int) (lenI (ByteArray.size s)))), (Value.bool Bool.true)])), (mkSt []))))
 (iteB (geI (IX s (10 : Int)) (0 : Int))
 (needB (cutI (0 : Int) (IX s (10 : Int)) (ByteArray.size s))
 (needB (cutI (addI IntKind.i64 (IX s (10 : Int)) (1 : Int)) (lenI (ByteArray.size s)) (ByteArray.size s))
 (some ((Value.tuple (Array.mk [(Value.string (cutS s (0 : Int) (IX s (10 : Int)))), (Value.string (cutS s (addI IntKind.i64 (IX s (10 : Int)) (1 : Int)) (lenI (ByteArray.size s)))), (Value.bool Bool.true)])), (mkSt [])))))
 (some ((Value.tuple (Array.mk [(Value.string s), (Value.string (ByteArray.mk #[])), (Value.bool Bool.false)])), (mkSt []))))) := by kernel_rfl
theorem dec_ref (i e : Int) : callQN P E noCt 50 21 [.int .i64 i, .int .i64 e] =
 (some ((Value.iface 75 (Value.pointer (Option.some (Addr.mk 0 0 none)))), (mkSt [(Blk.cells [(Value.int IntKind.i64 i), (Value.int IntKind.i64 e)] 79 Bool.true)]))) := by kernel_rfl
def brk : List UInt8 → List UInt8 × List UInt8 × Bool
  | [] => ([], [], false)
  | b :: l => match b == 10 with
    | true => ([], l, true)
    | false => (b :: (brk l).1, (brk l).2.1, (brk l).2.2)
theorem brk_none : ∀ {l : List UInt8}, Lib.indexByte l 10 = -1 → brk l = (l, [], false)
  | [], _ => rfl
  | b :: l, h => by
    unfold Lib.indexByte at h
    unfold brk
    cases hb : b == 10 with
    | true => rw [hb] at h; simp at h
    | false =>
      rw [hb] at h
      have hg := Lib.indexByte_ge l 10
      have h1 : Lib.indexByte l 10 = -1 := by
        by_cases hq : Lib.indexByte l 10 = -1
        · exact hq
        · simp only [Bool.false_eq_true, if_false, beq_iff_eq, hq] at h; omega
      rw [brk_none h1]
theorem brk_some : ∀ {l : List UInt8} {o : Nat}, Lib.indexByte l 10 = o → o < l.length ∧ brk l = (l.take o, l.drop (o + 1), true)
  | [], o, h => by simp [Lib.indexByte] at h
  | b :: l, o, h => by
    unfold Lib.indexByte at h
    unfold brk
    cases hb : b == 10 with
    | true =>
      rw [hb] at h
      simp only [if_true] at h
      obtain rfl : o = 0 := by omega
      exact ⟨by simp, rfl⟩
    | false =>
      rw [hb] at h
      have hg := Lib.indexByte_ge l 10
      by_cases hq : Lib.indexByte l 10 = -1
      · simp only [Bool.false_eq_true, if_false, hq] at h
        have : (-1 : Int) = o := h
        omega
      · simp only [Bool.false_eq_true, if_false, beq_iff_eq, hq] at h
        obtain ⟨k, rfl⟩ : ∃ k, o = k + 1 := ⟨o - 1, by omega⟩
        obtain ⟨h1, h2⟩ := brk_some (l := l) (o := k) (by omega)
        rw [h2]
        exact ⟨by simp only [List.length_cons]; omega, rfl⟩
theorem brk_length (l : List UInt8) : (brk l).1.length + (brk l).2.1.length ≤ l.length ∧ (l ≠ [] → (brk l).2.1.length < l.length) := by
  induction l with
  | nil => simp [brk]
  | cons b l ih =>
    unfold brk
    cases b == 10 with
    | true => simp
    | false =>
      simp only [List.length_cons]
      exact ⟨by omega, fun _ => by omega⟩
theorem ba_ext {a b : ByteArray} (h : a.data.toList = b.data.toList) : a = b := by
  obtain ⟨⟨a⟩⟩ := a
  obtain ⟨⟨b⟩⟩ := b
  simp only at h
  rw [h]
theorem cutS_list (s : ByteArray) (a b : Nat) : (cutS s (a : Int) (b : Int)).data.toList = (s.data.toList.drop a).take (b - a) := by
  unfold cutS
  simp [ByteArray.extract, ByteArray.copySlice, List.extract_eq_take_drop]
def lnA (s : ByteArray) : ByteArray := ⟨⟨(brk s.data.toList).1⟩⟩
def lnB (s : ByteArray) : ByteArray := ⟨⟨(brk s.data.toList).2.1⟩⟩
def lnF (s : ByteArray) : Bool := (brk s.data.toList).2.2
def RcutV (A B : ByteArray → ByteArray) (F : ByteArray → Bool) : CallFn
  | [.string s, .string ⟨⟨[10]⟩⟩] => some (.ite (szS s) (.leaf (.tuple ⟨[.string (A s), .string (B s), .bool (F s)]⟩, [])) .fail)
  | _ => none
theorem cut_run {s : ByteArray} (h : s.size ≤ 4194304) : callQ P E (ctIv ixB) 50 27 [.string s, .string ⟨#[10]⟩] = some (.tuple ⟨[.string (lnA s), .string (lnB s), .bool (lnF s)]⟩, mkSt []) := by
  rw [dec_cut]
  have hlen := ba_len s
  cases h1 : eqS ⟨#[10]⟩ s with
  | true =>
    have hs : s = ⟨⟨[10]⟩⟩ := ba_ext (eqS_word h1)
    subst hs
    rfl
  | false =>
    refine Eq.trans ite_ff ?_
    have hix : ixB s 10 = Lib.indexByte s.data.toList 10 := rfl
    have hge := Lib.indexByte_ge s.data.toList 10
    by_cases hq : Lib.indexByte s.data.toList 10 = -1
    · have g : geI (ixB s 10) 0 = false := by rw [hix, hq]; rfl
      rw [g]
      refine Eq.trans ite_ff ?_
      unfold lnA lnB lnF
      rw [brk_none hq]
    · obtain ⟨o, ho⟩ : ∃ o : Nat, Lib.indexByte s.data.toList 10 = o := ⟨(Lib.indexByte s.data.toList 10).toNat, by omega⟩
      obtain ⟨b1, b2⟩ := brk_some ho
      rw [hlen] at b1
      rw [hix, ho]
      have g : geI (o : Int) 0 = true := by unfold geI; exact decide_eq_true (by omega)
      have a1 : addI .i64 (o : Int) 1 = ((o + 1 : Nat) : Int) := by unfold addI; rw [wrap64 (by omega) (by omega)]; omega
      have c1 : cutI 0 (o : Int) s.size = true := cutI_ok (by omega) (by omega) (by omega)
      have c2 : cutI ((o + 1 : Nat) : Int) (lenI s.size) s.size = true := cutI_ok (by omega) (by unfold lenI; omega) (by unfold lenI; omega)
      rw [g, a1, c1, c2]
      have e1 : cutS s 0 (o : Int) = lnA s := by
        refine ba_ext ((cutS_list s 0 o).trans ?_)
        unfold lnA
        rw [b2, List.drop_zero, Nat.sub_zero]
      have e2 : cutS s ((o + 1 : Nat) : Int) (lenI s.size) = lnB s := by
        refine ba_ext ((cutS_list s (o + 1) s.size).trans ?_)
        unfold lnB
        rw [b2, List.take_of_length_le (by rw [List.length_drop, hlen]; omega)]
      rw [e1, e2]
      have e3 : lnF s = true := by unfold lnF; rw [b2]
      rw [e3]
      rfl
theorem cut_ok : CallOkR P 27 (RcutV lnA lnB lnF) := by
  refine ok_of (addCall_ok (noCt_ok P) ix_ok) (n := 50) fun args t hR v bs hev => ?_
  unfold RcutV at hR
  split at hR
  · rename_i s
    obtain rfl := Option.some.inj hR
    cases hc : szS s with
    | false => rw [hc] at hev; cases hev
    | true =>
      rw [hc] at hev
      simp only [DT.eval, Option.some.injEq, Prod.mk.injEq] at hev
      obtain ⟨rfl, rfl⟩ := hev
      exact cut_run (Nat.le_of_ble_eq_true hc)
  · cases hR
def errV (i e : Int) : Value := .iface 75 (mkFp 0 [.int .i64 i, .int .i64 e])
def RrefM : CallFnM := fun args bs => match args, bs with
  | [.int .i64 i, .int .i64 e], [] => some (.leaf (errV i e, []))
  | _, _ => none
theorem ref_ok : CallOkX P 0 21 RrefM := by
  refine ⟨fun args bs t hR v bs' hev => ?_⟩
  unfold RrefM at hR
  split at hR
  · rename_i i e
    obtain rfl := Option.some.inj hR
    simp only [DT.eval, Option.some.injEq, Prod.mk.injEq] at hev
    obtain ⟨rfl, rfl⟩ := hev
    exact CRX.ofNew (by decide) rfl rfl (CR.ofN (engOk noCt) noNum (noCt_ok P) (dec_ref i e))
  · cases hR
end Go.VS.Tryz
end

section
namespace Go.VS.Tryz
set_option maxRecDepth 1000000
open Go.VS
noncomputable def ctPav (A B : ByteArray → ByteArray) (F : ByteArray → Bool) (LC : List Value → List Blk → Bool) (k nd n t : Int) (key : ByteArray) (on : Nat) (oc : List Value) (th : Bool) (er : Int) : Ct :=
  addCall P 27 (RcutV A B F) (addCallX P polD 0 21 RrefM (addCallX P polD 0 6 (oneM LC (.leaf (.tuple ⟨[.agg ⟨[.int .i64 k, .int .i64 nd, .int .i64 n, .int .i64 t, .string key, mkFz 3 on 0 oc]⟩, .bool th, .int .i64 er]⟩, []))) ctF))
def Dpa : HeadX := ⟨0, 49, [0, 2, 3, 4, 5], [.val, .val, .val, .own, .val], [9, 34, 9, 34, 2], polD⟩
noncomputable def Bpa : Code := (loopAt P 9 0).getD .skip
theorem Bpa_eq : loopAt P 9 0 = some Bpa := by kernel_rfl
theorem Bpa_occ : Occ P 9 (.block 0 (.loop Bpa)) := loopAt_has Bpa_eq
theorem dec_pa (A B : ByteArray → ByteArray) (F : ByteArray → Bool) (LC : List Value → List Blk → Bool) (k nd n t : Int) (key : ByteArray) (on : Nat) (oc : List Value) (th : Bool) (er : Int) (s : ByteArray) (m : Nat) (d : List Value) (c : Int) : roundQX P E (ctPav A B F LC k nd n t key on oc th er) 50 9 Bpa Dpa [.string s, mkFz 6 0 0 [], .nilIface, .slice (some ⟨0, 0, none⟩) m unk, .int .i64 c] [.cells d 24 false] =
 (iteB (neS s (ByteArray.mk #[]))
 (needB (szS s)
 (needB (LC [(Value.string (A s))] [])
 (iteB (neI er (0 : Int))
 (needB (Nat.ble (Nat.add 0 (Nat.mul m 6)) (List.length d))
 (some ((Value.tuple (Array.mk [(Value.int IntKind.i64 (-1 : Int)), (Value.string (B s)), (Value.iface 18446744073709551622 (Value.agg (Array.mk [(Value.slice none 0 0)]))), (Value.iface 75 (Value.iface 18446744073709551616 (Value.agg (Array.mk [(Value.slice none 0 0), (Value.int IntKind.i64 c), (Value.int IntKind.i64 er)])))), (Value.slice (Option.some (Addr.mk 0 0 none)) m 18446744073709551616), (Value.int IntKind.i64 c)])), (mkSt [(Blk.cells (renL Bool.true (rhoO 0 [2]) (takeC (Nat.mul m 6) (dropC 0 d))) 24 Bool.false)]))))
 (iteB th
 (iteB (eqI (lenI m) (200 : Int))
 (needB (Nat.ble (Nat.add 0 (Nat.mul m 6)) (List.length d))
 (some ((Value.tuple (Array.mk [(Value.int IntKind.i64 (-1 : Int)), (Value.string (B s)), (Value.iface 18446744073709551622 (Value.agg (Array.mk [(Value.slice none 0 0)]))), (Value.iface 75 (Value.iface 18446744073709551616 (Value.agg (Array.mk [(Value.slice none 0 0), (Value.int IntKind.i64 c), (Value.int IntKind.i64 (3 : Int))])))), (Value.slice (Option.some (Addr.mk 0 0 none)) m 18446744073709551616), (Value.int IntKind.i64 c)])), (mkSt [(Blk.cells (renL Bool.true (rhoO 0 [2]) (takeC (Nat.mul m 6) (dropC 0 d))) 24 Bool.false)]))))
 (iteB th
 (needB (Nat.ble (Nat.add m 1) 4194304)
 (needB (Nat.beq (Nat.add 0 (Nat.mul m 6)) (List.length d))
 (needB (Nat.ble (Nat.add 0 (Nat.mul (Nat.add m 1) 6)) (List.length (List.append (oldC 0 d) [(Value.int IntKind.i64 k), (Value.int IntKind.i64 nd), (Value.int IntKind.i64 n), (Value.int IntKind.i64 t), (Value.string key), (Value.iface 18446744073709551619 (Value.agg (Array.mk ((Value.slice none on 0) :: oc))))])))
 (some ((Value.tuple (Array.mk [(Value.int IntKind.i64 (0 : Int)), (Value.string (B s)), (Value.iface 18446744073709551622 (Value.agg (Array.mk [(Value.slice none 0 0)]))), Value.nilIface, (Value.slice (Option.some (Addr.mk 0 0 none)) (Nat.add m 1) 18446744073709551616), (Value.int IntKind.i64 (addI IntKind.i64 c (1 : Int)))])), (mkSt [(Blk.cells (renL Bool.true (rhoO 0 [4]) (takeC (Nat.mul (Nat.add m 1) 6) (dropC 0 (List.append (oldC 0 d) [(Value.int IntKind.i64 k), (Value.int IntKind.i64 nd), (Value.int IntKind.i64 n), (Value.int IntKind.i64 t), (Value.string key), (Value.iface 18446744073709551619 (Value.agg (Array.mk ((Value.slice none on 0) :: oc))))])))) 24 Bool.false)]))))))
 (needB (Nat.ble (Nat.add 0 (Nat.mul m 6)) (List.length d))
 (some ((Value.tuple (Array.mk [(Value.int IntKind.i64 (0 : Int)), (Value.string (B s)), (Value.iface 18446744073709551622 (Value.agg (Array.mk [(Value.slice none 0 0)]))), Value.nilIface, (Value.slice (Option.some (Addr.mk 0 0 none)) m 18446744073709551616), (Value.int IntKind.i64 (addI IntKind.i64 c (1 : Int)))])), (mkSt [(Blk.cells (renL Bool.true (rhoO 0 [2]) (takeC (Nat.mul m 6) (dropC 0 d))) 24 Bool.false)]))))))
 (iteB th
 (needB (Nat.ble (Nat.add m 1) 4194304)
 (needB (Nat.beq (Nat.add 0 (Nat.mul m 6)) (List.length d))
 (needB (Nat.ble (Nat.add 0 (Nat.mul (Nat.add m 1) 6)) (List.length (List.append (oldC 0 d) [(Value.int IntKind.i64 k), (Value.int IntKind.i64 nd), (Value.int IntKind.i64 n), (Value.int IntKind.i64 t), (Value.string key), (Value.iface 18446744073709551619 (Value.agg (Array.mk ((Value.slice none on 0) :: oc))))])))
 (some ((Value.tuple (Array.mk [(Value.int IntKind.i64 (0 : Int)), (Value.string (B s)), (Value.iface 18446744073709551622 (Value.agg (Array.mk [(Value.slice none 0 0)]))), Value.nilIface, (Value.slice (Option.some (Addr.mk 0 0 none)) (Nat.add m 1) 18446744073709551616), (Value.int IntKind.i64 (addI IntKind.i64 c (1 : Int)))])), (mkSt [(Blk.cells (renL Bool.true (rhoO 0 [4]) (takeC (Nat.mul (Nat.add m 1) 6) (dropC 0 (List.append (oldC 0 d) [(Value.int IntKind.i64 k), (Value.int IntKind.i64 nd), (Value.int IntKind.i64 n), (Value.int IntKind.i64 t), (Value.string key), (Value.iface 18446744073709551619 (Value.agg (Array.mk ((Value.slice none on 0) :: oc))))])))) 24 Bool.false)]))))))
 (needB (Nat.ble (Nat.add 0 (Nat.mul m 6)) (List.length d))
 (some ((Value.tuple (Array.mk [(Value.int IntKind.i64 (0 : Int)), (Value.string (B s)), (Value.iface 18446744073709551622 (Value.agg (Array.mk [(Value.slice none 0 0)]))), Value.nilIface, (Value.slice (Option.some (Addr.mk 0 0 none)) m 18446744073709551616), (Value.int IntKind.i64 (addI IntKind.i64 c (1 : Int)))])), (mkSt [(Blk.cells (renL Bool.true (rhoO 0 [2]) (takeC (Nat.mul m 6) (dropC 0 d))) 24 Bool.false)])))))))))
 (needB (Nat.ble (Nat.add 0 (Nat.mul m 6)) (List.length d))
 (some ((Value.tuple (Array.mk [(Value.int IntKind.i64 (1 : Int)), (Value.string s), (Value.iface 18446744073709551622 (Value.agg (Array.mk [(Value.slice none 0 0)]))), Value.nilIface, (Value.slice (Option.some (Addr.mk 0 0 none)) m 18446744073709551616), (Value.int IntKind.i64 c)])), (mkSt [(Blk.cells (renL Bool.true (rhoO 0 [1]) (takeC (Nat.mul m 6) (dropC 0 d))) 24 Bool.false)]))))) := by kernel_rfl
end Go.VS.Tryz
end

section
namespace Go.VS.Tryz
set_option maxRecDepth 1000000
open Go.VS
def EAct : Enc ActM where
  sz := 6
  f a := actC a (fzOps a.ops)
  len _ := rfl
  pos := by decide
  inj a b h := by
    obtain ⟨a1, a2, a3, a4, a5, a6⟩ := a
    obtain ⟨b1, b2, b3, b4, b5, b6⟩ := b
    unfold actC fzOps at h
    simp only [List.cons.injEq, Value.int.injEq, Value.string.injEq, true_and, and_true] at h
    obtain ⟨rfl, rfl, rfl, rfl, rfl, h⟩ := h
    obtain rfl := EOp.all_inj _ _ (fz_inj h)
    rfl
  nr c := by
    unfold actC fzOps
    simp only [noRefL, noRef, noRef_fz, Bool.and_self]
theorem actLen (l : List ActM) : (EAct.all l).length = Nat.mul l.length 6 := EAct.all_length l
theorem actSelf {l : List ActM} {n : Nat} (h : n = l.length) : takeC (Nat.mul n 6) (dropC 0 (EAct.all l)) = EAct.all l := by
  subst h; exact EAct.all_self l
theorem actApp (out : List ActM) (a : ActM) : List.append (oldC 0 (EAct.all out)) [.int .i64 a.kind, .int .i64 a.node, .int .i64 a.n, .int .i64 a.t, .string a.key, mkFz 3 a.ops.length 0 (EOp.all a.ops)] = EAct.all (out ++ [a]) := by
  rw [oldC_zero, EAct.all_append, EAct.all_one]; rfl
def paV (s : ByteArray) (e : Value) (m : Nat) (c : Int) : List Value := [.string s, mkFz 6 0 0 [], e, .slice (some ⟨0, 0, none⟩) m unk, .int .i64 c]
def paB (out : List ActM) : List Blk := [.cells (EAct.all out) 24 false]
noncomputable def ctPa (s : ByteArray) : Ct := ctPav lnA lnB lnF (kLn.at (lnA s)) (lineM (lnA s)).1.kind (lineM (lnA s)).1.node (lineM (lnA s)).1.n (lineM (lnA s)).1.t (lineM (lnA s)).1.key (lineM (lnA s)).1.ops.length (EOp.all (lineM (lnA s)).1.ops) (lineM (lnA s)).2.1 (lineM (lnA s)).2.2
theorem lnA_size (s : ByteArray) : (lnA s).size ≤ s.size ∧ (s.size ≠ 0 → (lnB s).size < s.size) := by
  have h := brk_length s.data.toList
  have hl := ba_len s
  have h1 : (lnA s).size = (brk s.data.toList).1.length := by unfold lnA; simp [ByteArray.size]
  have h2 : (lnB s).size = (brk s.data.toList).2.1.length := by unfold lnB; simp [ByteArray.size]
  rw [h1, h2, ← hl]
  refine ⟨by have := h.1; omega, fun hne => h.2 (fun e => hne (by rw [e]; rfl))⟩
theorem ctPa_ok {s : ByteArray} (h : s.size ≤ 4194302) : CtOk P (ctPa s) :=
  addCall_ok (addCallX_ok (addCallX_ok ctF_ok (oneM_ok kLn line_ok (s := lnA s) (Nat.le_trans (lnA_size s).1 h))) ref_ok) cut_ok
theorem ne_str {s : ByteArray} (h : s.size ≠ 0) : neS s ⟨#[]⟩ = true := by
  rw [neS_eq]
  cases hq : s.data.toList with
  | nil => exact absurd (by rw [← ba_len, hq]; rfl) h
  | cons a l => rfl
theorem pa_round {s : ByteArray} {out : List ActM} {c : Nat} (hs : s.size ≤ 4194302) (h0 : s.size ≠ 0) (ho : out.length ≤ 200) (hc : c ≤ 4194304) : roundQX P E (ctPa s) 50 9 Bpa Dpa (paV s .nilIface out.length c) (paB out) =
    match neI (lineM (lnA s)).2.2 0, (lineM (lnA s)).2.1, eqI (lenI out.length) 200 with
    | true, _, _ => some (.tuple ⟨exV .ret :: paV (lnB s) (errV c (lineM (lnA s)).2.2) out.length c⟩, mkSt (paB out))
    | false, true, true => some (.tuple ⟨exV .ret :: paV (lnB s) (errV c 3) out.length c⟩, mkSt (paB out))
    | false, true, false => some (.tuple ⟨exV .normal :: paV (lnB s) .nilIface (out ++ [(lineM (lnA s)).1]).length ((c + 1 : Nat) : Int)⟩, mkSt (paB (out ++ [(lineM (lnA s)).1])))
    | false, false, _ => some (.tuple ⟨exV .normal :: paV (lnB s) .nilIface out.length ((c + 1 : Nat) : Int)⟩, mkSt (paB out)) := by
  unfold paV paB ctPa
  rw [dec_pa]
  have g0 := ne_str h0
  have g1 : szS s = true := szS_of (by omega)
  have b3 : ∀ n, Nat.beq n n = true := Nat.beq_refl
  have b2 : ∀ n, Nat.ble n n = true := fun n => Nat.ble_eq_true_of_le (Nat.le_refl n)
  have t1 : Nat.ble (Nat.add out.length 1) 4194304 = true := Nat.ble_eq_true_of_le (by show out.length + 1 ≤ _; omega)
  have ol : ∀ a : ActM, (out ++ [a]).length = Nat.add out.length 1 := fun a => by simp
  have os : ∀ a : ActM, takeC (Nat.mul (Nat.add out.length 1) 6) (dropC 0 (EAct.all (out ++ [a]))) = EAct.all (out ++ [a]) := fun a => actSelf (ol a).symm
  have hadd : addI .i64 (c : Int) 1 = ((c + 1 : Nat) : Int) := by unfold addI; rw [wrap64 (by omega) (by omega)]; omega
  simp only [g0, g1, ite_tt, need_tt]
  refine need_at (k := kLn) (s := lnA s) rfl rfl ?_
  have hfz3 : ∀ l : List OpM, (Value.iface 18446744073709551619 (.agg ⟨.slice none l.length 0 :: EOp.all l⟩)) = mkFz 3 l.length 0 (EOp.all l) := fun l => by unfold mkFz; rw [fzU3]
  generalize lineM (lnA s) = x
  obtain ⟨a, th, er⟩ := x
  simp only
  simp only [hfz3, actApp, actLen, b2, b3, t1, ol, os, actSelf rfl, zeroAdd, Enc.all_ren, hadd, need_tt]
  have hfz0 : mkFz 6 0 0 [] = .iface 18446744073709551622 (.agg ⟨[.slice none 0 0]⟩) := by unfold mkFz FZ; rfl
  have hfp : ∀ i e : Int, errV i e = .iface 75 (.iface 18446744073709551616 (.agg ⟨[.slice none 0 0, .int .i64 i, .int .i64 e]⟩)) := fun i e => by unfold errV mkFp FZ; rfl
  rw [hfz0]
  simp only [hfp]
  cases neI er 0 with
  | true => rfl
  | false =>
    cases th with
    | false => rfl
    | true =>
      cases eqI (lenI out.length) 200 <;> rfl
theorem pa_end {s : ByteArray} {out : List ActM} {c : Nat} (h0 : s.size = 0) : roundQX P E (ctPa s) 50 9 Bpa Dpa (paV s .nilIface out.length c) (paB out) = some (.tuple ⟨exV (.exit 0) :: paV s .nilIface out.length c⟩, mkSt (paB out)) := by
  unfold paV paB ctPa
  rw [dec_pa]
  have g0 : neS s ⟨#[]⟩ = false := by
    rw [neS_eq]
    have : s.data.toList = [] := List.length_eq_zero_iff.1 (by rw [ba_len]; exact h0)
    rw [this]; rfl
  have b2 : ∀ n, Nat.ble n n = true := fun n => Nat.ble_eq_true_of_le (Nat.le_refl n)
  simp only [g0, ite_ff, actLen, b2, actSelf rfl, zeroAdd, Enc.all_ren, need_tt]
  have hfz0 : mkFz 6 0 0 [] = .iface 18446744073709551622 (.agg ⟨[.slice none 0 0]⟩) := by unfold mkFz FZ; rfl
  rw [hfz0]
  rfl
def paM : Nat → ByteArray → List ActM → Nat → Option (Int × Int) × ByteArray × List ActM × Nat
  | 0, s, out, c => (none, s, out, c)
  | f + 1, s, out, c => match Nat.beq s.size 0 with
    | true => (none, s, out, c)
    | false => match neI (lineM (lnA s)).2.2 0, (lineM (lnA s)).2.1, eqI (lenI out.length) 200 with
      | true, _, _ => (some (c, (lineM (lnA s)).2.2), lnB s, out, c)
      | false, true, true => (some (c, 3), lnB s, out, c)
      | false, true, false => paM f (lnB s) (out ++ [(lineM (lnA s)).1]) (c + 1)
      | false, false, _ => paM f (lnB s) out (c + 1)
def paX : Option (Int × Int) → Ex
  | none => .normal
  | some _ => .ret
def paE : Option (Int × Int) → Value
  | none => .nilIface
  | some (i, e) => errV i e
theorem pa_loop : ∀ (f : Nat) (s : ByteArray) (out : List ActM) (c : Nat), s.size < f → s.size ≤ 4194302 → out.length ≤ 200 → c + s.size ≤ 4194304 →
    LRX P 9 0 Bpa Dpa.head (paV s .nilIface out.length c) (paB out) (paX (paM f s out c).1) (paV (paM f s out c).2.1 (paE (paM f s out c).1) (paM f s out c).2.2.1.length (paM f s out c).2.2.2) (paB (paM f s out c).2.2.1)
  | 0, s, _, _, h, _, _, _ => by omega
  | f + 1, s, out, c, hf, hs, ho, hc => by
    unfold paM
    cases hb : Nat.beq s.size 0 with
    | true => exact LRX.stop (n := 50) (engOk (ctPa s)) noNum (ctPa_ok hs) Bpa_occ (e := .exit 0) (pa_end (Nat.eq_of_beq_eq_true hb)) (by intro h; cases h)
    | false =>
      have h0 : s.size ≠ 0 := Nat.ne_of_beq_eq_false hb
      have hlt := (lnA_size s).2 h0
      have q := pa_round (out := out) (c := c) hs h0 ho (by omega)
      cases h1 : neI (lineM (lnA s)).2.2 0 with
      | true =>
        rw [h1] at q
        exact LRX.stop (n := 50) (engOk (ctPa s)) noNum (ctPa_ok hs) Bpa_occ (e := .ret) q (by intro h; cases h)
      | false =>
        cases h2 : (lineM (lnA s)).2.1 with
        | false =>
          rw [h1, h2] at q
          exact LRX.again (n := 50) (engOk (ctPa s)) noNum (ctPa_ok hs) Bpa_occ q (pa_loop f (lnB s) out (c + 1) (by omega) (by omega) ho (by omega))
        | true =>
          cases h3 : eqI (lenI out.length) 200 with
          | true =>
            rw [h1, h2, h3] at q
            exact LRX.stop (n := 50) (engOk (ctPa s)) noNum (ctPa_ok hs) Bpa_occ (e := .ret) q (by intro h; cases h)
          | false =>
            rw [h1, h2, h3] at q
            have hne : out.length ≠ 200 := by
              intro e
              unfold eqI lenI at h3
              have := of_decide_eq_false h3
              omega
            exact LRX.again (n := 50) (engOk (ctPa s)) noNum (ctPa_ok hs) Bpa_occ q (pa_loop f (lnB s) (out ++ [(lineM (lnA s)).1]) (c + 1) (by omega) (by omega) (by rw [List.length_append]; simp only [List.length_cons, List.length_nil]; omega) (by omega))
end Go.VS.Tryz
end

section
namespace Go.VS.Tryz
set_option maxRecDepth 1000000
open Go.VS
noncomputable def ctPv2 (LC : List Value → List Blk → Bool) (ok : Bool) (s2 : ByteArray) (z : Value) (m : Nat) (d : List Value) (c li le : Int) : Ct :=
  addCallX P polD 0 21 RrefM (addLoopX P 9 0 Dpa (oneL LC (.ite ok (.leaf (.normal, [.string s2, z, .nilIface, .slice (some ⟨0, 0, none⟩) m unk, .int .i64 c], [.cells d 24 false])) (.leaf (.ret, [.string s2, z, errV li le, .slice (some ⟨0, 0, none⟩) m unk, .int .i64 c], [.cells d 24 false])))) ctF)
theorem dec_parse (LC : List Value → List Blk → Bool) (ok : Bool) (s2 : ByteArray) (m : Nat) (d : List Value) (c li le : Int) (s : ByteArray) : callQX P E (ctPv2 LC ok s2 (mkFz 6 0 0 []) m d c li le) 50 polD [.val, .keep] [34, 31] 0 9 [.string s] [] =
 (iteB (gtI (lenI (ByteArray.size s)) (65536 : Int))
 (some ((Value.tuple (Array.mk [(Value.iface 18446744073709551622 (Value.agg (Array.mk [(Value.slice none 0 0)]))), (Value.iface 75 (Value.iface 18446744073709551616 (Value.agg (Array.mk [(Value.slice none 0 0), (Value.int IntKind.i64 (-1 : Int)), (Value.int IntKind.i64 (3 : Int))]))))])), (mkSt [])))
 (needB (LC [(Value.string s), (Value.iface 18446744073709551622 (Value.agg (Array.mk [(Value.slice none 0 0)]))), Value.nilIface, (Value.slice (Option.some (Addr.mk 0 0 none)) 0 18446744073709551616), (Value.int IntKind.i64 (0 : Int))] [(Blk.cells [] 24 Bool.false)])
 (iteB ok
 (needB (frzC P 0 m 18446744073709551616 (renL Bool.true (backN [] 1) d) 24)
 (some ((Value.tuple (Array.mk [(Value.iface 18446744073709551622 (Value.agg (Array.mk ((Value.slice none m 0) :: (takeC (Nat.mul m 6) (dropC 0 (renL Bool.true (backN [] 1) d))))))), Value.nilIface])), (mkSt []))))
 (some ((Value.tuple (Array.mk [(Value.iface 18446744073709551622 (Value.agg (Array.mk [(Value.slice none 0 0)]))), (Value.iface 75 (Value.iface 18446744073709551616 (Value.agg (Array.mk [(Value.slice none 0 0), (Value.int IntKind.i64 li), (Value.int IntKind.i64 le)]))))])), (mkSt [])))))) := by kernel_rfl
def kPaL : Con ByteArray where
  enc s := (paV s .nilIface 0 0, paB [])
  ok s := s.size ≤ 4194302
  inj a b h := by
    unfold paV at h
    simp only [Prod.mk.injEq, List.cons.injEq, Value.string.injEq, and_true] at h
    exact h
  dflt := default
def paX1 (s : ByteArray) : Option (Int × Int) × ByteArray × List ActM × Nat := paM (s.size + 1) s [] 0
noncomputable def paDT (x : Option (Int × Int) × ByteArray × List ActM × Nat) : DT (Ex × List Value × List Blk) :=
  .ite x.1.isNone (.leaf (.normal, paV x.2.1 .nilIface x.2.2.1.length x.2.2.2, paB x.2.2.1)) (.leaf (.ret, paV x.2.1 (errV (x.1.getD (0, 0)).1 (x.1.getD (0, 0)).2) x.2.2.1.length x.2.2.2, paB x.2.2.1))
theorem pa_loopOk : LoopOkX P 9 0 Bpa Dpa.head (conL kPaL.C kPaL.D fun s => paDT (paX1 s)) :=
  conLX_ok kPaL (loopAt_occ Bpa_eq) fun s ho e vs' bs' hev => by
    have ho : s.size ≤ 4194302 := ho
    have q := pa_loop (s.size + 1) s [] 0 (by omega) ho (by decide) (by omega)
    unfold paDT paX1 at hev
    generalize paM (s.size + 1) s [] 0 = x at hev q
    obtain ⟨o, s2, out, c⟩ := x
    cases o with
    | none =>
      simp only [Option.isNone_none, DT.eval, Option.some.injEq, Prod.mk.injEq] at hev
      obtain ⟨rfl, rfl, rfl⟩ := hev
      exact q
    | some p =>
      simp only [Option.isNone_some, DT.eval, Option.getD_some, Option.some.injEq, Prod.mk.injEq] at hev
      obtain ⟨rfl, rfl, rfl⟩ := hev
      exact q
def parseM (s : ByteArray) : Option (Int × Int) × List ActM := match gtI (lenI s.size) 65536, (paX1 s).1 with
  | true, _ => (some (-1, 3), [])
  | false, some p => (some p, [])
  | false, none => (none, (paX1 s).2.2.1)
def fzActs (l : List ActM) : Value := mkFz 6 l.length 0 (EAct.all l)
theorem frzActs {l : List ActM} : frzC P 0 l.length 18446744073709551616 (EAct.all l) 24 = true := by
  have he : esz P 24 = 6 := by kernel_rfl
  unfold frzC
  rw [he, EAct.all_nr, actLen]
  have h2 : Nat.ble (Nat.add 0 (Nat.mul l.length 6)) (Nat.mul l.length 6) = true := by rw [zeroAdd]; exact Nat.ble_eq_true_of_le (Nat.le_refl _)
  rw [h2]; rfl
noncomputable def ctPs (s : ByteArray) : Ct := addCallX P polD 0 21 RrefM (addLoopX P 9 0 Dpa (oneL (kPaL.at s) (paDT (paX1 s))) ctF)
theorem parse_run (s : ByteArray) : callQX P E (ctPs s) 50 polD [.val, .keep] [34, 31] 0 9 [.string s] [] = some (.tuple ⟨[fzActs (parseM s).2, paE (parseM s).1]⟩, mkSt []) := by
  have q := dec_parse (kPaL.at s) (paX1 s).1.isNone (paX1 s).2.1 (paX1 s).2.2.1.length (EAct.all (paX1 s).2.2.1) (paX1 s).2.2.2 ((paX1 s).1.getD (0, 0)).1 ((paX1 s).1.getD (0, 0)).2 s
  refine Eq.trans ?_ (q.trans ?_)
  · rfl
  clear q
  have hfz0 : ∀ l : List ActM, fzActs l = .iface 18446744073709551622 (.agg ⟨.slice none l.length 0 :: EAct.all l⟩) := fun l => by unfold fzActs mkFz FZ; rfl
  have hfp : ∀ i e : Int, errV i e = .iface 75 (.iface 18446744073709551616 (.agg ⟨[.slice none 0 0, .int .i64 i, .int .i64 e]⟩)) := fun i e => by unfold errV mkFp FZ; rfl
  unfold parseM
  cases gtI (lenI s.size) 65536 with
  | true =>
    simp only [ite_tt]
    unfold paE
    simp only [hfz0, hfp]
    rfl
  | false =>
    simp only [ite_ff]
    refine need_at (k := kPaL) (s := s) (by show paV s .nilIface 0 0 = _; unfold paV mkFz FZ; rfl) rfl ?_
    generalize paX1 s = x
    obtain ⟨o, s2, out, c⟩ := x
    cases o with
    | none =>
      simp only [Option.isNone_none, ite_tt, Enc.all_ren, actSelf rfl, frzActs, need_tt]
      simp only [hfz0]
      rfl
    | some p =>
      simp only [Option.isNone_some, ite_ff, Option.getD_some]
      unfold paE
      simp only [hfz0, hfp]
      rfl
end Go.VS.Tryz
end

section
namespace Go.Proofs.YtlkfapppocmgpaaGreatDoor
open Go.RowKit Go.Extern.Stop Go.Stop Go.Extern
theorem Tryz.valueOf27 (t : Addr) (w : World) : (ReflectliteValue.unpack (.iface 77 (.pointer (some t)))).run Tryz.prog w
    = .ok (.agg #[.pointer (some ⟨7, 77, none⟩), .pointer (some ⟨w.heap.size, 0, none⟩), .int .u64 150]) (w.alloc (.cells #[.pointer (some t)] 77)) := by kernel_rfl
theorem Tryz.type27 (a : Addr) (w : World) : (ReflectliteValue.methodAny (ReflectliteValue.valueError "reflectlite.Value.Type" 0) (fun t _ _ _ => ReflectliteType.toType t) #[.agg #[.pointer (some ⟨7, 77, none⟩), .pointer (some a), .int .u64 150]]).run Tryz.prog w
    = .ok (.iface 129 (.agg #[.pointer (some ⟨7, 77, none⟩)])) w := by kernel_rfl
theorem Tryz.methodKind (h : Value) (w : World) : (Go.method 308 129 (.agg #[h]) "Kind").run Tryz.prog w = .ok (133, h) w := by kernel_rfl
theorem Tryz.kind27 (w : World) : ((ReflectliteType.abiMethod fun t => (fun a : Nat => Value.int IntKind.u8 (a : Int)) <$> Rtype.kind t) #[.pointer (some ⟨7, 77, none⟩)]).run Tryz.prog w = .ok (.int .u8 22) w := by kernel_rfl
theorem Tryz.kind25 (w : World) : ((ReflectliteType.abiMethod fun t => (fun a : Nat => Value.int IntKind.u8 (a : Int)) <$> Rtype.kind t) #[.pointer (some ⟨7, 75, none⟩)]).run Tryz.prog w = .ok (.int .u8 22) w := by kernel_rfl
theorem rlm (z : Sem Value) (f : TypeId → Addr → Nat → Nat → Sem Value) (v : Value) :
    ReflectliteValue.method z f #[v] = (do match ← ReflectliteValue.parts v with | none => z | some (t, a, fl) => f t a fl (fl % 32)) := rfl
theorem Tryz.parts27 (a : Addr) (w : World) : (ReflectliteValue.parts (.agg #[.pointer (some ⟨7, 77, none⟩), .pointer (some a), .int .u64 150])).run Tryz.prog w = .ok (some (77, a, 150)) w := by kernel_rfl
theorem Tryz.isNil27 (a p : Addr) (W : World) (ha : W.cell? a = some (.pointer (some p))) :
    (ReflectliteValue.method (ReflectliteValue.valueError "reflectlite.Value.IsNil" 0) ReflectliteValue.isNil #[.agg #[.pointer (some ⟨7, 77, none⟩), .pointer (some a), .int .u64 150]]).run Tryz.prog W = .ok (.bool false) W := by
  rw [rlm]
  simp only [Sem.run_bind, Tryz.parts27, Result.andThen]
  simp [ReflectliteValue.isNil, loadVar, isAgg, underlying, Tryz.underlying77, ha, Result.andThen]
theorem Tryz.methodElem (h : Value) (w : World) : (Go.method 308 129 (.agg #[h]) "Elem").run Tryz.prog w = .ok (146, .agg #[h]) w := by kernel_rfl
theorem Tryz.methodImplements (h : Value) (w : World) : (Go.method 308 129 (.agg #[h]) "Implements").run Tryz.prog w = .ok (147, .agg #[h]) w := by kernel_rfl
theorem Tryz.methodAssignableTo (h : Value) (w : World) : (Go.method 308 129 (.agg #[h]) "AssignableTo").run Tryz.prog w = .ok (144, .agg #[h]) w := by kernel_rfl
theorem Tryz.elem27 (w : World) : (ReflectliteType.method ReflectliteType.elem #[.agg #[.pointer (some ⟨7, 77, none⟩)]]).run Tryz.prog w = .ok (.iface 129 (.agg #[.pointer (some ⟨7, 75, none⟩)])) w := by kernel_rfl
theorem Tryz.implements25 (w : World) : (ReflectliteType.relation "Implements" ReflectliteType.implements_ #[.agg #[.pointer (some ⟨7, 75, none⟩)], .iface 129 (.agg #[.pointer (some ⟨7, 31, none⟩)])]).run Tryz.prog w = .ok (.bool true) w := by kernel_rfl
theorem Tryz.typeOf25 (v : Value) (w : World) : (ReflectliteType.typeOf #[.iface 75 v]).run Tryz.prog w = .ok (.iface 129 (.agg #[.pointer (some ⟨7, 75, none⟩)])) w := by kernel_rfl
theorem Tryz.assignable25 (w : World) : (ReflectliteType.relation "AssignableTo" ReflectliteType.assignableTo #[.agg #[.pointer (some ⟨7, 75, none⟩)], .iface 129 (.agg #[.pointer (some ⟨7, 75, none⟩)])]).run Tryz.prog w = .ok (.bool true) w := by kernel_rfl
theorem Tryz.valueOf25 (e : Addr) (w : World) : (ReflectliteValue.unpack (.iface 75 (.pointer (some e)))).run Tryz.prog w
    = .ok (.agg #[.pointer (some ⟨7, 75, none⟩), .pointer (some ⟨w.heap.size, 0, none⟩), .int .u64 150]) (w.alloc (.cells #[.pointer (some e)] 75)) := by kernel_rfl
theorem Tryz.elemOf27 (w : World) : (Rtype.elem? 77).run Tryz.prog w = .ok (some 75) w := by kernel_rfl
theorem Tryz.mk25 (p : Addr) (w : World) : (ReflectliteValue.mk 75 p ReflectliteValue.flagAddr).run Tryz.prog w = .ok (.agg #[.pointer (some ⟨7, 75, none⟩), .pointer (some p), .int .u64 406]) w := by kernel_rfl
theorem Tryz.elemV27 (a p : Addr) (W : World) (ha : W.cell? a = some (.pointer (some p))) :
    (ReflectliteValue.method (ReflectliteValue.valueError "reflectlite.Value.Elem" 0) ReflectliteValue.elem #[.agg #[.pointer (some ⟨7, 77, none⟩), .pointer (some a), .int .u64 150]]).run Tryz.prog W
      = .ok (.agg #[.pointer (some ⟨7, 75, none⟩), .pointer (some p), .int .u64 406]) W := by
  rw [rlm]
  simp only [Sem.run_bind, Tryz.parts27, Result.andThen]
  simp [ReflectliteValue.elem, loadVar, isAgg, underlying, Tryz.underlying77, ha, Result.andThen, Tryz.elemOf27, Tryz.mk25]
theorem rls (v x : Value) : ReflectliteValue.set #[v, x] = (do
    let (some (dst, a, fl), some (src, b, _)) := (← ReflectliteValue.parts v, ← ReflectliteValue.parts x)
      | unsupported (.noEntry "extern/(internal/reflectlite.Value).Set.zeroValue")
    if fl / ReflectliteValue.flagAddr % 2 == 0 then unsupported (.noEntry "extern/(internal/reflectlite.Value).Set.unaddressable")
    let val ← loadVar src b
    if ← Rtype.directlyAssignable dst src then storeVar dst a val
    else if ← Rtype.implements dst src then
      if (← Rtype.kind src) == 20 then
        match val with
        | .nilIface => unsupported (.noEntry "extern/reflectlite: a nil value of one interface type handed on as a value of another")
        | _ => storeVar dst a val
      else storeVar dst a (.iface src val)
    else panicString ("reflectlite.Set: value of type " ++ (← Rtype.spelt src) ++ " is not assignable to type " ++ (← Rtype.spelt dst))
    pure (.tuple #[])) := rfl
theorem Tryz.parts25a (a : Addr) (w : World) : (ReflectliteValue.parts (.agg #[.pointer (some ⟨7, 75, none⟩), .pointer (some a), .int .u64 406])).run Tryz.prog w = .ok (some (75, a, 406)) w := by kernel_rfl
theorem Tryz.parts25 (a : Addr) (w : World) : (ReflectliteValue.parts (.agg #[.pointer (some ⟨7, 75, none⟩), .pointer (some a), .int .u64 150])).run Tryz.prog w = .ok (some (75, a, 150)) w := by kernel_rfl
theorem Tryz.direct25 (w : World) : (Rtype.directlyAssignable 75 75).run Tryz.prog w = .ok true w := by kernel_rfl
theorem Tryz.set25 (ta b e : Addr) (old : Value) (W : World) (hb : W.cell? b = some (.pointer (some e))) (ht : W.cell? ta = some old) (hf : W.frozen? ta = false) :
    (ReflectliteValue.set #[.agg #[.pointer (some ⟨7, 75, none⟩), .pointer (some ta), .int .u64 406], .agg #[.pointer (some ⟨7, 75, none⟩), .pointer (some b), .int .u64 150]]).run Tryz.prog W
      = .ok (.tuple #[]) (W.setCell ta (.pointer (some e))) := by
  rw [rls]
  simp only [Sem.run_bind, Tryz.parts25a, Tryz.parts25, Result.andThen]
  simp [ReflectliteValue.flagAddr, loadVar, isAgg, underlying, Tryz.underlying75, hb, Result.andThen, Tryz.direct25, storeVar, Value.cells, storeCells, Addr.add]
  rw [run_store Tryz.prog W ta _ _ (by rfl)]
  simp [ht, hf]
set_option maxHeartbeats 4000000 in
theorem as_hit (e t : Addr) (old : Value) (w : World) (hg : w.cell? ⟨0, 0, none⟩ = some (.iface 129 (.agg #[.pointer (some ⟨7, 31, none⟩)]))) (ht0 : w.cell? t = some old) (hf0 : w.frozen? t = false) :
    Calls Tryz.prog 31 #[.iface 75 (.pointer (some e)), .iface 77 (.pointer (some t))] w fun ev w' => ev = .returned (.bool true) ∧ w' = ((((w.alloc (.cells #[.pointer (some t)] 77)).alloc (.cells #[.pointer (some ⟨7, 77, none⟩), .pointer (some ⟨w.heap.size, 0, none⟩), .int .u64 150] 107)).alloc (.cells #[.pointer (some ⟨7, 77, none⟩), .pointer (some ⟨w.heap.size, 0, none⟩), .int .u64 150] 107)).alloc (.cells #[.pointer (some e)] 75)).setCell t (.pointer (some e)) := by
  have h6 := @run_callFunc_extern Tryz.prog 55 _ (fun args => ReflectliteValue.unpack (args.getD 0 (.tuple #[]))) Tryz.func55 (by kernel_rfl) (by kernel_rfl) (by kernel_rfl) (by kernel_rfl)
  have h7 := @run_callFunc_extern Tryz.prog 56 _ (ReflectliteValue.methodAny (ReflectliteValue.valueError "reflectlite.Value.Type" 0) (fun t _ _ _ => ReflectliteType.toType t)) Tryz.func56 (by kernel_rfl) (by kernel_rfl) (by kernel_rfl) (by kernel_rfl)
  have h8 := @run_callFunc_extern Tryz.prog 57 _ (ReflectliteValue.method (ReflectliteValue.valueError "reflectlite.Value.IsNil" 0) ReflectliteValue.isNil) Tryz.func57 (by kernel_rfl) (by kernel_rfl) (by kernel_rfl) (by kernel_rfl)
  have h27 := @run_callFunc_extern Tryz.prog 133 _ (ReflectliteType.abiMethod fun t => do pure (.int .u8 (← Rtype.kind t))) Tryz.func133 (by kernel_rfl) (by kernel_rfl) (by kernel_rfl) (by kernel_rfl)
  have h37 := @run_callFunc_extern Tryz.prog 146 _ (ReflectliteType.method ReflectliteType.elem) Tryz.func146 (by kernel_rfl) (by kernel_rfl) (by kernel_rfl) (by kernel_rfl)
  have h38 := @run_callFunc_extern Tryz.prog 147 _ (ReflectliteType.relation "Implements" ReflectliteType.implements_) Tryz.func147 (by kernel_rfl) (by kernel_rfl) (by kernel_rfl) (by kernel_rfl)
  have h10 := @run_callFunc_extern Tryz.prog 59 _ ReflectliteType.typeOf Tryz.func59 (by kernel_rfl) (by kernel_rfl) (by kernel_rfl) (by kernel_rfl)
  have h35 := @run_callFunc_extern Tryz.prog 144 _ (ReflectliteType.relation "AssignableTo" ReflectliteType.assignableTo) Tryz.func144 (by kernel_rfl) (by kernel_rfl) (by kernel_rfl) (by kernel_rfl)
  have h11 := @run_callFunc_extern Tryz.prog 79 _ (ReflectliteValue.method (ReflectliteValue.valueError "reflectlite.Value.Elem" 0) ReflectliteValue.elem) Tryz.func79 (by kernel_rfl) (by kernel_rfl) (by kernel_rfl) (by kernel_rfl)
  have h12 := @run_callFunc_extern Tryz.prog 80 _ ReflectliteValue.set Tryz.func80 (by kernel_rfl) (by kernel_rfl) (by kernel_rfl) (by kernel_rfl)
  have tO := Tryz.typeOf25
  have mA := Tryz.methodAssignableTo
  have a25 := Tryz.assignable25
  have v25 := Tryz.valueOf25
  have f6 := Tryz.valueOf27
  have f7 := Tryz.type27
  have mK := Tryz.methodKind
  have mE := Tryz.methodElem
  have mI := Tryz.methodImplements
  have k27 := Tryz.kind27
  have k25 := Tryz.kind25
  have e27 := Tryz.elem27
  have i25 := Tryz.implements25
  have n8 := Tryz.isNil27 ⟨w.heap.size, 0, none⟩ t ((w.alloc (.cells #[.pointer (some t)] 77)).alloc (.cells #[.pointer (some ⟨7, 77, none⟩), .pointer (some ⟨w.heap.size, 0, none⟩), .int .u64 150] 107)) (by simp)
  have hlt : 0 < w.heap.size := by
    rcases Nat.eq_zero_or_pos w.heap.size with h0 | h
    · simp [World.cell?, h0] at hg
    · exact h
  have hg2 : ((w.alloc (.cells #[.pointer (some t)] 77)).alloc (.cells #[.pointer (some ⟨7, 77, none⟩), .pointer (some ⟨w.heap.size, 0, none⟩), .int .u64 150] 107)).cell? ⟨0, 0, none⟩ = some (.iface 129 (.agg #[.pointer (some ⟨7, 31, none⟩)])) := by
    rw [World.cell?_alloc_lt _ _ ⟨0, 0, none⟩ (by simp), World.cell?_alloc_lt _ _ ⟨0, 0, none⟩ hlt]; exact hg
  have htl : t.block < w.heap.size := by
    rcases Nat.lt_or_ge t.block w.heap.size with h | h
    · exact h
    · simp [World.cell?, Array.getElem?_eq_none h] at ht0
  have el := Tryz.elemV27 ⟨w.heap.size, 0, none⟩ t (((w.alloc (.cells #[.pointer (some t)] 77)).alloc (.cells #[.pointer (some ⟨7, 77, none⟩), .pointer (some ⟨w.heap.size, 0, none⟩), .int .u64 150] 107)).alloc (.cells #[.pointer (some ⟨7, 77, none⟩), .pointer (some ⟨w.heap.size, 0, none⟩), .int .u64 150] 107)) (by rw [World.cell?_alloc_lt _ _ ⟨w.heap.size, 0, none⟩ (by simp; omega)]; simp)
  have st := Tryz.set25 t ⟨w.heap.size + 1 + 1 + 1, 0, none⟩ e old ((((w.alloc (.cells #[.pointer (some t)] 77)).alloc (.cells #[.pointer (some ⟨7, 77, none⟩), .pointer (some ⟨w.heap.size, 0, none⟩), .int .u64 150] 107)).alloc (.cells #[.pointer (some ⟨7, 77, none⟩), .pointer (some ⟨w.heap.size, 0, none⟩), .int .u64 150] 107)).alloc (.cells #[.pointer (some e)] 75))
    (by rw [World.cell?_alloc_at _ _ _ _ (by simp)]; rfl)
    (by rw [World.cell?_alloc_lt _ _ t (by simp; omega), World.cell?_alloc_lt _ _ t (by simp; omega), World.cell?_alloc_lt _ _ t (by simp; omega), World.cell?_alloc_lt _ _ t htl]; exact ht0)
    (by rw [World.frozen?_alloc_old _ _ t (by simp; omega), World.frozen?_alloc_old _ _ t (by simp; omega), World.frozen?_alloc_old _ _ t (by simp; omega), World.frozen?_alloc_old _ _ t (Nat.ne_of_lt htl)]; exact hf0)
  go_enter Tryz.func31, Tryz.ntmps31
  go_wp2
  refine wp_loop_rounds 1 ?_
  rw [rounds_succ]
  go_wp2
  go_ret
  exact ⟨rfl, rfl⟩
theorem Tryz.isTypeOf (v : Value) (w : World) : (Extern.ReflectliteType.typeOf #[.iface 25 v]).run Tryz.prog w = .ok (.iface 129 (.agg #[.pointer (some ⟨7, 25, none⟩)])) w := by kernel_rfl
theorem Tryz.isComparable (w : World) : ((Extern.ReflectliteType.method fun t => do Extern.Rtype.noPackHeld "Comparable" t; (fun a => Value.bool a.comparable) <$> typeInfo t) #[.agg #[.pointer (some ⟨7, 25, none⟩)]]).run Tryz.prog w = .ok (.bool true) w := by kernel_rfl
theorem Tryz.isMethodComparable (v : Value) (w : World) : (Go.method 308 129 v "Comparable").run Tryz.prog w = .ok (145, v) w := by kernel_rfl
theorem Tryz.noIsE (v : Value) (xT : TypeId) (w : World) : (Instr.typeAssert (.iface 25 v) xT 141 true).run Tryz.prog w = .ok (.tuple #[.nilIface, .bool false]) w := run_typeAssert_lacksB Tryz.underlying141 (by kernel_rfl) (by kernel_rfl) v xT w
theorem Tryz.noUnwrapE (v : Value) (xT : TypeId) (w : World) : (Instr.typeAssert (.iface 25 v) xT 136 true).run Tryz.prog w = .ok (.tuple #[.nilIface, .bool false]) w := run_typeAssert_lacksB Tryz.underlying136 (by kernel_rfl) (by kernel_rfl) v xT w
theorem Tryz.noUnwrapsE (v : Value) (xT : TypeId) (w : World) : (Instr.typeAssert (.iface 25 v) xT 138 true).run Tryz.prog w = .ok (.tuple #[.nilIface, .bool false]) w := run_typeAssert_lacksB Tryz.underlying138 (by kernel_rfl) (by kernel_rfl) v xT w
theorem Tryz.noIsW (v : Value) (xT : TypeId) (w : World) : (Instr.typeAssert (.iface 75 v) xT 141 true).run Tryz.prog w = .ok (.tuple #[.nilIface, .bool false]) w := run_typeAssert_lacksB Tryz.underlying141 (by kernel_rfl) (by kernel_rfl) v xT w
theorem Tryz.hasUnwrapW (v : Value) (xT : TypeId) (w : World) : (Instr.typeAssert (.iface 75 v) xT 136 true).run Tryz.prog w = .ok (.tuple #[.iface 75 v, .bool true]) w := run_typeAssert_hasB Tryz.underlying136 (by kernel_rfl) v xT w
theorem Tryz.methodUnwrap (v : Value) (w : World) : (Go.method 308 75 v "Unwrap").run Tryz.prog w = .ok (139, v) w := by kernel_rfl
theorem Tryz.isComp : (Tryz.prog.info? 25).map (·.comparable) = some true := by kernel_rfl
set_option maxHeartbeats 4000000 in
theorem Tryz.eqErrD (d : Nat) (n m : Int) (w : World) : (Op.equalIn (d + 2) 31 (.iface 25 (.int .i64 n)) (.iface 25 (.int .i64 m))).run Tryz.prog w = .ok (n == m) w := by
  obtain ⟨i, hi, hcmp⟩ := Option.map_eq_some_iff.1 Tryz.isComp
  simp [Op.equalIn, run_underlying Tryz.underlying31, run_underlying Tryz.underlying25, typeInfo, hi, hcmp]
theorem Tryz.eqErr (n m : Int) (w : World) : (binOp .eql 31 (.iface 25 (.int .i64 n)) (.iface 25 (.int .i64 m))).run Tryz.prog w = .ok (.bool (n == m)) w := by
  simp only [binOp]
  simp [Op.equal, Op.maxDepth, Tryz.eqErrD 9998]
set_option maxHeartbeats 4000000 in
set_option maxRecDepth 100000 in
theorem is_err (pb po : Nat) (n m : Int) (w : World) (h1 : w.cell? ⟨pb, po + 1, none⟩ = some (.int .i64 n)) :
    Calls Tryz.prog 32 #[.iface 75 (.pointer (some ⟨pb, po, none⟩)), .iface 25 (.int .i64 m)] w fun e w' => e = .returned (.bool (n == m)) ∧ w' = w := by
  obtain ⟨i, hi, hcmp⟩ := Option.map_eq_some_iff.1 Tryz.isComp
  have h8 := @run_callFunc_extern Tryz.prog 59 _ Extern.ReflectliteType.typeOf Tryz.func59 (by kernel_rfl) (by kernel_rfl) (by kernel_rfl) (by kernel_rfl)
  have h32 := @run_callFunc_extern Tryz.prog 145 _ (Extern.ReflectliteType.method fun t => do Extern.Rtype.noPackHeld "Comparable" t; pure (.bool (← typeInfo t).comparable)) Tryz.func145 (by kernel_rfl) (by kernel_rfl) (by kernel_rfl) (by kernel_rfl)
  have tT := Tryz.isTypeOf
  have cT := Tryz.isComparable
  have mR := Tryz.isMethodComparable
  have nE := Tryz.noIsE
  have uE := Tryz.noUnwrapE
  have vE := Tryz.noUnwrapsE
  have nW := Tryz.noIsW
  have uW := Tryz.hasUnwrapW
  have mU := Tryz.methodUnwrap
  have hty := run_eql_iface_types (P := Tryz.prog) 75 25 (.pointer (some ⟨pb, po, none⟩)) (.int .i64 m) Tryz.underlying31 (by decide) w
  have hq := Tryz.eqErr n m w
  cases hnm : n == m with
  | true =>
    rw [hnm] at hq
    go_enter Tryz.func32, Tryz.ntmps32
    go_wp2
    refine wp_loop_rounds 2 ?_
    rw [rounds_succ]
    go_wp2
    rw [rounds_succ]
    go_wp2
    go_ret
    exact ⟨rfl, rfl⟩
  | false =>
    rw [hnm] at hq
    go_enter Tryz.func32, Tryz.ntmps32
    go_wp2
    refine wp_loop_rounds 2 ?_
    rw [rounds_succ]
    go_wp2
    rw [rounds_succ]
    go_wp2
    go_ret
    exact ⟨rfl, rfl⟩
end Go.Proofs.YtlkfapppocmgpaaGreatDoor
end

section
namespace Go.VS.Tryz
set_option maxRecDepth 1000000
open Go.VS Go.RowKit
theorem fp_cells {K : Prot} {β : Env} {st : St} {w : World} (hr : Rel P K β st w) {c : List Value} (hc : flatL c = true) {v : Value} (h : VR β (mkFp 0 c) v) : ∃ k o, v = .pointer (some ⟨k, o, none⟩) ∧ ∀ (j : Nat) y, c[j]? = some y → w.cell? ⟨k, o + j, none⟩ = some y := by
  unfold mkFp at h
  simp only [VR] at h
  rw [if_neg (Nat.lt_irrefl FZ)] at h
  simp only [VZ, VZA, VZL] at h
  obtain ⟨a, b, e, h⟩ := h
  cases e
  rw [Nat.sub_self] at h
  unfold FrzR at h
  rw [if_pos rfl] at h
  obtain ⟨k, o, cs, e', f, l, rfl, h2, h3, h4, h5⟩ := h
  have hq := flatL_of hc h5
  obtain ⟨⟨f1, f0⟩, f2, _⟩ := hr.frz k l h2
  refine ⟨k, o, rfl, fun j y hj => ?_⟩
  rw [h3] at f2
  have hlt : j < c.length := (List.getElem?_eq_some_iff.1 hj).1
  rw [← hq, List.getElem?_take_of_lt hlt, List.getElem?_drop] at hj
  unfold World.cell?
  simp only [f2]
  simpa using hj
theorem err_args {β : Env} {i e : Int} {b v : Value} {args' : Array Value} (h : VRL β [errV i e, b] args'.toList) : ∃ x y, args' = #[.iface 75 x, y] ∧ VR β (mkFp 0 [.int .i64 i, .int .i64 e]) x ∧ VR β b y := by
  obtain ⟨l⟩ := args'
  simp only [VRL] at h
  obtain ⟨y, ys, e1, hy, z, zs, rfl, hz, rfl⟩ := h
  unfold errV at hy
  simp only [VR] at hy
  rw [if_pos (by unfold FZ; decide)] at hy
  obtain ⟨x, rfl, hx⟩ := hy
  have e1 : l = [.iface 75 x, z] := e1
  subst e1
  exact ⟨x, z, rfl, hx, hz⟩
structure IsS where
  i : Int
  e : Int
  f : Int
def kIs : Con IsS where
  enc s := ([errV s.i s.e, .iface 25 (.int .i64 s.f)], [])
  ok _ := True
  inj a b h := by
    obtain ⟨a1, a2, a3⟩ := a
    obtain ⟨b1, b2, b3⟩ := b
    unfold errV mkFp at h
    simp only [Prod.mk.injEq, List.cons.injEq, Value.iface.injEq, Value.agg.injEq, Array.mk.injEq, Value.int.injEq, true_and, and_true] at h
    obtain ⟨⟨h1, h2⟩, h3⟩ := h
    subst h1 h2 h3
    rfl
  dflt := ⟨0, 0, 0⟩
theorem is_ok : CallOkX P 0 32 (conM kIs.C kIs.D fun s => .leaf (.bool (s.e == s.f), [])) := conX_ok kIs fun s ho v bs' hev => by
  simp only [DT.eval, Option.some.injEq, Prod.mk.injEq] at hev
  obtain ⟨rfl, rfl⟩ := hev
  obtain ⟨i, e, f⟩ := s
  intro K β w args' cs hid ha hr
  obtain ⟨x, y, rfl, hx, hy⟩ := err_args (v := .nilFunc) ha
  have hy : VR β (.iface 25 (.int .i64 f)) y := hy
  simp only [VR] at hy
  rw [if_pos (by unfold FZ; decide)] at hy
  obtain ⟨y', rfl, rfl⟩ := hy
  obtain ⟨k, o, rfl, hcell⟩ := fp_cells hr rfl hx
  obtain ⟨e1, w', fr, ⟨rfl, rfl⟩, hc, h1, l1, l2, l3, fn, l4, l5⟩ := Go.Proofs.YtlkfapppocmgpaaGreatDoor.is_err k o e f w (hcell 1 _ rfl) cs
  exact ⟨⟨β, fr, w', _, hc, (Env.le.refl β).leN _, hr, Bel.refl _ _, rfl, l1, l2, l3, h1, fn, by rw [← h1]; exact l4, l5⟩, Nat.zero_le _⟩
def kAs : Con (Int × Int) where
  enc s := ([errV s.1 s.2, .iface 77 (.pointer (some ⟨0, 0, none⟩))], [.cells [.pointer none] 75 true])
  ok _ := True
  inj a b h := by
    obtain ⟨a1, a2⟩ := a
    obtain ⟨b1, b2⟩ := b
    unfold errV mkFp at h
    simp only [Prod.mk.injEq, List.cons.injEq, Value.iface.injEq, Value.agg.injEq, Array.mk.injEq, Value.int.injEq, true_and, and_true] at h
    obtain ⟨h1, h2⟩ := h
    subst h1 h2
    rfl
  dflt := (0, 0)
theorem gw_handle {w : World} (h : GW w) : w.cell? ⟨0, 0, none⟩ = some (.iface 129 (.agg #[.pointer (some ⟨7, 31, none⟩)])) := by
  obtain ⟨o, h1, e, f, rfl⟩ := h (0, _) (by simp only [globs]; exact List.mem_cons_self ..)
  unfold World.cell?
  simp only [h1]
  rfl
theorem cell_of {K : Prot} {β : Env} {w : World} {l : Loc} (hr0 : Rel P K β (mkSt [.cells [.pointer none] 75 true]) w) (hl : β ((0 : Nat) : Int) = some l) : w.cell? ⟨l.blk, l.base, none⟩ = some (.pointer none) ∧ w.frozen? ⟨l.blk, l.base, none⟩ = false := by
  obtain ⟨l0, a1, a2, a3⟩ := hr0.blk 0 (.cells [.pointer none] 75 true) rfl rfl
  obtain rfl : l0 = l := by rw [a1] at hl; exact Option.some.inj hl
  rcases a3 with ⟨q1, q2, q3⟩ | ⟨q0, cc, f, q1, q2, q3, q4, q5, q6, q7⟩
  · cases q3
  · have q8 := (q5 rfl).1
    have q6 : (cc.toList.drop l0.base).take 1 = [.pointer none] := flatL_of rfl q6
    have hlt : l0.base < cc.size := by
      have hlen : l0.total = 1 := q8.symm
      omega
    refine ⟨?_, ?_⟩
    · unfold World.cell?
      simp only [q1]
      have : ((cc.toList.drop l0.base).take 1)[0]? = some (.pointer none) := by rw [q6]; rfl
      rw [List.getElem?_take_of_lt (by decide), List.getElem?_drop] at this
      simpa using this
    · unfold World.frozen?
      obtain ⟨lo, hi⟩ := f
      simp only [q1]
      have := q7.1
      simp only at this
      rw [Bool.and_eq_false_iff]
      rcases this with h | h
      · by_cases hq : lo ≤ l0.base
        · right; exact decide_eq_false (by omega)
        · left; exact decide_eq_false hq
      · left; exact decide_eq_false (by omega)
theorem as_ok : CallOkX P 1 31 (conM kAs.C kAs.D fun s => .leaf (.bool true, [.cells [mkFp 0 [.int .i64 s.1, .int .i64 s.2]] 75 true])) := conX_ok kAs fun s ho v bs' hev => by
  simp only [DT.eval, Option.some.injEq, Prod.mk.injEq] at hev
  obtain ⟨rfl, rfl⟩ := hev
  obtain ⟨i, e⟩ := s
  intro K β w args' cs hid ha hr
  obtain ⟨x, y, rfl, hx, hy⟩ := err_args (v := .nilFunc) ha
  have hy : VR β (.iface 77 (.pointer (some ⟨0, 0, none⟩))) y := hy
  simp only [VR] at hy
  rw [if_pos (by unfold FZ; decide)] at hy
  obtain ⟨y', rfl, _, l, hl, rfl⟩ := hy
  obtain ⟨k, o, rfl, hcell⟩ := fp_cells hr rfl hx
  have hr0 : Rel P K β (mkSt [.cells [.pointer none] 75 true]) w := hr
  obtain ⟨ht, hfz⟩ := cell_of hr0 hl
  obtain ⟨e1, w', fr, ⟨rfl, hw'⟩, hc, h1, l1, l2, l3, fn, l4, l5⟩ := Go.Proofs.YtlkfapppocmgpaaGreatDoor.as_hit ⟨k, o, none⟩ ⟨l.blk, l.base, none⟩ (.pointer none) w (gw_handle hr.gw) ht hfz cs
  generalize hW : (((w.alloc _).alloc _).alloc _).alloc _ = W at hw'
  have hb : Below w.heap.size w W := by
    rw [← hW]
    exact ((((Below.refl _ _).alloc (Nat.le_refl _) _).alloc (by simp) _).alloc (by simp; omega) _).alloc (by simp; omega) _
  obtain ⟨r1, r2⟩ := hr0.below hb
  obtain ⟨ht1, hf1⟩ := cell_of r1 hl
  have hst : setCells (mkSt [.cells [.pointer none] 75 true]) ⟨0, 0, none⟩ [mkFp 0 [.int .i64 i, .int .i64 e]] = some { (mkSt [.cells [.pointer none] 75 true]) with heap := (mkSt [.cells [.pointer none] 75 true]).heap.set 0 (.cells [mkFp 0 [.int .i64 i, .int .i64 e]] 75 true) } := rfl
  obtain ⟨w2, s1, s2, s3, s4⟩ := r1.setCells hst (VRL.cons hx VRL.nil) hl
  have hrun : (storeCells ⟨l.blk, l.base + 0, none⟩ [.pointer (some ⟨k, o, none⟩)]).run P W = .ok () (W.setCell ⟨l.blk, l.base, none⟩ (.pointer (some ⟨k, o, none⟩))) := by
    simp only [storeCells, Sem.run_bind]
    rw [show ((⟨l.blk, l.base + 0, none⟩ : Addr).add 0) = ⟨l.blk, l.base, none⟩ from rfl, run_store P W ⟨l.blk, l.base, none⟩ _ _ (by rfl)]
    simp [ht1, hf1, Result.andThen]
  rw [hrun] at s1
  have hw2 : W.setCell ⟨l.blk, l.base, none⟩ (.pointer (some ⟨k, o, none⟩)) = w2 := by
    injection s1
  have hfin : Rel P K β (mkSt [.cells [mkFp 0 [.int .i64 i, .int .i64 e]] 75 true]) w2 := rel_same (fun j => by
    rw [mkSt_get]) rfl s2
  rw [hw2] at hw'
  subst hw'
  exact ⟨⟨β, fr, w', _, hc, (Env.le.refl β).leN _, hfin, r2.trans s3, rfl, l1, l2, l3, h1, fn, by rw [← h1]; exact l4, l5⟩, Nat.le_refl 1⟩
end Go.VS.Tryz
end

section
namespace Go.VS.Tryz
set_option maxRecDepth 1000000
open Go.VS
noncomputable def ctWv (AC IC : List Value → List Blk → Bool) (i e : Int) (b : Bool) : Ct := addCallX P polD 1 31 (oneM AC (.leaf (.bool true, [.cells [mkFp 0 [.int .i64 i, .int .i64 e]] 75 true]))) (addCallX P polD 0 32 (oneM IC (.leaf (.bool b, []))) ctF)
theorem dec_wrong (AC IC : List Value → List Blk → Bool) (i e : Int) (b : Bool) (l f : Int) : callQX P E (ctWv AC IC i e b) 50 polD [] [] 0 12 [errV i e, .int .i64 l, .int .i64 f] [] =
 (iteB (eqI f (0 : Int))
 (some ((Value.bool Bool.false), (mkSt [])))
 (needB (AC [(Value.iface 75 (Value.iface 18446744073709551616 (Value.agg (Array.mk [(Value.slice none 0 0), (Value.int IntKind.i64 i), (Value.int IntKind.i64 e)])))), (Value.iface 77 (Value.pointer (Option.some (Addr.mk 0 0 none))))] [(Blk.cells [(Value.pointer none)] 75 Bool.true)])
 (iteB (eqI i l)
 (iteB (eqI e f)
 (needB (IC [(Value.iface 75 (Value.iface 18446744073709551616 (Value.agg (Array.mk [(Value.slice none 0 0), (Value.int IntKind.i64 i), (Value.int IntKind.i64 e)])))), (Value.iface 25 (Value.int IntKind.i64 f))] [])
 (some ((Value.bool b), (mkSt []))))
 (some ((Value.bool Bool.false), (mkSt []))))
 (some ((Value.bool Bool.false), (mkSt [])))))) := by kernel_rfl
theorem dec_wrong0 (l f : Int) : callQX P E ctF 50 polD [] [] 0 12 [.nilIface, .int .i64 l, .int .i64 f] [] =
 (iteB (eqI f (0 : Int))
 (some ((Value.bool Bool.true), (mkSt [])))
 (some ((Value.bool Bool.false), (mkSt [])))) := by kernel_rfl
def wrongM (o : Option (Int × Int)) (l f : Int) : Bool := match o with
  | none => eqI f 0
  | some p => if eqI f 0 then false else eqI p.1 l && eqI p.2 f
theorem errV_out (i e : Int) : errV i e = .iface 75 (.iface 18446744073709551616 (.agg ⟨[.slice none 0 0, .int .i64 i, .int .i64 e]⟩)) := by unfold errV mkFp FZ; rfl
noncomputable def ctW (i e f : Int) : Ct := ctWv (kAs.at (i, e)) (kIs.at ⟨i, e, f⟩) i e (e == f)
theorem wrong_run (i e l f : Int) : callQX P E (ctW i e f) 50 polD [] [] 0 12 [errV i e, .int .i64 l, .int .i64 f] [] = some (.bool (wrongM (some (i, e)) l f), mkSt []) := by
  refine (dec_wrong (kAs.at (i, e)) (kIs.at ⟨i, e, f⟩) i e (e == f) l f).trans ?_
  unfold wrongM
  cases h0 : eqI f 0 with
  | true => simp only [ite_tt]; rfl
  | false =>
    simp only [ite_ff]
    refine need_at (k := kAs) (s := (i, e)) (by show [errV i e, _] = _; rw [errV_out]) rfl ?_
    cases h1 : eqI i l with
    | false => simp only [ite_ff]; rfl
    | true =>
      simp only [ite_tt]
      cases h2 : eqI e f with
      | false => simp only [ite_ff]; rfl
      | true =>
        simp only [ite_tt]
        refine need_at (k := kIs) (s := ⟨i, e, f⟩) (by show [errV i e, _] = _; rw [errV_out]) rfl ?_
        have h3 : (e == f) = true := h2
        rw [h3]; rfl
structure WrS where
  o : Option (Int × Int)
  l : Int
  f : Int
end Go.VS.Tryz
end

section
namespace Go.Proofs
open Go.RowKit Go.Shelf
theorem Tryz.bld_fresh (b : Nat) (w : World) (h0 : w.cell? ⟨b, 0, none⟩ = some (.pointer none)) (hsh : w.shape? b = some (61, 2)) (hfz : w.frozen? ⟨b, 0, none⟩ = false) :
    Calls Tryz.prog 46 #[.pointer (some ⟨b, 0, none⟩)] w fun e w' => e = .returned (.tuple #[]) ∧ w' = w.setCell ⟨b, 0, none⟩ (.pointer (some ⟨b, 0, none⟩)) :=
  Any.Builder_copyCheck_fresh { Tryz.lays105 with } Tryz.Builder_Extra_105.toX72 b w h0 hsh hfz
theorem Tryz.bld_used (b : Nat) (w : World) (h0 : w.cell? ⟨b, 0, none⟩ = some (.pointer (some ⟨b, 0, none⟩))) :
    Calls Tryz.prog 46 #[.pointer (some ⟨b, 0, none⟩)] w fun e w' => e = .returned (.tuple #[]) ∧ w' = w :=
  Any.Builder_copyCheck_used { Tryz.lays105 with } Tryz.Builder_Extra_105.toX72 b w h0
variable {P : Program} (w : World)
theorem bytes_lie {e : TypeId} (hc : P.cellsOf e = 1) (count o n : Nat) (hn : o + n ≤ count) : liesAt P P.depth e count o e n = true := by
  have hd : P.depth = (2 * (P.types.size + Made.depth) + 1) + 1 := rfl
  rw [hd]
  simp only [liesAt, Bool.or_eq_true]
  left
  rw [hd]
  simp [rowAt, hc, hn, sameLayout, Nat.mod_one]
theorem unsafeString_at (pt it ty e : TypeId) (hp : P.underlying pt = some (.pointer e)) (hc : P.cellsOf e = 1) (g o cells : Nat) (hsh : w.shape? g = some (e, cells)) (l : List UInt8) (h0 : l ≠ []) (hn : o + l.length ≤ cells) (h63 : l.length ≤ 9223372036854775807)
    (hcell : ∀ j x, l[j]? = some x → w.cell? ((⟨g, o, none⟩ : Addr).add j) = some (.int .u8 x.toNat)) :
    (Builtin.unsafeString_ #[pt, it] ty #[.pointer (some ⟨g, o, none⟩), .int .i64 l.length]).run P w = .ok (.string ⟨l.toArray⟩) (w.freeze ⟨g, o, none⟩ l.length) := by
  have hl : l.length ≠ 0 := by simpa using h0
  have hlb := Lib.run_loadBytes (P := P) w l ⟨g, o, none⟩ .empty hcell
  have hlies := bytes_lie (P := P) hc (cells / P.cellsOf e) o l.length (by rw [hc]; simpa using hn)
  have h63' : ¬ (9223372036854775807 : Int) < (l.length : Int) := by omega
  have hdef : Builtin.unsafeString_ #[pt, it] ty #[.pointer (some ⟨g, o, none⟩), .int .i64 l.length] =
      (do
        let n ← asInt (.int .i64 l.length)
        if n < 0 then runtimePanic (.error "unsafe.String: len out of range")
        if n > IntKind.i64.max then unsupported (.unsafePointer "String: a length above the largest int")
        if n = 0 then pure (.string .empty)
        else if ← variablesAt ⟨g, o, none⟩ (← elemOf pt) n.toNat then do
          let s ← loadBytes ⟨g, o, none⟩ .empty n.toNat
          freeze ⟨g, o, none⟩ n.toNat
          pure (.string s)
        else unsupported (.unsafePointer "String: not so many bytes at ptr")) := rfl
  rw [hdef]
  have hmax : IntKind.i64.max = 9223372036854775807 := rfl
  have hneg : ¬ (l.length : Int) < 0 := by omega
  simp [asInt, asIntOf, hmax, h63', hneg, hl, variablesAt, hsh, elemOf, run_underlying hp, hlies, hlb]
set_option maxHeartbeats 2000000 in
set_option maxRecDepth 100000 in
theorem Tryz.bld_at (b g o cap : Nat) (l : List UInt8) (w : World) (h0 : l ≠ []) (hcap : l.length ≤ cap) (h63 : l.length ≤ 9223372036854775807) (hb : w.cell? ⟨b, 1, none⟩ = some (.slice (some ⟨g, o, none⟩) l.length cap)) (cells : Nat) (hsh : w.shape? g = some (5, cells)) (hn : o + l.length ≤ cells)
    (hcell : ∀ j x, l[j]? = some x → w.cell? ((⟨g, o, none⟩ : Addr).add j) = some (.int .u8 x.toNat)) :
    Calls Tryz.prog 26 #[.pointer (some ⟨b, 0, none⟩)] w fun e w' => e = .returned (.string ⟨l.toArray⟩) ∧ w' = w.drew.freeze ⟨g, o, none⟩ l.length := by
  have L : Lays.n169 Tryz.prog Tryz.lays105_ren := { Tryz.lays105 with }
  have X := Tryz.Builder_Extra_105
  have hl0 : l.length ≠ 0 := by simpa using h0
  have c1 : w.drew.cell? ⟨b, 1, none⟩ = some (.slice (some ⟨g, o, none⟩) l.length cap) := hb
  have hSD : (Builtin.unsafeSliceData_ #[(Tryz.lays105_ren.t 37)] (Tryz.lays105_ren.t 127) #[.slice (some ⟨g, o, none⟩) l.length cap]).run Tryz.prog w.drew = .ok (.pointer (some ⟨g, o, none⟩)) w.drew :=
    Lib.run_unsafeSliceData_row _ _ _ _ _ _ (by omega)
  have hUS : (Builtin.unsafeString_ #[(Tryz.lays105_ren.t 127), (Tryz.lays105_ren.t 3)] (Tryz.lays105_ren.t 9) #[.pointer (some ⟨g, o, none⟩), .int .i64 l.length]).run Tryz.prog w.drew = .ok (.string ⟨l.toArray⟩) (w.drew.freeze ⟨g, o, none⟩ l.length) :=
    unsafeString_at w.drew _ _ _ (Tryz.lays105_ren.t 5) L.t127 X.cellsByte g o cells hsh l h0 hn h63 hcell
  have mixed := L.mixed
  have t72 := L.t72; have a72 := L.a72; have z72 := L.z72; have v72 := L.v72; have u72 := run_underlying L.t72
  have t70 := L.t70; have a70 := L.a70; have z70 := L.z70; have v70 := L.v70; have u70 := run_underlying L.t70
  have t37 := L.t37; have a37 := L.a37; have z37 := L.z37; have v37 := L.v37; have u37 := run_underlying L.t37
  have t127 := L.t127; have a127 := L.a127; have z127 := L.z127; have v127 := L.v127; have u127 := run_underlying L.t127
  have t3 := L.t3; have a3 := L.a3; have z3 := L.z3; have v3 := L.v3; have u3 := run_underlying L.t3
  have t9 := L.t9; have a9 := L.a9; have z9 := L.z9; have v9 := L.v9; have u9 := run_underlying L.t9
  have t5 := X.t5; have a5 := X.a5; have z5 := X.z5; have v5 := X.v5; have u5 := run_underlying X.t5
  clear hcap hsh hn hcell
  revert L
  intro L
  go_enter L.f169, Body.n169_ntmps Tryz.lays105_ren
  go_wp2
  go_region_o
  all_goals (go_wp2; go_ret; exact ⟨rfl, rfl⟩)
end Go.Proofs
end

section
namespace Go.VS.Tryz
set_option maxRecDepth 1000000
open Go.VS Go.RowKit
def self0 : Value := .pointer (some ⟨0, 0, none⟩)
theorem self_arg {β : Env} {args' : Array Value} (h : VRL β [self0] args'.toList) : ∃ l, β ((0 : Nat) : Int) = some l ∧ args' = #[.pointer (some ⟨l.blk, l.base + 0, none⟩)] := by
  obtain ⟨l⟩ := args'
  unfold self0 at h
  simp only [VRL] at h
  obtain ⟨y, ys, e1, hy, rfl⟩ := h
  simp only [VR] at hy
  obtain ⟨_, l0, hl, rfl⟩ := hy
  have e1 : l = [.pointer (some ⟨l0.blk, l0.base + 0, none⟩)] := e1
  subst e1
  exact ⟨l0, hl, rfl⟩
theorem bld_cells {K : Prot} {β : Env} {w : World} {p v : Value} {rest : List Blk} {l : Loc} (hr : Rel P K β (mkSt (.cells [p, v] 61 true :: rest)) w) (hl : β ((0 : Nat) : Int) = some l) :
    l.virt = false ∧ l.base = 0 ∧ ¬ K l.blk ∧ ∃ y0 y1 f, w.heap[l.blk]? = some (.cells #[y0, y1] 61 f) ∧ VR β p y0 ∧ VR β v y1 ∧ (f.2 ≤ f.1 ∨ 2 ≤ f.1) := by
  obtain ⟨l1, a1, a2, a3⟩ := hr.blk 0 (.cells [p, v] 61 true) (by rw [mkSt_get]; rfl) rfl
  obtain rfl : l1 = l := by rw [a1] at hl; exact Option.some.inj hl
  rcases a3 with ⟨q1, q2, q3⟩ | ⟨q0, cc, f, q1, q2, q3, q4, q5, q6, q7⟩
  · cases q3
  obtain ⟨q8, q9, q10⟩ := q5 rfl
  have hsz : cc.size = 2 := by rw [q10, ← q8]; rfl
  obtain ⟨cc⟩ := cc
  have hq : VRL β [p, v] cc := by
    rw [q9, List.drop_zero, List.take_of_length_le (by simpa using Nat.le_of_eq hsz)] at q6
    exact q6
  simp only [VRL] at hq
  obtain ⟨y0, ys, rfl, h0, y1, ys1, rfl, h1, rfl⟩ := hq
  exact ⟨q0, q9, a2 q0, y0, y1, f, q1, h0, h1, by simpa using q7.1⟩
theorem cc_crx {p v : Value} {rest : List Blk} (hp : p = .pointer none ∨ p = self0) : CRX P 1 46 [self0] (.cells [p, v] 61 true :: rest) (.tuple ⟨[]⟩) (.cells [self0, v] 61 true :: rest) := by
  intro K β w args' cs hid ha hr
  obtain ⟨l, hl, rfl⟩ := self_arg ha
  obtain ⟨hv, hb, hK, y0, y1, f, hh, h0, h1, hf⟩ := bld_cells hr hl
  rw [hb]
  have hc0 : w.cell? ⟨l.blk, 0, none⟩ = some y0 := by unfold World.cell?; simp only [hh]; rfl
  have hsh : w.shape? l.blk = some (61, 2) := by unfold World.shape?; simp only [hh]; rfl
  have hfz : w.frozen? ⟨l.blk, 0, none⟩ = false := by
    unfold World.frozen?
    obtain ⟨lo, hi⟩ := f
    simp only [hh]
    rw [Bool.and_eq_false_iff]
    rcases hf with h | h
    · by_cases hq : lo ≤ 0
      · right; exact decide_eq_false (by simp only at h; omega)
      · left; exact decide_eq_false hq
    · left; exact decide_eq_false (by simp only at h; omega)
  rcases hp with rfl | rfl
  · have h0 : y0 = .pointer none := h0
    subst h0
    obtain ⟨e1, w', fr, ⟨rfl, hw'⟩, hc, h1', l1, l2, l3, fn, l4, l5⟩ := Go.Proofs.Tryz.bld_fresh l.blk w hc0 hsh hfz cs
    have hx : VR β self0 (.pointer (some ⟨l.blk, l.base + 0, none⟩)) := by
      unfold self0
      simp only [VR]
      exact ⟨trivial, l, hl, rfl⟩
    obtain ⟨w2, s1, s2, s3, s4⟩ := hr.setCells (a := ⟨0, 0, none⟩) (vs := [self0]) (st' := { (mkSt (.cells [.pointer none, v] 61 true :: rest)) with heap := (mkSt (.cells [.pointer none, v] 61 true :: rest)).heap.set 0 (.cells [self0, v] 61 true) }) (by unfold setCells; rw [if_neg (by decide)]; simp only [mkSt_get]; rfl) (VRL.cons hx VRL.nil) hl
    have hrun : (storeCells ⟨l.blk, l.base + 0, none⟩ [.pointer (some ⟨l.blk, l.base + 0, none⟩)]).run P w = .ok () (w.setCell ⟨l.blk, 0, none⟩ (.pointer (some ⟨l.blk, 0, none⟩))) := by
      rw [hb]
      simp only [storeCells, Sem.run_bind]
      rw [show ((⟨l.blk, 0 + 0, none⟩ : Addr).add 0) = ⟨l.blk, 0, none⟩ from rfl, run_store P w ⟨l.blk, 0, none⟩ _ _ (by rfl)]
      simp [hc0, hfz, Result.andThen]
    rw [hrun] at s1
    have hw2 : w.setCell ⟨l.blk, 0, none⟩ (.pointer (some ⟨l.blk, 0, none⟩)) = w2 := by
      injection s1
    have hfin : Rel P K β (mkSt (.cells [self0, v] 61 true :: rest)) w2 := by
      refine rel_same (st := { (mkSt (.cells [.pointer none, v] 61 true :: rest)) with heap := (mkSt (.cells [.pointer none, v] 61 true :: rest)).heap.set 0 (.cells [self0, v] 61 true) }) (fun j => ?_) rfl s2
      show (mkSt (.cells [self0, v] 61 true :: rest)).heap.get j = ((mkSt (.cells [.pointer none, v] 61 true :: rest)).heap.set 0 (.cells [self0, v] 61 true)).get j
      rw [mkSt_get, Trie.get_set, mkSt_get]
      cases j <;> rfl
    rw [hw2] at hw'
    subst hw'
    exact ⟨⟨β, fr, w', _, hc, (Env.le.refl β).leN _, hfin, s3, ⟨#[], rfl, rfl⟩, l1, l2, l3, h1', fn, by rw [← h1']; exact l4, l5⟩, by simp⟩
  · have h0 : y0 = .pointer (some ⟨l.blk, 0, none⟩) := by
      unfold self0 at h0
      simp only [VR] at h0
      obtain ⟨_, l', hl', rfl⟩ := h0
      obtain rfl : l' = l := by rw [hl] at hl'; exact (Option.some.inj hl').symm
      rw [hb]
    subst h0
    obtain ⟨e1, w', fr, ⟨rfl, rfl⟩, hc, h1', l1, l2, l3, fn, l4, l5⟩ := Go.Proofs.Tryz.bld_used l.blk w hc0 cs
    exact ⟨⟨β, fr, w', _, hc, (Env.le.refl β).leN _, hr, Bel.refl _ _, ⟨#[], rfl, rfl⟩, l1, l2, l3, h1', fn, by rw [← h1']; exact l4, l5⟩, by simp⟩
theorem esz_byte : esz P 5 = 1 := by kernel_rfl
theorem bc_flat : ∀ l : List UInt8, flatL (bc l) = true
  | [] => rfl
  | x :: l => by
    have := bc_flat l
    unfold bc at this ⊢
    simp only [List.map_cons, flatL, flat, this, Bool.and_self]
theorem freeze_bel {w : World} {g o n : Nat} : (w.drew.freeze ⟨g, o, none⟩ n).os = w.os ∧ (w.drew.freeze ⟨g, o, none⟩ n).tape = w.tape ∧ (w.drew.freeze ⟨g, o, none⟩ n).output = w.output ∧ (w.drew.freeze ⟨g, o, none⟩ n).heap.size = w.heap.size ∧ ∀ k, k ≠ g → (w.drew.freeze ⟨g, o, none⟩ n).heap[k]? = w.heap[k]? := by
  unfold World.freeze
  split
  · exact ⟨rfl, rfl, rfl, rfl, fun _ _ => rfl⟩
  · refine ⟨rfl, rfl, rfl, by simp only [Array.size_modify]; rfl, fun k hk => ?_⟩
    simp only [Array.getElem?_modify]
    rw [if_neg (fun e => hk e.symm)]
    rfl
theorem str_crx {p : Value} {l : List UInt8} (h0 : l ≠ []) (h63 : l.length ≤ 9223372036854775807) : CRX P 1 26 [self0] [.cells [p, .slice (some ⟨1, 0, none⟩) l.length unk] 61 true, .cells (bc l) 5 false] (.string ⟨l.toArray⟩) [.cells [p, .slice (some ⟨1, 0, none⟩) l.length unk] 61 true, .dead] := by
  intro K β w args' cs hid ha hr
  obtain ⟨l0, hl, rfl⟩ := self_arg ha
  obtain ⟨hv, hb, hK, y0, y1, f, hh, hy0, hy1, hf⟩ := bld_cells hr hl
  rw [hb]
  have hl0 : l.length ≠ 0 := by simpa using h0
  simp only [VR] at hy1
  obtain ⟨_, l1, hl1, hs⟩ := hy1
  obtain ⟨l1', a1, a2, a3⟩ := hr.blk 1 (.cells (bc l) 5 false) (by rw [mkSt_get]; rfl) rfl
  obtain rfl : l1' = l1 := by
    have hl1 : β ((1 : Nat) : Int) = some l1 := hl1
    rw [a1] at hl1; exact Option.some.inj hl1
  rcases a3 with ⟨q1, q2, q3⟩ | ⟨q0, cc, f1, q1, q2, q3, q4, q5, q6, q7⟩
  · cases l with
    | nil => exact absurd rfl h0
    | cons _ _ => cases q2
  have hlen : (bc l).length = l.length := by unfold bc; rw [List.length_map]
  rw [hlen] at q4 q6
  have q6 := flatL_of (bc_flat l) q6
  unfold SliceR at hs
  rw [if_neg (by rw [q0]; decide), if_neg (by decide), if_pos rfl] at hs
  obtain ⟨rfl, _⟩ := hs
  rw [q2, esz_byte, Nat.div_one, Nat.sub_zero] at hh
  have hc1 : w.cell? ⟨l0.blk, 1, none⟩ = some (.slice (some ⟨l1'.blk, l1'.base + 0, none⟩) l.length l1'.total) := by unfold World.cell?; simp only [hh]; rfl
  have hcell : ∀ j x, l[j]? = some x → w.cell? ((⟨l1'.blk, l1'.base + 0, none⟩ : Addr).add j) = some (.int .u8 x.toNat) := fun j x hj => by
    have hlt : j < l.length := (List.getElem?_eq_some_iff.1 hj).1
    have e : ((cc.toList.drop l1'.base).take l.length)[j]? = some (.int .u8 x.toNat) := by
      rw [q6]; unfold bc; rw [List.getElem?_map, hj]; rfl
    rw [List.getElem?_take_of_lt hlt, List.getElem?_drop] at e
    have e2 : (⟨l1'.blk, l1'.base + 0, none⟩ : Addr).add j = ⟨l1'.blk, l1'.base + j, none⟩ := by
      unfold Addr.add
      by_cases hj0 : j = 0
      · subst hj0; simp
      · simp [hj0]
    rw [e2]
    unfold World.cell?
    simp only [q1]
    simpa using e
  obtain ⟨e1, w', fr, ⟨rfl, rfl⟩, hc, h1', k1, k2, k3, fn, k4, k5⟩ := Go.Proofs.Tryz.bld_at l0.blk l1'.blk (l1'.base + 0) l1'.total l w h0 q4 h63 hc1 cc.size (by unfold World.shape?; simp only [q1]) (by omega) hcell cs
  obtain ⟨z1, z2, z3, z4, z5⟩ := freeze_bel (w := w) (g := l1'.blk) (o := l1'.base + 0) (n := l.length)
  generalize w.drew.freeze ⟨l1'.blk, l1'.base + 0, none⟩ l.length = W at *
  have hupd := hr.update (i := 1) (b' := .dead) (w' := W) (by rw [mkSt_get]; rfl) rfl rfl rfl a1 z4 (fun k hk => z5 k (hk.resolve_left (by simp [q0]))) trivial
  have hfin : Rel P K β (mkSt [.cells [p, .slice (some ⟨1, 0, none⟩) l.length unk] 61 true, .dead]) W := by
    refine rel_same (st := { (mkSt [.cells [p, .slice (some ⟨1, 0, none⟩) l.length unk] 61 true, .cells (bc l) 5 false]) with heap := (mkSt [.cells [p, .slice (some ⟨1, 0, none⟩) l.length unk] 61 true, .cells (bc l) 5 false]).heap.set 1 .dead }) (fun j => ?_) rfl hupd
    show (mkSt [.cells [p, .slice (some ⟨1, 0, none⟩) l.length unk] 61 true, .dead]).heap.get j = ((mkSt [.cells [p, .slice (some ⟨1, 0, none⟩) l.length unk] 61 true, .cells (bc l) 5 false]).heap.set 1 .dead).get j
    rw [mkSt_get, Trie.get_set, mkSt_get]
    match j with
    | 0 => rfl
    | 1 => rfl
    | _ + 2 => rfl
  have hbel : Bel K w W := ⟨z1, z2, z3, by rw [z4]; exact Nat.le_refl _, fun k hk => z5 k (fun e => a2 q0 (e ▸ hk))⟩
  exact ⟨⟨β, fr, W, _, hc, (Env.le.refl β).leN _, hfin, hbel, rfl, k1, k2, k3, h1', fn, by rw [← h1']; exact k4, k5⟩, by simp⟩
end Go.VS.Tryz
end

section
namespace Go.VS.Tryz
set_option maxRecDepth 1000000
open Go.VS
def RwV (C : ByteArray → Bool) (W : ByteArray → ByteArray) : CallFn
  | [.string s] => some (.ite (C s) (.leaf (.string (W s), [])) .fail)
  | _ => none
def wdS (s : ByteArray) : ByteArray := ⟨⟨wordM s.data.toList⟩⟩
def wdC (s : ByteArray) : Bool := Nat.ble (3 * s.size) 4194304
theorem wd_ok : CallOkR P 48 (RwV wdC wdS) := ⟨fun args t hR v bs hev => by
  unfold RwV at hR
  split at hR
  · rename_i s
    exact word_ok.run [.string s] t (by rw [← hR]; rfl) v bs hev
  · cases hR⟩
noncomputable def ctTv (O : Bool → ByteArray → ByteArray → Bool) (C : ByteArray → Bool) (W : ByteArray → ByteArray) : Ct := addCall P 48 (RwV C W) (addCall P 44 (RcheckV O) noCt)
theorem dec_Text (O : Bool → ByteArray → ByteArray → Bool) (C : ByteArray → Bool) (W : ByteArray → ByteArray) (p : Bool) (k v : ByteArray) : callQ P E (ctTv O C W) 50 49 [.agg ⟨[.bool p, .string k, .string v]⟩] =
 (iteB (O p k v)
 (iteB (notB p)
 (needB (C k)
 (needB (fitS (ByteArray.mk #[100, 101, 108, 32]) (W k))
 (some ((Value.tuple (Array.mk [(Value.string (catS (ByteArray.mk #[100, 101, 108, 32]) (W k))), (Value.int IntKind.i64 (0 : Int))])), (mkSt [])))))
 (needB (C k)
 (needB (fitS (ByteArray.mk #[112, 117, 116, 32]) (W k))
 (needB (fitS (catS (ByteArray.mk #[112, 117, 116, 32]) (W k)) (ByteArray.mk #[32]))
 (needB (C v)
 (needB (fitS (catS (catS (ByteArray.mk #[112, 117, 116, 32]) (W k)) (ByteArray.mk #[32])) (W v))
 (needB (beqV (Value.string v) (Value.string v))
 (some ((Value.tuple (Array.mk [(Value.string (catS (catS (catS (ByteArray.mk #[112, 117, 116, 32]) (W k)) (ByteArray.mk #[32])) (W v))), (Value.int IntKind.i64 (0 : Int))])), (mkSt []))))))))))
 (some ((Value.tuple (Array.mk [(Value.string (ByteArray.mk #[])), (Value.int IntKind.i64 (2 : Int))])), (mkSt [])))) := by kernel_rfl
theorem opOk_of {p : Bool} {k v : ByteArray} (h : opOk p k v = true) : 1 ≤ k.size ∧ k.size ≤ 16 ∧ v.size ≤ 32 ∧ (p = true ∨ v.data.toList = []) := by
  unfold opOk at h
  simp only [Bool.and_eq_true, decide_eq_true_eq, Bool.or_eq_true, beq_iff_eq] at h
  exact ⟨h.1.1.1, h.1.1.2, h.1.2, h.2⟩
def wordL (s : ByteArray) : List UInt8 := wordM s.data.toList
def textL (p : Bool) (k v : ByteArray) : List UInt8 := bif p then [112, 117, 116] ++ 32 :: (wordL k ++ 32 :: wordL v) else [100, 101, 108] ++ 32 :: wordL k
def textT (p : Bool) (k v : ByteArray) : ByteArray := ⟨⟨textL p k v⟩⟩
theorem catS_eq (a b : List UInt8) : catS ⟨⟨a⟩⟩ ⟨⟨b⟩⟩ = ⟨⟨a ++ b⟩⟩ := by
  unfold catS
  apply ByteArray.ext
  rw [ByteArray.data_append]
  simp
theorem encL_len : ∀ l : List UInt8, (encL l).length ≤ 3 * l.length
  | [] => Nat.le_refl _
  | b :: l => by
    have := encL_len l
    have := enc_length b
    rw [encL_cons, List.length_append, List.length_cons]; omega
theorem word_len (s : ByteArray) : (wordL s).length ≤ 3 * s.size + 2 := by
  show (wordM s.data.toList).length ≤ _
  rw [size_eq s]
  cases s.data.toList with
  | nil => show ([34, 34] : List UInt8).length ≤ _; simp
  | cons x l => have := encL_len (x :: l); show (encL (x :: l)).length ≤ _; omega
def RTextV (O : Bool → ByteArray → ByteArray → Bool) (T : Bool → ByteArray → ByteArray → ByteArray) : CallFn
  | [.agg ⟨[.bool p, .string k, .string v]⟩] => some (.ite (O p k v) (.leaf (.tuple ⟨[.string (T p k v), .int .i64 0]⟩, [])) (.leaf (.tuple ⟨[.string ⟨#[]⟩, .int .i64 2]⟩, [])))
  | _ => none
noncomputable def ctT : Ct := ctTv opOk wdC wdS
theorem ctT_ok : CtOk P ctT := addCall_ok (addCall_ok (noCt_ok P) Check_ok) wd_ok
theorem Text_run (p : Bool) (k v : ByteArray) : callQ P E ctT 50 49 [.agg ⟨[.bool p, .string k, .string v]⟩] = some (match opOk p k v with | true => .tuple ⟨[.string (textT p k v), .int .i64 0]⟩ | false => .tuple ⟨[.string ⟨#[]⟩, .int .i64 2]⟩, mkSt []) := by
  unfold ctT
  rw [dec_Text]
  cases ho : opOk p k v with
  | false => exact ite_f rfl rfl
  | true =>
    refine ite_t rfl ?_
    obtain ⟨h1, h2, h3, h4⟩ := opOk_of ho
    have wk := word_len k
    have wv := word_len v
    have ek : wdS k = ⟨⟨wordL k⟩⟩ := rfl
    have ev : wdS v = ⟨⟨wordL v⟩⟩ := rfl
    have ck : wdC k = true := ble_ok (by omega)
    have cv : wdC v = true := ble_ok (by omega)
    have fit : ∀ a b : List UInt8, a.length + b.length ≤ 1000 → fitS ⟨⟨a⟩⟩ ⟨⟨b⟩⟩ = true := fun a b h => ble_ok (by show a.length + b.length ≤ _; omega)
    rw [ek, ev]
    simp only [catS_eq, show (ByteArray.mk #[112, 117, 116, 32]) = ⟨⟨[112, 117, 116, 32]⟩⟩ from rfl, show (ByteArray.mk #[100, 101, 108, 32]) = ⟨⟨[100, 101, 108, 32]⟩⟩ from rfl, show (ByteArray.mk #[32]) = ⟨⟨[32]⟩⟩ from rfl, ck, cv]
    cases p <;> simp only [ite_tt, ite_ff, not_tt, not_ff, beqS]
    · simp (disch := first | rfl | (refine fit _ _ ?_; simp only [List.length_append, List.length_cons, List.length_nil] <;> omega) | (refine ble_ok ?_; omega)) only [need_true]
      rfl
    · simp (disch := first | rfl | (refine fit _ _ ?_; simp only [List.length_append, List.length_cons, List.length_nil] <;> omega) | (refine ble_ok ?_; omega)) only [need_true]
      refine leaf_eq ?_ rfl
      simp [textT, textL]
theorem Text_ok : CallOkR P 49 (RTextV opOk textT) := by
  refine ok_of ctT_ok (n := 50) fun args t hR v bs hev => ?_
  unfold RTextV at hR
  split at hR
  · rename_i p k w
    obtain rfl := Option.some.inj hR
    rw [Text_run]
    cases ho : opOk p k w with
    | true =>
      rw [ho] at hev
      simp only [DT.eval, Option.some.injEq, Prod.mk.injEq] at hev
      obtain ⟨rfl, rfl⟩ := hev; rfl
    | false =>
      rw [ho] at hev
      simp only [DT.eval, Option.some.injEq, Prod.mk.injEq] at hev
      obtain ⟨rfl, rfl⟩ := hev; rfl
  · cases hR
end Go.VS.Tryz
end

section
namespace Go.VS.Tryz
set_option maxRecDepth 1000000
open Go.VS
noncomputable def ctXv (O : Bool → ByteArray → ByteArray → Bool) (T : Bool → ByteArray → ByteArray → ByteArray) : Ct := addCall P 49 (RTextV O T) ctF
def Htx : Head := ⟨9, 76, [4, 19, 59, 60, 61], []⟩
theorem Htx_ok : okL Htx = true := by kernel_rfl
noncomputable def Btx : Code := (loopAt P 24 3).getD .skip
theorem Btx_eq : loopAt P 24 3 = some Btx := by kernel_rfl
theorem Btx_occ : Occ P 24 (.block 3 (.loop Btx)) := loopAt_has Btx_eq
def txB (a : List Value) : List Blk := [.cells a 24 true, .dead, .dead, .dead, .dead, .cells [.string ⟨#[99, 111, 109, 109, 105, 116]⟩, .string ⟨#[110, 111]⟩] 52 true, .dead, .map kkForms 12, .siter ⟨#[110, 111]⟩ 2]
theorem dec_tx (O : Bool → ByteArray → ByteArray → Bool) (T : Bool → ByteArray → ByteArray → ByteArray) (s : ByteArray) (n b : Nat) (c : List Value) (ln i : Int) (k nd nn t : Int) (key : ByteArray) : roundQ P E (ctXv O T) 50 24 Btx Htx [.string s, .pointer (some ⟨8, 0, none⟩), mkFz 3 n b c, .int .i64 ln, .int .i64 i] (txB [.int .i64 k, .int .i64 nd, .int .i64 nn, .int .i64 t, .string key, mkFz 3 n b c]) =
 (iteB (ltI i ln)
 (needB (Bool.and (Nat.beq 3 3) (inI i n))
 (needB (Bool.and (Nat.ble (Nat.add (atN i 3) 3) (List.length c)) (etasB [Eta.bool, Eta.string, Eta.string] c (atN i 3)))
 (iteB (O (asB (nthD c (atN i 3))) (asS (nthD c (Nat.add (atN i 3) 1))) (asS (nthD c (Nat.add (Nat.add (atN i 3) 1) 1))))
 (needB (fitS (ByteArray.mk #[32]) (T (asB (nthD c (atN i 3))) (asS (nthD c (Nat.add (atN i 3) 1))) (asS (nthD c (Nat.add (Nat.add (atN i 3) 1) 1)))))
 (needB (fitS s (catS (ByteArray.mk #[32]) (T (asB (nthD c (atN i 3))) (asS (nthD c (Nat.add (atN i 3) 1))) (asS (nthD c (Nat.add (Nat.add (atN i 3) 1) 1))))))
 (some ((Value.tuple (Array.mk [(Value.int IntKind.i64 (0 : Int)), (Value.string (catS s (catS (ByteArray.mk #[32]) (T (asB (nthD c (atN i 3))) (asS (nthD c (Nat.add (atN i 3) 1))) (asS (nthD c (Nat.add (Nat.add (atN i 3) 1) 1))))))), (Value.pointer (Option.some (Addr.mk 8 0 none))), (Value.iface 18446744073709551619 (Value.agg (Array.mk ((Value.slice none n b) :: c)))), (Value.int IntKind.i64 ln), (Value.int IntKind.i64 (addI IntKind.i64 i (1 : Int)))])), (mkSt [(Blk.cells [(Value.int IntKind.i64 k), (Value.int IntKind.i64 nd), (Value.int IntKind.i64 nn), (Value.int IntKind.i64 t), (Value.string key), (Value.iface 18446744073709551619 (Value.agg (Array.mk ((Value.slice none n b) :: c))))] 24 Bool.true), Blk.dead, Blk.dead, Blk.dead, Blk.dead, (Blk.cells [(Value.string (ByteArray.mk #[99, 111, 109, 109, 105, 116])), (Value.string (ByteArray.mk #[110, 111]))] 52 Bool.true), Blk.dead, (Blk.map kkForms 12), (Blk.siter (ByteArray.mk #[110, 111]) 2)])))))
 (needB (fitS s (ByteArray.mk #[32]))
 (some ((Value.tuple (Array.mk [(Value.int IntKind.i64 (0 : Int)), (Value.string (catS s (ByteArray.mk #[32]))), (Value.pointer (Option.some (Addr.mk 8 0 none))), (Value.iface 18446744073709551619 (Value.agg (Array.mk ((Value.slice none n b) :: c)))), (Value.int IntKind.i64 ln), (Value.int IntKind.i64 (addI IntKind.i64 i (1 : Int)))])), (mkSt [(Blk.cells [(Value.int IntKind.i64 k), (Value.int IntKind.i64 nd), (Value.int IntKind.i64 nn), (Value.int IntKind.i64 t), (Value.string key), (Value.iface 18446744073709551619 (Value.agg (Array.mk ((Value.slice none n b) :: c))))] 24 Bool.true), Blk.dead, Blk.dead, Blk.dead, Blk.dead, (Blk.cells [(Value.string (ByteArray.mk #[99, 111, 109, 109, 105, 116])), (Value.string (ByteArray.mk #[110, 111]))] 52 Bool.true), Blk.dead, (Blk.map kkForms 12), (Blk.siter (ByteArray.mk #[110, 111]) 2)])))))))
 (some ((Value.tuple (Array.mk [(Value.int IntKind.i64 (4 : Int)), (Value.string s), (Value.pointer (Option.some (Addr.mk 8 0 none))), (Value.iface 18446744073709551619 (Value.agg (Array.mk ((Value.slice none n b) :: c)))), (Value.int IntKind.i64 ln), (Value.int IntKind.i64 i)])), (mkSt [(Blk.cells [(Value.int IntKind.i64 k), (Value.int IntKind.i64 nd), (Value.int IntKind.i64 nn), (Value.int IntKind.i64 t), (Value.string key), (Value.iface 18446744073709551619 (Value.agg (Array.mk ((Value.slice none n b) :: c))))] 24 Bool.true), Blk.dead, Blk.dead, Blk.dead, Blk.dead, (Blk.cells [(Value.string (ByteArray.mk #[99, 111, 109, 109, 105, 116])), (Value.string (ByteArray.mk #[110, 111]))] 52 Bool.true), Blk.dead, (Blk.map kkForms 12), (Blk.siter (ByteArray.mk #[110, 111]) 2)])))) := by kernel_rfl
theorem textT_size {p : Bool} {k v : ByteArray} (h : opOk p k v = true) : (textT p k v).size ≤ 200 := by
  obtain ⟨h1, h2, h3, h4⟩ := opOk_of h
  have wk := word_len k
  have wv := word_len v
  show (textL p k v).length ≤ 200
  unfold textL
  cases p <;> simp only [cond_true, cond_false, List.length_append, List.length_cons, List.length_nil] <;> omega
theorem catS_size (a b : ByteArray) : (catS a b).size = a.size + b.size := ByteArray.size_append
def opS (o : OpM) : ByteArray := match opOkM o with
  | true => catS ⟨#[32]⟩ (textT o.p o.k o.v)
  | false => ⟨#[32]⟩
theorem opS_size (o : OpM) : (opS o).size ≤ 201 := by
  unfold opS
  cases h : opOkM o with
  | true =>
    have := textT_size (p := o.p) (k := o.k) (v := o.v) h
    show (catS _ _).size ≤ 201
    rw [catS_size]
    have : (ByteArray.mk #[32]).size = 1 := rfl
    omega
  | false => show (1 : Nat) ≤ 201; decide
def txV (s : ByteArray) (l : List OpM) (i : Int) : List Value := [.string s, .pointer (some ⟨8, 0, none⟩), fzOps l, .int .i64 (lenI l.length), .int .i64 i]
def actL (k nd n t : Int) (key : ByteArray) (l : List OpM) : List Value := [.int .i64 k, .int .i64 nd, .int .i64 n, .int .i64 t, .string key, fzOps l]
noncomputable def ctX : Ct := ctXv opOk textT
theorem ctX_ok : CtOk P ctX := addCall_ok ctF_ok Text_ok
theorem tx_round {l : List OpM} {i : Nat} {s : ByteArray} {k nd nn t : Int} {key : ByteArray} (hi : i < l.length) (hl : l.length < 4194304) (hs : s.size ≤ 1000000000000) : roundQ P E ctX 50 24 Btx Htx (txV s l i) (txB (actL k nd nn t key l)) = some (.tuple ⟨exV .normal :: txV (catS s (opS l[i])) l ((i + 1 : Nat) : Int)⟩, mkSt (txB (actL k nd nn t key l))) := by
  unfold actL txV fzOps ctX
  rw [dec_tx]
  have n3 : ∀ l : List OpM, (EOp.all l).length = Nat.mul l.length 3 := fun l => EOp.all_length l
  have g1 : ltI (i : Int) (lenI l.length) = true := by unfold ltI lenI; exact decide_eq_true (by omega)
  have g2 : inI (i : Int) l.length = true := by unfold inI; exact decide_eq_true (by omega)
  have g3 : Nat.ble (Nat.add (atN (i : Int) 3) 3) (Nat.mul l.length 3) = true := Nat.ble_eq_true_of_le (by
    show (i : Int).toNat * 3 + 3 ≤ l.length * 3
    have : (i : Int).toNat = i := by omega
    omega)
  have g4 := op_etas hi
  have a1 : addI .i64 (i : Int) 1 = ((i + 1 : Nat) : Int) := by unfold addI; rw [wrap64 (by omega) (by omega)]; omega
  have ab : ∀ b, asB (.bool b) = b := fun _ => rfl
  have aS : ∀ b, asS (.string b) = b := fun _ => rfl
  have b3 : ∀ n, Nat.beq n n = true := Nat.beq_refl
  simp only [n3, g1, g2, g3, g4, op_0 hi, op_1 hi, op_2 hi, ab, aS, a1, b3, Bool.and_self, ite_tt, need_tt]
  unfold mkFz opS opOkM
  rw [fzU3]
  have s1 : (ByteArray.mk #[32]).size = 1 := rfl
  cases ho : opOk l[i].p l[i].k l[i].v with
  | true =>
    have ht := textT_size ho
    simp only [ite_tt]
    refine need_eq (ble_ok (by rw [Nat.add_eq, s1]; omega)) ?_
    refine need_eq (ble_ok (by rw [Nat.add_eq, catS_size, s1]; omega)) ?_
    rfl
  | false =>
    simp only [ite_ff]
    refine need_eq (ble_ok (by rw [Nat.add_eq, s1]; omega)) ?_
    rfl
theorem tx_end {l : List OpM} {s : ByteArray} {k nd nn t : Int} {key : ByteArray} : roundQ P E ctX 50 24 Btx Htx (txV s l l.length) (txB (actL k nd nn t key l)) = some (.tuple ⟨exV (.exit 3) :: txV s l l.length⟩, mkSt (txB (actL k nd nn t key l))) := by
  unfold actL txV fzOps ctX
  rw [dec_tx]
  have g1 : ltI (l.length : Int) (lenI l.length) = false := by unfold ltI lenI; exact decide_eq_false (by omega)
  simp only [g1, ite_ff]
  unfold mkFz
  rw [fzU3]
  rfl
def opsS : ByteArray → List OpM → ByteArray
  | s, [] => s
  | s, o :: l => opsS (catS s (opS o)) l
theorem opsS_size : ∀ (l : List OpM) (s : ByteArray), (opsS s l).size ≤ s.size + 201 * l.length
  | [], s => Nat.le_refl _
  | o :: l, s => by
    have := opsS_size l (catS s (opS o))
    rw [catS_size] at this
    have := opS_size o
    show (opsS (catS s (opS o)) l).size ≤ _
    rw [List.length_cons]; omega
theorem tx_loop (kd nd nn t : Int) (key : ByteArray) (l : List OpM) (hl : l.length < 4194304) : ∀ (k i : Nat) (s : ByteArray), i + k = l.length → s.size ≤ 1000 + 201 * i →
    LR P 24 3 Btx Htx (txV s l i) (txB (actL kd nd nn t key l)) .normal (txV (opsS s (l.drop i)) l l.length) (txB (actL kd nd nn t key l))
  | 0, i, s, h, hs => by
    obtain rfl : i = l.length := by omega
    rw [List.drop_length]
    exact LR.stop (n := 50) (engOk ctX) noNum ctX_ok Btx_occ Htx_ok (e := .exit 3) tx_end (by intro h; cases h)
  | k + 1, i, s, h, hs => by
    have hi : i < l.length := by omega
    have q := tx_round (s := s) (k := kd) (nd := nd) (nn := nn) (t := t) (key := key) hi hl (by omega)
    rw [List.drop_eq_getElem_cons hi]
    simp only [opsS]
    have := opS_size l[i]
    exact LR.again (n := 50) (engOk ctX) noNum ctX_ok Btx_occ Htx_ok q (tx_loop kd nd nn t key l hl k (i + 1) _ (by omega) (by rw [catS_size]; omega))
structure TxS where
  s : ByteArray
  k : Int
  nd : Int
  n : Int
  t : Int
  key : ByteArray
  l : List OpM
def kTx : Con TxS where
  enc x := (txV x.s x.l 0, txB (actL x.k x.nd x.n x.t x.key x.l))
  ok x := x.s.size ≤ 1000 ∧ x.l.length < 4194304
  inj a b h := by
    obtain ⟨a1, a2, a3, a4, a5, a6, a7⟩ := a
    obtain ⟨b1, b2, b3, b4, b5, b6, b7⟩ := b
    unfold txV fzOps txB actL at h
    simp only [Prod.mk.injEq, List.cons.injEq, Value.string.injEq, Blk.cells.injEq, Value.int.injEq, true_and, and_true] at h
    obtain ⟨⟨rfl, h2, _⟩, rfl, rfl, rfl, rfl, rfl, _⟩ := h
    have := EOp.all_inj _ _ (fz_inj h2)
    rw [this]
  dflt := ⟨default, 0, 0, 0, 0, default, []⟩
noncomputable def txRes (x : TxS) : DT (Ex × List Value × List Blk) := .leaf (.normal, txV (opsS x.s x.l) x.l x.l.length, txB (actL x.k x.nd x.n x.t x.key x.l))
theorem tx_loopOk {x : TxS} (ho : kTx.ok x) : LoopOk P 24 3 Btx Htx (oneL (kTx.at x) (txRes x)) :=
  oneLP_ok kTx (loopAt_occ Btx_eq) Htx_ok fun e vs' bs' hev => by
    unfold txRes at hev
    simp only [DT.eval, Option.some.injEq, Prod.mk.injEq] at hev
    obtain ⟨rfl, rfl, rfl⟩ := hev
    exact tx_loop _ _ _ _ _ x.l ho.2 x.l.length 0 x.s (by omega) (by have := ho.1; omega)
end Go.VS.Tryz
end

section
namespace Go.VS.Tryz
set_option maxRecDepth 1000000
open Go.VS
noncomputable def ctYv (R : Int → Bool) (F : Int → ByteArray) (C : ByteArray → Bool) (W : ByteArray → ByteArray) (LC : List Value → List Blk → Bool) (s2 : ByteArray) (n b : Nat) (c : List Value) (k nd nn t : Int) (key : ByteArray) : Ct :=
  addLoop 24 3 Htx (oneL LC (.leaf (.normal, [.string s2, .pointer (some ⟨8, 0, none⟩), mkFz 3 n b c, .int .i64 (lenI n), .int .i64 (lenI n)], txB [.int .i64 k, .int .i64 nd, .int .i64 nn, .int .i64 t, .string key, mkFz 3 n b c]))) (addCall P 47 (RitoV R F) (addCall P 48 (RwV C W) ctF))
theorem dec_text (R : Int → Bool) (F : Int → ByteArray) (C : ByteArray → Bool) (W : ByteArray → ByteArray) (LC : List Value → List Blk → Bool) (s2 : ByteArray) (n b : Nat) (c : List Value) (k nd nn t : Int) (key : ByteArray) : callQX P E (ctYv R F C W LC s2 n b c k nd nn t key) 50 polD [] [] 0 24 [.agg ⟨[.int .i64 k, .int .i64 nd, .int .i64 nn, .int .i64 t, .string key, mkFz 3 n b c]⟩] [] =
 (iteB (eqI k (1 : Int))
 (needB (beqV (Value.int IntKind.i64 k) (Value.int IntKind.i64 k))
 (needB (R nd)
 (needB (fitS (ByteArray.mk #[32]) (F nd))
 (needB (fitS (ByteArray.mk #[99, 111, 109, 109, 105, 116]) (catS (ByteArray.mk #[32]) (F nd)))
 (needB (LC [(Value.string (catS (ByteArray.mk #[99, 111, 109, 109, 105, 116]) (catS (ByteArray.mk #[32]) (F nd)))), (Value.pointer (Option.some (Addr.mk 8 0 none))), (Value.iface 18446744073709551619 (Value.agg (Array.mk ((Value.slice none n b) :: c)))), (Value.int IntKind.i64 (lenI n)), (Value.int IntKind.i64 (0 : Int))] [(Blk.cells [(Value.int IntKind.i64 k), (Value.int IntKind.i64 nd), (Value.int IntKind.i64 nn), (Value.int IntKind.i64 t), (Value.string key), (Value.iface 18446744073709551619 (Value.agg (Array.mk ((Value.slice none n b) :: c))))] 24 Bool.true), Blk.dead, Blk.dead, Blk.dead, Blk.dead, (Blk.cells [(Value.string (ByteArray.mk #[99, 111, 109, 109, 105, 116])), (Value.string (ByteArray.mk #[110, 111]))] 52 Bool.true), Blk.dead, (Blk.map kkForms 12), (Blk.siter (ByteArray.mk #[110, 111]) 2)])
 (some ((Value.string s2), (mkSt []))))))))
 (iteB (eqI k (2 : Int))
 (needB (beqV (Value.int IntKind.i64 k) (Value.int IntKind.i64 k))
 (needB (R nd)
 (needB (fitS (ByteArray.mk #[32]) (F nd))
 (needB (fitS (ByteArray.mk #[114, 101, 97, 100]) (catS (ByteArray.mk #[32]) (F nd)))
 (needB (C key)
 (needB (fitS (ByteArray.mk #[32]) (W key))
 (needB (fitS (catS (ByteArray.mk #[114, 101, 97, 100]) (catS (ByteArray.mk #[32]) (F nd))) (catS (ByteArray.mk #[32]) (W key)))
 (some ((Value.string (catS (catS (ByteArray.mk #[114, 101, 97, 100]) (catS (ByteArray.mk #[32]) (F nd))) (catS (ByteArray.mk #[32]) (W key)))), (mkSt []))))))))))
 (iteB (eqI k (3 : Int))
 (needB (beqV (Value.int IntKind.i64 k) (Value.int IntKind.i64 k))
 (needB (R nd)
 (needB (fitS (ByteArray.mk #[32]) (F nd))
 (needB (fitS (ByteArray.mk #[116, 105, 99, 107]) (catS (ByteArray.mk #[32]) (F nd)))
 (some ((Value.string (catS (ByteArray.mk #[116, 105, 99, 107]) (catS (ByteArray.mk #[32]) (F nd)))), (mkSt [])))))))
 (iteB (eqI k (4 : Int))
 (needB (beqV (Value.int IntKind.i64 k) (Value.int IntKind.i64 k))
 (needB (R nd)
 (needB (fitS (ByteArray.mk #[32]) (F nd))
 (needB (fitS (ByteArray.mk #[112, 114, 111, 109, 111, 116, 101]) (catS (ByteArray.mk #[32]) (F nd)))
 (some ((Value.string (catS (ByteArray.mk #[112, 114, 111, 109, 111, 116, 101]) (catS (ByteArray.mk #[32]) (F nd)))), (mkSt [])))))))
 (iteB (eqI k (5 : Int))
 (needB (beqV (Value.int IntKind.i64 k) (Value.int IntKind.i64 k))
 (needB (R nd)
 (needB (fitS (ByteArray.mk #[32]) (F nd))
 (needB (fitS (ByteArray.mk #[102, 108, 117, 115, 104]) (catS (ByteArray.mk #[32]) (F nd)))
 (some ((Value.string (catS (ByteArray.mk #[102, 108, 117, 115, 104]) (catS (ByteArray.mk #[32]) (F nd)))), (mkSt [])))))))
 (iteB (eqI k (6 : Int))
 (needB (beqV (Value.int IntKind.i64 k) (Value.int IntKind.i64 k))
 (needB (R nn)
 (needB (fitS (ByteArray.mk #[32]) (F nn))
 (needB (fitS (ByteArray.mk #[100, 101, 108, 105, 118, 101, 114]) (catS (ByteArray.mk #[32]) (F nn)))
 (some ((Value.string (catS (ByteArray.mk #[100, 101, 108, 105, 118, 101, 114]) (catS (ByteArray.mk #[32]) (F nn)))), (mkSt [])))))))
 (iteB (eqI k (7 : Int))
 (needB (beqV (Value.int IntKind.i64 k) (Value.int IntKind.i64 k))
 (needB (R nn)
 (needB (fitS (ByteArray.mk #[32]) (F nn))
 (needB (fitS (ByteArray.mk #[116, 119, 105, 99, 101]) (catS (ByteArray.mk #[32]) (F nn)))
 (some ((Value.string (catS (ByteArray.mk #[116, 119, 105, 99, 101]) (catS (ByteArray.mk #[32]) (F nn)))), (mkSt [])))))))
 (iteB (eqI k (8 : Int))
 (needB (beqV (Value.int IntKind.i64 k) (Value.int IntKind.i64 k))
 (needB (R nn)
 (needB (fitS (ByteArray.mk #[32]) (F nn))
 (needB (fitS (ByteArray.mk #[100, 114, 111, 112]) (catS (ByteArray.mk #[32]) (F nn)))
 (some ((Value.string (catS (ByteArray.mk #[100, 114, 111, 112]) (catS (ByteArray.mk #[32]) (F nn)))), (mkSt [])))))))
 (iteB (eqI k (9 : Int))
 (needB (beqV (Value.int IntKind.i64 k) (Value.int IntKind.i64 k))
 (needB (R nd)
 (needB (fitS (ByteArray.mk #[32]) (F nd))
 (needB (fitS (ByteArray.mk #[102, 117, 115, 101]) (catS (ByteArray.mk #[32]) (F nd)))
 (needB (R nn)
 (needB (fitS (ByteArray.mk #[32]) (F nn))
 (needB (fitS (catS (ByteArray.mk #[102, 117, 115, 101]) (catS (ByteArray.mk #[32]) (F nd))) (catS (ByteArray.mk #[32]) (F nn)))
 (some ((Value.string (catS (catS (ByteArray.mk #[102, 117, 115, 101]) (catS (ByteArray.mk #[32]) (F nd))) (catS (ByteArray.mk #[32]) (F nn)))), (mkSt []))))))))))
 (iteB (eqI k (10 : Int))
 (needB (beqV (Value.int IntKind.i64 k) (Value.int IntKind.i64 k))
 (needB (R nd)
 (needB (fitS (ByteArray.mk #[32]) (F nd))
 (needB (fitS (ByteArray.mk #[112, 117, 108, 108]) (catS (ByteArray.mk #[32]) (F nd)))
 (some ((Value.string (catS (ByteArray.mk #[112, 117, 108, 108]) (catS (ByteArray.mk #[32]) (F nd)))), (mkSt [])))))))
 (iteB (eqI k (11 : Int))
 (needB (beqV (Value.int IntKind.i64 k) (Value.int IntKind.i64 k))
 (needB (R nd)
 (needB (fitS (ByteArray.mk #[32]) (F nd))
 (needB (fitS (ByteArray.mk #[115, 116, 97, 114, 116]) (catS (ByteArray.mk #[32]) (F nd)))
 (needB (R nn)
 (needB (fitS (ByteArray.mk #[32]) (F nn))
 (needB (fitS (catS (ByteArray.mk #[115, 116, 97, 114, 116]) (catS (ByteArray.mk #[32]) (F nd))) (catS (ByteArray.mk #[32]) (F nn)))
 (needB (R t)
 (needB (fitS (ByteArray.mk #[32]) (F t))
 (needB (fitS (catS (catS (ByteArray.mk #[115, 116, 97, 114, 116]) (catS (ByteArray.mk #[32]) (F nd))) (catS (ByteArray.mk #[32]) (F nn))) (catS (ByteArray.mk #[32]) (F t)))
 (some ((Value.string (catS (catS (catS (ByteArray.mk #[115, 116, 97, 114, 116]) (catS (ByteArray.mk #[32]) (F nd))) (catS (ByteArray.mk #[32]) (F nn))) (catS (ByteArray.mk #[32]) (F t)))), (mkSt [])))))))))))))
 (iteB (eqI k (12 : Int))
 (needB (beqV (Value.int IntKind.i64 k) (Value.int IntKind.i64 k))
 (some ((Value.string (ByteArray.mk #[114, 111, 117, 110, 100])), (mkSt []))))
 (needB (beqV (Value.int IntKind.i64 k) (Value.int IntKind.i64 k))
 (some ((Value.string (ByteArray.mk #[])), (mkSt [])))))))))))))))) := by kernel_rfl
def nS (n : Int) : ByteArray := catS ⟨#[32]⟩ (itoS n)
def textA (a : ActM) : ByteArray :=
  bif eqI a.kind 1 then opsS (catS ⟨#[99, 111, 109, 109, 105, 116]⟩ (nS a.node)) a.ops else
  bif eqI a.kind 2 then catS (catS ⟨#[114, 101, 97, 100]⟩ (nS a.node)) (catS ⟨#[32]⟩ (wdS a.key)) else
  bif eqI a.kind 3 then catS ⟨#[116, 105, 99, 107]⟩ (nS a.node) else
  bif eqI a.kind 4 then catS ⟨#[112, 114, 111, 109, 111, 116, 101]⟩ (nS a.node) else
  bif eqI a.kind 5 then catS ⟨#[102, 108, 117, 115, 104]⟩ (nS a.node) else
  bif eqI a.kind 6 then catS ⟨#[100, 101, 108, 105, 118, 101, 114]⟩ (nS a.n) else
  bif eqI a.kind 7 then catS ⟨#[116, 119, 105, 99, 101]⟩ (nS a.n) else
  bif eqI a.kind 8 then catS ⟨#[100, 114, 111, 112]⟩ (nS a.n) else
  bif eqI a.kind 9 then catS (catS ⟨#[102, 117, 115, 101]⟩ (nS a.node)) (nS a.n) else
  bif eqI a.kind 10 then catS ⟨#[112, 117, 108, 108]⟩ (nS a.node) else
  bif eqI a.kind 11 then catS (catS (catS ⟨#[115, 116, 97, 114, 116]⟩ (nS a.node)) (nS a.n)) (nS a.t) else
  bif eqI a.kind 12 then ⟨#[114, 111, 117, 110, 100]⟩ else
  ⟨#[]⟩
theorem lz1 : (ByteArray.mk #[99, 111, 109, 109, 105, 116]).size = 6 := rfl
theorem lz2 : (ByteArray.mk #[114, 101, 97, 100]).size = 4 := rfl
theorem lz3 : (ByteArray.mk #[116, 105, 99, 107]).size = 4 := rfl
theorem lz4 : (ByteArray.mk #[112, 114, 111, 109, 111, 116, 101]).size = 7 := rfl
theorem lz5 : (ByteArray.mk #[102, 108, 117, 115, 104]).size = 5 := rfl
theorem lz6 : (ByteArray.mk #[100, 101, 108, 105, 118, 101, 114]).size = 7 := rfl
theorem lz7 : (ByteArray.mk #[116, 119, 105, 99, 101]).size = 5 := rfl
theorem lz8 : (ByteArray.mk #[100, 114, 111, 112]).size = 4 := rfl
theorem lz9 : (ByteArray.mk #[102, 117, 115, 101]).size = 4 := rfl
theorem lz10 : (ByteArray.mk #[112, 117, 108, 108]).size = 4 := rfl
theorem lz11 : (ByteArray.mk #[115, 116, 97, 114, 116]).size = 5 := rfl
theorem lz12 : (ByteArray.mk #[114, 111, 117, 110, 100]).size = 5 := rfl
theorem lz0 : (ByteArray.mk #[32]).size = 1 := rfl
theorem itoS_size {n : Int} (h : inR n = true) : (itoS n).size ≤ 21 := by
  unfold inR leI at h
  simp only [Bool.and_eq_true, decide_eq_true_eq] at h
  exact Lib.itoa_length_le n h.1 h.2
theorem wdS_size (s : ByteArray) : (wdS s).size ≤ 3 * s.size + 2 := word_len s
def txOk (a : ActM) : Prop := inR a.node = true ∧ inR a.n = true ∧ inR a.t = true ∧ (eqI a.kind 2 = true → a.key.size ≤ 1000000) ∧ a.ops.length < 4194304
def txX (a : ActM) : TxS := ⟨catS ⟨#[99, 111, 109, 109, 105, 116]⟩ (nS a.node), a.kind, a.node, a.n, a.t, a.key, a.ops⟩
noncomputable def ctY (a : ActM) : Ct := ctYv inR itoS wdC wdS (kTx.at (txX a)) (opsS (txX a).s a.ops) a.ops.length 0 (EOp.all a.ops) a.kind a.node a.n a.t a.key
theorem txX_ok {a : ActM} (h : txOk a) : kTx.ok (txX a) := by
  obtain ⟨r1, r2, r3, hk, hl⟩ := h
  have := itoS_size r1
  refine ⟨?_, hl⟩
  show (catS _ (catS _ _)).size ≤ 1000
  rw [catS_size, catS_size, lz1, lz0]; omega
theorem ctY_ok {a : ActM} (h : txOk a) : CtOk P (ctY a) :=
  addLoop_ok (addCall_ok (addCall_ok ctF_ok wd_ok) ito_ok) (tx_loopOk (txX_ok h))
theorem text_run {a : ActM} (h : txOk a) : callQX P E (ctY a) 50 polD [] [] 0 24 [actV a] [] = some (.string (textA a), mkSt []) := by
  have hx := txX_ok h
  obtain ⟨r1, r2, r3, hk, hl⟩ := h
  refine (dec_text inR itoS wdC wdS (kTx.at (txX a)) (opsS (txX a).s a.ops) a.ops.length 0 (EOp.all a.ops) a.kind a.node a.n a.t a.key).trans ?_
  have z1 := itoS_size r1
  have z2 := itoS_size r2
  have z3 := itoS_size r3
  have z4 := wdS_size a.key
  have fit : ∀ x y : ByteArray, x.size + y.size ≤ 100000000 → fitS x y = true := fun x y h => ble_ok (by rw [Nat.add_eq]; omega)
  unfold textA nS
  cases h1 : eqI a.kind 1 with
  | true =>
    simp only [ite_tt, cond_true, beqI, need_tt, r1]
    refine need_eq (fit _ _ (by rw [lz0]; omega)) ?_
    refine need_eq (fit _ _ (by rw [catS_size, lz1, lz0]; omega)) ?_
    refine need_at (k := kTx) (s := txX a) (by show txV _ _ _ = _; unfold txV fzOps mkFz; rw [fzU3]; rfl) (by show txB _ = _; unfold txB actL fzOps mkFz; rw [fzU3]; rfl) ?_
    rfl
  | false =>
  refine Eq.trans ite_ff ?_
  simp only [cond_false]
  cases h2 : eqI a.kind 2 with
  | true =>
    have hk := hk h2
    have ck : wdC a.key = true := ble_ok (by omega)
    simp only [ite_tt, cond_true, beqI, need_tt, r1, r2, r3, ck]
    repeat refine need_eq (fit _ _ (by simp only [catS_size, lz0, lz1, lz2, lz3, lz4, lz5, lz6, lz7, lz8, lz9, lz10, lz11, lz12]; omega)) ?_
    rfl
  | false =>
  refine Eq.trans ite_ff ?_
  simp only [cond_false]
  cases h3 : eqI a.kind 3 with
  | true =>
    simp only [ite_tt, cond_true, beqI, need_tt, r1, r2, r3]
    repeat refine need_eq (fit _ _ (by simp only [catS_size, lz0, lz1, lz2, lz3, lz4, lz5, lz6, lz7, lz8, lz9, lz10, lz11, lz12]; omega)) ?_
    rfl
  | false =>
  refine Eq.trans ite_ff ?_
  simp only [cond_false]
  cases h4 : eqI a.kind 4 with
  | true =>
    simp only [ite_tt, cond_true, beqI, need_tt, r1, r2, r3]
    repeat refine need_eq (fit _ _ (by simp only [catS_size, lz0, lz1, lz2, lz3, lz4, lz5, lz6, lz7, lz8, lz9, lz10, lz11, lz12]; omega)) ?_
    rfl
  | false =>
  refine Eq.trans ite_ff ?_
  simp only [cond_false]
  cases h5 : eqI a.kind 5 with
  | true =>
    simp only [ite_tt, cond_true, beqI, need_tt, r1, r2, r3]
    repeat refine need_eq (fit _ _ (by simp only [catS_size, lz0, lz1, lz2, lz3, lz4, lz5, lz6, lz7, lz8, lz9, lz10, lz11, lz12]; omega)) ?_
    rfl
  | false =>
  refine Eq.trans ite_ff ?_
  simp only [cond_false]
  cases h6 : eqI a.kind 6 with
  | true =>
    simp only [ite_tt, cond_true, beqI, need_tt, r1, r2, r3]
    repeat refine need_eq (fit _ _ (by simp only [catS_size, lz0, lz1, lz2, lz3, lz4, lz5, lz6, lz7, lz8, lz9, lz10, lz11, lz12]; omega)) ?_
    rfl
  | false =>
  refine Eq.trans ite_ff ?_
  simp only [cond_false]
  cases h7 : eqI a.kind 7 with
  | true =>
    simp only [ite_tt, cond_true, beqI, need_tt, r1, r2, r3]
    repeat refine need_eq (fit _ _ (by simp only [catS_size, lz0, lz1, lz2, lz3, lz4, lz5, lz6, lz7, lz8, lz9, lz10, lz11, lz12]; omega)) ?_
    rfl
  | false =>
  refine Eq.trans ite_ff ?_
  simp only [cond_false]
  cases h8 : eqI a.kind 8 with
  | true =>
    simp only [ite_tt, cond_true, beqI, need_tt, r1, r2, r3]
    repeat refine need_eq (fit _ _ (by simp only [catS_size, lz0, lz1, lz2, lz3, lz4, lz5, lz6, lz7, lz8, lz9, lz10, lz11, lz12]; omega)) ?_
    rfl
  | false =>
  refine Eq.trans ite_ff ?_
  simp only [cond_false]
  cases h9 : eqI a.kind 9 with
  | true =>
    simp only [ite_tt, cond_true, beqI, need_tt, r1, r2, r3]
    repeat refine need_eq (fit _ _ (by simp only [catS_size, lz0, lz1, lz2, lz3, lz4, lz5, lz6, lz7, lz8, lz9, lz10, lz11, lz12]; omega)) ?_
    rfl
  | false =>
  refine Eq.trans ite_ff ?_
  simp only [cond_false]
  cases h10 : eqI a.kind 10 with
  | true =>
    simp only [ite_tt, cond_true, beqI, need_tt, r1, r2, r3]
    repeat refine need_eq (fit _ _ (by simp only [catS_size, lz0, lz1, lz2, lz3, lz4, lz5, lz6, lz7, lz8, lz9, lz10, lz11, lz12]; omega)) ?_
    rfl
  | false =>
  refine Eq.trans ite_ff ?_
  simp only [cond_false]
  cases h11 : eqI a.kind 11 with
  | true =>
    simp only [ite_tt, cond_true, beqI, need_tt, r1, r2, r3]
    repeat refine need_eq (fit _ _ (by simp only [catS_size, lz0, lz1, lz2, lz3, lz4, lz5, lz6, lz7, lz8, lz9, lz10, lz11, lz12]; omega)) ?_
    rfl
  | false =>
  refine Eq.trans ite_ff ?_
  simp only [cond_false]
  cases h12 : eqI a.kind 12 with
  | true =>
    simp only [ite_tt, cond_true, beqI, need_tt, r1, r2, r3]
    repeat refine need_eq (fit _ _ (by simp only [catS_size, lz0, lz1, lz2, lz3, lz4, lz5, lz6, lz7, lz8, lz9, lz10, lz11, lz12]; omega)) ?_
    try rfl
  | false =>
  refine Eq.trans ite_ff ?_
  simp only [cond_false]
  rw [beqI]; rfl
theorem fzOps_inj {a b : List OpM} (h : fzOps a = fzOps b) : a = b := EOp.all_inj _ _ (fz_inj h)
theorem actV_inj {a b : ActM} (h : actV a = actV b) : a = b := by
  obtain ⟨a1, a2, a3, a4, a5, a6⟩ := a
  obtain ⟨b1, b2, b3, b4, b5, b6⟩ := b
  unfold actV actC at h
  simp only [Value.agg.injEq, Array.mk.injEq, List.cons.injEq, Value.int.injEq, Value.string.injEq, true_and, and_true] at h
  obtain ⟨rfl, rfl, rfl, rfl, rfl, h6⟩ := h
  rw [fzOps_inj h6]
def kAx : Con ActM where
  enc a := ([actV a], [])
  ok a := txOk a
  inj a b h := by
    simp only [Prod.mk.injEq, List.cons.injEq, and_true] at h
    exact actV_inj h
  dflt := act00
theorem text_ok : CallOkX P 0 24 (conM kAx.C kAx.D fun a => .leaf (.string (textA a), [])) := conX_ok kAx fun a ho v bs' hev => by
  simp only [DT.eval, Option.some.injEq, Prod.mk.injEq] at hev
  obtain ⟨rfl, rfl⟩ := hev
  exact CRX.of (engOk (ctY a)) noNum (ctY_ok ho) (text_run ho)
end Go.VS.Tryz
end

section
namespace Go.VS.Tryz
set_option maxRecDepth 1000000
open Go.VS
def opEq (a b : OpM) : Bool := Bool.and (eqB a.p b.p) (Bool.and (eqS a.k b.k) (Bool.and (eqS a.v b.v) true))
def difM : Nat → List OpM → List OpM → Option Nat
  | i, a :: l, b :: m => match opEq a b with
    | true => difM (i + 1) l m
    | false => some i
  | _, _, _ => none
def opsEq (l m : List OpM) : Bool := match neI (lenI l.length) (lenI m.length) with
  | true => false
  | false => (difM 0 l m).isNone
theorem noL_ok {P : Program} {fid id : Nat} {B : Code} {H : Head} {t : DT (Ex × List Value × List Blk)} (hocc : ∀ c, Occ P fid (.block id c) → c = .loop B) : LoopOkX P fid id B H (oneL (fun _ _ => false) t) where
  occ := hocc
  run := by
    intro vs bs t hR e vs' bs' hev
    unfold oneL at hR
    obtain rfl := Option.some.inj hR
    cases hev
def kOo : Con (List OpM × List OpM) where
  enc x := ([fzOps x.1, fzOps x.2], [])
  ok x := x.1.length < 4194304 ∧ x.2.length < 4194304
  inj a b h := by
    obtain ⟨a1, a2⟩ := a
    obtain ⟨b1, b2⟩ := b
    simp only [Prod.mk.injEq, List.cons.injEq, and_true] at h
    rw [fzOps_inj h.1, fzOps_inj h.2]
  dflt := ([], [])
def Dso : HeadX := ⟨0, 26, [0, 1, 4, 5], [.val, .val, .val, .val], [], polD⟩
noncomputable def Bso : Code := (loopAt P 20 0).getD .skip
theorem Bso_eq : loopAt P 20 0 = some Bso := by kernel_rfl
theorem Bso_occ : Occ P 20 (.block 0 (.loop Bso)) := loopAt_has Bso_eq
def soV (l m : List OpM) (i : Int) : List Value := [fzOps l, fzOps m, .bool false,  .int .i64 i]
theorem dec_so (n b : Nat) (c : List Value) (n' b' : Nat) (c' : List Value) ( i : Int) : roundQX P E ctF 50 20 Bso Dso [mkFz 3 n b c, mkFz 3 n' b' c', .bool false,  .int .i64 i] [] =
 (iteB (ltI i (lenI n))
 (needB (Bool.and (Nat.beq 3 3) (inI i n))
 (needB (Bool.and (Nat.ble (Nat.add (atN i 3) 3) (List.length c)) (etasB [Eta.bool, Eta.string, Eta.string] c (atN i 3)))
 (needB (Bool.and (Nat.beq 3 3) (inI i n'))
 (needB (Bool.and (Nat.ble (Nat.add (atN i 3) 3) (List.length c')) (etasB [Eta.bool, Eta.string, Eta.string] c' (atN i 3)))
 (iteB (notB (Bool.and (eqB (asB (nthD c (atN i 3))) (asB (nthD c' (atN i 3)))) (Bool.and (eqS (asS (nthD c (Nat.add (atN i 3) 1))) (asS (nthD c' (Nat.add (atN i 3) 1)))) (Bool.and (eqS (asS (nthD c (Nat.add (Nat.add (atN i 3) 1) 1))) (asS (nthD c' (Nat.add (Nat.add (atN i 3) 1) 1)))) Bool.true))))
 (some ((Value.tuple (Array.mk [(Value.int IntKind.i64 (-1 : Int)), (Value.iface 18446744073709551619 (Value.agg (Array.mk ((Value.slice none n b) :: c)))), (Value.iface 18446744073709551619 (Value.agg (Array.mk ((Value.slice none n' b') :: c')))), (Value.bool Bool.false), (Value.int IntKind.i64 i)])), (mkSt [])))
 (some ((Value.tuple (Array.mk [(Value.int IntKind.i64 (0 : Int)), (Value.iface 18446744073709551619 (Value.agg (Array.mk ((Value.slice none n b) :: c)))), (Value.iface 18446744073709551619 (Value.agg (Array.mk ((Value.slice none n' b') :: c')))), (Value.bool Bool.false), (Value.int IntKind.i64 (addI IntKind.i64 i (1 : Int)))])), (mkSt []))))))))
 (some ((Value.tuple (Array.mk [(Value.int IntKind.i64 (1 : Int)), (Value.iface 18446744073709551619 (Value.agg (Array.mk ((Value.slice none n b) :: c)))), (Value.iface 18446744073709551619 (Value.agg (Array.mk ((Value.slice none n' b') :: c')))), (Value.bool Bool.false), (Value.int IntKind.i64 i)])), (mkSt [])))) := by kernel_rfl
theorem so_round {l m : List OpM} {i : Nat} (hi : i < l.length) (he : m.length = l.length) (hl : l.length < 4194304) : roundQX P E ctF 50 20 Bso Dso (soV l m i) [] = match opEq l[i] (m[i]'(by omega)) with
    | true => some (.tuple ⟨exV .normal :: soV l m ((i + 1 : Nat) : Int)⟩, mkSt [])
    | false => some (.tuple ⟨exV .ret :: soV l m i⟩, mkSt []) := by
  have hj : i < m.length := by omega
  unfold soV fzOps
  rw [dec_so]
  have n3 : ∀ l : List OpM, (EOp.all l).length = Nat.mul l.length 3 := fun l => EOp.all_length l
  have g1 : ltI (i : Int) (lenI l.length) = true := by unfold ltI lenI; exact decide_eq_true (by omega)
  have g2 : inI (i : Int) l.length = true := by unfold inI; exact decide_eq_true (by omega)
  have g3 : Nat.ble (Nat.add (atN (i : Int) 3) 3) (Nat.mul l.length 3) = true := Nat.ble_eq_true_of_le (by
    show (i : Int).toNat * 3 + 3 ≤ l.length * 3
    have : (i : Int).toNat = i := by omega
    omega)
  have g4 := op_etas hi
  have g5 := op_etas hj
  have a1 : addI .i64 (i : Int) 1 = ((i + 1 : Nat) : Int) := by unfold addI; rw [wrap64 (by omega) (by omega)]; omega
  have ab : ∀ b, asB (.bool b) = b := fun _ => rfl
  have aS : ∀ b, asS (.string b) = b := fun _ => rfl
  have b3 : ∀ n, Nat.beq n n = true := Nat.beq_refl
  simp only [n3, he, g1, g2, g3, g4, g5, op_0 hi, op_1 hi, op_2 hi, op_0 hj, op_1 hj, op_2 hj, ab, aS, a1, b3, Bool.and_self, ite_tt, need_tt]
  unfold mkFz
  rw [fzU3]
  show iteB (notB (opEq l[i] m[i])) _ _ = _
  cases opEq l[i] m[i] <;> rfl
theorem so_end {l m : List OpM} : roundQX P E ctF 50 20 Bso Dso (soV l m l.length) [] = some (.tuple ⟨exV (.exit 0) :: soV l m l.length⟩, mkSt []) := by
  unfold soV fzOps
  rw [dec_so]
  have g1 : ltI (l.length : Int) (lenI l.length) = false := by unfold ltI lenI; exact decide_eq_false (by omega)
  simp only [g1, ite_ff]
  unfold mkFz
  rw [fzU3]
  rfl
theorem so_loop (l m : List OpM) (he : m.length = l.length) (hl : l.length < 4194304) : ∀ (k i : Nat), i + k = l.length →
    LRX P 20 0 Bso Dso.head (soV l m i) [] (match difM i (l.drop i) (m.drop i) with | none => .normal | some _ => .ret) (match difM i (l.drop i) (m.drop i) with | none => soV l m l.length | some j => soV l m j) []
  | 0, i, h => by
    obtain rfl : i = l.length := by omega
    rw [List.drop_length]
    exact LRX.stop (n := 50) (engOk ctF) noNum ctF_ok Bso_occ (e := .exit 0) so_end (by intro h; cases h)
  | k + 1, i, h => by
    have hi : i < l.length := by omega
    have hj : i < m.length := by omega
    have q := so_round hi he hl
    rw [List.drop_eq_getElem_cons hi, List.drop_eq_getElem_cons hj]
    simp only [difM]
    cases ho : opEq l[i] m[i] with
    | true =>
      rw [ho] at q
      exact LRX.again (n := 50) (engOk ctF) noNum ctF_ok Bso_occ q (so_loop l m he hl k (i + 1) (by omega))
    | false =>
      rw [ho] at q
      exact LRX.stop (n := 50) (engOk ctF) noNum ctF_ok Bso_occ (e := .ret) q (by intro h; cases h)
def kso : Con (List OpM × List OpM) where
  enc x := (soV x.1 x.2 0, [])
  ok x := x.2.length = x.1.length ∧ x.1.length < 4194304
  inj a b h := by
    obtain ⟨a1, a2⟩ := a
    obtain ⟨b1, b2⟩ := b
    unfold soV at h
    simp only [Prod.mk.injEq, List.cons.injEq, true_and, and_true] at h
    first | rw [fzOps_inj h.1, fzOps_inj h.2.1] | rw [fzOps_inj h.1, fzOps_inj h.2]
  dflt := ([], [])
noncomputable def soRes (x : List OpM × List OpM) : DT (Ex × List Value × List Blk) := .ite (difM 0 x.1 x.2).isNone (.leaf (.normal, soV x.1 x.2 x.1.length, [])) (.leaf (.ret, soV x.1 x.2 ((difM 0 x.1 x.2).getD 0), []))
theorem so_loopOk : LoopOkX P 20 0 Bso Dso.head (conL kso.C kso.D soRes) :=
  conLX_ok kso (loopAt_occ Bso_eq) fun x ho e vs' bs' hev => by
    have q := so_loop x.1 x.2 ho.1 ho.2 x.1.length 0 (by omega)
    rw [List.drop_zero, List.drop_zero] at q
    unfold soRes at hev
    cases hb : difM 0 x.1 x.2 with
    | none =>
      rw [hb] at hev q
      simp only [Option.isNone_none, DT.eval, Option.some.injEq, Prod.mk.injEq] at hev
      obtain ⟨rfl, rfl, rfl⟩ := hev
      exact q
    | some j =>
      rw [hb] at hev q
      simp only [Option.isNone_some, Option.getD_some, DT.eval, Option.some.injEq, Prod.mk.injEq] at hev
      obtain ⟨rfl, rfl, rfl⟩ := hev
      exact q
noncomputable def ctsov (C : List Value → List Blk → Bool) (ok : Bool) (n b : Nat) (c : List Value) (n' b' : Nat) (c' : List Value) (j : Int) : Ct :=
  addLoopX P 20 0 Dso (oneL C (.ite ok (.leaf (.normal, [mkFz 3 n b c, mkFz 3 n' b' c', .bool false,  .int .i64 (lenI n)], [])) (.leaf (.ret, [mkFz 3 n b c, mkFz 3 n' b' c', .bool false,  .int .i64 j], [])))) ctF
theorem dec_soc (C : List Value → List Blk → Bool) (ok : Bool) (n b : Nat) (c : List Value) (n' b' : Nat) (c' : List Value) (j : Int) : callQX P E (ctsov C ok n b c n' b' c' j) 50 polD [] [] 0 20 [mkFz 3 n b c, mkFz 3 n' b' c'] [] =
 (iteB (neI (lenI n) (lenI n'))
 (some ((Value.bool Bool.false), (mkSt [])))
 (needB (C [(Value.iface 18446744073709551619 (Value.agg (Array.mk ((Value.slice none n b) :: c)))), (Value.iface 18446744073709551619 (Value.agg (Array.mk ((Value.slice none n' b') :: c')))), (Value.bool Bool.false), (Value.int IntKind.i64 (0 : Int))] [])
 (iteB ok
 (some ((Value.bool Bool.true), (mkSt [])))
 (some ((Value.bool Bool.false), (mkSt [])))))) := by kernel_rfl
noncomputable def ctso (l m : List OpM) : Ct := ctsov (kso.at (l, m)) (difM 0 l m).isNone l.length 0 (EOp.all l) m.length 0 (EOp.all m) (((difM 0 l m).getD 0 : Nat) : Int)
theorem so_run (l m : List OpM) (h : neI (lenI l.length) (lenI m.length) = false) : callQX P E (ctso l m) 50 polD [] [] 0 20 [fzOps l, fzOps m] [] = some (.bool (opsEq l m), mkSt []) := by
  refine (dec_soc (kso.at (l, m)) (difM 0 l m).isNone l.length 0 (EOp.all l) m.length 0 (EOp.all m) (((difM 0 l m).getD 0 : Nat) : Int)).trans ?_
  unfold opsEq
  rw [h]
  refine Eq.trans ite_ff ?_
  refine need_at (k := kso) (s := (l, m)) (by show soV l m 0 = _; unfold soV fzOps mkFz; rw [fzU3]) rfl ?_
  cases (difM 0 l m).isNone <;> rfl
theorem soc_ok : CallOkX P 0 20 (conM kOo.C kOo.D fun x => .leaf (.bool (opsEq x.1 x.2), [])) := conX_ok kOo fun x ho v bs' hev => by
  simp only [DT.eval, Option.some.injEq, Prod.mk.injEq] at hev
  obtain ⟨rfl, rfl⟩ := hev
  obtain ⟨l, m⟩ := x
  cases h : neI (lenI l.length) (lenI m.length) with
  | false =>
    have he : m.length = l.length := by
      unfold neI lenI at h
      have := bne_eq_false_iff_eq.1 h
      omega
    exact CRX.of (engOk (ctso l m)) noNum (addLoopX_ok ctF_ok (oneL_ok kso so_loopOk (s := (l, m)) ⟨he, ho.1⟩)) (so_run l m h)
  | true =>
    have hv : opsEq l m = false := by unfold opsEq; rw [h]
    show CRX P 0 20 [fzOps l, fzOps m] [] (.bool (opsEq l m)) []
    rw [hv]
    refine CRX.of (engOk (ctsov (fun _ _ => false) false l.length 0 (EOp.all l) m.length 0 (EOp.all m) 0)) noNum (addLoopX_ok ctF_ok (noL_ok (loopAt_occ Bso_eq))) (n := 50) (pol := polD) (fl := []) (ts := []) ?_
    refine (dec_soc (fun _ _ => false) false l.length 0 (EOp.all l) m.length 0 (EOp.all m) 0).trans ?_
    rw [h]
    exact ite_tt
def Dse : HeadX := ⟨0, 26, [0, 1, 4, 12, 13], [.val, .val, .val, .val, .val], [], polD⟩
noncomputable def Bse : Code := (loopAt P 74 0).getD .skip
theorem Bse_eq : loopAt P 74 0 = some Bse := by kernel_rfl
theorem Bse_occ : Occ P 74 (.block 0 (.loop Bse)) := loopAt_has Bse_eq
def seV (l m : List OpM) (i : Int) : List Value := [fzOps l, fzOps m, .bool false, .int .i64 (lenI l.length), .int .i64 i]
theorem dec_se (n b : Nat) (c : List Value) (n' b' : Nat) (c' : List Value) (z i : Int) : roundQX P E ctF 50 74 Bse Dse [mkFz 3 n b c, mkFz 3 n' b' c', .bool false, .int .i64 z, .int .i64 i] [] =
 (iteB (ltI i z)
 (needB (Bool.and (Nat.beq 3 3) (inI i n))
 (needB (Bool.and (Nat.ble (Nat.add (atN i 3) 3) (List.length c)) (etasB [Eta.bool, Eta.string, Eta.string] c (atN i 3)))
 (needB (Bool.and (Nat.beq 3 3) (inI i n'))
 (needB (Bool.and (Nat.ble (Nat.add (atN i 3) 3) (List.length c')) (etasB [Eta.bool, Eta.string, Eta.string] c' (atN i 3)))
 (iteB (notB (Bool.and (eqB (asB (nthD c (atN i 3))) (asB (nthD c' (atN i 3)))) (Bool.and (eqS (asS (nthD c (Nat.add (atN i 3) 1))) (asS (nthD c' (Nat.add (atN i 3) 1)))) (Bool.and (eqS (asS (nthD c (Nat.add (Nat.add (atN i 3) 1) 1))) (asS (nthD c' (Nat.add (Nat.add (atN i 3) 1) 1)))) Bool.true))))
 (some ((Value.tuple (Array.mk [(Value.int IntKind.i64 (-1 : Int)), (Value.iface 18446744073709551619 (Value.agg (Array.mk ((Value.slice none n b) :: c)))), (Value.iface 18446744073709551619 (Value.agg (Array.mk ((Value.slice none n' b') :: c')))), (Value.bool Bool.false), (Value.int IntKind.i64 z), (Value.int IntKind.i64 i)])), (mkSt [])))
 (some ((Value.tuple (Array.mk [(Value.int IntKind.i64 (0 : Int)), (Value.iface 18446744073709551619 (Value.agg (Array.mk ((Value.slice none n b) :: c)))), (Value.iface 18446744073709551619 (Value.agg (Array.mk ((Value.slice none n' b') :: c')))), (Value.bool Bool.false), (Value.int IntKind.i64 z), (Value.int IntKind.i64 (addI IntKind.i64 i (1 : Int)))])), (mkSt []))))))))
 (some ((Value.tuple (Array.mk [(Value.int IntKind.i64 (1 : Int)), (Value.iface 18446744073709551619 (Value.agg (Array.mk ((Value.slice none n b) :: c)))), (Value.iface 18446744073709551619 (Value.agg (Array.mk ((Value.slice none n' b') :: c')))), (Value.bool Bool.false), (Value.int IntKind.i64 z), (Value.int IntKind.i64 i)])), (mkSt [])))) := by kernel_rfl
theorem se_round {l m : List OpM} {i : Nat} (hi : i < l.length) (he : m.length = l.length) (hl : l.length < 4194304) : roundQX P E ctF 50 74 Bse Dse (seV l m i) [] = match opEq l[i] (m[i]'(by omega)) with
    | true => some (.tuple ⟨exV .normal :: seV l m ((i + 1 : Nat) : Int)⟩, mkSt [])
    | false => some (.tuple ⟨exV .ret :: seV l m i⟩, mkSt []) := by
  have hj : i < m.length := by omega
  unfold seV fzOps
  rw [dec_se]
  have n3 : ∀ l : List OpM, (EOp.all l).length = Nat.mul l.length 3 := fun l => EOp.all_length l
  have g1 : ltI (i : Int) (lenI l.length) = true := by unfold ltI lenI; exact decide_eq_true (by omega)
  have g2 : inI (i : Int) l.length = true := by unfold inI; exact decide_eq_true (by omega)
  have g3 : Nat.ble (Nat.add (atN (i : Int) 3) 3) (Nat.mul l.length 3) = true := Nat.ble_eq_true_of_le (by
    show (i : Int).toNat * 3 + 3 ≤ l.length * 3
    have : (i : Int).toNat = i := by omega
    omega)
  have g4 := op_etas hi
  have g5 := op_etas hj
  have a1 : addI .i64 (i : Int) 1 = ((i + 1 : Nat) : Int) := by unfold addI; rw [wrap64 (by omega) (by omega)]; omega
  have ab : ∀ b, asB (.bool b) = b := fun _ => rfl
  have aS : ∀ b, asS (.string b) = b := fun _ => rfl
  have b3 : ∀ n, Nat.beq n n = true := Nat.beq_refl
  simp only [n3, he, g1, g2, g3, g4, g5, op_0 hi, op_1 hi, op_2 hi, op_0 hj, op_1 hj, op_2 hj, ab, aS, a1, b3, Bool.and_self, ite_tt, need_tt]
  unfold mkFz
  rw [fzU3]
  show iteB (notB (opEq l[i] m[i])) _ _ = _
  cases opEq l[i] m[i] <;> rfl
theorem se_end {l m : List OpM} : roundQX P E ctF 50 74 Bse Dse (seV l m l.length) [] = some (.tuple ⟨exV (.exit 0) :: seV l m l.length⟩, mkSt []) := by
  unfold seV fzOps
  rw [dec_se]
  have g1 : ltI (l.length : Int) (lenI l.length) = false := by unfold ltI lenI; exact decide_eq_false (by omega)
  simp only [g1, ite_ff]
  unfold mkFz
  rw [fzU3]
  rfl
theorem se_loop (l m : List OpM) (he : m.length = l.length) (hl : l.length < 4194304) : ∀ (k i : Nat), i + k = l.length →
    LRX P 74 0 Bse Dse.head (seV l m i) [] (match difM i (l.drop i) (m.drop i) with | none => .normal | some _ => .ret) (match difM i (l.drop i) (m.drop i) with | none => seV l m l.length | some j => seV l m j) []
  | 0, i, h => by
    obtain rfl : i = l.length := by omega
    rw [List.drop_length]
    exact LRX.stop (n := 50) (engOk ctF) noNum ctF_ok Bse_occ (e := .exit 0) se_end (by intro h; cases h)
  | k + 1, i, h => by
    have hi : i < l.length := by omega
    have hj : i < m.length := by omega
    have q := se_round hi he hl
    rw [List.drop_eq_getElem_cons hi, List.drop_eq_getElem_cons hj]
    simp only [difM]
    cases ho : opEq l[i] m[i] with
    | true =>
      rw [ho] at q
      exact LRX.again (n := 50) (engOk ctF) noNum ctF_ok Bse_occ q (se_loop l m he hl k (i + 1) (by omega))
    | false =>
      rw [ho] at q
      exact LRX.stop (n := 50) (engOk ctF) noNum ctF_ok Bse_occ (e := .ret) q (by intro h; cases h)
def kse : Con (List OpM × List OpM) where
  enc x := (seV x.1 x.2 0, [])
  ok x := x.2.length = x.1.length ∧ x.1.length < 4194304
  inj a b h := by
    obtain ⟨a1, a2⟩ := a
    obtain ⟨b1, b2⟩ := b
    unfold seV at h
    simp only [Prod.mk.injEq, List.cons.injEq, true_and, and_true] at h
    first | rw [fzOps_inj h.1, fzOps_inj h.2.1] | rw [fzOps_inj h.1, fzOps_inj h.2]
  dflt := ([], [])
noncomputable def seRes (x : List OpM × List OpM) : DT (Ex × List Value × List Blk) := .ite (difM 0 x.1 x.2).isNone (.leaf (.normal, seV x.1 x.2 x.1.length, [])) (.leaf (.ret, seV x.1 x.2 ((difM 0 x.1 x.2).getD 0), []))
theorem se_loopOk : LoopOkX P 74 0 Bse Dse.head (conL kse.C kse.D seRes) :=
  conLX_ok kse (loopAt_occ Bse_eq) fun x ho e vs' bs' hev => by
    have q := se_loop x.1 x.2 ho.1 ho.2 x.1.length 0 (by omega)
    rw [List.drop_zero, List.drop_zero] at q
    unfold seRes at hev
    cases hb : difM 0 x.1 x.2 with
    | none =>
      rw [hb] at hev q
      simp only [Option.isNone_none, DT.eval, Option.some.injEq, Prod.mk.injEq] at hev
      obtain ⟨rfl, rfl, rfl⟩ := hev
      exact q
    | some j =>
      rw [hb] at hev q
      simp only [Option.isNone_some, Option.getD_some, DT.eval, Option.some.injEq, Prod.mk.injEq] at hev
      obtain ⟨rfl, rfl, rfl⟩ := hev
      exact q
noncomputable def ctsev (C : List Value → List Blk → Bool) (ok : Bool) (n b : Nat) (c : List Value) (n' b' : Nat) (c' : List Value) (j : Int) : Ct :=
  addLoopX P 74 0 Dse (oneL C (.ite ok (.leaf (.normal, [mkFz 3 n b c, mkFz 3 n' b' c', .bool false, .int .i64 (lenI n), .int .i64 (lenI n)], [])) (.leaf (.ret, [mkFz 3 n b c, mkFz 3 n' b' c', .bool false, .int .i64 (lenI n), .int .i64 j], [])))) ctF
theorem dec_sec (C : List Value → List Blk → Bool) (ok : Bool) (n b : Nat) (c : List Value) (n' b' : Nat) (c' : List Value) (j : Int) : callQX P E (ctsev C ok n b c n' b' c' j) 50 polD [] [] 0 74 [mkFz 3 n b c, mkFz 3 n' b' c'] [] =
 (iteB (neI (lenI n) (lenI n'))
 (some ((Value.bool Bool.false), (mkSt [])))
 (needB (C [(Value.iface 18446744073709551619 (Value.agg (Array.mk ((Value.slice none n b) :: c)))), (Value.iface 18446744073709551619 (Value.agg (Array.mk ((Value.slice none n' b') :: c')))), (Value.bool Bool.false), (Value.int IntKind.i64 (lenI n)), (Value.int IntKind.i64 (0 : Int))] [])
 (iteB ok
 (some ((Value.bool Bool.true), (mkSt [])))
 (some ((Value.bool Bool.false), (mkSt [])))))) := by kernel_rfl
noncomputable def ctse (l m : List OpM) : Ct := ctsev (kse.at (l, m)) (difM 0 l m).isNone l.length 0 (EOp.all l) m.length 0 (EOp.all m) (((difM 0 l m).getD 0 : Nat) : Int)
theorem se_run (l m : List OpM) (h : neI (lenI l.length) (lenI m.length) = false) : callQX P E (ctse l m) 50 polD [] [] 0 74 [fzOps l, fzOps m] [] = some (.bool (opsEq l m), mkSt []) := by
  refine (dec_sec (kse.at (l, m)) (difM 0 l m).isNone l.length 0 (EOp.all l) m.length 0 (EOp.all m) (((difM 0 l m).getD 0 : Nat) : Int)).trans ?_
  unfold opsEq
  rw [h]
  refine Eq.trans ite_ff ?_
  refine need_at (k := kse) (s := (l, m)) (by show seV l m 0 = _; unfold seV fzOps mkFz; rw [fzU3]) rfl ?_
  cases (difM 0 l m).isNone <;> rfl
theorem sec_ok : CallOkX P 0 74 (conM kOo.C kOo.D fun x => .leaf (.bool (opsEq x.1 x.2), [])) := conX_ok kOo fun x ho v bs' hev => by
  simp only [DT.eval, Option.some.injEq, Prod.mk.injEq] at hev
  obtain ⟨rfl, rfl⟩ := hev
  obtain ⟨l, m⟩ := x
  cases h : neI (lenI l.length) (lenI m.length) with
  | false =>
    have he : m.length = l.length := by
      unfold neI lenI at h
      have := bne_eq_false_iff_eq.1 h
      omega
    exact CRX.of (engOk (ctse l m)) noNum (addLoopX_ok ctF_ok (oneL_ok kse se_loopOk (s := (l, m)) ⟨he, ho.1⟩)) (se_run l m h)
  | true =>
    have hv : opsEq l m = false := by unfold opsEq; rw [h]
    show CRX P 0 74 [fzOps l, fzOps m] [] (.bool (opsEq l m)) []
    rw [hv]
    refine CRX.of (engOk (ctsev (fun _ _ => false) false l.length 0 (EOp.all l) m.length 0 (EOp.all m) 0)) noNum (addLoopX_ok ctF_ok (noL_ok (loopAt_occ Bse_eq))) (n := 50) (pol := polD) (fl := []) (ts := []) ?_
    refine (dec_sec (fun _ _ => false) false l.length 0 (EOp.all l) m.length 0 (EOp.all m) 0).trans ?_
    rw [h]
    exact ite_tt
end Go.VS.Tryz
end

section
namespace Go.VS.Tryz
set_option maxRecDepth 1000000
open Go.VS
noncomputable def ctSbv (C : List Value → List Blk → Bool) (r : Bool) : Ct := addCallX P polD 0 74 (oneM C (.leaf (.bool r, []))) ctF
theorem dec_sb (C : List Value → List Blk → Bool) (r : Bool) (k nd nn t : Int) (key : ByteArray) (n b : Nat) (c : List Value) (k' nd' nn' t' : Int) (key' : ByteArray) (n' b' : Nat) (c' : List Value) : callQX P E (ctSbv C r) 50 polD [] [] 0 45 [.agg ⟨[.int .i64 k, .int .i64 nd, .int .i64 nn, .int .i64 t, .string key, mkFz 3 n b c]⟩, .agg ⟨[.int .i64 k', .int .i64 nd', .int .i64 nn', .int .i64 t', .string key', mkFz 3 n' b' c']⟩] [] =
 (iteB (eqI k k')
 (iteB (eqI nd nd')
 (iteB (eqI nn nn')
 (iteB (eqI t t')
 (iteB (eqS key key')
 (needB (C [(Value.iface 18446744073709551619 (Value.agg (Array.mk ((Value.slice none n b) :: c)))), (Value.iface 18446744073709551619 (Value.agg (Array.mk ((Value.slice none n' b') :: c'))))] [])
 (some ((Value.bool r), (mkSt []))))
 (some ((Value.bool Bool.false), (mkSt []))))
 (some ((Value.bool Bool.false), (mkSt []))))
 (some ((Value.bool Bool.false), (mkSt []))))
 (some ((Value.bool Bool.false), (mkSt []))))
 (some ((Value.bool Bool.false), (mkSt [])))) := by kernel_rfl
def sameM (a b : ActM) : Bool := match eqI a.kind b.kind, eqI a.node b.node, eqI a.n b.n, eqI a.t b.t, eqS a.key b.key with
  | true, true, true, true, true => opsEq a.ops b.ops
  | _, _, _, _, _ => false
def kSa : Con (ActM × ActM) where
  enc x := ([actV x.1, actV x.2], [])
  ok x := x.1.ops.length < 4194304 ∧ x.2.ops.length < 4194304
  inj a b h := by
    obtain ⟨a1, a2⟩ := a
    obtain ⟨b1, b2⟩ := b
    simp only [Prod.mk.injEq, List.cons.injEq, and_true] at h
    rw [actV_inj h.1, actV_inj h.2]
  dflt := (act00, act00)
theorem sb_run (a b : ActM) : callQX P E (ctSbv (kOo.at (a.ops, b.ops)) (opsEq a.ops b.ops)) 50 polD [] [] 0 45 [actV a, actV b] [] = some (.bool (sameM a b), mkSt []) := by
  refine (dec_sb (kOo.at (a.ops, b.ops)) (opsEq a.ops b.ops) a.kind a.node a.n a.t a.key a.ops.length 0 (EOp.all a.ops) b.kind b.node b.n b.t b.key b.ops.length 0 (EOp.all b.ops)).trans ?_
  unfold sameM
  cases eqI a.kind b.kind with
  | false => exact ite_ff
  | true =>
  refine Eq.trans ite_tt ?_
  cases eqI a.node b.node with
  | false => exact ite_ff
  | true =>
  refine Eq.trans ite_tt ?_
  cases eqI a.n b.n with
  | false => exact ite_ff
  | true =>
  refine Eq.trans ite_tt ?_
  cases eqI a.t b.t with
  | false => exact ite_ff
  | true =>
  refine Eq.trans ite_tt ?_
  cases eqS a.key b.key with
  | false => exact ite_ff
  | true =>
  refine Eq.trans ite_tt ?_
  refine need_at (k := kOo) (s := (a.ops, b.ops)) (by show [fzOps _, fzOps _] = _; unfold fzOps mkFz; rw [fzU3]) rfl ?_
  rfl
theorem sb_ok : CallOkX P 0 45 (conM kSa.C kSa.D fun x => .leaf (.bool (sameM x.1 x.2), [])) := conX_ok kSa fun x ho v bs' hev => by
  simp only [DT.eval, Option.some.injEq, Prod.mk.injEq] at hev
  obtain ⟨rfl, rfl⟩ := hev
  obtain ⟨a, b⟩ := x
  exact CRX.of (engOk _) noNum (addCallX_ok ctF_ok (oneM_ok kOo sec_ok (s := (a.ops, b.ops)) ho)) (sb_run a b)
end Go.VS.Tryz
end

section
namespace Go.VS.Tryz
set_option maxRecDepth 1000000
open Go.VS
noncomputable def ctCkv (O : Bool → ByteArray → ByteArray → Bool) (BC TC LC SC : List Value → List Blk → Bool) (r : Int) (s : ByteArray) (k' nd' nn' t' : Int) (key' : ByteArray) (n' b' : Nat) (c' : List Value) (th : Bool) (e : Int) (sm : Bool) : Ct :=
  addCallX P polD 0 43 (oneM BC (.leaf (.int .i64 r, []))) (addCallX P polD 0 24 (oneM TC (.leaf (.string s, []))) (addCallX P polD 0 6 (oneM LC (.leaf (.tuple ⟨[.agg ⟨[.int .i64 k', .int .i64 nd', .int .i64 nn', .int .i64 t', .string key', mkFz 3 n' b' c']⟩, .bool th, .int .i64 e]⟩, []))) (addCallX P polD 0 45 (oneM SC (.leaf (.bool sm, []))) (addCall P 44 (RcheckV O) ctF))))
noncomputable def ckE (TC LC SC : List Value → List Blk → Bool) (s : ByteArray) (a a' : Value) (th : Bool) (e : Int) (sm : Bool) : Res :=
  needB (TC [a] []) (needB (LC [.string s] []) (iteB (neI e 0) (some (.int .i64 2, mkSt [])) (iteB (notB th) (some (.int .i64 2, mkSt [])) (needB (SC [a', a] []) (iteB (notB sm) (some (.int .i64 2, mkSt [])) (some (.int .i64 0, mkSt [])))))))
noncomputable def ckK (O : Bool → ByteArray → ByteArray → Bool) (k : Int) (key : ByteArray) (x : Res) : Res := iteB (eqI k 2) (iteB (O false key ⟨#[]⟩) x (some (.int .i64 2, mkSt []))) x
noncomputable def ckO (BC : List Value → List Blk → Bool) (r k : Int) (ops : Value) (x : Res) : Res := iteB (eqI k 1) (needB (BC [ops] []) (iteB (neI r 0) (some (.int .i64 2, mkSt [])) x)) x
noncomputable def ckN (k : Int) (x y : Res) : Int → Res := fun j => iteB (eqI k j) (needB (beqV (.int .i64 k) (.int .i64 k)) x) y
noncomputable def ckAll (k : Int) (x : Res) : Res := ckN k x (ckN k x (ckN k x (ckN k x (ckN k x (ckN k x (ckN k x (ckN k x (ckN k x (ckN k x (ckN k x (ckN k x (needB (beqV (.int .i64 k) (.int .i64 k)) (some (.int .i64 2, mkSt []))) 12) 11) 10) 9) 8) 7) 6) 5) 4) 3) 2) 1
theorem dec_ck (O : Bool → ByteArray → ByteArray → Bool) (BC TC LC SC : List Value → List Blk → Bool) (r : Int) (s : ByteArray) (k' nd' nn' t' : Int) (key' : ByteArray) (n' b' : Nat) (c' : List Value) (th : Bool) (e : Int) (sm : Bool) (k nd nn t : Int) (key : ByteArray) (n b : Nat) (c : List Value) : callQX P E (ctCkv O BC TC LC SC r s k' nd' nn' t' key' n' b' c' th e sm) 50 polD [] [] 0 22 [.agg ⟨[.int .i64 k, .int .i64 nd, .int .i64 nn, .int .i64 t, .string key, mkFz 3 n b c]⟩] [] =
    ckAll k (ckO BC r k (mkFz 3 n b c) (ckK O k key (ckE TC LC SC s (.agg ⟨[.int .i64 k, .int .i64 nd, .int .i64 nn, .int .i64 t, .string key, mkFz 3 n b c]⟩) (.agg ⟨[.int .i64 k', .int .i64 nd', .int .i64 nn', .int .i64 t', .string key', mkFz 3 n' b' c']⟩) th e sm))) := by kernel_rfl
def early (a : ActM) : Bool := bif eqI a.kind 1 then neI (checkM a.ops) 0 else bif eqI a.kind 2 then notB (opOk false a.key ⟨#[]⟩) else false
def knownK (k : Int) : Bool := eqI k 1 || (eqI k 2 || (eqI k 3 || (eqI k 4 || (eqI k 5 || (eqI k 6 || (eqI k 7 || (eqI k 8 || (eqI k 9 || (eqI k 10 || (eqI k 11 || eqI k 12))))))))))
def backM (a : ActM) : Bool := notB (neI (lineM (textA a)).2.2 0) && (lineM (textA a)).2.1 && sameM (lineM (textA a)).1 a
def checkA (a : ActM) : Int := match knownK a.kind, early a, backM a with
  | true, false, true => 0
  | _, _, _ => 2
theorem ckN_eq {k : Int} {x y : Res} {j : Int} : ckN k x y j = bif eqI k j then x else y := by
  unfold ckN
  rw [beqI]
  cases eqI k j <;> rfl
theorem ckAll_eq (k : Int) (x : Res) : ckAll k x = bif knownK k then x else some (.int .i64 2, mkSt []) := by
  unfold ckAll knownK
  simp only [ckN_eq, beqI, need_tt]
  cases eqI k 1 <;> cases eqI k 2 <;> cases eqI k 3 <;> cases eqI k 4 <;> cases eqI k 5 <;> cases eqI k 6 <;> first | rfl | (cases eqI k 7 <;> cases eqI k 8 <;> cases eqI k 9 <;> cases eqI k 10 <;> cases eqI k 11 <;> cases eqI k 12 <;> rfl)
theorem textA_size {a : ActM} (h : txOk a) (hl : eqI a.kind 1 = true → a.ops.length ≤ 8) : (textA a).size ≤ 4000000 := by
  obtain ⟨r1, r2, r3, hk, _⟩ := h
  have z1 := itoS_size r1
  have z2 := itoS_size r2
  have z3 := itoS_size r3
  have z4 := wdS_size a.key
  unfold textA nS
  cases h1 : eqI a.kind 1 with
  | true =>
    have := hl h1
    have q := opsS_size a.ops (catS ⟨#[99, 111, 109, 109, 105, 116]⟩ (catS ⟨#[32]⟩ (itoS a.node)))
    simp only [catS_size, lz1, lz0] at q
    simp only [cond_true]
    omega
  | false =>
  simp only [cond_false]
  cases h2 : eqI a.kind 2 with
  | true =>
    have := hk h2
    simp only [cond_true, catS_size, lz2, lz0]
    omega
  | false =>
  simp only [cond_false]
  have e0 : (ByteArray.mk #[]).size = 0 := rfl
  have cs : ∀ (b : Bool) (x y : ByteArray), x.size ≤ 4000000 → y.size ≤ 4000000 → (bif b then x else y).size ≤ 4000000 := fun b x y h k => by cases b <;> assumption
  repeat' refine cs _ _ _ ?_ ?_
  all_goals (simp only [catS_size, lz3, lz4, lz5, lz6, lz7, lz8, lz9, lz10, lz11, lz12, lz0, e0]; omega)
end Go.VS.Tryz
end

section
namespace Go.VS.Tryz
set_option maxRecDepth 1000000
open Go.VS
theorem checkM_len {l : List OpM} (h : eqI (checkM l) 0 = true) : l.length ≤ 8 := by
  unfold checkM at h
  split at h <;> first | (cases h; done) | skip
  · rename_i h1 h2 h3
    unfold gtI lenI at h2
    have := of_decide_eq_false h2
    omega
theorem opsB_len {ws : List ByteArray} (h : opsB ws = true) : (opsV ws).length ≤ 8 := by
  unfold opsB at h
  unfold opsV
  cases ho : (opE ws []).1 with
  | true => rw [ho] at h; exact checkM_len h
  | false => rw [ho] at h; cases h
theorem form_ops {k : Nat} {w0 : ByteArray} {r : List ByteArray} {p : ActM × Value} (h : formF k w0 r = some p) : p.1.ops.length ≤ 8 := by
  unfold formF at h
  split at h
  · unfold formNO at h
    split at h
    · split at h
      · rename_i hb
        cases h
        exact opsB_len hb
      · cases h
    · cases h
  · unfold formNK at h; split at h <;> (try split at h) <;> cases h; exact Nat.zero_le _
  · unfold formN at h; split at h <;> (try split at h) <;> cases h; exact Nat.zero_le _
  · unfold formN at h; split at h <;> (try split at h) <;> cases h; exact Nat.zero_le _
  · unfold formN at h; split at h <;> (try split at h) <;> cases h; exact Nat.zero_le _
  · unfold formA at h; split at h <;> (try split at h) <;> cases h; exact Nat.zero_le _
  · unfold formA at h; split at h <;> (try split at h) <;> cases h; exact Nat.zero_le _
  · unfold formA at h; split at h <;> (try split at h) <;> cases h; exact Nat.zero_le _
  · unfold formNA at h; split at h <;> (try split at h) <;> cases h; exact Nat.zero_le _
  · unfold formN at h; split at h <;> (try split at h) <;> cases h; exact Nat.zero_le _
  · unfold formNAT at h; split at h <;> (try split at h) <;> cases h; exact Nat.zero_le _
  · unfold form0 at h; split at h <;> (try split at h) <;> cases h; exact Nat.zero_le _
  · cases h
theorem line_ops (s : ByteArray) : (lineM s).1.ops.length ≤ 8 := by
  unfold lineM
  split <;> first | exact Nat.zero_le _ | skip
  split <;> first | exact Nat.zero_le _ | skip
  rename_i p hp
  unfold lineF at hp
  obtain ⟨j, hj, hf⟩ := List.exists_of_findSome?_eq_some hp
  exact form_ops hf
def txOk2 (a : ActM) : Prop := txOk a ∧ (eqI a.kind 1 = true → a.ops.length ≤ 8)
noncomputable def ctCk (a b : ActM) : Ct := ctCkv opOk (kBk.at a.ops) (kAx.at b) (kLn.at (textA b)) (kSa.at ((lineM (textA b)).1, b)) (checkM a.ops) (textA b) (lineM (textA b)).1.kind (lineM (textA b)).1.node (lineM (textA b)).1.n (lineM (textA b)).1.t (lineM (textA b)).1.key (lineM (textA b)).1.ops.length 0 (EOp.all (lineM (textA b)).1.ops) (lineM (textA b)).2.1 (lineM (textA b)).2.2 (sameM (lineM (textA b)).1 b)
theorem ctCk_ok {a b : ActM} (ha : a.ops.length < 4194304) (hb : txOk2 b) : CtOk P (ctCk a b) :=
  addCallX_ok (addCallX_ok (addCallX_ok (addCallX_ok (addCall_ok ctF_ok Check_ok) (oneM_ok kSa sb_ok (s := ((lineM (textA b)).1, b)) ⟨Nat.lt_of_le_of_lt (line_ops (textA b)) (by decide), hb.1.2.2.2.2⟩)) (oneM_ok kLn line_ok (s := textA b) (Nat.le_trans (textA_size hb.1 hb.2) (by decide)))) (oneM_ok kAx text_ok (s := b) hb.1)) (oneM_ok kBk bck_ok (s := a.ops) ha)
theorem act00_ok : txOk2 act00 := ⟨⟨rfl, rfl, rfl, fun _ => Nat.zero_le _, by show (0 : Nat) < _; decide⟩, fun _ => Nat.zero_le _⟩
theorem check_tree2 (a b : ActM) : callQX P E (ctCk a b) 50 polD [] [] 0 22 [actV a] [] =
    bif knownK a.kind then ckO (kBk.at a.ops) (checkM a.ops) a.kind (fzOps a.ops) (ckK opOk a.kind a.key (ckE (kAx.at b) (kLn.at (textA b)) (kSa.at ((lineM (textA b)).1, b)) (textA b) (actV a) (actV (lineM (textA b)).1) (lineM (textA b)).2.1 (lineM (textA b)).2.2 (sameM (lineM (textA b)).1 b))) else some (.int .i64 2, mkSt []) := by
  refine Eq.trans ?_ ((dec_ck opOk (kBk.at a.ops) (kAx.at b) (kLn.at (textA b)) (kSa.at ((lineM (textA b)).1, b)) (checkM a.ops) (textA b) (lineM (textA b)).1.kind (lineM (textA b)).1.node (lineM (textA b)).1.n (lineM (textA b)).1.t (lineM (textA b)).1.key (lineM (textA b)).1.ops.length 0 (EOp.all (lineM (textA b)).1.ops) (lineM (textA b)).2.1 (lineM (textA b)).2.2 (sameM (lineM (textA b)).1 b) a.kind a.node a.n a.t a.key a.ops.length 0 (EOp.all a.ops)).trans ?_)
  · rfl
  · rw [ckAll_eq]; rfl
def kCk : Con ActM where
  enc a := ([actV a], [])
  ok a := inR a.node = true ∧ inR a.n = true ∧ inR a.t = true ∧ a.ops.length < 4194304
  inj a b h := by
    simp only [Prod.mk.injEq, List.cons.injEq, and_true] at h
    exact actV_inj h
  dflt := act00
theorem ckO_early {a : ActM} {x : Res} (h : early a = true) : ckO (kBk.at a.ops) (checkM a.ops) a.kind (fzOps a.ops) (ckK opOk a.kind a.key x) = some (.int .i64 2, mkSt []) := by
  unfold ckO ckK
  unfold early at h
  cases h1 : eqI a.kind 1 with
  | true =>
    rw [h1] at h
    refine Eq.trans ite_tt ?_
    refine need_at (k := kBk) (s := a.ops) rfl rfl ?_
    have h : neI (checkM a.ops) 0 = true := h
    rw [h]; exact ite_tt
  | false =>
    rw [h1] at h
    refine Eq.trans ite_ff ?_
    cases h2 : eqI a.kind 2 with
    | true =>
      rw [h2] at h
      refine Eq.trans ite_tt ?_
      have h : notB (opOk false a.key ⟨#[]⟩) = true := h
      cases h3 : opOk false a.key ⟨#[]⟩ with
      | true => rw [h3] at h; cases h
      | false => exact ite_ff
    | false => rw [h2] at h; cases h
theorem ckO_past {a : ActM} {x : Res} (h : early a = false) : ckO (kBk.at a.ops) (checkM a.ops) a.kind (fzOps a.ops) (ckK opOk a.kind a.key x) = x := by
  unfold ckO ckK
  unfold early at h
  cases h1 : eqI a.kind 1 with
  | true =>
    rw [h1] at h
    refine Eq.trans ite_tt ?_
    refine need_at (k := kBk) (s := a.ops) rfl rfl ?_
    have h : neI (checkM a.ops) 0 = false := h
    rw [h]
    refine Eq.trans ite_ff ?_
    have h2 : eqI a.kind 2 = false := by
      unfold eqI at h1 ⊢
      have := eq_of_beq h1
      rw [this]; rfl
    rw [h2]; exact ite_ff
  | false =>
    rw [h1] at h
    refine Eq.trans ite_ff ?_
    cases h2 : eqI a.kind 2 with
    | true =>
      rw [h2] at h
      refine Eq.trans ite_tt ?_
      have h : notB (opOk false a.key ⟨#[]⟩) = false := h
      cases h3 : opOk false a.key ⟨#[]⟩ with
      | true => exact ite_tt
      | false => rw [h3] at h; cases h
    | false => exact ite_ff
theorem past_ok {a : ActM} (h : kCk.ok a) (he : early a = false) : txOk2 a := by
  obtain ⟨r1, r2, r3, hl⟩ := h
  unfold early at he
  refine ⟨⟨r1, r2, r3, fun h2 => ?_, hl⟩, fun h1 => ?_⟩
  · cases h1 : eqI a.kind 1 with
    | true =>
      unfold eqI at h1 h2
      have := eq_of_beq h1
      have := eq_of_beq h2
      omega
    | false =>
      rw [h1, h2] at he
      have he : notB (opOk false a.key ⟨#[]⟩) = false := he
      cases h3 : opOk false a.key ⟨#[]⟩ with
      | true => have := (opOk_of h3).2.1; omega
      | false => rw [h3] at he; cases he
  · rw [h1] at he
    have he : neI (checkM a.ops) 0 = false := he
    refine checkM_len ?_
    unfold neI at he
    unfold eqI
    exact beq_iff_eq.2 (bne_eq_false_iff_eq.1 he)
theorem ckE_run (a : ActM) : ckE (kAx.at a) (kLn.at (textA a)) (kSa.at ((lineM (textA a)).1, a)) (textA a) (actV a) (actV (lineM (textA a)).1) (lineM (textA a)).2.1 (lineM (textA a)).2.2 (sameM (lineM (textA a)).1 a) = some (.int .i64 (match backM a with | true => 0 | false => 2), mkSt []) := by
  unfold ckE backM
  refine need_at (k := kAx) (s := a) rfl rfl ?_
  refine need_at (k := kLn) (s := textA a) rfl rfl ?_
  cases neI (lineM (textA a)).2.2 0 with
  | true => exact ite_tt
  | false =>
  refine Eq.trans ite_ff ?_
  cases (lineM (textA a)).2.1 with
  | false => exact ite_tt
  | true =>
  refine Eq.trans ite_ff ?_
  refine need_at (k := kSa) (s := ((lineM (textA a)).1, a)) rfl rfl ?_
  cases sameM (lineM (textA a)).1 a <;> rfl
theorem check_crx {a : ActM} (h : kCk.ok a) : CRX P 0 22 [actV a] [] (.int .i64 (checkA a)) [] := by
  unfold checkA
  cases hk : knownK a.kind with
  | false =>
    refine CRX.of (engOk (ctCk a act00)) noNum (ctCk_ok h.2.2.2 act00_ok) (n := 50) (pol := polD) (fl := []) (ts := []) ?_
    rw [check_tree2, hk]; rfl
  | true =>
    cases he : early a with
    | true =>
      refine CRX.of (engOk (ctCk a act00)) noNum (ctCk_ok h.2.2.2 act00_ok) (n := 50) (pol := polD) (fl := []) (ts := []) ?_
      rw [check_tree2, hk]
      exact ckO_early he
    | false =>
      refine CRX.of (engOk (ctCk a a)) noNum (ctCk_ok h.2.2.2 (past_ok h he)) (n := 50) (pol := polD) (fl := []) (ts := []) ?_
      rw [check_tree2, hk]
      refine (ckO_past he).trans ((ckE_run a).trans ?_)
      cases backM a <;> rfl
theorem check_ok : CallOkX P 0 22 (conM kCk.C kCk.D fun a => .leaf (.int .i64 (checkA a), [])) := conX_ok kCk fun a ho v bs' hev => by
  simp only [DT.eval, Option.some.injEq, Prod.mk.injEq] at hev
  obtain ⟨rfl, rfl⟩ := hev
  exact check_crx ho
end Go.VS.Tryz
end

section
namespace Go.VS.Tryz
set_option maxRecDepth 1000000
open Go.VS
noncomputable def ctPcv (CC : List Value → List Blk → Bool) (r : Int) : Ct := addCallX P polD 0 21 RrefM (addCallX P polD 0 22 (oneM CC (.leaf (.int .i64 r, []))) ctF)
def Dpc : HeadX := ⟨0, 44, [0, 2, 3, 14, 15, 16], [.val, .val, .val, .val, .val, .val], [], polD⟩
noncomputable def Bpc : Code := (loopAt P 8 0).getD .skip
theorem Bpc_eq : loopAt P 8 0 = some Bpc := by kernel_rfl
theorem Bpc_occ : Occ P 8 (.block 0 (.loop Bpc)) := loopAt_has Bpc_eq
theorem dec_pc (CC : List Value → List Blk → Bool) (r : Int) (n b : Nat) (c : List Value) (z i : Int) : roundQX P E (ctPcv CC r) 50 8 Bpc Dpc [mkFz 6 n b c, .string ⟨#[]⟩, .nilIface, mkFz 6 n b c, .int .i64 z, .int .i64 i] [] =
 (iteB (ltI i z)
 (needB (Bool.and (Nat.beq 6 6) (inI i n))
 (needB (Bool.and (Nat.ble (Nat.add (atN i 6) 6) (List.length c)) (etasB [(Eta.int IntKind.i64), (Eta.int IntKind.i64), (Eta.int IntKind.i64), (Eta.int IntKind.i64), Eta.string, (Eta.slice 3)] c (atN i 6)))
 (needB (CC [(Value.agg (Array.mk [(Value.int IntKind.i64 (asI (nthD c (atN i 6)))), (Value.int IntKind.i64 (asI (nthD c (Nat.add (atN i 6) 1)))), (Value.int IntKind.i64 (asI (nthD c (Nat.add (Nat.add (atN i 6) 1) 1)))), (Value.int IntKind.i64 (asI (nthD c (Nat.add (Nat.add (Nat.add (atN i 6) 1) 1) 1)))), (Value.string (asS (nthD c (Nat.add (Nat.add (Nat.add (Nat.add (atN i 6) 1) 1) 1) 1)))), (Value.iface 18446744073709551619 (Value.agg (Array.mk ((Value.slice none (zN (nthD c (Nat.add (Nat.add (Nat.add (Nat.add (Nat.add (atN i 6) 1) 1) 1) 1) 1))) (zB (nthD c (Nat.add (Nat.add (Nat.add (Nat.add (Nat.add (atN i 6) 1) 1) 1) 1) 1)))) :: (zC (nthD c (Nat.add (Nat.add (Nat.add (Nat.add (Nat.add (atN i 6) 1) 1) 1) 1) 1)))))))]))] [])
 (iteB (neI r (0 : Int))
 (some ((Value.tuple (Array.mk [(Value.int IntKind.i64 (-1 : Int)), (Value.iface 18446744073709551622 (Value.agg (Array.mk ((Value.slice none n b) :: c)))), (Value.string (ByteArray.mk #[])), (Value.iface 75 (Value.iface 18446744073709551616 (Value.agg (Array.mk [(Value.slice none 0 0), (Value.int IntKind.i64 i), (Value.int IntKind.i64 r)])))), (Value.iface 18446744073709551622 (Value.agg (Array.mk ((Value.slice none n b) :: c)))), (Value.int IntKind.i64 z), (Value.int IntKind.i64 i)])), (mkSt [])))
 (some ((Value.tuple (Array.mk [(Value.int IntKind.i64 (0 : Int)), (Value.iface 18446744073709551622 (Value.agg (Array.mk ((Value.slice none n b) :: c)))), (Value.string (ByteArray.mk #[])), Value.nilIface, (Value.iface 18446744073709551622 (Value.agg (Array.mk ((Value.slice none n b) :: c)))), (Value.int IntKind.i64 z), (Value.int IntKind.i64 (addI IntKind.i64 i (1 : Int)))])), (mkSt [])))))))
 (some ((Value.tuple (Array.mk [(Value.int IntKind.i64 (1 : Int)), (Value.iface 18446744073709551622 (Value.agg (Array.mk ((Value.slice none n b) :: c)))), (Value.string (ByteArray.mk #[])), Value.nilIface, (Value.iface 18446744073709551622 (Value.agg (Array.mk ((Value.slice none n b) :: c)))), (Value.int IntKind.i64 z), (Value.int IntKind.i64 i)])), (mkSt [])))) := by kernel_rfl
theorem zN_fz {n b : Nat} {c : List Value} : zN (mkFz 3 n b c) = n := by kernel_rfl
theorem zB_fz {n b : Nat} {c : List Value} : zB (mkFz 3 n b c) = b := by kernel_rfl
theorem zC_fz {n b : Nat} {c : List Value} : zC (mkFz 3 n b c) = c := by kernel_rfl
theorem isZ_fz {n b : Nat} {c : List Value} : isZ 3 (mkFz 3 n b c) = true := by kernel_rfl
theorem ac_0 {l : List ActM} {i : Nat} (h : i < l.length) : nthD (EAct.all l) (atN (i : Int) 6) = .int .i64 l[i].kind := by
  have e : atN (i : Int) 6 = i * EAct.sz + 0 := by simp [atN]; rfl
  rw [e, EAct.nth h (by decide)]; rfl
theorem ac_1 {l : List ActM} {i : Nat} (h : i < l.length) : nthD (EAct.all l) (Nat.add (atN (i : Int) 6) 1) = .int .i64 l[i].node := by
  have e : Nat.add (atN (i : Int) 6) 1 = i * EAct.sz + 1 := by simp [atN]; rfl
  rw [e, EAct.nth h (by decide)]; rfl
theorem ac_2 {l : List ActM} {i : Nat} (h : i < l.length) : nthD (EAct.all l) (Nat.add (Nat.add (atN (i : Int) 6) 1) 1) = .int .i64 l[i].n := by
  have e : Nat.add (Nat.add (atN (i : Int) 6) 1) 1 = i * EAct.sz + 2 := by simp [atN]; rfl
  rw [e, EAct.nth h (by decide)]; rfl
theorem ac_3 {l : List ActM} {i : Nat} (h : i < l.length) : nthD (EAct.all l) (Nat.add (Nat.add (Nat.add (atN (i : Int) 6) 1) 1) 1) = .int .i64 l[i].t := by
  have e : Nat.add (Nat.add (Nat.add (atN (i : Int) 6) 1) 1) 1 = i * EAct.sz + 3 := by simp [atN]; rfl
  rw [e, EAct.nth h (by decide)]; rfl
theorem ac_4 {l : List ActM} {i : Nat} (h : i < l.length) : nthD (EAct.all l) (Nat.add (Nat.add (Nat.add (Nat.add (atN (i : Int) 6) 1) 1) 1) 1) = .string l[i].key := by
  have e : Nat.add (Nat.add (Nat.add (Nat.add (atN (i : Int) 6) 1) 1) 1) 1 = i * EAct.sz + 4 := by simp [atN]; rfl
  rw [e, EAct.nth h (by decide)]; rfl
theorem ac_5 {l : List ActM} {i : Nat} (h : i < l.length) : nthD (EAct.all l) (Nat.add (Nat.add (Nat.add (Nat.add (Nat.add (atN (i : Int) 6) 1) 1) 1) 1) 1) = fzOps l[i].ops := by
  have e : Nat.add (Nat.add (Nat.add (Nat.add (Nat.add (atN (i : Int) 6) 1) 1) 1) 1) 1 = i * EAct.sz + 5 := by simp [atN]; rfl
  rw [e, EAct.nth h (by decide)]; rfl
theorem ac_etas {l : List ActM} {i : Nat} (h : i < l.length) : etasB [.int .i64, .int .i64, .int .i64, .int .i64, .string, .slice 3] (EAct.all l) (atN (i : Int) 6) = true := by
  show and (etaB (.int .i64) (nthD (EAct.all l) (atN (i : Int) 6))) (and (etaB (.int .i64) (nthD (EAct.all l) (Nat.add (atN (i : Int) 6) 1))) (and (etaB (.int .i64) (nthD (EAct.all l) (Nat.add (Nat.add (atN (i : Int) 6) 1) 1))) (and (etaB (.int .i64) (nthD (EAct.all l) (Nat.add (Nat.add (Nat.add (atN (i : Int) 6) 1) 1) 1))) (and (etaB .string (nthD (EAct.all l) (Nat.add (Nat.add (Nat.add (Nat.add (atN (i : Int) 6) 1) 1) 1) 1))) (and (etaB (.slice 3) (nthD (EAct.all l) (Nat.add (Nat.add (Nat.add (Nat.add (Nat.add (atN (i : Int) 6) 1) 1) 1) 1) 1))) true))))) = true
  rw [ac_0 h, ac_1 h, ac_2 h, ac_3 h, ac_4 h, ac_5 h]
  show and (isZ 3 (fzOps l[i].ops)) true = true
  unfold fzOps
  rw [isZ_fz]; rfl
def pcV (x : Value) (l : List ActM) (i : Int) : List Value := [fzActs l, .string ⟨#[]⟩, x, fzActs l, .int .i64 (lenI l.length), .int .i64 i]
noncomputable def ctPc (a : ActM) : Ct := ctPcv (kCk.at a) (checkA a)
theorem ctPc_ok {a : ActM} (h : kCk.ok a) : CtOk P (ctPc a) := addCallX_ok (addCallX_ok ctF_ok (oneM_ok kCk check_ok (s := a) h)) ref_ok
theorem actOut (a : ActM) : Value.agg ⟨[.int .i64 a.kind, .int .i64 a.node, .int .i64 a.n, .int .i64 a.t, .string a.key, .iface 18446744073709551619 (.agg ⟨.slice none a.ops.length 0 :: EOp.all a.ops⟩)]⟩ = actV a := by
  unfold actV actC fzOps mkFz
  rw [fzU3]
theorem pc_round {l : List ActM} {i : Nat} (hi : i < l.length) (hl : l.length < 4194304) : roundQX P E (ctPc l[i]) 50 8 Bpc Dpc (pcV .nilIface l i) [] = match neI (checkA l[i]) 0 with
    | false => some (.tuple ⟨exV .normal :: pcV .nilIface l ((i + 1 : Nat) : Int)⟩, mkSt [])
    | true => some (.tuple ⟨exV .ret :: pcV (errV i (checkA l[i])) l i⟩, mkSt []) := by
  unfold pcV ctPc
  have q := dec_pc (kCk.at l[i]) (checkA l[i]) l.length 0 (EAct.all l) (lenI l.length) i
  refine Eq.trans ?_ (q.trans ?_)
  · rfl
  clear q
  have n6 : (EAct.all l).length = Nat.mul l.length 6 := EAct.all_length l
  have g1 : ltI (i : Int) (lenI l.length) = true := by unfold ltI lenI; exact decide_eq_true (by omega)
  have g2 : inI (i : Int) l.length = true := by unfold inI; exact decide_eq_true (by omega)
  have g3 : Nat.ble (Nat.add (atN (i : Int) 6) 6) (Nat.mul l.length 6) = true := Nat.ble_eq_true_of_le (by
    show (i : Int).toNat * 6 + 6 ≤ l.length * 6
    have : (i : Int).toNat = i := by omega
    omega)
  have g4 := ac_etas hi
  have a1 : addI .i64 (i : Int) 1 = ((i + 1 : Nat) : Int) := by unfold addI; rw [wrap64 (by omega) (by omega)]; omega
  have aI : ∀ k n, asI (.int k n) = n := fun _ _ => rfl
  have aS : ∀ b, asS (.string b) = b := fun _ => rfl
  have b6 : Nat.beq 6 6 = true := rfl
  have zn : zN (fzOps l[i].ops) = l[i].ops.length := zN_fz
  have zb : zB (fzOps l[i].ops) = 0 := zB_fz
  have zc : zC (fzOps l[i].ops) = EOp.all l[i].ops := zC_fz
  have hfz : (Value.iface 18446744073709551622 (.agg ⟨.slice none l.length 0 :: EAct.all l⟩)) = fzActs l := by unfold fzActs mkFz FZ; rfl
  have hfp : ∀ i e : Int, (Value.iface 75 (.iface 18446744073709551616 (.agg ⟨[.slice none 0 0, .int .i64 i, .int .i64 e]⟩))) = errV i e := fun i e => by unfold errV mkFp FZ; rfl
  simp only [n6, g1, g2, g3, g4, ac_0 hi, ac_1 hi, ac_2 hi, ac_3 hi, ac_4 hi, ac_5 hi, aI, aS, zn, zb, zc, a1, b6, Bool.and_self, ite_tt, need_tt, actOut, hfz, hfp]
  refine need_at (k := kCk) (s := l[i]) rfl rfl ?_
  cases neI (checkA l[i]) 0 <;> rfl
def firstBad : Nat → List ActM → Option (Nat × Int)
  | _, [] => none
  | i, a :: l => match neI (checkA a) 0 with
    | true => some (i, checkA a)
    | false => firstBad (i + 1) l
theorem pc_end {l : List ActM} : roundQX P E (ctPc act00) 50 8 Bpc Dpc (pcV .nilIface l l.length) [] = some (.tuple ⟨exV (.exit 0) :: pcV .nilIface l l.length⟩, mkSt []) := by
  unfold pcV ctPc
  have q := dec_pc (kCk.at act00) (checkA act00) l.length 0 (EAct.all l) (lenI l.length) (l.length : Int)
  refine Eq.trans ?_ (q.trans ?_)
  · rfl
  clear q
  have g1 : ltI (l.length : Int) (lenI l.length) = false := by unfold ltI lenI; exact decide_eq_false (by omega)
  have hfz : (Value.iface 18446744073709551622 (.agg ⟨.slice none l.length 0 :: EAct.all l⟩)) = fzActs l := by unfold fzActs mkFz FZ; rfl
  rw [g1]
  refine Eq.trans ite_ff ?_
  simp only [hfz]
  rfl
theorem ck00 : kCk.ok act00 := ⟨rfl, rfl, rfl, by show (0 : Nat) < _; decide⟩
theorem pc_loop (l : List ActM) (hl : l.length < 4194304) (ha : ∀ a ∈ l, kCk.ok a) : ∀ (k i : Nat), i + k = l.length →
    LRX P 8 0 Bpc Dpc.head (pcV .nilIface l i) [] (match firstBad i (l.drop i) with | none => .normal | some _ => .ret) (match firstBad i (l.drop i) with | none => pcV .nilIface l l.length | some x => pcV (errV x.1 x.2) l x.1) []
  | 0, i, h => by
    obtain rfl : i = l.length := by omega
    rw [List.drop_length]
    exact LRX.stop (n := 50) (engOk (ctPc act00)) noNum (ctPc_ok ck00) Bpc_occ (e := .exit 0) pc_end (by intro h; cases h)
  | k + 1, i, h => by
    have hi : i < l.length := by omega
    have q := pc_round hi hl
    have hk := ctPc_ok (ha l[i] (List.getElem_mem hi))
    rw [List.drop_eq_getElem_cons hi]
    simp only [firstBad]
    cases ho : neI (checkA l[i]) 0 with
    | false =>
      rw [ho] at q
      exact LRX.again (n := 50) (engOk (ctPc l[i])) noNum hk Bpc_occ q (pc_loop l hl ha k (i + 1) (by omega))
    | true =>
      rw [ho] at q
      exact LRX.stop (n := 50) (engOk (ctPc l[i])) noNum hk Bpc_occ (e := .ret) q (by intro h; cases h)
theorem fzActs_inj {a b : List ActM} (h : fzActs a = fzActs b) : a = b := EAct.all_inj _ _ (fz_inj h)
def kPc : Con (List ActM) where
  enc l := (pcV .nilIface l 0, [])
  ok l := l.length < 4194304 ∧ ∀ a ∈ l, kCk.ok a
  inj a b h := by
    unfold pcV at h
    simp only [Prod.mk.injEq, List.cons.injEq, true_and, and_true] at h
    exact fzActs_inj h.1
  dflt := []
noncomputable def pcRes (l : List ActM) : DT (Ex × List Value × List Blk) := .ite (firstBad 0 l).isNone (.leaf (.normal, pcV .nilIface l l.length, [])) (.leaf (.ret, pcV (errV ((firstBad 0 l).getD (0, 0)).1 ((firstBad 0 l).getD (0, 0)).2) l ((firstBad 0 l).getD (0, 0)).1, []))
theorem pc_loopOk : LoopOkX P 8 0 Bpc Dpc.head (conL kPc.C kPc.D pcRes) :=
  conLX_ok kPc (loopAt_occ Bpc_eq) fun l ho e vs' bs' hev => by
    have q := pc_loop l ho.1 ho.2 l.length 0 (by omega)
    rw [List.drop_zero] at q
    unfold pcRes at hev
    cases hb : firstBad 0 l with
    | none =>
      rw [hb] at hev q
      simp only [Option.isNone_none, DT.eval, Option.some.injEq, Prod.mk.injEq] at hev
      obtain ⟨rfl, rfl, rfl⟩ := hev
      exact q
    | some j =>
      rw [hb] at hev q
      simp only [Option.isNone_some, Option.getD_some, DT.eval, Option.some.injEq, Prod.mk.injEq] at hev
      obtain ⟨rfl, rfl, rfl⟩ := hev
      exact q
end Go.VS.Tryz
end

section
namespace Go.VS.Tryz
set_option maxRecDepth 1000000
open Go.VS
def polB : Pol := fun t => match Nat.beq t 61 with
  | true => some [.val, .own]
  | false => none
noncomputable def ctPbv (CC TC : List Value → List Blk → Bool) (s : ByteArray) (bs : List Blk) : Ct := addCallX P polB 1 46 (oneM CC (.leaf (.tuple ⟨[]⟩, bs))) (addCallX P polD 0 24 (oneM TC (.leaf (.string s, []))) ctF)
def Dpb : HeadX := ⟨1, 44, [7, 29, 30, 31], [.val, .val, .val, .val], [], polB⟩
noncomputable def Bpb : Code := (loopAt P 8 2).getD .skip
theorem Bpb_eq : loopAt P 8 2 = some Bpb := by kernel_rfl
theorem Bpb_occ : Occ P 8 (.block 2 (.loop Bpb)) := loopAt_has Bpb_eq
theorem dec_pbA (CC TC : List Value → List Blk → Bool) (s : ByteArray) (n b : Nat) (c : List Value) (z i : Int) : roundQX P E (ctPbv CC TC s [.cells [self0, .slice (some ⟨1, 0, none⟩) 0 unk] 61 true, .cells [] 5 false]) 50 8 Bpb Dpb [self0, mkFz 6 n b c, .int .i64 z, .int .i64 i] [.cells [.pointer none, .slice (some ⟨1, 0, none⟩) 0 unk] 61 true, .cells [] 5 false] =
 (iteB (ltI i z)
 (needB (Bool.and (Nat.beq 6 6) (inI i n))
 (needB (Bool.and (Nat.ble (Nat.add (atN i 6) 6) (List.length c)) (etasB [(Eta.int IntKind.i64), (Eta.int IntKind.i64), (Eta.int IntKind.i64), (Eta.int IntKind.i64), Eta.string, (Eta.slice 3)] c (atN i 6)))
 (needB (TC [(Value.agg (Array.mk [(Value.int IntKind.i64 (asI (nthD c (atN i 6)))), (Value.int IntKind.i64 (asI (nthD c (Nat.add (atN i 6) 1)))), (Value.int IntKind.i64 (asI (nthD c (Nat.add (Nat.add (atN i 6) 1) 1)))), (Value.int IntKind.i64 (asI (nthD c (Nat.add (Nat.add (Nat.add (atN i 6) 1) 1) 1)))), (Value.string (asS (nthD c (Nat.add (Nat.add (Nat.add (Nat.add (atN i 6) 1) 1) 1) 1)))), (Value.iface 18446744073709551619 (Value.agg (Array.mk ((Value.slice none (zN (nthD c (Nat.add (Nat.add (Nat.add (Nat.add (Nat.add (atN i 6) 1) 1) 1) 1) 1))) (zB (nthD c (Nat.add (Nat.add (Nat.add (Nat.add (Nat.add (atN i 6) 1) 1) 1) 1) 1)))) :: (zC (nthD c (Nat.add (Nat.add (Nat.add (Nat.add (Nat.add (atN i 6) 1) 1) 1) 1) 1)))))))]))] [])
 (needB (fitS s (ByteArray.mk #[10]))
 (needB (CC [(Value.pointer (Option.some (Addr.mk 0 0 none)))] [(Blk.cells [(Value.pointer none), (Value.slice (Option.some (Addr.mk 1 0 none)) 0 18446744073709551616)] 61 Bool.true), (Blk.cells [] 5 Bool.false)])
 (needB (List.all (Go.byteCells (catS s (ByteArray.mk #[10]))) oneCell)
 (needB (Nat.ble (Nat.add 0 (ByteArray.size (catS s (ByteArray.mk #[10])))) 4194304)
 (needB (Nat.ble (Nat.add 0 (Nat.mul (Nat.add 0 (ByteArray.size (catS s (ByteArray.mk #[10])))) 1)) (List.length (List.append [] (Go.byteCells (catS s (ByteArray.mk #[10]))))))
 (some ((Value.tuple (Array.mk [(Value.int IntKind.i64 (0 : Int)), (Value.pointer (Option.some (Addr.mk 0 0 none))), (Value.iface 18446744073709551622 (Value.agg (Array.mk ((Value.slice none n b) :: c)))), (Value.int IntKind.i64 z), (Value.int IntKind.i64 (addI IntKind.i64 i (1 : Int)))])), (mkSt [(Blk.cells [(Value.pointer (Option.some (Addr.mk 0 0 none))), (Value.slice (Option.some (Addr.mk 1 0 none)) (Nat.add 0 (ByteArray.size (catS s (ByteArray.mk #[10])))) 18446744073709551616)] 61 Bool.true), (Blk.cells (renL Bool.true (rhoO 0 [0, 6]) (takeC (Nat.mul (Nat.add 0 (ByteArray.size (catS s (ByteArray.mk #[10])))) 1) (dropC 0 (List.append [] (Go.byteCells (catS s (ByteArray.mk #[10]))))))) 5 Bool.false)])))))))))))
 (some ((Value.tuple (Array.mk [(Value.int IntKind.i64 (3 : Int)), (Value.pointer (Option.some (Addr.mk 0 0 none))), (Value.iface 18446744073709551622 (Value.agg (Array.mk ((Value.slice none n b) :: c)))), (Value.int IntKind.i64 z), (Value.int IntKind.i64 i)])), (mkSt [(Blk.cells [(Value.pointer none), (Value.slice (Option.some (Addr.mk 1 0 none)) 0 18446744073709551616)] 61 Bool.true), (Blk.cells [] 5 Bool.false)])))) := by kernel_rfl
theorem dec_pbB (CC TC : List Value → List Blk → Bool) (s : ByteArray) (n b : Nat) (c : List Value) (z i : Int) (m : Nat) (d : List Value) : roundQX P E (ctPbv CC TC s [.cells [self0, .slice (some ⟨1, 0, none⟩) m unk] 61 true, .cells d 5 false]) 50 8 Bpb Dpb [self0, mkFz 6 n b c, .int .i64 z, .int .i64 i] [.cells [self0, .slice (some ⟨1, 0, none⟩) m unk] 61 true, .cells d 5 false] =
 (iteB (ltI i z)
 (needB (Bool.and (Nat.beq 6 6) (inI i n))
 (needB (Bool.and (Nat.ble (Nat.add (atN i 6) 6) (List.length c)) (etasB [(Eta.int IntKind.i64), (Eta.int IntKind.i64), (Eta.int IntKind.i64), (Eta.int IntKind.i64), Eta.string, (Eta.slice 3)] c (atN i 6)))
 (needB (TC [(Value.agg (Array.mk [(Value.int IntKind.i64 (asI (nthD c (atN i 6)))), (Value.int IntKind.i64 (asI (nthD c (Nat.add (atN i 6) 1)))), (Value.int IntKind.i64 (asI (nthD c (Nat.add (Nat.add (atN i 6) 1) 1)))), (Value.int IntKind.i64 (asI (nthD c (Nat.add (Nat.add (Nat.add (atN i 6) 1) 1) 1)))), (Value.string (asS (nthD c (Nat.add (Nat.add (Nat.add (Nat.add (atN i 6) 1) 1) 1) 1)))), (Value.iface 18446744073709551619 (Value.agg (Array.mk ((Value.slice none (zN (nthD c (Nat.add (Nat.add (Nat.add (Nat.add (Nat.add (atN i 6) 1) 1) 1) 1) 1))) (zB (nthD c (Nat.add (Nat.add (Nat.add (Nat.add (Nat.add (atN i 6) 1) 1) 1) 1) 1)))) :: (zC (nthD c (Nat.add (Nat.add (Nat.add (Nat.add (Nat.add (atN i 6) 1) 1) 1) 1) 1)))))))]))] [])
 (needB (fitS s (ByteArray.mk #[10]))
 (needB (Nat.ble (Nat.add 0 (Nat.mul m 1)) (List.length d))
 (needB (CC [(Value.pointer (Option.some (Addr.mk 0 0 none)))] [(Blk.cells [(Value.pointer (Option.some (Addr.mk 0 0 none))), (Value.slice (Option.some (Addr.mk 1 0 none)) m 18446744073709551616)] 61 Bool.true), (Blk.cells (renL Bool.true (rhoO 0 [0, 3]) (takeC (Nat.mul m 1) (dropC 0 d))) 5 Bool.false)])
 (needB (List.all (Go.byteCells (catS s (ByteArray.mk #[10]))) oneCell)
 (needB (Nat.ble (Nat.add m (ByteArray.size (catS s (ByteArray.mk #[10])))) 4194304)
 (needB (Nat.beq (Nat.add 0 (Nat.mul m 1)) (List.length (renL Bool.true (backN [0] 4) d)))
 (needB (Nat.ble (Nat.add 0 (Nat.mul (Nat.add m (ByteArray.size (catS s (ByteArray.mk #[10])))) 1)) (List.length (List.append (oldC 0 (renL Bool.true (backN [0] 4) d)) (Go.byteCells (catS s (ByteArray.mk #[10]))))))
 (some ((Value.tuple (Array.mk [(Value.int IntKind.i64 (0 : Int)), (Value.pointer (Option.some (Addr.mk 0 0 none))), (Value.iface 18446744073709551622 (Value.agg (Array.mk ((Value.slice none n b) :: c)))), (Value.int IntKind.i64 z), (Value.int IntKind.i64 (addI IntKind.i64 i (1 : Int)))])), (mkSt [(Blk.cells [(Value.pointer (Option.some (Addr.mk 0 0 none))), (Value.slice (Option.some (Addr.mk 1 0 none)) (Nat.add m (ByteArray.size (catS s (ByteArray.mk #[10])))) 18446744073709551616)] 61 Bool.true), (Blk.cells (renL Bool.true (rhoO 0 [0, 6]) (takeC (Nat.mul (Nat.add m (ByteArray.size (catS s (ByteArray.mk #[10])))) 1) (dropC 0 (List.append (oldC 0 (renL Bool.true (backN [0] 4) d)) (Go.byteCells (catS s (ByteArray.mk #[10]))))))) 5 Bool.false)])))))))))))))
 (needB (Nat.ble (Nat.add 0 (Nat.mul m 1)) (List.length d))
 (some ((Value.tuple (Array.mk [(Value.int IntKind.i64 (3 : Int)), (Value.pointer (Option.some (Addr.mk 0 0 none))), (Value.iface 18446744073709551622 (Value.agg (Array.mk ((Value.slice none n b) :: c)))), (Value.int IntKind.i64 z), (Value.int IntKind.i64 i)])), (mkSt [(Blk.cells [(Value.pointer (Option.some (Addr.mk 0 0 none))), (Value.slice (Option.some (Addr.mk 1 0 none)) m 18446744073709551616)] 61 Bool.true), (Blk.cells (renL Bool.true (rhoO 0 [0, 2]) (takeC (Nat.mul m 1) (dropC 0 d))) 5 Bool.false)]))))) := by kernel_rfl
def lineB (a : ActM) : List UInt8 := (textA a).data.toList ++ [10]
theorem line_cells (a : ActM) : Go.byteCells (catS (textA a) ⟨#[10]⟩) = bc (lineB a) := by
  rw [byteCells_bc]
  unfold lineB catS
  rw [ByteArray.data_append]
  congr 1
  simp
theorem line_size (a : ActM) : (catS (textA a) ⟨#[10]⟩).size = (bc (lineB a)).length := by
  rw [catS_size, bc_length]
  unfold lineB
  rw [List.length_append, ← size_eq]; rfl
theorem bc_one : ∀ l : List UInt8, List.all (bc l) oneCell = true
  | [] => rfl
  | x :: l => by
    have := bc_one l
    unfold bc at this ⊢
    simp only [List.map_cons, List.all_cons, this, Bool.and_true]
    rfl
def pbB (p : Value) (t : List UInt8) : List Blk := [.cells [p, .slice (some ⟨1, 0, none⟩) (bc t).length unk] 61 true, .cells (bc t) 5 false]
def pbV (l : List ActM) (i : Int) : List Value := [self0, fzActs l, .int .i64 (lenI l.length), .int .i64 i]
def pbP (u : Bool) : Value := bif u then self0 else .pointer none
def kCc : Con (Bool × List UInt8) where
  enc x := ([self0], pbB (pbP x.1) x.2)
  ok _ := True
  inj a b h := by
    obtain ⟨a1, a2⟩ := a
    obtain ⟨b1, b2⟩ := b
    unfold pbB at h
    simp only [Prod.mk.injEq, List.cons.injEq, Blk.cells.injEq, true_and, and_true] at h
    obtain ⟨⟨h1, _⟩, h2⟩ := h
    have := bc_inj h2
    subst this
    cases a1 <;> cases b1 <;> first | rfl | (cases h1)
  dflt := (true, [])
theorem cc_ok : CallOkX P 1 46 (conM kCc.C kCc.D fun x => .leaf (.tuple ⟨[]⟩, pbB self0 x.2)) := conX_ok kCc fun x ho v bs' hev => by
  simp only [DT.eval, Option.some.injEq, Prod.mk.injEq] at hev
  obtain ⟨rfl, rfl⟩ := hev
  obtain ⟨u, t⟩ := x
  cases u
  · exact cc_crx (Or.inl rfl)
  · exact cc_crx (Or.inr rfl)
theorem pbA_round {l : List ActM} {i : Nat} (hi : i < l.length) (hl : l.length < 4194304) (hz : (textA l[i]).size ≤ 4000000) : roundQX P E (ctPbv (kCc.at (false, [])) (kAx.at l[i]) (textA l[i]) (pbB self0 [])) 50 8 Bpb Dpb (pbV l i) (pbB (.pointer none) []) = some (.tuple ⟨exV .normal :: pbV l ((i + 1 : Nat) : Int)⟩, mkSt (pbB self0 (lineB l[i]))) := by
  have q := dec_pbA (kCc.at (false, [])) (kAx.at l[i]) (textA l[i]) l.length 0 (EAct.all l) (lenI l.length) i
  refine Eq.trans ?_ (q.trans ?_)
  · rfl
  clear q
  have n6 : (EAct.all l).length = Nat.mul l.length 6 := EAct.all_length l
  have g1 : ltI (i : Int) (lenI l.length) = true := by unfold ltI lenI; exact decide_eq_true (by omega)
  have g2 : inI (i : Int) l.length = true := by unfold inI; exact decide_eq_true (by omega)
  have g3 : Nat.ble (Nat.add (atN (i : Int) 6) 6) (Nat.mul l.length 6) = true := Nat.ble_eq_true_of_le (by
    show (i : Int).toNat * 6 + 6 ≤ l.length * 6
    have : (i : Int).toNat = i := by omega
    omega)
  have g4 := ac_etas hi
  have a1 : addI .i64 (i : Int) 1 = ((i + 1 : Nat) : Int) := by unfold addI; rw [wrap64 (by omega) (by omega)]; omega
  have aI : ∀ k n, asI (.int k n) = n := fun _ _ => rfl
  have aS : ∀ b, asS (.string b) = b := fun _ => rfl
  have b6 : Nat.beq 6 6 = true := rfl
  have zn : zN (fzOps l[i].ops) = l[i].ops.length := zN_fz
  have zb : zB (fzOps l[i].ops) = 0 := zB_fz
  have zc : zC (fzOps l[i].ops) = EOp.all l[i].ops := zC_fz
  have hfz : (Value.iface 18446744073709551622 (.agg ⟨.slice none l.length 0 :: EAct.all l⟩)) = fzActs l := by unfold fzActs mkFz FZ; rfl
  have hs := line_size l[i]
  have hc := line_cells l[i]
  have z0 : ∀ n, Nat.add 0 n = n := Nat.zero_add
  have z1 : ∀ n, Nat.mul n 1 = n := Nat.mul_one
  have nA : ∀ c : List Value, List.append [] c = c := fun _ => rfl
  have oc : ∀ c, oldC 0 c = c := oldC_zero
  have ba : ∀ t u, List.append (bc t) (bc u) = bc (t ++ u) := fun t u => (List.map_append ..).symm
  have bl : ∀ t u, Nat.add (bc t).length (bc u).length = (bc (t ++ u)).length := fun t u => by simp [bc]
  have bb : ∀ n, Nat.ble n n = true := fun n => Nat.ble_eq_true_of_le (Nat.le_refl n)
  have be : ∀ n, Nat.beq n n = true := Nat.beq_refl
  simp only [n6, g1, g2, g3, g4, ac_0 hi, ac_1 hi, ac_2 hi, ac_3 hi, ac_4 hi, ac_5 hi, aI, aS, zn, zb, zc, a1, b6, Bool.and_self, ite_tt, need_tt, actOut, hfz, hs, hc, z0, z1, nA, oc, bc_ren, bc_one, takeC_self, ba, bl, bb, be]
  refine need_at (k := kAx) (s := l[i]) rfl rfl ?_
  refine need_eq (ble_ok (by rw [Nat.add_eq]; show _ + 1 ≤ _; omega)) ?_
  refine need_at (k := kCc) (s := (false, [])) rfl rfl ?_
  refine need_eq (ble_ok (by rw [bc_length]; unfold lineB; rw [List.length_append, ← size_eq]; show _ + 1 ≤ _; omega)) ?_
  rfl
theorem pbB_round {l : List ActM} {i : Nat} {t : List UInt8} (hi : i < l.length) (hl : l.length < 4194304) (hz : (textA l[i]).size ≤ 4000000) (ht : t.length + (textA l[i]).size ≤ 4194303) : roundQX P E (ctPbv (kCc.at (true, t)) (kAx.at l[i]) (textA l[i]) (pbB self0 t)) 50 8 Bpb Dpb (pbV l i) (pbB self0 t) = some (.tuple ⟨exV .normal :: pbV l ((i + 1 : Nat) : Int)⟩, mkSt (pbB self0 (t ++ lineB l[i]))) := by
  have q := dec_pbB (kCc.at (true, t)) (kAx.at l[i]) (textA l[i]) l.length 0 (EAct.all l) (lenI l.length) i (bc t).length (bc t)
  refine Eq.trans ?_ (q.trans ?_)
  · rfl
  clear q
  have n6 : (EAct.all l).length = Nat.mul l.length 6 := EAct.all_length l
  have g1 : ltI (i : Int) (lenI l.length) = true := by unfold ltI lenI; exact decide_eq_true (by omega)
  have g2 : inI (i : Int) l.length = true := by unfold inI; exact decide_eq_true (by omega)
  have g3 : Nat.ble (Nat.add (atN (i : Int) 6) 6) (Nat.mul l.length 6) = true := Nat.ble_eq_true_of_le (by
    show (i : Int).toNat * 6 + 6 ≤ l.length * 6
    have : (i : Int).toNat = i := by omega
    omega)
  have g4 := ac_etas hi
  have a1 : addI .i64 (i : Int) 1 = ((i + 1 : Nat) : Int) := by unfold addI; rw [wrap64 (by omega) (by omega)]; omega
  have aI : ∀ k n, asI (.int k n) = n := fun _ _ => rfl
  have aS : ∀ b, asS (.string b) = b := fun _ => rfl
  have b6 : Nat.beq 6 6 = true := rfl
  have zn : zN (fzOps l[i].ops) = l[i].ops.length := zN_fz
  have zb : zB (fzOps l[i].ops) = 0 := zB_fz
  have zc : zC (fzOps l[i].ops) = EOp.all l[i].ops := zC_fz
  have hfz : (Value.iface 18446744073709551622 (.agg ⟨.slice none l.length 0 :: EAct.all l⟩)) = fzActs l := by unfold fzActs mkFz FZ; rfl
  have hs := line_size l[i]
  have hc := line_cells l[i]
  have z0 : ∀ n, Nat.add 0 n = n := Nat.zero_add
  have z1 : ∀ n, Nat.mul n 1 = n := Nat.mul_one
  have nA : ∀ c : List Value, List.append [] c = c := fun _ => rfl
  have oc : ∀ c, oldC 0 c = c := oldC_zero
  have ba : ∀ t u, List.append (bc t) (bc u) = bc (t ++ u) := fun t u => (List.map_append ..).symm
  have bl : ∀ t u, Nat.add (bc t).length (bc u).length = (bc (t ++ u)).length := fun t u => by simp [bc]
  have bb : ∀ n, Nat.ble n n = true := fun n => Nat.ble_eq_true_of_le (Nat.le_refl n)
  have be : ∀ n, Nat.beq n n = true := Nat.beq_refl
  simp only [n6, g1, g2, g3, g4, ac_0 hi, ac_1 hi, ac_2 hi, ac_3 hi, ac_4 hi, ac_5 hi, aI, aS, zn, zb, zc, a1, b6, Bool.and_self, ite_tt, need_tt, actOut, hfz, hs, hc, z0, z1, nA, oc, bc_ren, bc_one, takeC_self, ba, bl, bb, be]
  refine need_at (k := kAx) (s := l[i]) rfl rfl ?_
  refine need_eq (ble_ok (by rw [Nat.add_eq]; show _ + 1 ≤ _; omega)) ?_
  refine need_at (k := kCc) (s := (true, t)) rfl rfl ?_
  refine need_eq (ble_ok (by rw [bc_length, List.length_append]; unfold lineB; rw [List.length_append, ← size_eq]; show _ + (_ + 1) ≤ _; omega)) ?_
  rfl
noncomputable def ctPb (a : ActM) (u : Bool) (t : List UInt8) : Ct := ctPbv (kCc.at (u, t)) (kAx.at a) (textA a) (pbB self0 t)
theorem ctPb_ok {a : ActM} (h : txOk a) {u : Bool} {t : List UInt8} : CtOk P (ctPb a u t) := addCallX_ok (addCallX_ok ctF_ok (oneM_ok kAx text_ok (s := a) h)) (oneM_ok kCc cc_ok (s := (u, t)) trivial)
theorem pbA_end {l : List ActM} (h : l = []) : roundQX P E (ctPb act00 false []) 50 8 Bpb Dpb (pbV l 0) (pbB (.pointer none) []) = some (.tuple ⟨exV (.exit 2) :: pbV l l.length⟩, mkSt (pbB (.pointer none) [])) := by
  subst h
  have q := dec_pbA (kCc.at (false, [])) (kAx.at act00) (textA act00) 0 0 (EAct.all []) 0 0
  have g1 : ltI 0 0 = false := rfl
  rw [g1] at q
  refine Eq.trans ?_ (q.trans (ite_ff.trans ?_))
  · rfl
  · have hfz : (Value.iface 18446744073709551622 (.agg ⟨.slice none 0 0 :: EAct.all []⟩)) = fzActs [] := by unfold fzActs mkFz FZ; rfl
    rw [hfz]; rfl
theorem pbB_end {l : List ActM} {t : List UInt8} : roundQX P E (ctPb act00 true t) 50 8 Bpb Dpb (pbV l l.length) (pbB self0 t) = some (.tuple ⟨exV (.exit 2) :: pbV l l.length⟩, mkSt (pbB self0 t)) := by
  have q := dec_pbB (kCc.at (true, t)) (kAx.at act00) (textA act00) l.length 0 (EAct.all l) (lenI l.length) (l.length : Int) (bc t).length (bc t)
  refine Eq.trans ?_ (q.trans ?_)
  · rfl
  clear q
  have g1 : ltI (l.length : Int) (lenI l.length) = false := by unfold ltI lenI; exact decide_eq_false (by omega)
  have hfz : (Value.iface 18446744073709551622 (.agg ⟨.slice none l.length 0 :: EAct.all l⟩)) = fzActs l := by unfold fzActs mkFz FZ; rfl
  have z0 : ∀ n, Nat.add 0 n = n := Nat.zero_add
  have z1 : ∀ n, Nat.mul n 1 = n := Nat.mul_one
  have bb : ∀ n, Nat.ble n n = true := fun n => Nat.ble_eq_true_of_le (Nat.le_refl n)
  rw [g1]
  refine Eq.trans ite_ff ?_
  simp only [hfz, z0, z1, bb, need_tt, takeC_self, bc_ren]
  rfl
def outB : List ActM → List UInt8
  | [] => []
  | a :: l => lineB a ++ outB l
theorem lineB_len (a : ActM) : (lineB a).length = (textA a).size + 1 := by
  unfold lineB; rw [List.length_append, ← size_eq]; rfl
theorem pb_loop (l : List ActM) (hl : l.length < 4194304) (ha : ∀ a ∈ l, txOk2 a) : ∀ (k i : Nat) (t : List UInt8), i + k = l.length → t.length + (outB (l.drop i)).length ≤ 4194303 →
    LRX P 8 2 Bpb Dpb.head (pbV l i) (pbB self0 t) .normal (pbV l l.length) (pbB self0 (t ++ outB (l.drop i)))
  | 0, i, t, h, ht => by
    obtain rfl : i = l.length := by omega
    rw [List.drop_length]
    show LRX _ _ _ _ _ _ _ _ _ (pbB self0 (t ++ []))
    rw [List.append_nil]
    exact LRX.stop (n := 50) (engOk (ctPb act00 true t)) noNum (ctPb_ok act00_ok.1) Bpb_occ (e := .exit 2) pbB_end (by intro h; cases h)
  | k + 1, i, t, h, ht => by
    have hi : i < l.length := by omega
    rw [List.drop_eq_getElem_cons hi] at ht ⊢
    simp only [outB, List.length_append, lineB_len] at ht ⊢
    have hx := ha l[i] (List.getElem_mem hi)
    have q := pbB_round (t := t) hi hl (textA_size hx.1 hx.2) (by omega)
    rw [← List.append_assoc]
    exact LRX.again (n := 50) (engOk (ctPb l[i] true t)) noNum (ctPb_ok hx.1) Bpb_occ q (pb_loop l hl ha k (i + 1) _ (by omega) (by rw [List.length_append, lineB_len]; omega))
theorem pb_loop0 (l : List ActM) (hl : l.length < 4194304) (ha : ∀ a ∈ l, txOk2 a) (ht : (outB l).length ≤ 4194303) :
    LRX P 8 2 Bpb Dpb.head (pbV l 0) (pbB (.pointer none) []) .normal (pbV l l.length) (pbB (pbP (!l.isEmpty)) (outB l)) := by
  cases l with
  | nil => exact LRX.stop (n := 50) (engOk (ctPb act00 false [])) noNum (ctPb_ok act00_ok.1) Bpb_occ (e := .exit 2) (pbA_end rfl) (by intro h; cases h)
  | cons a r =>
    have hx := ha a (by simp)
    have q := pbA_round (l := a :: r) (i := 0) (by simp) hl (textA_size hx.1 hx.2)
    have q2 := pb_loop (a :: r) hl ha r.length 1 (lineB a) (by simp; omega) (by simp only [outB, List.length_append] at ht; exact ht)
    exact LRX.again (n := 50) (engOk (ctPb a false [])) noNum (ctPb_ok hx.1) Bpb_occ q q2
def kPb : Con (List ActM) where
  enc l := (pbV l 0, pbB (.pointer none) [])
  ok l := l.length < 4194304 ∧ (∀ a ∈ l, txOk2 a) ∧ (outB l).length ≤ 4194303
  inj a b h := by
    unfold pbV at h
    simp only [Prod.mk.injEq, List.cons.injEq, true_and, and_true] at h
    exact fzActs_inj h.1
  dflt := []
noncomputable def pbRes (l : List ActM) : DT (Ex × List Value × List Blk) := .leaf (.normal, pbV l l.length, pbB (pbP (!l.isEmpty)) (outB l))
theorem pb_loopOk : LoopOkX P 8 2 Bpb Dpb.head (conL kPb.C kPb.D pbRes) :=
  conLX_ok kPb (loopAt_occ Bpb_eq) fun l ho e vs' bs' hev => by
    unfold pbRes at hev
    simp only [DT.eval, Option.some.injEq, Prod.mk.injEq] at hev
    obtain ⟨rfl, rfl, rfl⟩ := hev
    exact pb_loop0 l ho.1 ho.2.1 ho.2.2
end Go.VS.Tryz
end
