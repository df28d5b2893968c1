/- The law 'OpBack', where what it reads is of bulk at most 1048576: the call returns true. Conditions: none. -/
import Derived.Test.YtbdeppefllcocaaOpBackP3
import Derived.Test.YtbdeppefllcocaaOpBackP4
import Derived.Test.YtbdeppefllcocaaOpBackP5
import Derived.Test.YtbdeppefllcocaaShelfC
import Derived.WalkKit
import Derived.ProofKit
import Derived.OpenShut
import Derived.Carry
import Derived.ChangeSlices
import Derived.Test.YtbdeppefllcocaaRows
import Derived.JoinedCond
section
namespace Go.VS.Try
set_option linter.unusedSimpArgs false
set_option linter.unusedVariables false
set_option maxRecDepth 1000000
open Go.VS
noncomputable def ctS : Ct := symCt P
theorem ctS_ok : CtOk P ctS := symCt_ok noNum
noncomputable def ctAv (V : Nat → List UInt8) (C : Int → Bool) (O : Bool → ByteArray → ByteArray → Bool) : Ct := addCall P 33 (RcheckV O) (addCall P 34 (RcheckV O) (addCall P 61 (RappV V C) (addCall P 62 (RappV V C) ctS)))
noncomputable def ctA : Ct := ctAv varM u64B opOk
theorem ctA_ok : CtOk P ctA := addCall_ok (addCall_ok (addCall_ok (addCall_ok ctS_ok rapp_ok) app_ok) rCheck_ok) Check_ok
theorem dec_opApp (V : Nat → List UInt8) (C : Int → Bool) (O : Bool → ByteArray → ByteArray → Bool) (n b : Nat) (c : List Value) (p : Bool) (k v : ByteArray) : callQ P E (ctAv V C O) 50 29 [mkFz 1 n b c, .agg ⟨[.bool p, .string k, .string v]⟩] =
  (iteB (O p k v)
   (needB (List.all c Go.VS.oneCell)
    (needB (Bool.and (Nat.beq 0 0) (Bool.and (Nat.beq 0 0) (Nat.ble n 4194304)))
     (iteB p
      (needB (Nat.ble (Nat.add n 1) 4194304)
       (needB (Nat.beq (Nat.add 0 (Nat.mul n 1)) (List.length c))
        (needB (Bool.and (Nat.ble (Nat.add 0 (Nat.mul (Nat.add n 1) 1)) (List.length (List.append (Go.VS.oldC 0 c) [(Go.Value.int Go.IntKind.u8 (1 : Int))]))) (Nat.ble 1 1))
         (needB (Go.VS.flatL (Go.VS.takeC (Nat.mul (Nat.add n 1) 1) (Go.VS.dropC 0 (List.append (Go.VS.oldC 0 c) [(Go.Value.int Go.IntKind.u8 (1 : Int))]))))
          (needB (Bool.and (Go.VS.Try.fzB 18446744073709551617 (Nat.add n 1) (Go.VS.takeC (Nat.mul (Nat.add n 1) 1) (Go.VS.dropC 0 (List.append (Go.VS.oldC 0 c) [(Go.Value.int Go.IntKind.u8 (1 : Int))])))) (C (Go.VS.cvI Go.IntKind.u64 (Go.VS.lenI (ByteArray.size k)))))
           (needB (List.all (Go.byteCells k) Go.VS.oneCell)
            (needB (Nat.ble (Nat.add (List.length (HAppend.hAppend (List.map Go.VS.byteOf (Go.VS.takeC (Nat.mul (Nat.add n 1) 1) (Go.VS.dropC 0 (List.append (Go.VS.oldC 0 c) [(Go.Value.int Go.IntKind.u8 (1 : Int))])))) (V (Int.toNat (Go.VS.cvI Go.IntKind.u64 (Go.VS.lenI (ByteArray.size k))))))) (ByteArray.size k)) 4194304)
             (needB (Nat.beq (Nat.add 0 (Nat.mul (List.length (HAppend.hAppend (List.map Go.VS.byteOf (Go.VS.takeC (Nat.mul (Nat.add n 1) 1) (Go.VS.dropC 0 (List.append (Go.VS.oldC 0 c) [(Go.Value.int Go.IntKind.u8 (1 : Int))])))) (V (Int.toNat (Go.VS.cvI Go.IntKind.u64 (Go.VS.lenI (ByteArray.size k))))))) 1)) (List.length (Go.VS.renL Bool.false (Go.VS.shiftN 14) (Go.VS.bc (HAppend.hAppend (List.map Go.VS.byteOf (Go.VS.takeC (Nat.mul (Nat.add n 1) 1) (Go.VS.dropC 0 (List.append (Go.VS.oldC 0 c) [(Go.Value.int Go.IntKind.u8 (1 : Int))])))) (V (Int.toNat (Go.VS.cvI Go.IntKind.u64 (Go.VS.lenI (ByteArray.size k))))))))))
              (needB (Go.VS.beqV (Go.Value.agg (Array.mk [(Go.Value.bool p), (Go.Value.string k), (Go.Value.string v)])) (Go.Value.agg (Array.mk [(Go.Value.bool p), (Go.Value.string k), (Go.Value.string v)])))
               (needB (Go.VS.beqV (Go.Value.string k) (Go.Value.string k))
                (needB (Go.VS.beqV (Go.Value.string k) (Go.Value.string k))
                 (needB (Go.VS.beqV (Go.Value.string k) (Go.Value.string k))
                  (iteB p
                   (needB (Bool.and (Nat.ble (Nat.add 0 (Nat.mul (Nat.add (List.length (HAppend.hAppend (List.map Go.VS.byteOf (Go.VS.takeC (Nat.mul (Nat.add n 1) 1) (Go.VS.dropC 0 (List.append (Go.VS.oldC 0 c) [(Go.Value.int Go.IntKind.u8 (1 : Int))])))) (V (Int.toNat (Go.VS.cvI Go.IntKind.u64 (Go.VS.lenI (ByteArray.size k))))))) (ByteArray.size k)) 1)) (List.length (List.append (Go.VS.oldC 0 (Go.VS.renL Bool.false (Go.VS.shiftN 14) (Go.VS.bc (HAppend.hAppend (List.map Go.VS.byteOf (Go.VS.takeC (Nat.mul (Nat.add n 1) 1) (Go.VS.dropC 0 (List.append (Go.VS.oldC 0 c) [(Go.Value.int Go.IntKind.u8 (1 : Int))])))) (V (Int.toNat (Go.VS.cvI Go.IntKind.u64 (Go.VS.lenI (ByteArray.size k))))))))) (Go.byteCells k)))) (Nat.ble 1 1))
                    (needB (Go.VS.flatL (Go.VS.takeC (Nat.mul (Nat.add (List.length (HAppend.hAppend (List.map Go.VS.byteOf (Go.VS.takeC (Nat.mul (Nat.add n 1) 1) (Go.VS.dropC 0 (List.append (Go.VS.oldC 0 c) [(Go.Value.int Go.IntKind.u8 (1 : Int))])))) (V (Int.toNat (Go.VS.cvI Go.IntKind.u64 (Go.VS.lenI (ByteArray.size k))))))) (ByteArray.size k)) 1) (Go.VS.dropC 0 (List.append (Go.VS.oldC 0 (Go.VS.renL Bool.false (Go.VS.shiftN 14) (Go.VS.bc (HAppend.hAppend (List.map Go.VS.byteOf (Go.VS.takeC (Nat.mul (Nat.add n 1) 1) (Go.VS.dropC 0 (List.append (Go.VS.oldC 0 c) [(Go.Value.int Go.IntKind.u8 (1 : Int))])))) (V (Int.toNat (Go.VS.cvI Go.IntKind.u64 (Go.VS.lenI (ByteArray.size k))))))))) (Go.byteCells k)))))
                     (needB (Bool.and (Go.VS.Try.fzB 18446744073709551617 (Nat.add (List.length (HAppend.hAppend (List.map Go.VS.byteOf (Go.VS.takeC (Nat.mul (Nat.add n 1) 1) (Go.VS.dropC 0 (List.append (Go.VS.oldC 0 c) [(Go.Value.int Go.IntKind.u8 (1 : Int))])))) (V (Int.toNat (Go.VS.cvI Go.IntKind.u64 (Go.VS.lenI (ByteArray.size k))))))) (ByteArray.size k)) (Go.VS.takeC (Nat.mul (Nat.add (List.length (HAppend.hAppend (List.map Go.VS.byteOf (Go.VS.takeC (Nat.mul (Nat.add n 1) 1) (Go.VS.dropC 0 (List.append (Go.VS.oldC 0 c) [(Go.Value.int Go.IntKind.u8 (1 : Int))])))) (V (Int.toNat (Go.VS.cvI Go.IntKind.u64 (Go.VS.lenI (ByteArray.size k))))))) (ByteArray.size k)) 1) (Go.VS.dropC 0 (List.append (Go.VS.oldC 0 (Go.VS.renL Bool.false (Go.VS.shiftN 14) (Go.VS.bc (HAppend.hAppend (List.map Go.VS.byteOf (Go.VS.takeC (Nat.mul (Nat.add n 1) 1) (Go.VS.dropC 0 (List.append (Go.VS.oldC 0 c) [(Go.Value.int Go.IntKind.u8 (1 : Int))])))) (V (Int.toNat (Go.VS.cvI Go.IntKind.u64 (Go.VS.lenI (ByteArray.size k))))))))) (Go.byteCells k))))) (C (Go.VS.cvI Go.IntKind.u64 (Go.VS.lenI (ByteArray.size v)))))
                      (needB (List.all (Go.byteCells v) Go.VS.oneCell)
                       (needB (Nat.ble (Nat.add (List.length (HAppend.hAppend (List.map Go.VS.byteOf (Go.VS.takeC (Nat.mul (Nat.add (List.length (HAppend.hAppend (List.map Go.VS.byteOf (Go.VS.takeC (Nat.mul (Nat.add n 1) 1) (Go.VS.dropC 0 (List.append (Go.VS.oldC 0 c) [(Go.Value.int Go.IntKind.u8 (1 : Int))])))) (V (Int.toNat (Go.VS.cvI Go.IntKind.u64 (Go.VS.lenI (ByteArray.size k))))))) (ByteArray.size k)) 1) (Go.VS.dropC 0 (List.append (Go.VS.oldC 0 (Go.VS.renL Bool.false (Go.VS.shiftN 14) (Go.VS.bc (HAppend.hAppend (List.map Go.VS.byteOf (Go.VS.takeC (Nat.mul (Nat.add n 1) 1) (Go.VS.dropC 0 (List.append (Go.VS.oldC 0 c) [(Go.Value.int Go.IntKind.u8 (1 : Int))])))) (V (Int.toNat (Go.VS.cvI Go.IntKind.u64 (Go.VS.lenI (ByteArray.size k))))))))) (Go.byteCells k))))) (V (Int.toNat (Go.VS.cvI Go.IntKind.u64 (Go.VS.lenI (ByteArray.size v))))))) (ByteArray.size v)) 4194304)
                        (needB (Nat.beq (Nat.add 0 (Nat.mul (List.length (HAppend.hAppend (List.map Go.VS.byteOf (Go.VS.takeC (Nat.mul (Nat.add (List.length (HAppend.hAppend (List.map Go.VS.byteOf (Go.VS.takeC (Nat.mul (Nat.add n 1) 1) (Go.VS.dropC 0 (List.append (Go.VS.oldC 0 c) [(Go.Value.int Go.IntKind.u8 (1 : Int))])))) (V (Int.toNat (Go.VS.cvI Go.IntKind.u64 (Go.VS.lenI (ByteArray.size k))))))) (ByteArray.size k)) 1) (Go.VS.dropC 0 (List.append (Go.VS.oldC 0 (Go.VS.renL Bool.false (Go.VS.shiftN 14) (Go.VS.bc (HAppend.hAppend (List.map Go.VS.byteOf (Go.VS.takeC (Nat.mul (Nat.add n 1) 1) (Go.VS.dropC 0 (List.append (Go.VS.oldC 0 c) [(Go.Value.int Go.IntKind.u8 (1 : Int))])))) (V (Int.toNat (Go.VS.cvI Go.IntKind.u64 (Go.VS.lenI (ByteArray.size k))))))))) (Go.byteCells k))))) (V (Int.toNat (Go.VS.cvI Go.IntKind.u64 (Go.VS.lenI (ByteArray.size v))))))) 1)) (List.length (Go.VS.renL Bool.false (Go.VS.shiftN 16) (Go.VS.bc (HAppend.hAppend (List.map Go.VS.byteOf (Go.VS.takeC (Nat.mul (Nat.add (List.length (HAppend.hAppend (List.map Go.VS.byteOf (Go.VS.takeC (Nat.mul (Nat.add n 1) 1) (Go.VS.dropC 0 (List.append (Go.VS.oldC 0 c) [(Go.Value.int Go.IntKind.u8 (1 : Int))])))) (V (Int.toNat (Go.VS.cvI Go.IntKind.u64 (Go.VS.lenI (ByteArray.size k))))))) (ByteArray.size k)) 1) (Go.VS.dropC 0 (List.append (Go.VS.oldC 0 (Go.VS.renL Bool.false (Go.VS.shiftN 14) (Go.VS.bc (HAppend.hAppend (List.map Go.VS.byteOf (Go.VS.takeC (Nat.mul (Nat.add n 1) 1) (Go.VS.dropC 0 (List.append (Go.VS.oldC 0 c) [(Go.Value.int Go.IntKind.u8 (1 : Int))])))) (V (Int.toNat (Go.VS.cvI Go.IntKind.u64 (Go.VS.lenI (ByteArray.size k))))))))) (Go.byteCells k))))) (V (Int.toNat (Go.VS.cvI Go.IntKind.u64 (Go.VS.lenI (ByteArray.size v))))))))))
                         (some ((Go.Value.tuple (Array.mk [(Go.Value.slice (Option.some (Go.Addr.mk 0 0 none)) (Nat.add (List.length (HAppend.hAppend (List.map Go.VS.byteOf (Go.VS.takeC (Nat.mul (Nat.add (List.length (HAppend.hAppend (List.map Go.VS.byteOf (Go.VS.takeC (Nat.mul (Nat.add n 1) 1) (Go.VS.dropC 0 (List.append (Go.VS.oldC 0 c) [(Go.Value.int Go.IntKind.u8 (1 : Int))])))) (V (Int.toNat (Go.VS.cvI Go.IntKind.u64 (Go.VS.lenI (ByteArray.size k))))))) (ByteArray.size k)) 1) (Go.VS.dropC 0 (List.append (Go.VS.oldC 0 (Go.VS.renL Bool.false (Go.VS.shiftN 14) (Go.VS.bc (HAppend.hAppend (List.map Go.VS.byteOf (Go.VS.takeC (Nat.mul (Nat.add n 1) 1) (Go.VS.dropC 0 (List.append (Go.VS.oldC 0 c) [(Go.Value.int Go.IntKind.u8 (1 : Int))])))) (V (Int.toNat (Go.VS.cvI Go.IntKind.u64 (Go.VS.lenI (ByteArray.size k))))))))) (Go.byteCells k))))) (V (Int.toNat (Go.VS.cvI Go.IntKind.u64 (Go.VS.lenI (ByteArray.size v))))))) (ByteArray.size v)) 18446744073709551616), (Go.Value.int Go.IntKind.i64 (0 : Int))])), (Go.VS.mkSt [(Go.VS.Blk.cells (Go.VS.renL Bool.true (Go.VS.rhoO 0 [17]) (List.append (Go.VS.oldC 0 (Go.VS.renL Bool.false (Go.VS.shiftN 16) (Go.VS.bc (HAppend.hAppend (List.map Go.VS.byteOf (Go.VS.takeC (Nat.mul (Nat.add (List.length (HAppend.hAppend (List.map Go.VS.byteOf (Go.VS.takeC (Nat.mul (Nat.add n 1) 1) (Go.VS.dropC 0 (List.append (Go.VS.oldC 0 c) [(Go.Value.int Go.IntKind.u8 (1 : Int))])))) (V (Int.toNat (Go.VS.cvI Go.IntKind.u64 (Go.VS.lenI (ByteArray.size k))))))) (ByteArray.size k)) 1) (Go.VS.dropC 0 (List.append (Go.VS.oldC 0 (Go.VS.renL Bool.false (Go.VS.shiftN 14) (Go.VS.bc (HAppend.hAppend (List.map Go.VS.byteOf (Go.VS.takeC (Nat.mul (Nat.add n 1) 1) (Go.VS.dropC 0 (List.append (Go.VS.oldC 0 c) [(Go.Value.int Go.IntKind.u8 (1 : Int))])))) (V (Int.toNat (Go.VS.cvI Go.IntKind.u64 (Go.VS.lenI (ByteArray.size k))))))))) (Go.byteCells k))))) (V (Int.toNat (Go.VS.cvI Go.IntKind.u64 (Go.VS.lenI (ByteArray.size v))))))))) (Go.byteCells v))) 5 Bool.false)])))))))))
                   (some ((Go.Value.tuple (Array.mk [(Go.Value.slice (Option.some (Go.Addr.mk 0 0 none)) (Nat.add (List.length (HAppend.hAppend (List.map Go.VS.byteOf (Go.VS.takeC (Nat.mul (Nat.add n 1) 1) (Go.VS.dropC 0 (List.append (Go.VS.oldC 0 c) [(Go.Value.int Go.IntKind.u8 (1 : Int))])))) (V (Int.toNat (Go.VS.cvI Go.IntKind.u64 (Go.VS.lenI (ByteArray.size k))))))) (ByteArray.size k)) 18446744073709551616), (Go.Value.int Go.IntKind.i64 (0 : Int))])), (Go.VS.mkSt [(Go.VS.Blk.cells (Go.VS.renL Bool.true (Go.VS.rhoO 0 [15]) (List.append (Go.VS.oldC 0 (Go.VS.renL Bool.false (Go.VS.shiftN 14) (Go.VS.bc (HAppend.hAppend (List.map Go.VS.byteOf (Go.VS.takeC (Nat.mul (Nat.add n 1) 1) (Go.VS.dropC 0 (List.append (Go.VS.oldC 0 c) [(Go.Value.int Go.IntKind.u8 (1 : Int))])))) (V (Int.toNat (Go.VS.cvI Go.IntKind.u64 (Go.VS.lenI (ByteArray.size k))))))))) (Go.byteCells k))) 5 Bool.false)]))))))))))))))))
      (needB (Nat.ble (Nat.add n 1) 4194304)
       (needB (Nat.beq (Nat.add 0 (Nat.mul n 1)) (List.length c))
        (needB (Bool.and (Nat.ble (Nat.add 0 (Nat.mul (Nat.add n 1) 1)) (List.length (List.append (Go.VS.oldC 0 c) [(Go.Value.int Go.IntKind.u8 (0 : Int))]))) (Nat.ble 1 1))
         (needB (Go.VS.flatL (Go.VS.takeC (Nat.mul (Nat.add n 1) 1) (Go.VS.dropC 0 (List.append (Go.VS.oldC 0 c) [(Go.Value.int Go.IntKind.u8 (0 : Int))]))))
          (needB (Bool.and (Go.VS.Try.fzB 18446744073709551617 (Nat.add n 1) (Go.VS.takeC (Nat.mul (Nat.add n 1) 1) (Go.VS.dropC 0 (List.append (Go.VS.oldC 0 c) [(Go.Value.int Go.IntKind.u8 (0 : Int))])))) (C (Go.VS.cvI Go.IntKind.u64 (Go.VS.lenI (ByteArray.size k)))))
           (needB (List.all (Go.byteCells k) Go.VS.oneCell)
            (needB (Nat.ble (Nat.add (List.length (HAppend.hAppend (List.map Go.VS.byteOf (Go.VS.takeC (Nat.mul (Nat.add n 1) 1) (Go.VS.dropC 0 (List.append (Go.VS.oldC 0 c) [(Go.Value.int Go.IntKind.u8 (0 : Int))])))) (V (Int.toNat (Go.VS.cvI Go.IntKind.u64 (Go.VS.lenI (ByteArray.size k))))))) (ByteArray.size k)) 4194304)
             (needB (Nat.beq (Nat.add 0 (Nat.mul (List.length (HAppend.hAppend (List.map Go.VS.byteOf (Go.VS.takeC (Nat.mul (Nat.add n 1) 1) (Go.VS.dropC 0 (List.append (Go.VS.oldC 0 c) [(Go.Value.int Go.IntKind.u8 (0 : Int))])))) (V (Int.toNat (Go.VS.cvI Go.IntKind.u64 (Go.VS.lenI (ByteArray.size k))))))) 1)) (List.length (Go.VS.renL Bool.false (Go.VS.shiftN 14) (Go.VS.bc (HAppend.hAppend (List.map Go.VS.byteOf (Go.VS.takeC (Nat.mul (Nat.add n 1) 1) (Go.VS.dropC 0 (List.append (Go.VS.oldC 0 c) [(Go.Value.int Go.IntKind.u8 (0 : Int))])))) (V (Int.toNat (Go.VS.cvI Go.IntKind.u64 (Go.VS.lenI (ByteArray.size k))))))))))
              (needB (Go.VS.beqV (Go.Value.agg (Array.mk [(Go.Value.bool p), (Go.Value.string k), (Go.Value.string v)])) (Go.Value.agg (Array.mk [(Go.Value.bool p), (Go.Value.string k), (Go.Value.string v)])))
               (needB (Go.VS.beqV (Go.Value.string k) (Go.Value.string k))
                (needB (Go.VS.beqV (Go.Value.string k) (Go.Value.string k))
                 (needB (Go.VS.beqV (Go.Value.string k) (Go.Value.string k))
                  (iteB p
                   (needB (Bool.and (Nat.ble (Nat.add 0 (Nat.mul (Nat.add (List.length (HAppend.hAppend (List.map Go.VS.byteOf (Go.VS.takeC (Nat.mul (Nat.add n 1) 1) (Go.VS.dropC 0 (List.append (Go.VS.oldC 0 c) [(Go.Value.int Go.IntKind.u8 (0 : Int))])))) (V (Int.toNat (Go.VS.cvI Go.IntKind.u64 (Go.VS.lenI (ByteArray.size k))))))) (ByteArray.size k)) 1)) (List.length (List.append (Go.VS.oldC 0 (Go.VS.renL Bool.false (Go.VS.shiftN 14) (Go.VS.bc (HAppend.hAppend (List.map Go.VS.byteOf (Go.VS.takeC (Nat.mul (Nat.add n 1) 1) (Go.VS.dropC 0 (List.append (Go.VS.oldC 0 c) [(Go.Value.int Go.IntKind.u8 (0 : Int))])))) (V (Int.toNat (Go.VS.cvI Go.IntKind.u64 (Go.VS.lenI (ByteArray.size k))))))))) (Go.byteCells k)))) (Nat.ble 1 1))
                    (needB (Go.VS.flatL (Go.VS.takeC (Nat.mul (Nat.add (List.length (HAppend.hAppend (List.map Go.VS.byteOf (Go.VS.takeC (Nat.mul (Nat.add n 1) 1) (Go.VS.dropC 0 (List.append (Go.VS.oldC 0 c) [(Go.Value.int Go.IntKind.u8 (0 : Int))])))) (V (Int.toNat (Go.VS.cvI Go.IntKind.u64 (Go.VS.lenI (ByteArray.size k))))))) (ByteArray.size k)) 1) (Go.VS.dropC 0 (List.append (Go.VS.oldC 0 (Go.VS.renL Bool.false (Go.VS.shiftN 14) (Go.VS.bc (HAppend.hAppend (List.map Go.VS.byteOf (Go.VS.takeC (Nat.mul (Nat.add n 1) 1) (Go.VS.dropC 0 (List.append (Go.VS.oldC 0 c) [(Go.Value.int Go.IntKind.u8 (0 : Int))])))) (V (Int.toNat (Go.VS.cvI Go.IntKind.u64 (Go.VS.lenI (ByteArray.size k))))))))) (Go.byteCells k)))))
                     (needB (Bool.and (Go.VS.Try.fzB 18446744073709551617 (Nat.add (List.length (HAppend.hAppend (List.map Go.VS.byteOf (Go.VS.takeC (Nat.mul (Nat.add n 1) 1) (Go.VS.dropC 0 (List.append (Go.VS.oldC 0 c) [(Go.Value.int Go.IntKind.u8 (0 : Int))])))) (V (Int.toNat (Go.VS.cvI Go.IntKind.u64 (Go.VS.lenI (ByteArray.size k))))))) (ByteArray.size k)) (Go.VS.takeC (Nat.mul (Nat.add (List.length (HAppend.hAppend (List.map Go.VS.byteOf (Go.VS.takeC (Nat.mul (Nat.add n 1) 1) (Go.VS.dropC 0 (List.append (Go.VS.oldC 0 c) [(Go.Value.int Go.IntKind.u8 (0 : Int))])))) (V (Int.toNat (Go.VS.cvI Go.IntKind.u64 (Go.VS.lenI (ByteArray.size k))))))) (ByteArray.size k)) 1) (Go.VS.dropC 0 (List.append (Go.VS.oldC 0 (Go.VS.renL Bool.false (Go.VS.shiftN 14) (Go.VS.bc (HAppend.hAppend (List.map Go.VS.byteOf (Go.VS.takeC (Nat.mul (Nat.add n 1) 1) (Go.VS.dropC 0 (List.append (Go.VS.oldC 0 c) [(Go.Value.int Go.IntKind.u8 (0 : Int))])))) (V (Int.toNat (Go.VS.cvI Go.IntKind.u64 (Go.VS.lenI (ByteArray.size k))))))))) (Go.byteCells k))))) (C (Go.VS.cvI Go.IntKind.u64 (Go.VS.lenI (ByteArray.size v)))))
                      (needB (List.all (Go.byteCells v) Go.VS.oneCell)
                       (needB (Nat.ble (Nat.add (List.length (HAppend.hAppend (List.map Go.VS.byteOf (Go.VS.takeC (Nat.mul (Nat.add (List.length (HAppend.hAppend (List.map Go.VS.byteOf (Go.VS.takeC (Nat.mul (Nat.add n 1) 1) (Go.VS.dropC 0 (List.append (Go.VS.oldC 0 c) [(Go.Value.int Go.IntKind.u8 (0 : Int))])))) (V (Int.toNat (Go.VS.cvI Go.IntKind.u64 (Go.VS.lenI (ByteArray.size k))))))) (ByteArray.size k)) 1) (Go.VS.dropC 0 (List.append (Go.VS.oldC 0 (Go.VS.renL Bool.false (Go.VS.shiftN 14) (Go.VS.bc (HAppend.hAppend (List.map Go.VS.byteOf (Go.VS.takeC (Nat.mul (Nat.add n 1) 1) (Go.VS.dropC 0 (List.append (Go.VS.oldC 0 c) [(Go.Value.int Go.IntKind.u8 (0 : Int))])))) (V (Int.toNat (Go.VS.cvI Go.IntKind.u64 (Go.VS.lenI (ByteArray.size k))))))))) (Go.byteCells k))))) (V (Int.toNat (Go.VS.cvI Go.IntKind.u64 (Go.VS.lenI (ByteArray.size v))))))) (ByteArray.size v)) 4194304)
                        (needB (Nat.beq (Nat.add 0 (Nat.mul (List.length (HAppend.hAppend (List.map Go.VS.byteOf (Go.VS.takeC (Nat.mul (Nat.add (List.length (HAppend.hAppend (List.map Go.VS.byteOf (Go.VS.takeC (Nat.mul (Nat.add n 1) 1) (Go.VS.dropC 0 (List.append (Go.VS.oldC 0 c) [(Go.Value.int Go.IntKind.u8 (0 : Int))])))) (V (Int.toNat (Go.VS.cvI Go.IntKind.u64 (Go.VS.lenI (ByteArray.size k))))))) (ByteArray.size k)) 1) (Go.VS.dropC 0 (List.append (Go.VS.oldC 0 (Go.VS.renL Bool.false (Go.VS.shiftN 14) (Go.VS.bc (HAppend.hAppend (List.map Go.VS.byteOf (Go.VS.takeC (Nat.mul (Nat.add n 1) 1) (Go.VS.dropC 0 (List.append (Go.VS.oldC 0 c) [(Go.Value.int Go.IntKind.u8 (0 : Int))])))) (V (Int.toNat (Go.VS.cvI Go.IntKind.u64 (Go.VS.lenI (ByteArray.size k))))))))) (Go.byteCells k))))) (V (Int.toNat (Go.VS.cvI Go.IntKind.u64 (Go.VS.lenI (ByteArray.size v))))))) 1)) (List.length (Go.VS.renL Bool.false (Go.VS.shiftN 16) (Go.VS.bc (HAppend.hAppend (List.map Go.VS.byteOf (Go.VS.takeC (Nat.mul (Nat.add (List.length (HAppend.hAppend (List.map Go.VS.byteOf (Go.VS.takeC (Nat.mul (Nat.add n 1) 1) (Go.VS.dropC 0 (List.append (Go.VS.oldC 0 c) [(Go.Value.int Go.IntKind.u8 (0 : Int))])))) (V (Int.toNat (Go.VS.cvI Go.IntKind.u64 (Go.VS.lenI (ByteArray.size k))))))) (ByteArray.size k)) 1) (Go.VS.dropC 0 (List.append (Go.VS.oldC 0 (Go.VS.renL Bool.false (Go.VS.shiftN 14) (Go.VS.bc (HAppend.hAppend (List.map Go.VS.byteOf (Go.VS.takeC (Nat.mul (Nat.add n 1) 1) (Go.VS.dropC 0 (List.append (Go.VS.oldC 0 c) [(Go.Value.int Go.IntKind.u8 (0 : Int))])))) (V (Int.toNat (Go.VS.cvI Go.IntKind.u64 (Go.VS.lenI (ByteArray.size k))))))))) (Go.byteCells k))))) (V (Int.toNat (Go.VS.cvI Go.IntKind.u64 (Go.VS.lenI (ByteArray.size v))))))))))
                         (some ((Go.Value.tuple (Array.mk [(Go.Value.slice (Option.some (Go.Addr.mk 0 0 none)) (Nat.add (List.length (HAppend.hAppend (List.map Go.VS.byteOf (Go.VS.takeC (Nat.mul (Nat.add (List.length (HAppend.hAppend (List.map Go.VS.byteOf (Go.VS.takeC (Nat.mul (Nat.add n 1) 1) (Go.VS.dropC 0 (List.append (Go.VS.oldC 0 c) [(Go.Value.int Go.IntKind.u8 (0 : Int))])))) (V (Int.toNat (Go.VS.cvI Go.IntKind.u64 (Go.VS.lenI (ByteArray.size k))))))) (ByteArray.size k)) 1) (Go.VS.dropC 0 (List.append (Go.VS.oldC 0 (Go.VS.renL Bool.false (Go.VS.shiftN 14) (Go.VS.bc (HAppend.hAppend (List.map Go.VS.byteOf (Go.VS.takeC (Nat.mul (Nat.add n 1) 1) (Go.VS.dropC 0 (List.append (Go.VS.oldC 0 c) [(Go.Value.int Go.IntKind.u8 (0 : Int))])))) (V (Int.toNat (Go.VS.cvI Go.IntKind.u64 (Go.VS.lenI (ByteArray.size k))))))))) (Go.byteCells k))))) (V (Int.toNat (Go.VS.cvI Go.IntKind.u64 (Go.VS.lenI (ByteArray.size v))))))) (ByteArray.size v)) 18446744073709551616), (Go.Value.int Go.IntKind.i64 (0 : Int))])), (Go.VS.mkSt [(Go.VS.Blk.cells (Go.VS.renL Bool.true (Go.VS.rhoO 0 [17]) (List.append (Go.VS.oldC 0 (Go.VS.renL Bool.false (Go.VS.shiftN 16) (Go.VS.bc (HAppend.hAppend (List.map Go.VS.byteOf (Go.VS.takeC (Nat.mul (Nat.add (List.length (HAppend.hAppend (List.map Go.VS.byteOf (Go.VS.takeC (Nat.mul (Nat.add n 1) 1) (Go.VS.dropC 0 (List.append (Go.VS.oldC 0 c) [(Go.Value.int Go.IntKind.u8 (0 : Int))])))) (V (Int.toNat (Go.VS.cvI Go.IntKind.u64 (Go.VS.lenI (ByteArray.size k))))))) (ByteArray.size k)) 1) (Go.VS.dropC 0 (List.append (Go.VS.oldC 0 (Go.VS.renL Bool.false (Go.VS.shiftN 14) (Go.VS.bc (HAppend.hAppend (List.map Go.VS.byteOf (Go.VS.takeC (Nat.mul (Nat.add n 1) 1) (Go.VS.dropC 0 (List.append (Go.VS.oldC 0 c) [(Go.Value.int Go.IntKind.u8 (0 : Int))])))) (V (Int.toNat (Go.VS.cvI Go.IntKind.u64 (Go.VS.lenI (ByteArray.size k))))))))) (Go.byteCells k))))) (V (Int.toNat (Go.VS.cvI Go.IntKind.u64 (Go.VS.lenI (ByteArray.size v))))))))) (Go.byteCells v))) 5 Bool.false)])))))))))
                   (some ((Go.Value.tuple (Array.mk [(Go.Value.slice (Option.some (Go.Addr.mk 0 0 none)) (Nat.add (List.length (HAppend.hAppend (List.map Go.VS.byteOf (Go.VS.takeC (Nat.mul (Nat.add n 1) 1) (Go.VS.dropC 0 (List.append (Go.VS.oldC 0 c) [(Go.Value.int Go.IntKind.u8 (0 : Int))])))) (V (Int.toNat (Go.VS.cvI Go.IntKind.u64 (Go.VS.lenI (ByteArray.size k))))))) (ByteArray.size k)) 18446744073709551616), (Go.Value.int Go.IntKind.i64 (0 : Int))])), (Go.VS.mkSt [(Go.VS.Blk.cells (Go.VS.renL Bool.true (Go.VS.rhoO 0 [15]) (List.append (Go.VS.oldC 0 (Go.VS.renL Bool.false (Go.VS.shiftN 14) (Go.VS.bc (HAppend.hAppend (List.map Go.VS.byteOf (Go.VS.takeC (Nat.mul (Nat.add n 1) 1) (Go.VS.dropC 0 (List.append (Go.VS.oldC 0 c) [(Go.Value.int Go.IntKind.u8 (0 : Int))])))) (V (Int.toNat (Go.VS.cvI Go.IntKind.u64 (Go.VS.lenI (ByteArray.size k))))))))) (Go.byteCells k))) 5 Bool.false)])))))))))))))))))))
   (some ((Go.Value.tuple (Array.mk [(Go.Value.slice none 0 0), (Go.Value.int Go.IntKind.i64 (2 : Int))])), (Go.VS.mkSt [])))) := by kernel_rfl
theorem dec_rOpApp (V : Nat → List UInt8) (C : Int → Bool) (O : Bool → ByteArray → ByteArray → Bool) (n b : Nat) (c : List Value) (p : Bool) (k v : ByteArray) : callQ P E (ctAv V C O) 50 30 [mkFz 1 n b c, .agg ⟨[.bool p, .string k, .string v]⟩] =
  (iteB (O p k v)
   (needB (List.all c Go.VS.oneCell)
    (needB (Bool.and (Nat.beq 0 0) (Bool.and (Nat.beq 0 0) (Nat.ble n 4194304)))
     (iteB p
      (needB (Nat.ble (Nat.add n 1) 4194304)
       (needB (Nat.beq (Nat.add 0 (Nat.mul n 1)) (List.length c))
        (needB (Bool.and (Nat.ble (Nat.add 0 (Nat.mul (Nat.add n 1) 1)) (List.length (List.append (Go.VS.oldC 0 c) [(Go.Value.int Go.IntKind.u8 (1 : Int))]))) (Nat.ble 1 1))
         (needB (Go.VS.flatL (Go.VS.takeC (Nat.mul (Nat.add n 1) 1) (Go.VS.dropC 0 (List.append (Go.VS.oldC 0 c) [(Go.Value.int Go.IntKind.u8 (1 : Int))]))))
          (needB (Bool.and (Go.VS.Try.fzB 18446744073709551617 (Nat.add n 1) (Go.VS.takeC (Nat.mul (Nat.add n 1) 1) (Go.VS.dropC 0 (List.append (Go.VS.oldC 0 c) [(Go.Value.int Go.IntKind.u8 (1 : Int))])))) (C (Go.VS.cvI Go.IntKind.u64 (Go.VS.lenI (ByteArray.size k)))))
           (needB (List.all (Go.byteCells k) Go.VS.oneCell)
            (needB (Nat.ble (Nat.add (List.length (HAppend.hAppend (List.map Go.VS.byteOf (Go.VS.takeC (Nat.mul (Nat.add n 1) 1) (Go.VS.dropC 0 (List.append (Go.VS.oldC 0 c) [(Go.Value.int Go.IntKind.u8 (1 : Int))])))) (V (Int.toNat (Go.VS.cvI Go.IntKind.u64 (Go.VS.lenI (ByteArray.size k))))))) (ByteArray.size k)) 4194304)
             (needB (Nat.beq (Nat.add 0 (Nat.mul (List.length (HAppend.hAppend (List.map Go.VS.byteOf (Go.VS.takeC (Nat.mul (Nat.add n 1) 1) (Go.VS.dropC 0 (List.append (Go.VS.oldC 0 c) [(Go.Value.int Go.IntKind.u8 (1 : Int))])))) (V (Int.toNat (Go.VS.cvI Go.IntKind.u64 (Go.VS.lenI (ByteArray.size k))))))) 1)) (List.length (Go.VS.renL Bool.false (Go.VS.shiftN 4) (Go.VS.bc (HAppend.hAppend (List.map Go.VS.byteOf (Go.VS.takeC (Nat.mul (Nat.add n 1) 1) (Go.VS.dropC 0 (List.append (Go.VS.oldC 0 c) [(Go.Value.int Go.IntKind.u8 (1 : Int))])))) (V (Int.toNat (Go.VS.cvI Go.IntKind.u64 (Go.VS.lenI (ByteArray.size k))))))))))
              (iteB p
               (needB (Bool.and (Nat.ble (Nat.add 0 (Nat.mul (Nat.add (List.length (HAppend.hAppend (List.map Go.VS.byteOf (Go.VS.takeC (Nat.mul (Nat.add n 1) 1) (Go.VS.dropC 0 (List.append (Go.VS.oldC 0 c) [(Go.Value.int Go.IntKind.u8 (1 : Int))])))) (V (Int.toNat (Go.VS.cvI Go.IntKind.u64 (Go.VS.lenI (ByteArray.size k))))))) (ByteArray.size k)) 1)) (List.length (List.append (Go.VS.oldC 0 (Go.VS.renL Bool.false (Go.VS.shiftN 4) (Go.VS.bc (HAppend.hAppend (List.map Go.VS.byteOf (Go.VS.takeC (Nat.mul (Nat.add n 1) 1) (Go.VS.dropC 0 (List.append (Go.VS.oldC 0 c) [(Go.Value.int Go.IntKind.u8 (1 : Int))])))) (V (Int.toNat (Go.VS.cvI Go.IntKind.u64 (Go.VS.lenI (ByteArray.size k))))))))) (Go.byteCells k)))) (Nat.ble 1 1))
                (needB (Go.VS.flatL (Go.VS.takeC (Nat.mul (Nat.add (List.length (HAppend.hAppend (List.map Go.VS.byteOf (Go.VS.takeC (Nat.mul (Nat.add n 1) 1) (Go.VS.dropC 0 (List.append (Go.VS.oldC 0 c) [(Go.Value.int Go.IntKind.u8 (1 : Int))])))) (V (Int.toNat (Go.VS.cvI Go.IntKind.u64 (Go.VS.lenI (ByteArray.size k))))))) (ByteArray.size k)) 1) (Go.VS.dropC 0 (List.append (Go.VS.oldC 0 (Go.VS.renL Bool.false (Go.VS.shiftN 4) (Go.VS.bc (HAppend.hAppend (List.map Go.VS.byteOf (Go.VS.takeC (Nat.mul (Nat.add n 1) 1) (Go.VS.dropC 0 (List.append (Go.VS.oldC 0 c) [(Go.Value.int Go.IntKind.u8 (1 : Int))])))) (V (Int.toNat (Go.VS.cvI Go.IntKind.u64 (Go.VS.lenI (ByteArray.size k))))))))) (Go.byteCells k)))))
                 (needB (Bool.and (Go.VS.Try.fzB 18446744073709551617 (Nat.add (List.length (HAppend.hAppend (List.map Go.VS.byteOf (Go.VS.takeC (Nat.mul (Nat.add n 1) 1) (Go.VS.dropC 0 (List.append (Go.VS.oldC 0 c) [(Go.Value.int Go.IntKind.u8 (1 : Int))])))) (V (Int.toNat (Go.VS.cvI Go.IntKind.u64 (Go.VS.lenI (ByteArray.size k))))))) (ByteArray.size k)) (Go.VS.takeC (Nat.mul (Nat.add (List.length (HAppend.hAppend (List.map Go.VS.byteOf (Go.VS.takeC (Nat.mul (Nat.add n 1) 1) (Go.VS.dropC 0 (List.append (Go.VS.oldC 0 c) [(Go.Value.int Go.IntKind.u8 (1 : Int))])))) (V (Int.toNat (Go.VS.cvI Go.IntKind.u64 (Go.VS.lenI (ByteArray.size k))))))) (ByteArray.size k)) 1) (Go.VS.dropC 0 (List.append (Go.VS.oldC 0 (Go.VS.renL Bool.false (Go.VS.shiftN 4) (Go.VS.bc (HAppend.hAppend (List.map Go.VS.byteOf (Go.VS.takeC (Nat.mul (Nat.add n 1) 1) (Go.VS.dropC 0 (List.append (Go.VS.oldC 0 c) [(Go.Value.int Go.IntKind.u8 (1 : Int))])))) (V (Int.toNat (Go.VS.cvI Go.IntKind.u64 (Go.VS.lenI (ByteArray.size k))))))))) (Go.byteCells k))))) (C (Go.VS.cvI Go.IntKind.u64 (Go.VS.lenI (ByteArray.size v)))))
                  (needB (List.all (Go.byteCells v) Go.VS.oneCell)
                   (needB (Nat.ble (Nat.add (List.length (HAppend.hAppend (List.map Go.VS.byteOf (Go.VS.takeC (Nat.mul (Nat.add (List.length (HAppend.hAppend (List.map Go.VS.byteOf (Go.VS.takeC (Nat.mul (Nat.add n 1) 1) (Go.VS.dropC 0 (List.append (Go.VS.oldC 0 c) [(Go.Value.int Go.IntKind.u8 (1 : Int))])))) (V (Int.toNat (Go.VS.cvI Go.IntKind.u64 (Go.VS.lenI (ByteArray.size k))))))) (ByteArray.size k)) 1) (Go.VS.dropC 0 (List.append (Go.VS.oldC 0 (Go.VS.renL Bool.false (Go.VS.shiftN 4) (Go.VS.bc (HAppend.hAppend (List.map Go.VS.byteOf (Go.VS.takeC (Nat.mul (Nat.add n 1) 1) (Go.VS.dropC 0 (List.append (Go.VS.oldC 0 c) [(Go.Value.int Go.IntKind.u8 (1 : Int))])))) (V (Int.toNat (Go.VS.cvI Go.IntKind.u64 (Go.VS.lenI (ByteArray.size k))))))))) (Go.byteCells k))))) (V (Int.toNat (Go.VS.cvI Go.IntKind.u64 (Go.VS.lenI (ByteArray.size v))))))) (ByteArray.size v)) 4194304)
                    (needB (Nat.beq (Nat.add 0 (Nat.mul (List.length (HAppend.hAppend (List.map Go.VS.byteOf (Go.VS.takeC (Nat.mul (Nat.add (List.length (HAppend.hAppend (List.map Go.VS.byteOf (Go.VS.takeC (Nat.mul (Nat.add n 1) 1) (Go.VS.dropC 0 (List.append (Go.VS.oldC 0 c) [(Go.Value.int Go.IntKind.u8 (1 : Int))])))) (V (Int.toNat (Go.VS.cvI Go.IntKind.u64 (Go.VS.lenI (ByteArray.size k))))))) (ByteArray.size k)) 1) (Go.VS.dropC 0 (List.append (Go.VS.oldC 0 (Go.VS.renL Bool.false (Go.VS.shiftN 4) (Go.VS.bc (HAppend.hAppend (List.map Go.VS.byteOf (Go.VS.takeC (Nat.mul (Nat.add n 1) 1) (Go.VS.dropC 0 (List.append (Go.VS.oldC 0 c) [(Go.Value.int Go.IntKind.u8 (1 : Int))])))) (V (Int.toNat (Go.VS.cvI Go.IntKind.u64 (Go.VS.lenI (ByteArray.size k))))))))) (Go.byteCells k))))) (V (Int.toNat (Go.VS.cvI Go.IntKind.u64 (Go.VS.lenI (ByteArray.size v))))))) 1)) (List.length (Go.VS.renL Bool.false (Go.VS.shiftN 6) (Go.VS.bc (HAppend.hAppend (List.map Go.VS.byteOf (Go.VS.takeC (Nat.mul (Nat.add (List.length (HAppend.hAppend (List.map Go.VS.byteOf (Go.VS.takeC (Nat.mul (Nat.add n 1) 1) (Go.VS.dropC 0 (List.append (Go.VS.oldC 0 c) [(Go.Value.int Go.IntKind.u8 (1 : Int))])))) (V (Int.toNat (Go.VS.cvI Go.IntKind.u64 (Go.VS.lenI (ByteArray.size k))))))) (ByteArray.size k)) 1) (Go.VS.dropC 0 (List.append (Go.VS.oldC 0 (Go.VS.renL Bool.false (Go.VS.shiftN 4) (Go.VS.bc (HAppend.hAppend (List.map Go.VS.byteOf (Go.VS.takeC (Nat.mul (Nat.add n 1) 1) (Go.VS.dropC 0 (List.append (Go.VS.oldC 0 c) [(Go.Value.int Go.IntKind.u8 (1 : Int))])))) (V (Int.toNat (Go.VS.cvI Go.IntKind.u64 (Go.VS.lenI (ByteArray.size k))))))))) (Go.byteCells k))))) (V (Int.toNat (Go.VS.cvI Go.IntKind.u64 (Go.VS.lenI (ByteArray.size v))))))))))
                     (some ((Go.Value.tuple (Array.mk [(Go.Value.slice (Option.some (Go.Addr.mk 0 0 none)) (Nat.add (List.length (HAppend.hAppend (List.map Go.VS.byteOf (Go.VS.takeC (Nat.mul (Nat.add (List.length (HAppend.hAppend (List.map Go.VS.byteOf (Go.VS.takeC (Nat.mul (Nat.add n 1) 1) (Go.VS.dropC 0 (List.append (Go.VS.oldC 0 c) [(Go.Value.int Go.IntKind.u8 (1 : Int))])))) (V (Int.toNat (Go.VS.cvI Go.IntKind.u64 (Go.VS.lenI (ByteArray.size k))))))) (ByteArray.size k)) 1) (Go.VS.dropC 0 (List.append (Go.VS.oldC 0 (Go.VS.renL Bool.false (Go.VS.shiftN 4) (Go.VS.bc (HAppend.hAppend (List.map Go.VS.byteOf (Go.VS.takeC (Nat.mul (Nat.add n 1) 1) (Go.VS.dropC 0 (List.append (Go.VS.oldC 0 c) [(Go.Value.int Go.IntKind.u8 (1 : Int))])))) (V (Int.toNat (Go.VS.cvI Go.IntKind.u64 (Go.VS.lenI (ByteArray.size k))))))))) (Go.byteCells k))))) (V (Int.toNat (Go.VS.cvI Go.IntKind.u64 (Go.VS.lenI (ByteArray.size v))))))) (ByteArray.size v)) 18446744073709551616), (Go.Value.int Go.IntKind.i64 (0 : Int))])), (Go.VS.mkSt [(Go.VS.Blk.cells (Go.VS.renL Bool.true (Go.VS.rhoO 0 [7]) (List.append (Go.VS.oldC 0 (Go.VS.renL Bool.false (Go.VS.shiftN 6) (Go.VS.bc (HAppend.hAppend (List.map Go.VS.byteOf (Go.VS.takeC (Nat.mul (Nat.add (List.length (HAppend.hAppend (List.map Go.VS.byteOf (Go.VS.takeC (Nat.mul (Nat.add n 1) 1) (Go.VS.dropC 0 (List.append (Go.VS.oldC 0 c) [(Go.Value.int Go.IntKind.u8 (1 : Int))])))) (V (Int.toNat (Go.VS.cvI Go.IntKind.u64 (Go.VS.lenI (ByteArray.size k))))))) (ByteArray.size k)) 1) (Go.VS.dropC 0 (List.append (Go.VS.oldC 0 (Go.VS.renL Bool.false (Go.VS.shiftN 4) (Go.VS.bc (HAppend.hAppend (List.map Go.VS.byteOf (Go.VS.takeC (Nat.mul (Nat.add n 1) 1) (Go.VS.dropC 0 (List.append (Go.VS.oldC 0 c) [(Go.Value.int Go.IntKind.u8 (1 : Int))])))) (V (Int.toNat (Go.VS.cvI Go.IntKind.u64 (Go.VS.lenI (ByteArray.size k))))))))) (Go.byteCells k))))) (V (Int.toNat (Go.VS.cvI Go.IntKind.u64 (Go.VS.lenI (ByteArray.size v))))))))) (Go.byteCells v))) 5 Bool.false)])))))))))
               (some ((Go.Value.tuple (Array.mk [(Go.Value.slice (Option.some (Go.Addr.mk 0 0 none)) (Nat.add (List.length (HAppend.hAppend (List.map Go.VS.byteOf (Go.VS.takeC (Nat.mul (Nat.add n 1) 1) (Go.VS.dropC 0 (List.append (Go.VS.oldC 0 c) [(Go.Value.int Go.IntKind.u8 (1 : Int))])))) (V (Int.toNat (Go.VS.cvI Go.IntKind.u64 (Go.VS.lenI (ByteArray.size k))))))) (ByteArray.size k)) 18446744073709551616), (Go.Value.int Go.IntKind.i64 (0 : Int))])), (Go.VS.mkSt [(Go.VS.Blk.cells (Go.VS.renL Bool.true (Go.VS.rhoO 0 [5]) (List.append (Go.VS.oldC 0 (Go.VS.renL Bool.false (Go.VS.shiftN 4) (Go.VS.bc (HAppend.hAppend (List.map Go.VS.byteOf (Go.VS.takeC (Nat.mul (Nat.add n 1) 1) (Go.VS.dropC 0 (List.append (Go.VS.oldC 0 c) [(Go.Value.int Go.IntKind.u8 (1 : Int))])))) (V (Int.toNat (Go.VS.cvI Go.IntKind.u64 (Go.VS.lenI (ByteArray.size k))))))))) (Go.byteCells k))) 5 Bool.false)]))))))))))))
      (needB (Nat.ble (Nat.add n 1) 4194304)
       (needB (Nat.beq (Nat.add 0 (Nat.mul n 1)) (List.length c))
        (needB (Bool.and (Nat.ble (Nat.add 0 (Nat.mul (Nat.add n 1) 1)) (List.length (List.append (Go.VS.oldC 0 c) [(Go.Value.int Go.IntKind.u8 (0 : Int))]))) (Nat.ble 1 1))
         (needB (Go.VS.flatL (Go.VS.takeC (Nat.mul (Nat.add n 1) 1) (Go.VS.dropC 0 (List.append (Go.VS.oldC 0 c) [(Go.Value.int Go.IntKind.u8 (0 : Int))]))))
          (needB (Bool.and (Go.VS.Try.fzB 18446744073709551617 (Nat.add n 1) (Go.VS.takeC (Nat.mul (Nat.add n 1) 1) (Go.VS.dropC 0 (List.append (Go.VS.oldC 0 c) [(Go.Value.int Go.IntKind.u8 (0 : Int))])))) (C (Go.VS.cvI Go.IntKind.u64 (Go.VS.lenI (ByteArray.size k)))))
           (needB (List.all (Go.byteCells k) Go.VS.oneCell)
            (needB (Nat.ble (Nat.add (List.length (HAppend.hAppend (List.map Go.VS.byteOf (Go.VS.takeC (Nat.mul (Nat.add n 1) 1) (Go.VS.dropC 0 (List.append (Go.VS.oldC 0 c) [(Go.Value.int Go.IntKind.u8 (0 : Int))])))) (V (Int.toNat (Go.VS.cvI Go.IntKind.u64 (Go.VS.lenI (ByteArray.size k))))))) (ByteArray.size k)) 4194304)
             (needB (Nat.beq (Nat.add 0 (Nat.mul (List.length (HAppend.hAppend (List.map Go.VS.byteOf (Go.VS.takeC (Nat.mul (Nat.add n 1) 1) (Go.VS.dropC 0 (List.append (Go.VS.oldC 0 c) [(Go.Value.int Go.IntKind.u8 (0 : Int))])))) (V (Int.toNat (Go.VS.cvI Go.IntKind.u64 (Go.VS.lenI (ByteArray.size k))))))) 1)) (List.length (Go.VS.renL Bool.false (Go.VS.shiftN 4) (Go.VS.bc (HAppend.hAppend (List.map Go.VS.byteOf (Go.VS.takeC (Nat.mul (Nat.add n 1) 1) (Go.VS.dropC 0 (List.append (Go.VS.oldC 0 c) [(Go.Value.int Go.IntKind.u8 (0 : Int))])))) (V (Int.toNat (Go.VS.cvI Go.IntKind.u64 (Go.VS.lenI (ByteArray.size k))))))))))
              (iteB p
               (needB (Bool.and (Nat.ble (Nat.add 0 (Nat.mul (Nat.add (List.length (HAppend.hAppend (List.map Go.VS.byteOf (Go.VS.takeC (Nat.mul (Nat.add n 1) 1) (Go.VS.dropC 0 (List.append (Go.VS.oldC 0 c) [(Go.Value.int Go.IntKind.u8 (0 : Int))])))) (V (Int.toNat (Go.VS.cvI Go.IntKind.u64 (Go.VS.lenI (ByteArray.size k))))))) (ByteArray.size k)) 1)) (List.length (List.append (Go.VS.oldC 0 (Go.VS.renL Bool.false (Go.VS.shiftN 4) (Go.VS.bc (HAppend.hAppend (List.map Go.VS.byteOf (Go.VS.takeC (Nat.mul (Nat.add n 1) 1) (Go.VS.dropC 0 (List.append (Go.VS.oldC 0 c) [(Go.Value.int Go.IntKind.u8 (0 : Int))])))) (V (Int.toNat (Go.VS.cvI Go.IntKind.u64 (Go.VS.lenI (ByteArray.size k))))))))) (Go.byteCells k)))) (Nat.ble 1 1))
                (needB (Go.VS.flatL (Go.VS.takeC (Nat.mul (Nat.add (List.length (HAppend.hAppend (List.map Go.VS.byteOf (Go.VS.takeC (Nat.mul (Nat.add n 1) 1) (Go.VS.dropC 0 (List.append (Go.VS.oldC 0 c) [(Go.Value.int Go.IntKind.u8 (0 : Int))])))) (V (Int.toNat (Go.VS.cvI Go.IntKind.u64 (Go.VS.lenI (ByteArray.size k))))))) (ByteArray.size k)) 1) (Go.VS.dropC 0 (List.append (Go.VS.oldC 0 (Go.VS.renL Bool.false (Go.VS.shiftN 4) (Go.VS.bc (HAppend.hAppend (List.map Go.VS.byteOf (Go.VS.takeC (Nat.mul (Nat.add n 1) 1) (Go.VS.dropC 0 (List.append (Go.VS.oldC 0 c) [(Go.Value.int Go.IntKind.u8 (0 : Int))])))) (V (Int.toNat (Go.VS.cvI Go.IntKind.u64 (Go.VS.lenI (ByteArray.size k))))))))) (Go.byteCells k)))))
                 (needB (Bool.and (Go.VS.Try.fzB 18446744073709551617 (Nat.add (List.length (HAppend.hAppend (List.map Go.VS.byteOf (Go.VS.takeC (Nat.mul (Nat.add n 1) 1) (Go.VS.dropC 0 (List.append (Go.VS.oldC 0 c) [(Go.Value.int Go.IntKind.u8 (0 : Int))])))) (V (Int.toNat (Go.VS.cvI Go.IntKind.u64 (Go.VS.lenI (ByteArray.size k))))))) (ByteArray.size k)) (Go.VS.takeC (Nat.mul (Nat.add (List.length (HAppend.hAppend (List.map Go.VS.byteOf (Go.VS.takeC (Nat.mul (Nat.add n 1) 1) (Go.VS.dropC 0 (List.append (Go.VS.oldC 0 c) [(Go.Value.int Go.IntKind.u8 (0 : Int))])))) (V (Int.toNat (Go.VS.cvI Go.IntKind.u64 (Go.VS.lenI (ByteArray.size k))))))) (ByteArray.size k)) 1) (Go.VS.dropC 0 (List.append (Go.VS.oldC 0 (Go.VS.renL Bool.false (Go.VS.shiftN 4) (Go.VS.bc (HAppend.hAppend (List.map Go.VS.byteOf (Go.VS.takeC (Nat.mul (Nat.add n 1) 1) (Go.VS.dropC 0 (List.append (Go.VS.oldC 0 c) [(Go.Value.int Go.IntKind.u8 (0 : Int))])))) (V (Int.toNat (Go.VS.cvI Go.IntKind.u64 (Go.VS.lenI (ByteArray.size k))))))))) (Go.byteCells k))))) (C (Go.VS.cvI Go.IntKind.u64 (Go.VS.lenI (ByteArray.size v)))))
                  (needB (List.all (Go.byteCells v) Go.VS.oneCell)
                   (needB (Nat.ble (Nat.add (List.length (HAppend.hAppend (List.map Go.VS.byteOf (Go.VS.takeC (Nat.mul (Nat.add (List.length (HAppend.hAppend (List.map Go.VS.byteOf (Go.VS.takeC (Nat.mul (Nat.add n 1) 1) (Go.VS.dropC 0 (List.append (Go.VS.oldC 0 c) [(Go.Value.int Go.IntKind.u8 (0 : Int))])))) (V (Int.toNat (Go.VS.cvI Go.IntKind.u64 (Go.VS.lenI (ByteArray.size k))))))) (ByteArray.size k)) 1) (Go.VS.dropC 0 (List.append (Go.VS.oldC 0 (Go.VS.renL Bool.false (Go.VS.shiftN 4) (Go.VS.bc (HAppend.hAppend (List.map Go.VS.byteOf (Go.VS.takeC (Nat.mul (Nat.add n 1) 1) (Go.VS.dropC 0 (List.append (Go.VS.oldC 0 c) [(Go.Value.int Go.IntKind.u8 (0 : Int))])))) (V (Int.toNat (Go.VS.cvI Go.IntKind.u64 (Go.VS.lenI (ByteArray.size k))))))))) (Go.byteCells k))))) (V (Int.toNat (Go.VS.cvI Go.IntKind.u64 (Go.VS.lenI (ByteArray.size v))))))) (ByteArray.size v)) 4194304)
                    (needB (Nat.beq (Nat.add 0 (Nat.mul (List.length (HAppend.hAppend (List.map Go.VS.byteOf (Go.VS.takeC (Nat.mul (Nat.add (List.length (HAppend.hAppend (List.map Go.VS.byteOf (Go.VS.takeC (Nat.mul (Nat.add n 1) 1) (Go.VS.dropC 0 (List.append (Go.VS.oldC 0 c) [(Go.Value.int Go.IntKind.u8 (0 : Int))])))) (V (Int.toNat (Go.VS.cvI Go.IntKind.u64 (Go.VS.lenI (ByteArray.size k))))))) (ByteArray.size k)) 1) (Go.VS.dropC 0 (List.append (Go.VS.oldC 0 (Go.VS.renL Bool.false (Go.VS.shiftN 4) (Go.VS.bc (HAppend.hAppend (List.map Go.VS.byteOf (Go.VS.takeC (Nat.mul (Nat.add n 1) 1) (Go.VS.dropC 0 (List.append (Go.VS.oldC 0 c) [(Go.Value.int Go.IntKind.u8 (0 : Int))])))) (V (Int.toNat (Go.VS.cvI Go.IntKind.u64 (Go.VS.lenI (ByteArray.size k))))))))) (Go.byteCells k))))) (V (Int.toNat (Go.VS.cvI Go.IntKind.u64 (Go.VS.lenI (ByteArray.size v))))))) 1)) (List.length (Go.VS.renL Bool.false (Go.VS.shiftN 6) (Go.VS.bc (HAppend.hAppend (List.map Go.VS.byteOf (Go.VS.takeC (Nat.mul (Nat.add (List.length (HAppend.hAppend (List.map Go.VS.byteOf (Go.VS.takeC (Nat.mul (Nat.add n 1) 1) (Go.VS.dropC 0 (List.append (Go.VS.oldC 0 c) [(Go.Value.int Go.IntKind.u8 (0 : Int))])))) (V (Int.toNat (Go.VS.cvI Go.IntKind.u64 (Go.VS.lenI (ByteArray.size k))))))) (ByteArray.size k)) 1) (Go.VS.dropC 0 (List.append (Go.VS.oldC 0 (Go.VS.renL Bool.false (Go.VS.shiftN 4) (Go.VS.bc (HAppend.hAppend (List.map Go.VS.byteOf (Go.VS.takeC (Nat.mul (Nat.add n 1) 1) (Go.VS.dropC 0 (List.append (Go.VS.oldC 0 c) [(Go.Value.int Go.IntKind.u8 (0 : Int))])))) (V (Int.toNat (Go.VS.cvI Go.IntKind.u64 (Go.VS.lenI (ByteArray.size k))))))))) (Go.byteCells k))))) (V (Int.toNat (Go.VS.cvI Go.IntKind.u64 (Go.VS.lenI (ByteArray.size v))))))))))
                     (some ((Go.Value.tuple (Array.mk [(Go.Value.slice (Option.some (Go.Addr.mk 0 0 none)) (Nat.add (List.length (HAppend.hAppend (List.map Go.VS.byteOf (Go.VS.takeC (Nat.mul (Nat.add (List.length (HAppend.hAppend (List.map Go.VS.byteOf (Go.VS.takeC (Nat.mul (Nat.add n 1) 1) (Go.VS.dropC 0 (List.append (Go.VS.oldC 0 c) [(Go.Value.int Go.IntKind.u8 (0 : Int))])))) (V (Int.toNat (Go.VS.cvI Go.IntKind.u64 (Go.VS.lenI (ByteArray.size k))))))) (ByteArray.size k)) 1) (Go.VS.dropC 0 (List.append (Go.VS.oldC 0 (Go.VS.renL Bool.false (Go.VS.shiftN 4) (Go.VS.bc (HAppend.hAppend (List.map Go.VS.byteOf (Go.VS.takeC (Nat.mul (Nat.add n 1) 1) (Go.VS.dropC 0 (List.append (Go.VS.oldC 0 c) [(Go.Value.int Go.IntKind.u8 (0 : Int))])))) (V (Int.toNat (Go.VS.cvI Go.IntKind.u64 (Go.VS.lenI (ByteArray.size k))))))))) (Go.byteCells k))))) (V (Int.toNat (Go.VS.cvI Go.IntKind.u64 (Go.VS.lenI (ByteArray.size v))))))) (ByteArray.size v)) 18446744073709551616), (Go.Value.int Go.IntKind.i64 (0 : Int))])), (Go.VS.mkSt [(Go.VS.Blk.cells (Go.VS.renL Bool.true (Go.VS.rhoO 0 [7]) (List.append (Go.VS.oldC 0 (Go.VS.renL Bool.false (Go.VS.shiftN 6) (Go.VS.bc (HAppend.hAppend (List.map Go.VS.byteOf (Go.VS.takeC (Nat.mul (Nat.add (List.length (HAppend.hAppend (List.map Go.VS.byteOf (Go.VS.takeC (Nat.mul (Nat.add n 1) 1) (Go.VS.dropC 0 (List.append (Go.VS.oldC 0 c) [(Go.Value.int Go.IntKind.u8 (0 : Int))])))) (V (Int.toNat (Go.VS.cvI Go.IntKind.u64 (Go.VS.lenI (ByteArray.size k))))))) (ByteArray.size k)) 1) (Go.VS.dropC 0 (List.append (Go.VS.oldC 0 (Go.VS.renL Bool.false (Go.VS.shiftN 4) (Go.VS.bc (HAppend.hAppend (List.map Go.VS.byteOf (Go.VS.takeC (Nat.mul (Nat.add n 1) 1) (Go.VS.dropC 0 (List.append (Go.VS.oldC 0 c) [(Go.Value.int Go.IntKind.u8 (0 : Int))])))) (V (Int.toNat (Go.VS.cvI Go.IntKind.u64 (Go.VS.lenI (ByteArray.size k))))))))) (Go.byteCells k))))) (V (Int.toNat (Go.VS.cvI Go.IntKind.u64 (Go.VS.lenI (ByteArray.size v))))))))) (Go.byteCells v))) 5 Bool.false)])))))))))
               (some ((Go.Value.tuple (Array.mk [(Go.Value.slice (Option.some (Go.Addr.mk 0 0 none)) (Nat.add (List.length (HAppend.hAppend (List.map Go.VS.byteOf (Go.VS.takeC (Nat.mul (Nat.add n 1) 1) (Go.VS.dropC 0 (List.append (Go.VS.oldC 0 c) [(Go.Value.int Go.IntKind.u8 (0 : Int))])))) (V (Int.toNat (Go.VS.cvI Go.IntKind.u64 (Go.VS.lenI (ByteArray.size k))))))) (ByteArray.size k)) 18446744073709551616), (Go.Value.int Go.IntKind.i64 (0 : Int))])), (Go.VS.mkSt [(Go.VS.Blk.cells (Go.VS.renL Bool.true (Go.VS.rhoO 0 [5]) (List.append (Go.VS.oldC 0 (Go.VS.renL Bool.false (Go.VS.shiftN 4) (Go.VS.bc (HAppend.hAppend (List.map Go.VS.byteOf (Go.VS.takeC (Nat.mul (Nat.add n 1) 1) (Go.VS.dropC 0 (List.append (Go.VS.oldC 0 c) [(Go.Value.int Go.IntKind.u8 (0 : Int))])))) (V (Int.toNat (Go.VS.cvI Go.IntKind.u64 (Go.VS.lenI (ByteArray.size k))))))))) (Go.byteCells k))) 5 Bool.false)])))))))))))))))
   (some ((Go.Value.tuple (Array.mk [(Go.Value.slice none 0 0), (Go.Value.int Go.IntKind.i64 (2 : Int))])), (Go.VS.mkSt [])))) := by kernel_rfl
/-- A nil list is a list of none. -/
theorem CR.nil {F : Nat} {v : Value} {bs : List Blk} {l : List Value} (h : CR P F (mkFz 1 0 0 (bc []) :: l) v bs) : CR P F (.slice none 0 0 :: l) v bs := by
  intro w args' cs obs ha
  refine h w args' cs obs ?_
  simp only [VRL] at ha ⊢
  obtain ⟨y, ys, e, hy, hys⟩ := ha
  refine ⟨y, ys, e, ?_, hys⟩
  have hy : y = .slice none 0 0 := hy
  subst hy
  refine fz_mk (by decide) ?_
  unfold FrzR
  rw [if_neg (by decide)]
  exact ⟨rfl, Or.inl ⟨rfl, by omega, rfl⟩⟩
/-! ### lists of bytes in trees of cases -/
theorem fz_iff {n : Nat} {l : List UInt8} : fzB 18446744073709551617 n (bc l) = true ↔ n = l.length ∧ l.length + 64 ≤ 4194304 := by
  rw [← fz1]
  constructor
  · intro h
    obtain ⟨_, h2, _, h4⟩ := fzB_of h
    rw [bc_length] at h2 h4
    exact ⟨h2, h4⟩
  · rintro ⟨h1, h2⟩
    exact fzB_bc h1 h2
theorem u64_iff {x : Int} : u64B x = true ↔ 0 ≤ x ∧ x < 18446744073709551616 := by unfold u64B inI; simp
theorem beqO (p : Bool) (k v : ByteArray) : beqV (.agg ⟨[.bool p, .string k, .string v]⟩) (.agg ⟨[.bool p, .string k, .string v]⟩) = true := same_agg rfl
theorem len_u64 (s : ByteArray) (h : s.size < 4611686018427387904) : cvI .u64 (lenI s.size) = (s.size : Int) := wrapU64_nat (by omega)
/-! ### what an op's bytes are -/
def encT (s : ByteArray) : List UInt8 := varM s.size ++ s.data.toList
def encO (p : Bool) (k v : ByteArray) : List UInt8 := (bif p then 1 else 0) :: (encT k ++ (bif p then encT v else []))
theorem opOk_of {p : Bool} {k v : ByteArray} (h : opOk p k v = true) : 1 ≤ k.size ∧ k.size ≤ 16 ∧ v.size ≤ 32 ∧ (p = true ∨ v.data.toList = []) := by
  unfold opOk at h
  simp only [Bool.and_eq_true, decide_eq_true_eq, Bool.or_eq_true, beq_iff_eq] at h
  exact ⟨h.1.1.1, h.1.1.2, h.1.2, h.2⟩
theorem encO_eq (l : List UInt8) (k v : ByteArray) (p : Bool) (x : UInt8) (hx : x = bif p then 1 else 0) : l ++ [x] ++ varM k.size ++ k.data.toList ++ (bif p then encT v else []) = l ++ encO p k v := by
  subst hx
  simp [encO, encT]
theorem tup_sl {n m : Nat} (e : Value) (h : n = m) : Value.tuple ⟨[.slice (some ⟨0, 0, none⟩) n 18446744073709551616, e]⟩ = .tuple ⟨[sl 0 m, e]⟩ := by subst h; rfl
theorem size_mk (a : List UInt8) : (⟨⟨a⟩⟩ : ByteArray).size = a.length := rfl
theorem opApp_run {l : List UInt8} {b : Nat} {p : Bool} {k v : ByteArray} (hl : l.length + 128 ≤ 4194304) (ho : opOk p k v = true) : callQ P E ctA 50 29 [mkFz 1 l.length b (bc l), .agg ⟨[.bool p, .string k, .string v]⟩] =
    some (.tuple ⟨[sl 0 (l ++ encO p k v).length, .int .i64 0]⟩, mkSt [.cells (bc (l ++ encO p k v)) 5 false]) := by
  obtain ⟨h1, h2, h3, h4⟩ := opOk_of ho
  have hk := size_eq k
  have hv := size_eq v
  have vk := varM_length k.size
  have vv := varM_length v.size
  unfold ctA
  rw [dec_opApp]
  refine ite_t ho ?_
  simp (disch := (simp; try omega)) only [oldC_zero, one_bc, zero_bc, app_bc, take_bc, bc_back, byteCells_bc, bc_length, bc_ren, len_u64 k (by omega), len_u64 v (by omega), Int.toNat_natCast]
  cases p <;>
  simp (disch := first | rfl | (simp only [bool_and, ble_iff, beq_iff, fz_iff, u64_iff, bc_one, bc_flat, beqS, beqO, Nat.add_eq, Nat.mul_eq, List.length_append, List.length_cons, List.length_nil, and_true, true_and, and_self] <;> omega)) only [need_true, ite_true, ite_false]
  · refine leaf_eq ?_ ?_
    · refine tup_sl _ ?_
      rw [← encO_eq l k v false 0 rfl]
      simp only [List.length_append, Nat.add_eq, cond_false, List.length_nil] <;> omega
    · rw [← encO_eq l k v false 0 rfl]; simp
  · refine leaf_eq ?_ ?_
    · refine tup_sl _ ?_
      rw [← encO_eq l k v true 1 rfl]
      simp only [List.length_append, Nat.add_eq, cond_true, encT] <;> omega
    · rw [← encO_eq l k v true 1 rfl]; simp [encT]
theorem rOpApp_run {l : List UInt8} {b : Nat} {p : Bool} {k v : ByteArray} (hl : l.length + 128 ≤ 4194304) (ho : opOk p k v = true) : callQ P E ctA 50 30 [mkFz 1 l.length b (bc l), .agg ⟨[.bool p, .string k, .string v]⟩] =
    some (.tuple ⟨[sl 0 (l ++ encO p k v).length, .int .i64 0]⟩, mkSt [.cells (bc (l ++ encO p k v)) 5 false]) := by
  obtain ⟨h1, h2, h3, h4⟩ := opOk_of ho
  have hk := size_eq k
  have hv := size_eq v
  have vk := varM_length k.size
  have vv := varM_length v.size
  unfold ctA
  rw [dec_rOpApp]
  refine ite_t ho ?_
  simp (disch := (simp; try omega)) only [oldC_zero, one_bc, zero_bc, app_bc, take_bc, bc_back, byteCells_bc, bc_length, bc_ren, len_u64 k (by omega), len_u64 v (by omega), Int.toNat_natCast]
  cases p <;>
  simp (disch := first | rfl | (simp only [bool_and, ble_iff, beq_iff, fz_iff, u64_iff, bc_one, bc_flat, beqS, beqO, Nat.add_eq, Nat.mul_eq, List.length_append, List.length_cons, List.length_nil, and_true, true_and, and_self] <;> omega)) only [need_true, ite_true, ite_false]
  · refine leaf_eq ?_ ?_
    · refine tup_sl _ ?_
      rw [← encO_eq l k v false 0 rfl]
      simp only [List.length_append, Nat.add_eq, cond_false, List.length_nil] <;> omega
    · rw [← encO_eq l k v false 0 rfl]; simp
  · refine leaf_eq ?_ ?_
    · refine tup_sl _ ?_
      rw [← encO_eq l k v true 1 rfl]
      simp only [List.length_append, Nat.add_eq, cond_true, encT] <;> omega
    · rw [← encO_eq l k v true 1 rfl]; simp [encT]
/-! ### the contract of both -/
def fzW (t n : Nat) (c : List Value) : Bool := fzB t n c && Nat.ble (c.length + 128) 4194304
def RopAV (O : Bool → ByteArray → ByteArray → Bool) (A : List UInt8 → Bool → ByteArray → ByteArray → List UInt8) : CallFn
  | [.iface t (.agg ⟨.slice none n b :: c⟩), .agg ⟨[.bool p, .string k, .string v]⟩] => some (.ite (fzW t n c) (.ite (O p k v) (.leaf (.tuple ⟨[sl 0 (A (c.map byteOf) p k v).length, .int .i64 0]⟩, [.cells (bc (A (c.map byteOf) p k v)) 5 false])) (.leaf (.tuple ⟨[.slice none 0 0, .int .i64 2]⟩, []))) .fail)
  | [.slice none n b, .agg ⟨[.bool p, .string k, .string v]⟩] => some (.ite (Nat.beq n 0 && Nat.beq b 0) (.ite (O p k v) (.leaf (.tuple ⟨[sl 0 (A [] p k v).length, .int .i64 0]⟩, [.cells (bc (A [] p k v)) 5 false])) (.leaf (.tuple ⟨[.slice none 0 0, .int .i64 2]⟩, []))) .fail)
  | _ => none
def appO (l : List UInt8) (p : Bool) (k v : ByteArray) : List UInt8 := l ++ encO p k v
def RopA : CallFn := RopAV opOk appO
theorem opA_any {F : Nat} (h : ∀ {l : List UInt8} {b : Nat} {p : Bool} {k v : ByteArray}, l.length + 128 ≤ 4194304 → opOk p k v = true → callQ P E ctA 50 F [mkFz 1 l.length b (bc l), .agg ⟨[.bool p, .string k, .string v]⟩] =
    some (.tuple ⟨[sl 0 (l ++ encO p k v).length, .int .i64 0]⟩, mkSt [.cells (bc (l ++ encO p k v)) 5 false]))
    (h0 : ∀ {l : List UInt8} {b : Nat} {p : Bool} {k v : ByteArray}, opOk p k v = false → callQ P E ctA 50 F [mkFz 1 l.length b (bc l), .agg ⟨[.bool p, .string k, .string v]⟩] = some (.tuple ⟨[.slice none 0 0, .int .i64 2]⟩, mkSt [])) : CallOkR P F RopA := by
  have key : ∀ {l : List UInt8} {b : Nat} {p : Bool} {k v : ByteArray} (hl : l.length + 128 ≤ 4194304) {r : Value} {bs : List Blk}, (DT.ite (opOk p k v) (DT.leaf (Value.tuple ⟨[sl 0 (appO l p k v).length, .int .i64 0]⟩, [Blk.cells (bc (appO l p k v)) 5 false])) (.leaf (.tuple ⟨[.slice none 0 0, .int .i64 2]⟩, []))).eval = some (r, bs) →
      CR P F [mkFz 1 l.length b (bc l), .agg ⟨[.bool p, .string k, .string v]⟩] r bs := by
    intro l b p k v hl r bs hev
    refine CR.of (n := 50) (engOk ctA) noNum ctA_ok ?_
    cases ho : opOk p k v with
    | true =>
      rw [ho] at hev
      simp only [DT.eval, Option.some.injEq, Prod.mk.injEq] at hev
      obtain ⟨rfl, rfl⟩ := hev
      exact h hl ho
    | false =>
      rw [ho] at hev
      simp only [DT.eval, Option.some.injEq, Prod.mk.injEq] at hev
      obtain ⟨rfl, rfl⟩ := hev
      exact h0 ho
  refine ⟨fun args t hR v bs hev => ?_⟩
  unfold RopA RopAV at hR
  split at hR
  · rename_i t n b c p k w
    obtain rfl := Option.some.inj hR
    cases hc : fzW t n c with
    | false => rw [hc] at hev; cases hev
    | true =>
      rw [hc] at hev
      unfold fzW at hc
      simp only [Bool.and_eq_true] at hc
      obtain ⟨rfl, rfl, ⟨l, rfl, hl⟩, h4⟩ := fzB_of hc.1
      have h5 := Nat.le_of_ble_eq_true hc.2
      rw [← hl] at hev
      rw [bc_length] at h5 ⊢
      exact key h5 hev
  · rename_i n b p k w
    obtain rfl := Option.some.inj hR
    cases hc : Nat.beq n 0 && Nat.beq b 0 with
    | false => rw [hc] at hev; cases hev
    | true =>
      rw [hc] at hev
      simp only [Bool.and_eq_true] at hc
      obtain rfl := Nat.eq_of_beq_eq_true hc.1
      obtain rfl := Nat.eq_of_beq_eq_true hc.2
      exact CR.nil (key (l := []) (b := 0) (by simp) hev)
  · cases hR
theorem opApp_ok : CallOkR P 29 RopA := opA_any opApp_run fun {l b p k v} ho => by unfold ctA; rw [dec_opApp]; exact ite_f ho rfl
theorem rOpApp_ok : CallOkR P 30 RopA := opA_any rOpApp_run fun {l b p k v} ho => by unfold ctA; rw [dec_rOpApp]; exact ite_f ho rfl
end Go.VS.Try
end

section
namespace Go.VS.Try
set_option linter.unusedSimpArgs false
set_option linter.unusedVariables false
set_option maxRecDepth 1000000
open Go.VS
/-- Is a byte in a text? (strings.Contains) -/
def inB (s : ByteArray) (c : UInt8) : Bool := decide (0 ≤ Lib.indexByte s.data.toList c)
def RinV (Q : ByteArray → UInt8 → Bool) : CallFn
  | [.string s, .string ⟨⟨[c]⟩⟩] => some (.leaf (.bool (Q s c), []))
  | _ => none
theorem in_ok : CallOkR P 41 (RinV inB) := by
  refine ⟨fun args t hR v bs hev => ?_⟩
  unfold RinV at hR
  split at hR
  · rename_i s c
    obtain rfl := Option.some.inj hR
    simp only [DT.eval, Option.some.injEq, Prod.mk.injEq] at hev
    obtain ⟨rfl, rfl⟩ := hev
    refine CR.ofCalls rfl fun w args' ha => ?_
    simp only [VRL] at ha
    obtain ⟨y, ys, e, hy, z, zs, rfl, hz, rfl⟩ := ha
    have hy : y = .string s := hy
    have hz : z = .string ⟨⟨[c]⟩⟩ := hz
    subst hy hz
    obtain ⟨l⟩ := args'
    simp only at e
    subst e
    exact (Go.Proofs.Try.strings_Contains_one s c w).mono fun e w' ⟨h1, h2⟩ => ⟨h1, by rw [h2]; exact Go.RowKit.Below.refl _ _⟩
  · cases hR
def RWordV (W : ByteArray → ByteArray) : CallFn
  | [.string s] => some (.ite (Nat.ble (3 * s.size) 4194304) (.leaf (.string (W s), [])) .fail)
  | _ => none
def RBytesV (B : ByteArray → ByteArray) (Z : ByteArray → Int) : CallFn
  | [.string s] => some (.ite (Nat.ble s.size 4194304) (.leaf (.tuple ⟨[.string (B s), .int .i64 (Z s)]⟩, [])) .fail)
  | _ => none
def wordT (s : ByteArray) : ByteArray := ⟨⟨wordM s.data.toList⟩⟩
def unT (s : ByteArray) : ByteArray := ⟨⟨(bytesM s.data.toList).1⟩⟩
def unE (s : ByteArray) : Int := (bytesM s.data.toList).2
theorem RWord_eq : RWord = RWordV wordT := rfl
theorem RBytes_eq : RBytes = RBytesV unT unE := rfl
noncomputable def ctBv (Q : List UInt8 → List UInt8 → Bool) (A : List UInt8 → Bool) (B C : List UInt8 → ByteArray) (N Z : List UInt8 → Int) (O : Bool → ByteArray → ByteArray → Bool) (G : List UInt8 → Bool → ByteArray → ByteArray → List UInt8) (W U : ByteArray → ByteArray) (Y : ByteArray → Int) (I : ByteArray → UInt8 → Bool) : Ct :=
  addCall P 41 (RinV I) (addCall P 23 (RBytesV U Y) (addCall P 26 (RWordV W) (addCall P 29 (RopAV O G)
    (addCall P 25 RlivesB (addCall P 35 (RsameV Q) (addCall P 38 (RopRdT A B C N Z) ctS))))))
noncomputable def ctB : Ct := ctBv sameL oP oK oV oN oE opOk appO wordT unT unE inB
theorem ctB_ok : CtOk P ctB := addCall_ok (addCall_ok (addCall_ok (addCall_ok (addCall_ok (addCall_ok (addCall_ok ctS_ok (opRdT_ok opRead_ok)) same_ok) lives_ok) opApp_ok) word_ok) Bytes_ok) in_ok
theorem dec_opBack (Q : List UInt8 → List UInt8 → Bool) (A : List UInt8 → Bool) (B C : List UInt8 → ByteArray) (N Z : List UInt8 → Int) (O : Bool → ByteArray → ByteArray → Bool) (G : List UInt8 → Bool → ByteArray → ByteArray → List UInt8) (W U : ByteArray → ByteArray) (Y : ByteArray → Int) (I : ByteArray → UInt8 → Bool) (p : Bool) (k v : ByteArray) (n b : Nat) (c : List Value) (s t : ByteArray) : callQ P E (ctBv Q A B C N Z O G W U Y I) 200 10 [.agg ⟨[.bool p, .string k, .string v]⟩, mkFz 1 n b c, .string s, .string t] =
  (iteB (O p k v)
   (needB (Nat.ble (Nat.add 0 (Nat.mul (List.length (G [] p k v)) 1)) (List.length (Go.VS.renL Bool.false (Go.VS.shiftN 1) (Go.VS.bc (G [] p k v)))))
    (needB (List.all (Go.VS.takeC (Nat.mul (List.length (G [] p k v)) 1) (Go.VS.dropC 0 (Go.VS.renL Bool.false (Go.VS.shiftN 1) (Go.VS.bc (G [] p k v))))) Go.VS.oneCell)
     (needB (Nat.ble (Nat.add 0 (List.length (G [] p k v))) 4194304)
      (iteB (Nat.beq (List.length (G [] p k v)) 0)
       (needB (List.all c Go.VS.oneCell)
        (needB (Nat.ble (Nat.add 0 n) 4194304)
         (iteB (Nat.beq n 0)
          (iteB (Go.VS.neI (Z []) (0 : Int))
           (some ((Go.Value.bool Bool.false), (Go.VS.mkSt [])))
           (iteB (Go.VS.notB (Bool.and (Go.VS.eqB (A []) p) (Bool.and (Go.VS.eqS (B []) k) (Bool.and (Go.VS.eqS (C []) v) Bool.true))))
            (some ((Go.Value.bool Bool.false), (Go.VS.mkSt [])))
            (iteB (Go.VS.neI (N []) (Go.VS.lenI (List.length (G [] p k v))))
             (some ((Go.Value.bool Bool.false), (Go.VS.mkSt [])))
             (needB (Go.VS.Try.fzB 18446744073709551617 n c)
              (iteB (Go.VS.eqI (Z (List.map Go.VS.byteOf c)) (0 : Int))
               (iteB (O (A (List.map Go.VS.byteOf c)) (B (List.map Go.VS.byteOf c)) (C (List.map Go.VS.byteOf c)))
                (iteB (Go.VS.gtI (N (List.map Go.VS.byteOf c)) (Go.VS.lenI n))
                 (some ((Go.Value.bool Bool.false), (Go.VS.mkSt [])))
                 (needB (Bool.and (Nat.beq 1 1) (Go.VS.cutI (0 : Int) (N (List.map Go.VS.byteOf c)) n))
                  (needB (Bool.and (Nat.ble (Nat.add 0 (Nat.mul (List.length (G [] (A (List.map Go.VS.byteOf c)) (B (List.map Go.VS.byteOf c)) (C (List.map Go.VS.byteOf c)))) 1)) (List.length (Go.VS.renL Bool.false (Go.VS.shiftN 5) (Go.VS.bc (G [] (A (List.map Go.VS.byteOf c)) (B (List.map Go.VS.byteOf c)) (C (List.map Go.VS.byteOf c))))))) (Nat.ble 1 1))
                   (needB (Go.VS.flatL (Go.VS.takeC (Nat.mul (List.length (G [] (A (List.map Go.VS.byteOf c)) (B (List.map Go.VS.byteOf c)) (C (List.map Go.VS.byteOf c)))) 1) (Go.VS.dropC 0 (Go.VS.renL Bool.false (Go.VS.shiftN 5) (Go.VS.bc (G [] (A (List.map Go.VS.byteOf c)) (B (List.map Go.VS.byteOf c)) (C (List.map Go.VS.byteOf c))))))))
                    (needB (Bool.and (Go.VS.Try.fzB 18446744073709551617 (List.length (G [] (A (List.map Go.VS.byteOf c)) (B (List.map Go.VS.byteOf c)) (C (List.map Go.VS.byteOf c)))) (Go.VS.takeC (Nat.mul (List.length (G [] (A (List.map Go.VS.byteOf c)) (B (List.map Go.VS.byteOf c)) (C (List.map Go.VS.byteOf c)))) 1) (Go.VS.dropC 0 (Go.VS.renL Bool.false (Go.VS.shiftN 5) (Go.VS.bc (G [] (A (List.map Go.VS.byteOf c)) (B (List.map Go.VS.byteOf c)) (C (List.map Go.VS.byteOf c)))))))) (Go.VS.Try.fzB 18446744073709551617 (Go.VS.lapN (0 : Int) (N (List.map Go.VS.byteOf c))) (Go.VS.takeC (Nat.mul (Go.VS.lapN (0 : Int) (N (List.map Go.VS.byteOf c))) 1) (Go.VS.dropC 0 c))))
                     (iteB (Go.VS.notB (Q (List.map Go.VS.byteOf (Go.VS.takeC (Nat.mul (List.length (G [] (A (List.map Go.VS.byteOf c)) (B (List.map Go.VS.byteOf c)) (C (List.map Go.VS.byteOf c)))) 1) (Go.VS.dropC 0 (Go.VS.renL Bool.false (Go.VS.shiftN 5) (Go.VS.bc (G [] (A (List.map Go.VS.byteOf c)) (B (List.map Go.VS.byteOf c)) (C (List.map Go.VS.byteOf c)))))))) (List.map Go.VS.byteOf (Go.VS.takeC (Nat.mul (Go.VS.lapN (0 : Int) (N (List.map Go.VS.byteOf c))) 1) (Go.VS.dropC 0 c)))))
                      (some ((Go.Value.bool Bool.false), (Go.VS.mkSt [])))
                      (needB (Nat.ble (HMul.hMul 3 (ByteArray.size s)) 4194304)
                       (needB (Nat.ble (ByteArray.size (W s)) 4194304)
                        (needB (Nat.ble (ByteArray.size t) 4194304)
                         (iteB (Go.VS.neI (Y (W s)) (0 : Int))
                          (some ((Go.Value.bool Bool.false), (Go.VS.mkSt [])))
                          (iteB (Go.VS.neS (U (W s)) s)
                           (some ((Go.Value.bool Bool.false), (Go.VS.mkSt [])))
                           (iteB (Go.VS.eqS (W s) (ByteArray.mk #[]))
                            (some ((Go.Value.bool Bool.false), (Go.VS.mkSt [])))
                            (iteB (I (W s) (OfNat.ofNat 32))
                             (some ((Go.Value.bool Bool.false), (Go.VS.mkSt [])))
                             (iteB (Go.VS.neI (Y t) (0 : Int))
                              (some ((Go.Value.bool Bool.true), (Go.VS.mkSt [])))
                              (needB (Nat.ble (HMul.hMul 3 (ByteArray.size (U t))) 4194304)
                               (some ((Go.Value.bool (Go.VS.eqS (W (U t)) t)), (Go.VS.mkSt []))))))))))))))))))
                (some ((Go.Value.bool Bool.false), (Go.VS.mkSt []))))
               (needB (Nat.ble (HMul.hMul 3 (ByteArray.size s)) 4194304)
                (needB (Nat.ble (ByteArray.size (W s)) 4194304)
                 (needB (Nat.ble (ByteArray.size t) 4194304)
                  (iteB (Go.VS.neI (Y (W s)) (0 : Int))
                   (some ((Go.Value.bool Bool.false), (Go.VS.mkSt [])))
                   (iteB (Go.VS.neS (U (W s)) s)
                    (some ((Go.Value.bool Bool.false), (Go.VS.mkSt [])))
                    (iteB (Go.VS.eqS (W s) (ByteArray.mk #[]))
                     (some ((Go.Value.bool Bool.false), (Go.VS.mkSt [])))
                     (iteB (I (W s) (OfNat.ofNat 32))
                      (some ((Go.Value.bool Bool.false), (Go.VS.mkSt [])))
                      (iteB (Go.VS.neI (Y t) (0 : Int))
                       (some ((Go.Value.bool Bool.true), (Go.VS.mkSt [])))
                       (needB (Nat.ble (HMul.hMul 3 (ByteArray.size (U t))) 4194304)
                        (some ((Go.Value.bool (Go.VS.eqS (W (U t)) t)), (Go.VS.mkSt [])))))))))))))))))
          (needB (Bool.and (Nat.ble (Nat.add 0 (Nat.mul (Nat.add 0 n) 1)) (List.length (List.append [] c))) (Nat.ble 1 1))
           (needB (Go.VS.flatL (Go.VS.takeC (Nat.mul (Nat.add 0 n) 1) (Go.VS.dropC 0 (List.append [] c))))
            (needB (Go.VS.Try.fzB 18446744073709551617 (Nat.add 0 n) (Go.VS.takeC (Nat.mul (Nat.add 0 n) 1) (Go.VS.dropC 0 (List.append [] c))))
             (iteB (Go.VS.neI (Z (List.map Go.VS.byteOf (Go.VS.takeC (Nat.mul (Nat.add 0 n) 1) (Go.VS.dropC 0 (List.append [] c))))) (0 : Int))
              (some ((Go.Value.bool Bool.false), (Go.VS.mkSt [])))
              (iteB (Go.VS.notB (Bool.and (Go.VS.eqB (A (List.map Go.VS.byteOf (Go.VS.takeC (Nat.mul (Nat.add 0 n) 1) (Go.VS.dropC 0 (List.append [] c))))) p) (Bool.and (Go.VS.eqS (B (List.map Go.VS.byteOf (Go.VS.takeC (Nat.mul (Nat.add 0 n) 1) (Go.VS.dropC 0 (List.append [] c))))) k) (Bool.and (Go.VS.eqS (C (List.map Go.VS.byteOf (Go.VS.takeC (Nat.mul (Nat.add 0 n) 1) (Go.VS.dropC 0 (List.append [] c))))) v) Bool.true))))
               (some ((Go.Value.bool Bool.false), (Go.VS.mkSt [])))
               (iteB (Go.VS.neI (N (List.map Go.VS.byteOf (Go.VS.takeC (Nat.mul (Nat.add 0 n) 1) (Go.VS.dropC 0 (List.append [] c))))) (Go.VS.lenI (List.length (G [] p k v))))
                (some ((Go.Value.bool Bool.false), (Go.VS.mkSt [])))
                (needB (Go.VS.Try.fzB 18446744073709551617 n c)
                 (iteB (Go.VS.eqI (Z (List.map Go.VS.byteOf c)) (0 : Int))
                  (iteB (O (A (List.map Go.VS.byteOf c)) (B (List.map Go.VS.byteOf c)) (C (List.map Go.VS.byteOf c)))
                   (iteB (Go.VS.gtI (N (List.map Go.VS.byteOf c)) (Go.VS.lenI n))
                    (some ((Go.Value.bool Bool.false), (Go.VS.mkSt [])))
                    (needB (Bool.and (Nat.beq 1 1) (Go.VS.cutI (0 : Int) (N (List.map Go.VS.byteOf c)) n))
                     (needB (Bool.and (Nat.ble (Nat.add 0 (Nat.mul (List.length (G [] (A (List.map Go.VS.byteOf c)) (B (List.map Go.VS.byteOf c)) (C (List.map Go.VS.byteOf c)))) 1)) (List.length (Go.VS.renL Bool.false (Go.VS.shiftN 6) (Go.VS.bc (G [] (A (List.map Go.VS.byteOf c)) (B (List.map Go.VS.byteOf c)) (C (List.map Go.VS.byteOf c))))))) (Nat.ble 1 1))
                      (needB (Go.VS.flatL (Go.VS.takeC (Nat.mul (List.length (G [] (A (List.map Go.VS.byteOf c)) (B (List.map Go.VS.byteOf c)) (C (List.map Go.VS.byteOf c)))) 1) (Go.VS.dropC 0 (Go.VS.renL Bool.false (Go.VS.shiftN 6) (Go.VS.bc (G [] (A (List.map Go.VS.byteOf c)) (B (List.map Go.VS.byteOf c)) (C (List.map Go.VS.byteOf c))))))))
                       (needB (Bool.and (Go.VS.Try.fzB 18446744073709551617 (List.length (G [] (A (List.map Go.VS.byteOf c)) (B (List.map Go.VS.byteOf c)) (C (List.map Go.VS.byteOf c)))) (Go.VS.takeC (Nat.mul (List.length (G [] (A (List.map Go.VS.byteOf c)) (B (List.map Go.VS.byteOf c)) (C (List.map Go.VS.byteOf c)))) 1) (Go.VS.dropC 0 (Go.VS.renL Bool.false (Go.VS.shiftN 6) (Go.VS.bc (G [] (A (List.map Go.VS.byteOf c)) (B (List.map Go.VS.byteOf c)) (C (List.map Go.VS.byteOf c)))))))) (Go.VS.Try.fzB 18446744073709551617 (Go.VS.lapN (0 : Int) (N (List.map Go.VS.byteOf c))) (Go.VS.takeC (Nat.mul (Go.VS.lapN (0 : Int) (N (List.map Go.VS.byteOf c))) 1) (Go.VS.dropC 0 c))))
                        (iteB (Go.VS.notB (Q (List.map Go.VS.byteOf (Go.VS.takeC (Nat.mul (List.length (G [] (A (List.map Go.VS.byteOf c)) (B (List.map Go.VS.byteOf c)) (C (List.map Go.VS.byteOf c)))) 1) (Go.VS.dropC 0 (Go.VS.renL Bool.false (Go.VS.shiftN 6) (Go.VS.bc (G [] (A (List.map Go.VS.byteOf c)) (B (List.map Go.VS.byteOf c)) (C (List.map Go.VS.byteOf c)))))))) (List.map Go.VS.byteOf (Go.VS.takeC (Nat.mul (Go.VS.lapN (0 : Int) (N (List.map Go.VS.byteOf c))) 1) (Go.VS.dropC 0 c)))))
                         (some ((Go.Value.bool Bool.false), (Go.VS.mkSt [])))
                         (needB (Nat.ble (HMul.hMul 3 (ByteArray.size s)) 4194304)
                          (needB (Nat.ble (ByteArray.size (W s)) 4194304)
                           (needB (Nat.ble (ByteArray.size t) 4194304)
                            (iteB (Go.VS.neI (Y (W s)) (0 : Int))
                             (some ((Go.Value.bool Bool.false), (Go.VS.mkSt [])))
                             (iteB (Go.VS.neS (U (W s)) s)
                              (some ((Go.Value.bool Bool.false), (Go.VS.mkSt [])))
                              (iteB (Go.VS.eqS (W s) (ByteArray.mk #[]))
                               (some ((Go.Value.bool Bool.false), (Go.VS.mkSt [])))
                               (iteB (I (W s) (OfNat.ofNat 32))
                                (some ((Go.Value.bool Bool.false), (Go.VS.mkSt [])))
                                (iteB (Go.VS.neI (Y t) (0 : Int))
                                 (some ((Go.Value.bool Bool.true), (Go.VS.mkSt [])))
                                 (needB (Nat.ble (HMul.hMul 3 (ByteArray.size (U t))) 4194304)
                                  (some ((Go.Value.bool (Go.VS.eqS (W (U t)) t)), (Go.VS.mkSt []))))))))))))))))))
                   (some ((Go.Value.bool Bool.false), (Go.VS.mkSt []))))
                  (needB (Nat.ble (HMul.hMul 3 (ByteArray.size s)) 4194304)
                   (needB (Nat.ble (ByteArray.size (W s)) 4194304)
                    (needB (Nat.ble (ByteArray.size t) 4194304)
                     (iteB (Go.VS.neI (Y (W s)) (0 : Int))
                      (some ((Go.Value.bool Bool.false), (Go.VS.mkSt [])))
                      (iteB (Go.VS.neS (U (W s)) s)
                       (some ((Go.Value.bool Bool.false), (Go.VS.mkSt [])))
                       (iteB (Go.VS.eqS (W s) (ByteArray.mk #[]))
                        (some ((Go.Value.bool Bool.false), (Go.VS.mkSt [])))
                        (iteB (I (W s) (OfNat.ofNat 32))
                         (some ((Go.Value.bool Bool.false), (Go.VS.mkSt [])))
                         (iteB (Go.VS.neI (Y t) (0 : Int))
                          (some ((Go.Value.bool Bool.true), (Go.VS.mkSt [])))
                          (needB (Nat.ble (HMul.hMul 3 (ByteArray.size (U t))) 4194304)
                           (some ((Go.Value.bool (Go.VS.eqS (W (U t)) t)), (Go.VS.mkSt [])))))))))))))))))))))))
       (needB (List.all c Go.VS.oneCell)
        (needB (Nat.ble (Nat.add (Nat.add 0 (List.length (G [] p k v))) n) 4194304)
         (needB (Nat.beq (Nat.add 0 (Nat.mul (Nat.add 0 (List.length (G [] p k v))) 1)) (List.length (List.append [] (Go.VS.takeC (Nat.mul (List.length (G [] p k v)) 1) (Go.VS.dropC 0 (Go.VS.renL Bool.false (Go.VS.shiftN 1) (Go.VS.bc (G [] p k v))))))))
          (needB (Bool.and (Nat.ble (Nat.add 0 (Nat.mul (Nat.add (Nat.add 0 (List.length (G [] p k v))) n) 1)) (List.length (List.append (Go.VS.oldC 0 (List.append [] (Go.VS.takeC (Nat.mul (List.length (G [] p k v)) 1) (Go.VS.dropC 0 (Go.VS.renL Bool.false (Go.VS.shiftN 1) (Go.VS.bc (G [] p k v))))))) c))) (Nat.ble 1 1))
           (needB (Go.VS.flatL (Go.VS.takeC (Nat.mul (Nat.add (Nat.add 0 (List.length (G [] p k v))) n) 1) (Go.VS.dropC 0 (List.append (Go.VS.oldC 0 (List.append [] (Go.VS.takeC (Nat.mul (List.length (G [] p k v)) 1) (Go.VS.dropC 0 (Go.VS.renL Bool.false (Go.VS.shiftN 1) (Go.VS.bc (G [] p k v))))))) c))))
            (needB (Go.VS.Try.fzB 18446744073709551617 (Nat.add (Nat.add 0 (List.length (G [] p k v))) n) (Go.VS.takeC (Nat.mul (Nat.add (Nat.add 0 (List.length (G [] p k v))) n) 1) (Go.VS.dropC 0 (List.append (Go.VS.oldC 0 (List.append [] (Go.VS.takeC (Nat.mul (List.length (G [] p k v)) 1) (Go.VS.dropC 0 (Go.VS.renL Bool.false (Go.VS.shiftN 1) (Go.VS.bc (G [] p k v))))))) c))))
             (iteB (Go.VS.neI (Z (List.map Go.VS.byteOf (Go.VS.takeC (Nat.mul (Nat.add (Nat.add 0 (List.length (G [] p k v))) n) 1) (Go.VS.dropC 0 (List.append (Go.VS.oldC 0 (List.append [] (Go.VS.takeC (Nat.mul (List.length (G [] p k v)) 1) (Go.VS.dropC 0 (Go.VS.renL Bool.false (Go.VS.shiftN 1) (Go.VS.bc (G [] p k v))))))) c))))) (0 : Int))
              (some ((Go.Value.bool Bool.false), (Go.VS.mkSt [])))
              (iteB (Go.VS.notB (Bool.and (Go.VS.eqB (A (List.map Go.VS.byteOf (Go.VS.takeC (Nat.mul (Nat.add (Nat.add 0 (List.length (G [] p k v))) n) 1) (Go.VS.dropC 0 (List.append (Go.VS.oldC 0 (List.append [] (Go.VS.takeC (Nat.mul (List.length (G [] p k v)) 1) (Go.VS.dropC 0 (Go.VS.renL Bool.false (Go.VS.shiftN 1) (Go.VS.bc (G [] p k v))))))) c))))) p) (Bool.and (Go.VS.eqS (B (List.map Go.VS.byteOf (Go.VS.takeC (Nat.mul (Nat.add (Nat.add 0 (List.length (G [] p k v))) n) 1) (Go.VS.dropC 0 (List.append (Go.VS.oldC 0 (List.append [] (Go.VS.takeC (Nat.mul (List.length (G [] p k v)) 1) (Go.VS.dropC 0 (Go.VS.renL Bool.false (Go.VS.shiftN 1) (Go.VS.bc (G [] p k v))))))) c))))) k) (Bool.and (Go.VS.eqS (C (List.map Go.VS.byteOf (Go.VS.takeC (Nat.mul (Nat.add (Nat.add 0 (List.length (G [] p k v))) n) 1) (Go.VS.dropC 0 (List.append (Go.VS.oldC 0 (List.append [] (Go.VS.takeC (Nat.mul (List.length (G [] p k v)) 1) (Go.VS.dropC 0 (Go.VS.renL Bool.false (Go.VS.shiftN 1) (Go.VS.bc (G [] p k v))))))) c))))) v) Bool.true))))
               (some ((Go.Value.bool Bool.false), (Go.VS.mkSt [])))
               (iteB (Go.VS.neI (N (List.map Go.VS.byteOf (Go.VS.takeC (Nat.mul (Nat.add (Nat.add 0 (List.length (G [] p k v))) n) 1) (Go.VS.dropC 0 (List.append (Go.VS.oldC 0 (List.append [] (Go.VS.takeC (Nat.mul (List.length (G [] p k v)) 1) (Go.VS.dropC 0 (Go.VS.renL Bool.false (Go.VS.shiftN 1) (Go.VS.bc (G [] p k v))))))) c))))) (Go.VS.lenI (List.length (G [] p k v))))
                (some ((Go.Value.bool Bool.false), (Go.VS.mkSt [])))
                (needB (Go.VS.Try.fzB 18446744073709551617 n c)
                 (iteB (Go.VS.eqI (Z (List.map Go.VS.byteOf c)) (0 : Int))
                  (iteB (O (A (List.map Go.VS.byteOf c)) (B (List.map Go.VS.byteOf c)) (C (List.map Go.VS.byteOf c)))
                   (iteB (Go.VS.gtI (N (List.map Go.VS.byteOf c)) (Go.VS.lenI n))
                    (some ((Go.Value.bool Bool.false), (Go.VS.mkSt [])))
                    (needB (Bool.and (Nat.beq 1 1) (Go.VS.cutI (0 : Int) (N (List.map Go.VS.byteOf c)) n))
                     (needB (Bool.and (Nat.ble (Nat.add 0 (Nat.mul (List.length (G [] (A (List.map Go.VS.byteOf c)) (B (List.map Go.VS.byteOf c)) (C (List.map Go.VS.byteOf c)))) 1)) (List.length (Go.VS.renL Bool.false (Go.VS.shiftN 7) (Go.VS.bc (G [] (A (List.map Go.VS.byteOf c)) (B (List.map Go.VS.byteOf c)) (C (List.map Go.VS.byteOf c))))))) (Nat.ble 1 1))
                      (needB (Go.VS.flatL (Go.VS.takeC (Nat.mul (List.length (G [] (A (List.map Go.VS.byteOf c)) (B (List.map Go.VS.byteOf c)) (C (List.map Go.VS.byteOf c)))) 1) (Go.VS.dropC 0 (Go.VS.renL Bool.false (Go.VS.shiftN 7) (Go.VS.bc (G [] (A (List.map Go.VS.byteOf c)) (B (List.map Go.VS.byteOf c)) (C (List.map Go.VS.byteOf c))))))))
                       (needB (Bool.and (Go.VS.Try.fzB 18446744073709551617 (List.length (G [] (A (List.map Go.VS.byteOf c)) (B (List.map Go.VS.byteOf c)) (C (List.map Go.VS.byteOf c)))) (Go.VS.takeC (Nat.mul (List.length (G [] (A (List.map Go.VS.byteOf c)) (B (List.map Go.VS.byteOf c)) (C (List.map Go.VS.byteOf c)))) 1) (Go.VS.dropC 0 (Go.VS.renL Bool.false (Go.VS.shiftN 7) (Go.VS.bc (G [] (A (List.map Go.VS.byteOf c)) (B (List.map Go.VS.byteOf c)) (C (List.map Go.VS.byteOf c)))))))) (Go.VS.Try.fzB 18446744073709551617 (Go.VS.lapN (0 : Int) (N (List.map Go.VS.byteOf c))) (Go.VS.takeC (Nat.mul (Go.VS.lapN (0 : Int) (N (List.map Go.VS.byteOf c))) 1) (Go.VS.dropC 0 c))))
                        (iteB (Go.VS.notB (Q (List.map Go.VS.byteOf (Go.VS.takeC (Nat.mul (List.length (G [] (A (List.map Go.VS.byteOf c)) (B (List.map Go.VS.byteOf c)) (C (List.map Go.VS.byteOf c)))) 1) (Go.VS.dropC 0 (Go.VS.renL Bool.false (Go.VS.shiftN 7) (Go.VS.bc (G [] (A (List.map Go.VS.byteOf c)) (B (List.map Go.VS.byteOf c)) (C (List.map Go.VS.byteOf c)))))))) (List.map Go.VS.byteOf (Go.VS.takeC (Nat.mul (Go.VS.lapN (0 : Int) (N (List.map Go.VS.byteOf c))) 1) (Go.VS.dropC 0 c)))))
                         (some ((Go.Value.bool Bool.false), (Go.VS.mkSt [])))
                         (needB (Nat.ble (HMul.hMul 3 (ByteArray.size s)) 4194304)
                          (needB (Nat.ble (ByteArray.size (W s)) 4194304)
                           (needB (Nat.ble (ByteArray.size t) 4194304)
                            (iteB (Go.VS.neI (Y (W s)) (0 : Int))
                             (some ((Go.Value.bool Bool.false), (Go.VS.mkSt [])))
                             (iteB (Go.VS.neS (U (W s)) s)
                              (some ((Go.Value.bool Bool.false), (Go.VS.mkSt [])))
                              (iteB (Go.VS.eqS (W s) (ByteArray.mk #[]))
                               (some ((Go.Value.bool Bool.false), (Go.VS.mkSt [])))
                               (iteB (I (W s) (OfNat.ofNat 32))
                                (some ((Go.Value.bool Bool.false), (Go.VS.mkSt [])))
                                (iteB (Go.VS.neI (Y t) (0 : Int))
                                 (some ((Go.Value.bool Bool.true), (Go.VS.mkSt [])))
                                 (needB (Nat.ble (HMul.hMul 3 (ByteArray.size (U t))) 4194304)
                                  (some ((Go.Value.bool (Go.VS.eqS (W (U t)) t)), (Go.VS.mkSt []))))))))))))))))))
                   (some ((Go.Value.bool Bool.false), (Go.VS.mkSt []))))
                  (needB (Nat.ble (HMul.hMul 3 (ByteArray.size s)) 4194304)
                   (needB (Nat.ble (ByteArray.size (W s)) 4194304)
                    (needB (Nat.ble (ByteArray.size t) 4194304)
                     (iteB (Go.VS.neI (Y (W s)) (0 : Int))
                      (some ((Go.Value.bool Bool.false), (Go.VS.mkSt [])))
                      (iteB (Go.VS.neS (U (W s)) s)
                       (some ((Go.Value.bool Bool.false), (Go.VS.mkSt [])))
                       (iteB (Go.VS.eqS (W s) (ByteArray.mk #[]))
                        (some ((Go.Value.bool Bool.false), (Go.VS.mkSt [])))
                        (iteB (I (W s) (OfNat.ofNat 32))
                         (some ((Go.Value.bool Bool.false), (Go.VS.mkSt [])))
                         (iteB (Go.VS.neI (Y t) (0 : Int))
                          (some ((Go.Value.bool Bool.true), (Go.VS.mkSt [])))
                          (needB (Nat.ble (HMul.hMul 3 (ByteArray.size (U t))) 4194304)
                           (some ((Go.Value.bool (Go.VS.eqS (W (U t)) t)), (Go.VS.mkSt [])))))))))))))))))))))))))))
   (needB (Go.VS.Try.fzB 18446744073709551617 n c)
    (iteB (Go.VS.eqI (Z (List.map Go.VS.byteOf c)) (0 : Int))
     (iteB (O (A (List.map Go.VS.byteOf c)) (B (List.map Go.VS.byteOf c)) (C (List.map Go.VS.byteOf c)))
      (iteB (Go.VS.gtI (N (List.map Go.VS.byteOf c)) (Go.VS.lenI n))
       (some ((Go.Value.bool Bool.false), (Go.VS.mkSt [])))
       (needB (Bool.and (Nat.beq 1 1) (Go.VS.cutI (0 : Int) (N (List.map Go.VS.byteOf c)) n))
        (needB (Bool.and (Nat.ble (Nat.add 0 (Nat.mul (List.length (G [] (A (List.map Go.VS.byteOf c)) (B (List.map Go.VS.byteOf c)) (C (List.map Go.VS.byteOf c)))) 1)) (List.length (Go.VS.renL Bool.false (Go.VS.shiftN 2) (Go.VS.bc (G [] (A (List.map Go.VS.byteOf c)) (B (List.map Go.VS.byteOf c)) (C (List.map Go.VS.byteOf c))))))) (Nat.ble 1 1))
         (needB (Go.VS.flatL (Go.VS.takeC (Nat.mul (List.length (G [] (A (List.map Go.VS.byteOf c)) (B (List.map Go.VS.byteOf c)) (C (List.map Go.VS.byteOf c)))) 1) (Go.VS.dropC 0 (Go.VS.renL Bool.false (Go.VS.shiftN 2) (Go.VS.bc (G [] (A (List.map Go.VS.byteOf c)) (B (List.map Go.VS.byteOf c)) (C (List.map Go.VS.byteOf c))))))))
          (needB (Bool.and (Go.VS.Try.fzB 18446744073709551617 (List.length (G [] (A (List.map Go.VS.byteOf c)) (B (List.map Go.VS.byteOf c)) (C (List.map Go.VS.byteOf c)))) (Go.VS.takeC (Nat.mul (List.length (G [] (A (List.map Go.VS.byteOf c)) (B (List.map Go.VS.byteOf c)) (C (List.map Go.VS.byteOf c)))) 1) (Go.VS.dropC 0 (Go.VS.renL Bool.false (Go.VS.shiftN 2) (Go.VS.bc (G [] (A (List.map Go.VS.byteOf c)) (B (List.map Go.VS.byteOf c)) (C (List.map Go.VS.byteOf c)))))))) (Go.VS.Try.fzB 18446744073709551617 (Go.VS.lapN (0 : Int) (N (List.map Go.VS.byteOf c))) (Go.VS.takeC (Nat.mul (Go.VS.lapN (0 : Int) (N (List.map Go.VS.byteOf c))) 1) (Go.VS.dropC 0 c))))
           (iteB (Go.VS.notB (Q (List.map Go.VS.byteOf (Go.VS.takeC (Nat.mul (List.length (G [] (A (List.map Go.VS.byteOf c)) (B (List.map Go.VS.byteOf c)) (C (List.map Go.VS.byteOf c)))) 1) (Go.VS.dropC 0 (Go.VS.renL Bool.false (Go.VS.shiftN 2) (Go.VS.bc (G [] (A (List.map Go.VS.byteOf c)) (B (List.map Go.VS.byteOf c)) (C (List.map Go.VS.byteOf c)))))))) (List.map Go.VS.byteOf (Go.VS.takeC (Nat.mul (Go.VS.lapN (0 : Int) (N (List.map Go.VS.byteOf c))) 1) (Go.VS.dropC 0 c)))))
            (some ((Go.Value.bool Bool.false), (Go.VS.mkSt [])))
            (needB (Nat.ble (HMul.hMul 3 (ByteArray.size s)) 4194304)
             (needB (Nat.ble (ByteArray.size (W s)) 4194304)
              (needB (Nat.ble (ByteArray.size t) 4194304)
               (iteB (Go.VS.neI (Y (W s)) (0 : Int))
                (some ((Go.Value.bool Bool.false), (Go.VS.mkSt [])))
                (iteB (Go.VS.neS (U (W s)) s)
                 (some ((Go.Value.bool Bool.false), (Go.VS.mkSt [])))
                 (iteB (Go.VS.eqS (W s) (ByteArray.mk #[]))
                  (some ((Go.Value.bool Bool.false), (Go.VS.mkSt [])))
                  (iteB (I (W s) (OfNat.ofNat 32))
                   (some ((Go.Value.bool Bool.false), (Go.VS.mkSt [])))
                   (iteB (Go.VS.neI (Y t) (0 : Int))
                    (some ((Go.Value.bool Bool.true), (Go.VS.mkSt [])))
                    (needB (Nat.ble (HMul.hMul 3 (ByteArray.size (U t))) 4194304)
                     (some ((Go.Value.bool (Go.VS.eqS (W (U t)) t)), (Go.VS.mkSt []))))))))))))))))))
      (some ((Go.Value.bool Bool.false), (Go.VS.mkSt []))))
     (needB (Nat.ble (HMul.hMul 3 (ByteArray.size s)) 4194304)
      (needB (Nat.ble (ByteArray.size (W s)) 4194304)
       (needB (Nat.ble (ByteArray.size t) 4194304)
        (iteB (Go.VS.neI (Y (W s)) (0 : Int))
         (some ((Go.Value.bool Bool.false), (Go.VS.mkSt [])))
         (iteB (Go.VS.neS (U (W s)) s)
          (some ((Go.Value.bool Bool.false), (Go.VS.mkSt [])))
          (iteB (Go.VS.eqS (W s) (ByteArray.mk #[]))
           (some ((Go.Value.bool Bool.false), (Go.VS.mkSt [])))
           (iteB (I (W s) (OfNat.ofNat 32))
            (some ((Go.Value.bool Bool.false), (Go.VS.mkSt [])))
            (iteB (Go.VS.neI (Y t) (0 : Int))
             (some ((Go.Value.bool Bool.true), (Go.VS.mkSt [])))
             (needB (Nat.ble (HMul.hMul 3 (ByteArray.size (U t))) 4194304)
              (some ((Go.Value.bool (Go.VS.eqS (W (U t)) t)), (Go.VS.mkSt []))))))))))))))) := by kernel_rfl
end Go.VS.Try
end

section
namespace Go.VS.Try
set_option linter.unusedSimpArgs false
set_option linter.unusedVariables false
set_option maxRecDepth 1000000
open Go.VS
theorem varM_one {n : Nat} (h : n < 128) : varM n = [UInt8.ofNat n] := varM_small h
theorem u8_nat {n : Nat} (h : n < 256) : (UInt8.ofNat n).toNat = n := by simp only [UInt8.toNat_ofNat']; omega
theorem ba_eq (s : ByteArray) : (⟨⟨s.data.toList⟩⟩ : ByteArray) = s := rfl
/-! ### a text behind its length is read -/
theorem text_enc {s : ByteArray} {m : Int} (r : List UInt8) (hs : s.size < 128) (hm : (s.size : Int) ≤ m) : textB (encT s ++ r) m = true ∧ textS (encT s ++ r) = s ∧ textN (encT s ++ r) = ((encT s).length : Int) := by
  have hz := size_eq s
  have e : encT s ++ r = UInt8.ofNat s.size :: (s.data.toList ++ r) := by unfold encT; rw [varM_one hs]; simp
  have hn : numM (encT s ++ r) = (s.size, 1, 0) := by rw [e, numM_low _ (by rw [u8_nat (by omega)]; exact hs), u8_nat (by omega)]
  have hl : (encT s).length = 1 + s.size := by unfold encT; rw [varM_one hs, List.length_append, ← hz]; simp
  refine ⟨?_, ?_, ?_⟩
  · unfold textB smallB
    rw [hn, List.length_append, hl]
    simp only [Bool.and_eq_true, decide_eq_true_eq, beq_iff_eq]
    exact ⟨⟨trivial, hm⟩, by omega⟩
  · unfold textS
    rw [hn, e]
    simp only [List.drop_succ_cons, List.drop_zero]
    rw [hz, List.take_left']
    rfl
  · unfold textN
    rw [hn, hl]
theorem drop_enc (s : ByteArray) (r : List UInt8) : (encT s ++ r).drop ((encT s).length : Int).toNat = r := by
  rw [Int.toNat_natCast, List.drop_left']
  rfl
theorem opRd_enc {p : Bool} {k v : ByteArray} (ho : opOk p k v = true) (r : List UInt8) : opRdM (encO p k v ++ r) = okV p k v ((encO p k v).length : Int) := by
  obtain ⟨h1, h2, h3, h4⟩ := opOk_of ho
  cases p with
  | true =>
    have e : encO true k v ++ r = 1 :: (encT k ++ (encT v ++ r)) := by simp [encO]
    have hl : (encO true k v).length = 1 + (encT k).length + (encT v).length := by simp [encO]; omega
    obtain ⟨a1, a2, a3⟩ := text_enc (m := 16) (encT v ++ r) (s := k) (by omega) (by omega)
    obtain ⟨b1, b2, b3⟩ := text_enc (m := 32) r (s := v) (by omega) (by omega)
    rw [e]
    simp only [opRdM, a1, a2, a3, drop_enc, b1, b2, b3]
    rw [show gtI ((1 : UInt8).toNat : Int) 1 = false from rfl, show eqI ((1 : UInt8).toNat : Int) 1 = true from rfl]
    simp only [ho, Bool.and_self, resV, hl]
    congr 1
  | false =>
    have hv : v = ⟨#[]⟩ := by
      rcases h4 with h | h
      · cases h
      · rw [← ba_eq v, h]
    subst hv
    have e : encO false k ⟨#[]⟩ ++ r = 0 :: (encT k ++ r) := by simp [encO]
    have hl : (encO false k ⟨#[]⟩).length = 1 + (encT k).length := by simp [encO]; omega
    obtain ⟨a1, a2, a3⟩ := text_enc (m := 16) r (s := k) (by omega) (by omega)
    rw [e]
    simp only [opRdM, a1, a2, a3]
    rw [show gtI ((0 : UInt8).toNat : Int) 1 = false from rfl, show eqI ((0 : UInt8).toNat : Int) 1 = false from rfl]
    simp only [ho, resV, hl]
    congr 1
/-! ### what is read has these bytes -/
theorem text_dec {r : List UInt8} {m : Int} (hm : m < 128) (h : textB r m = true) : ∃ r', r = encT (textS r) ++ r' ∧ textN r = ((encT (textS r)).length : Int) := by
  unfold textB at h
  simp only [Bool.and_eq_true, decide_eq_true_eq] at h
  obtain ⟨h1, h2⟩ := h
  cases r with
  | nil => cases h1
  | cons x r =>
    have hx : x.toNat < 128 := by
      cases hb : decide (x.toNat < 128) with
      | true => exact of_decide_eq_true hb
      | false =>
        exfalso
        have hb := of_decide_eq_false hb
        have e : readM 0 0 (x :: r) = readM 1 (stepN 0 0 x.toNat) r := by
          rw [readM, decide_eq_false (show ¬ (0 = 9 ∧ 1 < x.toNat) by omega), decide_eq_true (show 128 ≤ x.toNat by omega)]
        have hbig := readM_big r 1 (stepN 0 0 x.toNat) (by omega) (by omega)
        unfold smallB numM at h1
        rw [e] at h1
        revert h1 hbig
        rcases readM 1 (stepN 0 0 x.toNat) r with ⟨ok, X, n⟩
        intro h1 hbig
        cases ok with
        | false => cases h1
        | true =>
          have hX : 128 ≤ X := hbig rfl
          simp only [Bool.and_eq_true, decide_eq_true_eq] at h1
          omega
    have hn := numM_low r hx
    rw [hn] at h2
    have hS : textS (x :: r) = ⟨⟨r.take x.toNat⟩⟩ := by
      unfold textS; rw [hn]; rfl
    have hsz : (⟨⟨r.take x.toNat⟩⟩ : ByteArray).size = x.toNat := by
      show (r.take x.toNat).length = _
      simp only [List.length_cons] at h2
      rw [List.length_take]; omega
    have hE : encT (textS (x :: r)) = x :: r.take x.toNat := by
      unfold encT
      rw [hS, hsz, varM_one hx]
      simp
    refine ⟨r.drop x.toNat, ?_, ?_⟩
    · rw [hE, List.cons_append, List.take_append_drop]
    · unfold textN
      rw [hn, hE]
      simp only [List.length_cons] at h2 ⊢
      rw [List.length_take]
      omega
theorem opRd_dec {l : List UInt8} (h : oE l = 0) : ∃ r, opOk (oP l) (oK l) (oV l) = true ∧ l = encO (oP l) (oK l) (oV l) ++ r ∧ oN l = ((encO (oP l) (oK l) (oV l)).length : Int) := by
  unfold oE at h
  unfold oP oK oV oN
  cases l with
  | nil => cases h
  | cons x l =>
    simp only [opRdM] at h ⊢
    cases hg : gtI x.toNat 1 with
    | true => rw [hg] at h; cases h
    | false =>
      rw [hg] at h
      cases ht : textB l 16 with
      | false => rw [ht] at h; cases h
      | true =>
        rw [ht] at h
        obtain ⟨r, e1, e2⟩ := text_dec (by decide) ht
        simp only [gtI, decide_eq_false_iff_not] at hg
        cases hp : eqI x.toNat 1 with
        | false =>
          rw [hp] at h
          have hx : x = 0 := by
            simp only [eqI, beq_eq_false_iff_ne] at hp
            exact UInt8.toNat_inj.1 (by show x.toNat = 0; omega)
          subst hx
          cases ho : opOk false (textS l) ⟨#[]⟩ with
          | false => rw [ho] at h; cases h
          | true =>
            refine ⟨r, ho, ?_, ?_⟩
            · show 0 :: l = encO false (textS l) ⟨#[]⟩ ++ r
              conv => lhs; rw [e1]
              simp [encO]
            · show 1 + textN l = _
              rw [e2]
              show _ = ((encO false (textS l) ⟨#[]⟩).length : Int)
              simp [encO]; omega
        | true =>
          rw [hp] at h
          have hx : x = 1 := by
            simp only [eqI, beq_iff_eq] at hp
            exact UInt8.toNat_inj.1 (by show x.toNat = 1; omega)
          subst hx
          have hd : l.drop (textN l).toNat = r := by
            have := drop_enc (textS l) r
            rw [← e1, ← e2] at this
            exact this
          simp only [hd] at h ⊢
          cases ht2 : textB r 32 with
          | false => rw [ht2] at h; cases h
          | true =>
            rw [ht2] at h
            obtain ⟨r2, f1, f2⟩ := text_dec (by decide) ht2
            cases ho : opOk true (textS l) (textS r) with
            | false => rw [ho] at h; cases h
            | true =>
              simp only [resV, okV, Bool.and_self, vP, vK, vV, vN]
              refine ⟨r2, ho, ?_, ?_⟩
              · have e3 : l = encT (textS l) ++ (encT (textS r) ++ r2) := by rw [← f1]; exact e1
                generalize textS l = a at e3 ⊢
                generalize textS r = b at e3 ⊢
                rw [e3]
                simp [encO]
              · rw [e2, f2]
                generalize textS l = a
                generalize textS r = b
                simp [encO]; omega
/-! ### words -/
theorem decL_quotes : (decL [34, 34]).2.1 = true := by
  rw [decL_other (x := 34) (r := [34]) (by decide) (Or.inl (by decide))]
theorem unT_word (s : ByteArray) : unT (wordT s) = s ∧ unE (wordT s) = 0 := by
  unfold unT unE wordT
  cases hs : s.data.toList with
  | nil =>
    refine ⟨?_, rfl⟩
    show (⟨⟨[]⟩⟩ : ByteArray) = s
    rw [← ba_eq s, hs]
  | cons x l =>
    have hw : wordM (x :: l) = encL (x :: l) := rfl
    have hd := decL_word (x :: l)
    have hne : (encL (x :: l) == [34, 34]) = false := by
      cases hq : encL (x :: l) == [34, 34] with
      | false => rfl
      | true =>
        have := decL_quotes
        rw [← eq_of_beq hq, hd] at this
        cases this
    have hb : bytesM (encL (x :: l)) = (x :: l, 0) := by
      unfold bytesM
      rw [hne, hd]
    rw [hw, hb]
    refine ⟨?_, rfl⟩
    rw [← ba_eq s, hs]
theorem word_unT {t : ByteArray} (h : unE t = 0) : wordT (unT t) = t := by
  unfold wordT unT
  unfold unE at h
  rw [← ba_eq t]
  show (⟨⟨wordM (bytesM t.data.toList).1⟩⟩ : ByteArray) = _
  generalize t.data.toList = w at h ⊢
  unfold bytesM at h ⊢
  cases hq : w == [34, 34] with
  | true => rw [eq_of_beq hq]; rfl
  | false =>
    rw [hq] at h
    simp only at h ⊢
    cases hd : (decL w).2.1 with
    | true => rw [hd] at h; cases h
    | false =>
      rw [hd] at h
      obtain ⟨e1, _, _⟩ := decL_enc w.length w (Nat.le_refl _) hd
      cases hl : (decL w).1 with
      | nil => rw [hl] at h; cases h
      | cons x l =>
        simp only
        rw [hl] at e1
        show (⟨⟨encL (x :: l)⟩⟩ : ByteArray) = _
        rw [e1]
theorem hx_ne : ∀ n : Fin 256, hxU (shrI .u8 (n.val : Int) 4) ≠ 32 ∧ hxU (andI .u8 (n.val : Int) 15) ≠ 32 := by decide +kernel
theorem enc_blank (b : UInt8) : ∀ x ∈ enc b, x ≠ 32 := by
  intro x hx
  unfold enc at hx
  split at hx
  · rename_i hp
    simp only [List.mem_singleton] at hx
    subst hx
    rintro rfl
    revert hp; decide
  · have := hx_ne ⟨b.toNat, b.toNat_lt⟩
    simp only [List.mem_cons, List.not_mem_nil, or_false] at hx
    rcases hx with rfl | rfl | rfl
    · decide
    · exact this.1
    · exact this.2
theorem word_blank (s : ByteArray) : inB (wordT s) 32 = false := by
  unfold inB
  rw [decide_eq_false_iff_not]
  intro h
  have hm : ∀ x ∈ wordM s.data.toList, x ≠ 32 := by
    intro x hx
    cases hs : s.data.toList with
    | nil =>
      rw [hs] at hx
      have hx : x ∈ ([34, 34] : List UInt8) := hx
      simp only [List.mem_cons, List.not_mem_nil, or_false, or_self] at hx
      subst hx; decide
    | cons y l =>
      rw [hs] at hx
      have hx : x ∈ encL (y :: l) := hx
      unfold encL at hx
      rw [List.mem_flatMap] at hx
      obtain ⟨b, _, hb⟩ := hx
      exact enc_blank b x hb
  obtain ⟨o, ho⟩ := Int.eq_ofNat_of_zero_le h
  have := (Lib.indexByte_some ho).1
  exact hm 32 (List.mem_of_getElem? this) rfl
theorem word_some (s : ByteArray) : eqS (wordT s) ⟨#[]⟩ = false := by
  rw [eqS_eq]
  show (wordM s.data.toList == []) = false
  cases hs : s.data.toList with
  | nil => rfl
  | cons x l =>
    show (encL (x :: l) == []) = false
    rw [encL_cons]
    unfold enc
    split <;> rfl
end Go.VS.Try
end

section
namespace Go.VS.Try
set_option linter.unusedSimpArgs false
set_option linter.unusedVariables false
set_option maxRecDepth 1000000
open Go.VS
theorem ne_self (x : Int) : neI x x = false := by simp [neI]
theorem eq_self (x : Int) : eqI x x = true := by simp [eqI]
theorem eqB_self (b : Bool) : eqB b b = true := by simp [eqB]
theorem eqS_self (s : ByteArray) : eqS s s = true := by rw [eqS_eq]; exact beq_self_eq_true _
theorem neS_self (s : ByteArray) : neS s s = false := by rw [neS_eq, beq_self_eq_true]; rfl
theorem and_tt : Bool.and true true = true := rfl
theorem not_t : notB true = false := rfl
theorem sameL_self (l : List UInt8) : sameL l l = true := by simp [sameL]
theorem nil_app (a : List Value) : List.append [] a = a := rfl
theorem zero_add' (n : Nat) : Nat.add 0 n = n := Nat.zero_add n
theorem take_at {l : List UInt8} {n : Nat} {z : Int} (h : z = n) (hl : n ≤ l.length) : takeC (Nat.mul (lapN 0 z) 1) (dropC 0 (bc l)) = bc (l.take n) := by
  have : lapN 0 z = n := by unfold lapN; omega
  rw [this, cut_bc, List.drop_zero]
theorem take_n (l : List UInt8) (n : Nat) : takeC (Nat.mul n 1) (dropC 0 (bc l)) = bc (l.take n) := by rw [cut_bc, List.drop_zero]
theorem lap_at {n : Nat} {z : Int} (h : z = n) : lapN 0 z = n := by unfold lapN; omega
theorem encO_len {p : Bool} {k v : ByteArray} (ho : opOk p k v = true) : 0 < (encO p k v).length ∧ (encO p k v).length ≤ 80 := by
  obtain ⟨h1, h2, h3, h4⟩ := opOk_of ho
  have := size_eq k
  have := size_eq v
  have := varM_length k.size
  have := varM_length v.size
  unfold encO encT
  cases p <;> simp only [cond_true, cond_false, List.length_cons, List.length_append, List.length_nil] <;> omega
/-- The words. -/
theorem words_end {s t : ByteArray} (hs : s.size ≤ 1048576) (ht : t.size ≤ 1048576) (hw : (wordT s).size ≤ 4194304) (hu : unE t = 0 → (unT t).size ≤ 1048576) : (needB (Nat.ble (HMul.hMul 3 s.size) 4194304) (needB (Nat.ble (wordT s).size 4194304) (needB (Nat.ble t.size 4194304)
      (iteB (neI (unE (wordT s)) 0) (some (.bool false, mkSt [])) (iteB (neS (unT (wordT s)) s) (some (.bool false, mkSt [])) (iteB (eqS (wordT s) ⟨#[]⟩) (some (.bool false, mkSt [])) (iteB (inB (wordT s) (OfNat.ofNat 32)) (some (.bool false, mkSt []))
        (iteB (neI (unE t) 0) (some (.bool true, mkSt [])) (needB (Nat.ble (HMul.hMul 3 (unT t).size) 4194304) (some (.bool (eqS (wordT (unT t)) t), mkSt []))))))))))) = (some (.bool true, mkSt []) : Res) := by
  obtain ⟨h1, h2⟩ := unT_word s
  refine need_eq (ble_ok (by omega)) (need_eq (ble_ok hw) (need_eq (ble_ok (by omega)) (ite_f (by rw [h2]; rfl) (ite_f (by rw [h1]; exact neS_self s) (ite_f (word_some s) (ite_f (word_blank s) ?_))))))
  cases h : neI (unE t) 0 with
  | true => exact ite_t rfl rfl
  | false =>
    have h0 : unE t = 0 := by simpa [neI] using h
    have := hu h0
    refine ite_f rfl (need_eq (ble_ok (by omega)) ?_)
    rw [word_unT h0, eqS_self]
theorem encL_length : ∀ l : List UInt8, (encL l).length ≤ 3 * l.length
  | [] => by simp [encL]
  | b :: l => by
    rw [encL_cons, List.length_append]
    have := enc_length b
    have := encL_length l
    simp only [List.length_cons]; omega
theorem word_size (s : ByteArray) : (wordT s).size ≤ 3 * s.size + 2 := by
  show (wordM s.data.toList).length ≤ _
  rw [size_eq s]
  cases s.data.toList with
  | nil => show ([34, 34] : List UInt8).length ≤ _; simp
  | cons x l => have := encL_length (x :: l); show (encL (x :: l)).length ≤ _; omega
theorem decL_le : ∀ (k : Nat) (w : List UInt8), w.length ≤ k → (decL w).2.1 = false → (decL w).1.length ≤ w.length := by
  intro k w hk h
  obtain ⟨e1, _, _⟩ := decL_enc k w hk h
  have : ∀ l : List UInt8, l.length ≤ (encL l).length := by
    intro l
    induction l with
    | nil => simp
    | cons b l ih =>
      rw [encL_cons, List.length_append]
      have : 1 ≤ (enc b).length := by unfold enc; split <;> simp
      simp only [List.length_cons]; omega
  have := this (decL w).1
  rw [e1] at this
  exact this
theorem unT_size {t : ByteArray} (h : unE t = 0) : (unT t).size ≤ t.size := by
  show (bytesM t.data.toList).1.length ≤ _
  unfold unE at h
  rw [size_eq t]
  generalize t.data.toList = w at h ⊢
  unfold bytesM at h ⊢
  cases hq : w == [34, 34] with
  | true => simp
  | false =>
    rw [hq] at h
    simp only at h ⊢
    cases hd : (decL w).2.1 with
    | true => rw [hd] at h; cases h
    | false =>
      rw [hd] at h
      have := decL_le w.length w (Nat.le_refl _) hd
      cases hl : (decL w).1 with
      | nil => rw [hl] at h; cases h
      | cons x l => rw [hl] at this; exact this
theorem opBack_run {p : Bool} {k v : ByteArray} {l : List UInt8} {b : Nat} {s t : ByteArray} (hl : l.length ≤ 1048576) (hs : s.size ≤ 1048576) (ht : t.size ≤ 1048576) :
    callQ P E ctB 200 10 [.agg ⟨[.bool p, .string k, .string v]⟩, mkFz 1 l.length b (bc l), .string s, .string t] = some (.bool true, mkSt []) := by
  have hw := words_end hs ht (by have := word_size s; omega) (fun h => by have := unT_size h; omega)
  -- what is read of l
  have hd : oE l = 0 → opOk (oP l) (oK l) (oV l) = true ∧ ∃ n : Nat, oN l = n ∧ n = (encO (oP l) (oK l) (oV l)).length ∧ n ≤ l.length ∧ l.take n = encO (oP l) (oK l) (oV l) := by
    intro h
    obtain ⟨r, h1, h2, h3⟩ := opRd_dec h
    generalize encO (oP l) (oK l) (oV l) = e at h2 h3 ⊢
    refine ⟨h1, e.length, h3, rfl, ?_, ?_⟩
    · rw [h2]; simp
    · rw [h2, List.take_left']; rfl
  unfold ctB
  rw [dec_opBack]
  have hap : ∀ p k v, appO [] p k v = encO p k v := fun p k v => rfl
  simp (disch := (simp; try omega)) only [hap, nil_app, oldC_zero, app_bc, zero_add', take_bc, bc_back, bc_length, bc_ren]
  simp only [hw]
  clear hw
  have hrd : ∀ r, opOk p k v = true → oE (encO p k v ++ r) = 0 ∧ oP (encO p k v ++ r) = p ∧ oK (encO p k v ++ r) = k ∧ oV (encO p k v ++ r) = v ∧ oN (encO p k v ++ r) = ((encO p k v).length : Int) := by
    intro r h
    unfold oE oP oK oV oN
    rw [opRd_enc h r]
    exact ⟨rfl, rfl, rfl, rfl, rfl⟩
  -- what follows the first part
  have tail : ∀ {x : Res}, (oE l = 0 → x = some (.bool true, mkSt [])) → needB (fzB 18446744073709551617 l.length (bc l)) (iteB (eqI (oE l) 0) x (some (.bool true, mkSt []))) = some (.bool true, mkSt []) := by
    intro x hx
    refine need_eq (fz_iff.2 ⟨rfl, by omega⟩) ?_
    cases h : eqI (oE l) 0 with
    | true => exact ite_t rfl (hx (by simpa [eqI] using h))
    | false => exact ite_f rfl rfl
  cases ho : opOk p k v with
  | false =>
    refine ite_f rfl (tail fun h => ?_)
    obtain ⟨g1, n, g2, g3, g4, g5⟩ := hd h
    have hlen := encO_len g1
    have hgt : gtI (n : Int) (lenI l.length) = false := decide_eq_false (by unfold lenI; omega)
    simp only [g1, g2, lap_at (n := n) rfl, take_n, g5, bc_back, hgt]
    generalize encO (oP l) (oK l) (oV l) = e at g3 hlen ⊢
    simp only [ite_tt, ite_ff, sameL_self, not_tt]
    simp (disch := first | rfl | (simp only [bool_and, ble_iff, beq_iff, fz_iff, cut_iff, bc_flat, Nat.mul_eq, and_true, true_and, and_self] <;> omega)) only [need_true]
  | true =>
    obtain ⟨a1, a2, a3, a4, a5⟩ := hrd l ho
    obtain ⟨b1, b2, b3, b4, b5⟩ := hrd [] ho
    rw [List.append_nil] at b1 b2 b3 b4 b5
    have he := encO_len ho
    have hb0 : Nat.beq (encO p k v).length 0 = false := by
      cases hq : Nat.beq (encO p k v).length 0 with
      | false => rfl
      | true => have := Nat.eq_of_beq_eq_true hq; omega
    simp only [hb0, a1, a2, a3, a4, a5, b1, b2, b3, b4, b5, ne_self, eqB_self, eqS_self, and_tt, not_tt, ite_tt, ite_ff, show lenI (encO p k v).length = ((encO p k v).length : Int) from rfl]
    generalize encO p k v = e0 at he ⊢
    cases hz : eqI (oE l) 0 with
    | false =>
      simp only [ite_tt, ite_ff]
      simp (disch := first | rfl | (simp only [bool_and, ble_iff, beq_iff, fz_iff, cut_iff, bc_flat, bc_one, Nat.mul_eq, Nat.add_eq, List.length_append, and_true, true_and, and_self] <;> omega)) only [need_true]
    | true =>
      obtain ⟨g1, n, g2, g3, g4, g5⟩ := hd (by simpa [eqI] using hz)
      have hlen := encO_len g1
      have hgt : gtI (n : Int) (lenI l.length) = false := decide_eq_false (by unfold lenI; omega)
      simp only [g1, g2, lap_at (n := n) rfl, take_n, g5, bc_back, hgt]
      generalize encO (oP l) (oK l) (oV l) = e at g3 hlen ⊢
      simp only [ite_tt, ite_ff, sameL_self, not_tt]
      simp (disch := first | rfl | (simp only [bool_and, ble_iff, beq_iff, fz_iff, cut_iff, bc_flat, bc_one, Nat.mul_eq, Nat.add_eq, List.length_append, and_true, true_and, and_self] <;> omega)) only [need_true]
end Go.VS.Try
end

section
namespace Go.VS
set_option linter.unusedSimpArgs false
set_option linter.unusedVariables false
section
variable {P : Program}

theorem cell_one {w : World} {r : Reach} {base : Nat} {t : TypeId} {v : Value} (h : Cell.okWide P w r base t v) : v.oneCell' = true := by
  cases v with
  | agg cs => cases hu : P.underlying t with
    | none => simp [Cell.okWide, Cell.ok, hu] at h
    | some d => cases d <;> simp [Cell.okWide, Cell.ok, hu] at h
  | tuple cs => cases hu : P.underlying t with
    | none => simp [Cell.okWide, Cell.ok, hu] at h
    | some d => cases d <;> simp [Cell.okWide, Cell.ok, hu] at h
  | _ => rfl

theorem vrl_tops {β : Env} : ∀ (l : List Value), (∀ v ∈ l, v.oneCell' = true) → VRL β (List.replicate l.length (.chan (some 0))) l
  | [], _ => VRL.nil
  | v :: l, h => VRL.cons (h v (by simp)) (vrl_tops l fun x hx => h x (by simp [hx]))

theorem top_struct {β : Env} {w : World} {r : Reach} {base : Nat} {t : TypeId} {v : Value} {fs : Array Field} {n : Nat} (ht : P.underlying t = some (.struct fs)) (hn : P.cellsOf t = n) (h : Value.okWide P w r base t v) :
    VR β (.agg ⟨List.replicate n (.chan (some 0))⟩) v := by
  unfold Value.okWide at h
  rw [ht] at h
  obtain ⟨cs, rfl, hsz, ts, _, _, hc⟩ := h
  refine ⟨cs, rfl, ?_⟩
  obtain ⟨l⟩ := cs
  have hl : l.length = n := by rw [← hn, ← hsz]; rfl
  show VRL β (List.replicate n (.chan (some 0))) l
  rw [← hl]
  refine vrl_tops l fun v hv => ?_
  obtain ⟨i, hi⟩ := List.getElem?_of_mem hv
  obtain ⟨u, _, hu⟩ := hc i v (by simpa using hi)
  exact cell_one hu

theorem top_int {β : Env} {w : World} {r : Reach} {base : Nat} {t : TypeId} {v : Value} {k : IntKind} (ht : P.underlying t = some (.int k)) (h : Value.okWide P w r base t v) : VR β (.chan (some 0)) v := by
  unfold Value.okWide at h
  rw [ht] at h
  exact cell_one h

theorem struct_cells {w : World} {r : Reach} {base : Nat} {t : TypeId} {v : Value} {fs : Array Field} {ts : List TypeId} (ht : P.underlying t = some (.struct fs)) (hts : P.cellTypes P.depth t = some ts) (hn : P.cellsOf t = ts.length) (h : Value.okWide P w r base t v) :
    ∃ l : List Value, v = .agg ⟨l⟩ ∧ l.length = ts.length ∧ ∀ (i : Nat) u x, ts[i]? = some u → l[i]? = some x → Cell.okWide P w r base u x := by
  unfold Value.okWide at h
  rw [ht] at h
  obtain ⟨cs, rfl, hsz, ts', h1, _, hc⟩ := h
  rw [hts] at h1
  obtain rfl := Option.some.inj h1
  obtain ⟨l⟩ := cs
  have hl : l.length = ts.length := by rw [← hn, ← hsz]; rfl
  refine ⟨l, rfl, hl, fun i u x hu hx => ?_⟩
  obtain ⟨u', h1, h2⟩ := hc i x (by simpa using hx)
  have : i < ts.length := (List.getElem?_eq_some_iff.1 hu).1
  rw [Nat.mod_eq_of_lt this, hu] at h1
  obtain rfl := Option.some.inj h1
  exact h2
theorem cell_int {w : World} {r : Reach} {base : Nat} {t : TypeId} {k : IntKind} {v : Value} (ht : P.underlying t = some (.int k)) (h : Cell.okWide P w r base t v) : ∃ n, v = .int k n :=
  WideShapes.okWide_int ht (by unfold Value.okWide; rw [ht]; exact h)
theorem cell_string {w : World} {r : Reach} {base : Nat} {t : TypeId} {v : Value} (ht : P.underlying t = some .string) (h : Cell.okWide P w r base t v) : ∃ s, v = .string s :=
  WideShapes.okWide_string ht (by unfold Value.okWide; rw [ht]; exact h)
theorem cell_bool {w : World} {r : Reach} {base : Nat} {t : TypeId} {v : Value} (ht : P.underlying t = some .bool) (h : Cell.okWide P w r base t v) : ∃ b, v = .bool b :=
  WideShapes.okWide_bool ht (by unfold Value.okWide; rw [ht]; exact h)
theorem vr_agg {β : Env} {l l' : List Value} (h : VRL β l l') : VR β (.agg ⟨l⟩) (.agg ⟨l'⟩) := ⟨_, rfl, h⟩
theorem vr_int {β : Env} {k : IntKind} {n : Int} : VR β (.int k n) (.int k n) := rfl
theorem vr_string {β : Env} {s : ByteArray} : VR β (.string s) (.string s) := rfl
theorem vr_bool {β : Env} {b : Bool} : VR β (.bool b) (.bool b) := rfl
theorem vr_top {β : Env} {v : Value} (h : v.oneCell' = true) : VR β (.chan (some 0)) v := h
end
end Go.VS
end

section
namespace Go.VS
set_option linter.unusedSimpArgs false
set_option linter.unusedVariables false
section
variable {P : Program}

theorem add_zero (a : Addr) : a.add 0 = a := by unfold Addr.add; simp
theorem spot_none {w : World} {a : Addr} {v : Value} (h : w.cell? (a.add 0) = some v) : a.spot = none := by
  rw [add_zero] at h
  unfold World.cell? at h
  split at h
  · cases hs : a.spot with
    | none => rfl
    | some s => rw [hs] at h; cases h
  · cases h
theorem cell_get {w : World} {a : Addr} {i : Nat} {v : Value} (hs : a.spot = none) (h : w.cell? (a.add i) = some v) : ∃ c e f, w.heap[a.block]? = some (.cells c e f) ∧ c[a.off + i]? = some v := by
  have : a.add i = ⟨a.block, a.off + i, none⟩ := by
    obtain ⟨b, o, s⟩ := a
    cases hs; simp [Addr.add]
  rw [this] at h
  unfold World.cell? at h
  split at h
  · rename_i c e f hg
    exact ⟨c, e, f, hg, by simpa using h⟩
  · cases h

theorem seg_vr {w : World} {a : Addr} {cs : List Value} {n sz cap : Nat} (hsz : sz ≠ 0) (hcap : n ≤ cap) (hlen : cs.length = n * sz) (hf : flatL cs = true) (hc : ∀ i v, cs[i]? = some v → w.cell? (a.add i) = some v) (h1 : ∀ v ∈ cs, v.oneCell' = true) : VR (envOf w) (mkFz sz n 0 cs) (.slice (some a) n cap) := by
  refine fz_mk hsz ?_
  unfold FrzR
  rw [if_neg hsz]
  refine ⟨hlen, ?_⟩
  by_cases hn : n = 0
  · exact Or.inr (Or.inl ⟨hn, a, cap, by rw [hn], fun h => absurd rfl h⟩)
  · have h0 : 0 < cs.length := by rw [hlen]; exact Nat.mul_pos (by omega) (by omega)
    obtain ⟨v0, hv0⟩ : ∃ v, cs[0]? = some v := ⟨_, List.getElem?_eq_getElem h0⟩
    have g2 := spot_none (hc 0 v0 hv0)
    obtain ⟨c, e, f, g1, g3⟩ := cell_get g2 (hc 0 v0 hv0)
    have hget : ∀ i v, cs[i]? = some v → c[a.off + i]? = some v := by
      intro i v hi
      obtain ⟨c', e', f', k1, k3⟩ := cell_get g2 (hc i v hi)
      rw [g1] at k1
      simp only [Option.some.injEq, Obj.cells.injEq] at k1
      obtain ⟨rfl, rfl, rfl⟩ := k1
      exact k3
    have hseg : (c.toList.drop a.off).take cs.length = cs := by
      apply List.ext_getElem?
      intro i
      rw [List.getElem?_take]
      split
      · rename_i hi
        rw [List.getElem?_drop, List.getElem?_eq_getElem hi]
        have := hget i _ (List.getElem?_eq_getElem hi)
        rw [Array.getElem?_toList]; exact this
      · rename_i hi
        rw [List.getElem?_eq_none (by omega)]
    have hle : a.off + cs.length ≤ c.size := by
      have := hget (cs.length - 1) _ (List.getElem?_eq_getElem (by omega))
      have := (Array.getElem?_eq_some_iff.1 this).1
      omega
    have haddr : a = ⟨a.block, a.off, none⟩ := by
      obtain ⟨b, o, s⟩ := a
      cases g2; rfl
    have henv : envOf w (Int.negSucc a.block) = some ⟨a.block, 0, 0, 0, some (.cells c e f), false⟩ := by simp [envOf, g1]
    refine Or.inr (Or.inr ⟨by omega, a.block, a.off, cap, c, e, f, _, by rw [← haddr], fun h => absurd rfl h, henv, rfl, hle, ?_, ?_⟩)
    · rw [negE_envOf, hseg]
      exact VRL.flat_refl _ hf
    · exact hcap

variable {H : Type} {enc : TypeId × Value → H}
open Go.ChangeShapes in
/-- A list of ints that came in. -/
theorem open_ints_vr {w : World} {t e : TypeId} {k : IntKind} {v : Value} {d : DataW H} {ps : List MemPlace} {r : Reach} {b0 : Nat} (ht : P.underlying t = some (.slice e)) (he : P.underlying e = some (.int k)) (hc : P.cellsOf e = 1)
    (hval : Value.okWide P w r b0 t v) (h : DataW.Trod enc P w 0 (fun _ => true) true t v d ps) :
    ∃ zs rest : List Int, VR (envOf w) (mkFz 1 zs.length 0 (zs.map (Value.int k))) v ∧ (d = .nil ∧ zs = [] ∨ d = .slice (lits k zs) (lits k rest)) ∧ ∀ n ∈ zs, (Lit.int k n).wf = true := by
  have hv : v.cells = #[v] := by
    unfold Value.okWide at hval
    rw [ht] at hval
    have := cell_one hval
    cases v <;> first | rfl | simp [Value.oneCell'] at this
  obtain ⟨fuel, h⟩ := h
  rw [hv] at h
  rcases open_ints ht he hc h with ⟨h1, h2⟩ | ⟨a, len, cap, zs, h1, h2, h3, h4, h5, h6, h7, h8⟩
  · simp only [List.cons.injEq, and_true] at h1
    subst h1
    simp only [Prod.mk.injEq] at h2
    refine ⟨[], [], ?_, Or.inl ⟨h2.1, rfl⟩, by simp⟩
    refine fz_mk (by decide) ?_
    unfold FrzR
    rw [if_neg (by decide)]
    exact ⟨rfl, Or.inl ⟨rfl, by omega, rfl⟩⟩
  · simp only [List.cons.injEq, and_true] at h1
    subst h1
    simp only [if_true] at h5
    simp only [Prod.mk.injEq] at h6
    refine ⟨zs.take len, zs.drop len, ?_, Or.inr h6.1, fun n hn => h8 n (List.mem_of_mem_take hn)⟩
    have hl : (zs.take len).length = len := by rw [List.length_take]; omega
    rw [hl]
    refine seg_vr (by decide) h3 (by rw [List.length_map, hl, Nat.mul_one]) ?_ ?_ ?_
    · generalize zs.take len = l
      induction l with
      | nil => rfl
      | cons x l ih => simpa [flatL, flat] using ih
    · intro i v hi
      rw [List.getElem?_map, Option.map_eq_some_iff] at hi
      obtain ⟨n, hn, rfl⟩ := hi
      have hi : i < len := by have := (List.getElem?_eq_some_iff.1 hn).1; omega
      rw [h7 i (by omega)]
      rw [List.getElem?_take, if_pos hi] at hn
      rw [List.getD_eq_getElem?_getD, hn]; rfl
    · intro v hv
      obtain ⟨n, _, rfl⟩ := List.mem_map.1 hv
      rfl
theorem bytes_of : ∀ {zs : List Int}, (∀ n ∈ zs, (Lit.int .u8 n).wf = true) → ∃ l : List UInt8, zs.map (Value.int .u8) = l.map (fun b => Value.int .u8 b.toNat) ∧ l.length = zs.length
  | [], _ => ⟨[], rfl, rfl⟩
  | n :: zs, h => by
    obtain ⟨l, h1, h2⟩ := bytes_of (zs := zs) fun m hm => h m (by simp [hm])
    have hn := h n (by simp)
    have hn : 0 ≤ n ∧ n < 256 := by
      simp only [Lit.wf, Bool.and_eq_true, decide_eq_true_eq, show IntKind.u8.min = 0 from rfl, show IntKind.u8.max = 255 from rfl] at hn
      omega
    refine ⟨UInt8.ofNat n.toNat :: l, ?_, by simp [h2]⟩
    simp only [List.map_cons, h1, List.cons.injEq, and_true]
    congr 1
    simp only [UInt8.toNat_ofNat']
    omega
end
end Go.VS
end

section
namespace Go.Proofs.Ytbdeppefllcocaa.opBack
open Go.ChangeShapes Go.WideShapes Go.ChangeAt Go.RowKit
open Go.ChangeMaps (open_string shut_string)
set_option linter.unusedVariables false
set_option linter.unusedSimpArgs false

theorem own : ownKnob Try.prog.godebug = none := by kernel_rfl
theorem laidOut : laidOutB Try.prog = true := by kernel_rfl

theorem walk {p : Bool} {k u : ByteArray} {l : List UInt8} {s t : ByteArray} {v0 v1 : Value} (w : World) (h0 : VS.VR (VS.envOf w) (.agg ⟨[.bool p, .string k, .string u]⟩) v0) (h : VS.VR (VS.envOf w) (VS.mkFz 1 l.length 0 (VS.bc l)) v1) (hl : l.length ≤ 1048576) (hs : s.size ≤ 1048576) (ht : t.size ≤ 1048576) :
    Calls Try.prog 10 #[v0, v1, .string s, .string t] w fun e w' => e = .returned (.bool true) ∧ Below w.heap.size w w' :=
  VS.CR.true_calls (VS.CR.of (VS.Try.engOk VS.Try.ctB) VS.Try.noNum VS.Try.ctB_ok (VS.Try.opBack_run (p := p) (k := k) (v := u) (b := 0) hl hs ht)) (args' := #[v0, v1, .string s, .string t]) (VS.VRL.cons h0 (VS.VRL.cons h (VS.VRL.cons rfl (VS.VRL.cons rfl VS.VRL.nil))))

theorem bulk {H : Type} (k : IntKind) : ∀ zs : List Int, Rows.uptoBulkAll (lits (H := H) k zs) = zs.length
  | [] => rfl
  | n :: zs => by
    show Rows.uptoBulk (DataW.lit (H := H) (.int k n)) + Rows.uptoBulkAll (lits (H := H) k zs) = _
    rw [bulk k zs]
    simp only [Rows.uptoBulk, List.length_cons]; omega
set_option maxRecDepth 100000 in
theorem openOp {W : World} {base : Nat} {v : Value} (h : Value.okWide Try.prog W .any base 39 v) : ∃ (p : Bool) (k u : ByteArray), VS.VR (VS.envOf W) (.agg ⟨[.bool p, .string k, .string u]⟩) v := by
  obtain ⟨l, rfl, hl, hc⟩ := VS.struct_cells (ts := [4, 9, 9]) Try.underlying39 (by kernel_rfl) (by kernel_rfl) h
  match l, hl with
  | [c0, c1, c2], _ =>
    obtain ⟨p, rfl⟩ := VS.cell_bool Try.underlying4 (hc 0 _ _ rfl rfl)
    obtain ⟨k, rfl⟩ := VS.cell_string Try.underlying9 (hc 1 _ _ rfl rfl)
    obtain ⟨u, rfl⟩ := VS.cell_string Try.underlying9 (hc 2 _ _ rfl rfl)
    exact ⟨p, k, u, VS.vr_agg (VS.VRL.cons rfl (VS.VRL.cons rfl (VS.VRL.cons rfl VS.VRL.nil)))⟩

theorem contract (H : Type) (enc : TypeId × Value → H) (W : World) (base : Nat) (args : Array Value) (ds gs : List (DataW H)) (before : List MemPlace)
    (hval : ∀ (j : Nat) t v, Try.f10.params[j]? = some t → args[j]? = some v → Value.okWide Try.prog W .any base t v)
    (hW : DataW.Whole enc Try.prog Try.f10.params.toList Rows.opBackSpec.vars false W args.toList ds gs before) (hk : Rows.uptoSmall H (ds ++ gs) = true) :
    Calls Try.prog 10 args W fun e W' => ∃ v, e = .returned v ∧ Rows.opBackSpec.post enc Try.prog Try.f10 false true false false W args v W' := by
  have hW' := hW
  obtain ⟨p, q, hA0, hV, rfl, hfz, hnd⟩ := hW
  have hA : DataW.TrodAll enc Try.prog W 0 (fun _ => true) true Try.f10.params.toList args.toList ds p := hA0
  rw [Try.params10] at hA hval
  obtain ⟨v0, vs0, d0, ds0, p0, q0, hargs, rfl, rfl, h0, r0⟩ := trodAll_cons hA
  obtain ⟨v1, vs1, d1, ds1, p1, q1, rfl, rfl, rfl, h1, r1⟩ := trodAll_cons r0
  obtain ⟨v2, vs2, d2, ds2, p2, q2, rfl, rfl, rfl, h2, r2⟩ := trodAll_cons r1
  obtain ⟨v3, vs3, d3, ds3, p3, q3, rfl, rfl, rfl, h3, r3⟩ := trodAll_cons r2
  obtain ⟨rfl, rfl, rfl⟩ := trodAll_nil r3
  obtain rfl : args = #[v0, v1, v2, v3] := by cases args; simp_all
  obtain ⟨rfl, rfl⟩ := trodVars_none hV
  obtain ⟨pb, ks, us, g0⟩ := openOp (hval 0 39 v0 rfl rfl)
  obtain ⟨zs, rest, g1, hd, hwf⟩ := VS.open_ints_vr Try.underlying37 Try.underlying5 (by kernel_rfl) (hval 1 37 v1 rfl rfl) h1
  obtain ⟨l, hl1, hl2⟩ := VS.bytes_of hwf
  have e : zs.map (Value.int .u8) = VS.bc l := hl1
  rw [e, ← hl2] at g1
  obtain ⟨s, rfl, rfl, rfl, hmax⟩ := open_string Try.underlying9 (hval 2 9 v2 rfl rfl) h2
  obtain ⟨t, rfl, rfl, rfl, hmax1⟩ := open_string Try.underlying9 (hval 3 9 v3 rfl rfl) h3
  clear hA0
  simp only [List.append_nil] at hW' hk
  have e2 : s.data.toList.length = s.size := by rw [Array.length_toList]; rfl
  have e3 : t.data.toList.length = t.size := by rw [Array.length_toList]; rfl
  have hsz : l.length ≤ 1048576 ∧ s.size ≤ 1048576 ∧ t.size ≤ 1048576 := by
    have h : Rows.uptoBulkAll [d0, d1, DataW.lit (H := H) (.string s.data.toList), .lit (.string t.data.toList)] ≤ 1048576 := of_decide_eq_true hk
    simp only [Rows.uptoBulkAll, Rows.uptoBulk] at h
    rcases hd with ⟨_, h2⟩ | rfl
    · rw [hl2, h2]
      refine ⟨by simp, by omega, by omega⟩
    · have hb : Rows.uptoBulk (DataW.slice (lits (H := H) .u8 zs) (lits (H := H) .u8 rest)) = zs.length + rest.length + 1 := by
        show Rows.uptoBulkAll (lits (H := H) .u8 zs) + Rows.uptoBulkAll (lits (H := H) .u8 rest) + 1 = _
        rw [bulk, bulk]
      rw [hb] at h
      omega
  have hlt0 : ∀ x ∈ p0, x.block < W.heap.size := fun x hx => by simpa using hW'.lt x (by simp [hx])
  have hlt1 : ∀ x ∈ p1, x.block < W.heap.size := fun x hx => by simpa using hW'.lt x (by simp [hx])
  have hlt2 : ∀ x ∈ ([] : List MemPlace), x.block < W.heap.size := fun x hx => by simp at hx
  refine (walk W g0 g1 hsz.1 hsz.2.1 hsz.2.2).mono fun e W' ⟨he, hg⟩ => ?_
  subst he
  refine ⟨_, rfl, _, _, _, [], p0 ++ p1, [], hW', ?_, ?_, rfl, hg.frame _, fun h => by cases h⟩
  · exact trodAll_cons_mk (shut_bool Try.underlying4 _) trodAll_mk0
  · have T4 := (trodAll_mk0 : DataW.TrodAll enc Try.prog W' 0 (fun b => decide (b < W.heap.size)) true [] [] [] [])
    have T3 := trodAll_cons_mk (shut_string Try.underlying9 hmax1) T4
    have T2 := trodAll_cons_mk (shut_string Try.underlying9 hmax) T3
    have T1 := trodAll_cons_mk (Below.trod laidOut (by kernel_rfl) (of_decide_eq_true (by kernel_rfl)) h1 hg hlt1) T2
    have T0 := trodAll_cons_mk (Below.trod laidOut (by kernel_rfl) (of_decide_eq_true (by kernel_rfl)) h0 hg hlt0) T1
    simp only [List.append_nil] at T0
    exact T0

set_option maxRecDepth 100000 in
theorem lifted (os : Os) (started : os.Started) (H : Type) (enc : TypeId × Value → H) (F : Stop.Interp) :
    ReturnsInHanded {} Try.checked os 10 .any ((Rows.OpenSpec.upto Rows.opBackSpec).pre6 enc Try.prog Try.f10 Rows.opBackUptoRow.domain false) (((Rows.OpenSpec.upto Rows.opBackSpec).at F).post enc Try.prog Try.f10 false true false false) := by
  refine returnsInHanded_of_cond (C := Try.checked) (s := Rows.OpenSpec.upto Rows.opBackSpec) (k := Rows.uptoSmall) rfl own started (by kernel_rfl) Try.func10
    (OpenSpec.witness (enc := enc) (C := Try.checked) (s := Rows.OpenSpec.upto Rows.opBackSpec) (k := Rows.uptoSmall) rfl false ⟨#[], #[.agg #[.bool false, .string .empty, .string .empty], .slice none 0 0, .string .empty, .string .empty], []⟩ 8 (by kernel_rfl) (by kernel_rfl) (by kernel_rfl)
      (x := ([.agg [.lit (.bool false), .lit (.string []), .lit (.string [])], .nil, .lit (.string []), .lit (.string [])], [], [])) (by kernel_rfl) rfl (by kernel_rfl)) ?_
  intro W base args ds gs before hval hW _ hk _
  exact contract H enc W base args ds gs before hval hW hk

theorem proved : Rows.OpBackUptoSaid :=
  OpenClaim.holds_of_cond 10 Try.f10 rfl rfl rfl rfl rfl rfl rfl ⟨rfl, rfl, rfl, rfl, rfl⟩ rfl rfl rfl rfl rfl (by kernel_rfl) Try.func10 (by kernel_rfl)
    (of_decide_eq_true (by kernel_rfl)) (by unfold Func.isWrapper; first | (rw [if_pos (by decide +kernel)]; kernel_rfl) | (rw [if_neg (by decide +kernel)]; exact ⟨rfl, rfl⟩))
    (fun os started H enc _ F => lifted os started H enc F)
#print axioms proved
end Go.Proofs.Ytbdeppefllcocaa.opBack
end
