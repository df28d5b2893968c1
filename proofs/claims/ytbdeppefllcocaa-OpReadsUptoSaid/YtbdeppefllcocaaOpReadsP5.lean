/- The law 'OpReads', where what it reads is of bulk at most 1048576: the call returns true. Conditions: none. -/
import Derived.Test.YtbdeppefllcocaaOpReadsP3
import Derived.Test.YtbdeppefllcocaaOpReadsP4
import Derived.WalkKit
import Derived.ProofKit
import Derived.OpenShut
import Derived.Carry
import Derived.ChangeSlices
import Derived.Test.YtbdeppefllcocaaRows
import Derived.JoinedCond
section
namespace Go.VS.Try
set_option linter.unusedSimpArgs false
set_option linter.unusedVariables false
set_option maxRecDepth 1000000
open Go.VS
/-! ### the reader's calls within one run: what they come to has names, by what they are called with -/
def NrdSV (Q : Nat → Nat → List Value → Int → Int → Bool → Nat → Bool) (V A : Int → Int) (B : Int → Bool) : CallFnM
  | [.pointer (some ⟨0, 0, none⟩), .int .i64 m], [.cells [.iface t (.agg ⟨.slice none n b :: c⟩), .int .i64 a, .bool bad] e true] =>
    some (.ite (Q t n c a m bad e) (.leaf (.int .i64 (V m), [rdK t n b c (A m) (B m) e])) .fail)
  | _, _ => none
def NrdBV (Q : Nat → Nat → List Value → Int → Int → Nat → Bool) (A : Int → Int → Bool → Int) (Z B : Int → Int → Bool → Bool) (L : Int → Nat) (G : Int → Int → List Value) : CallFnM
  | [.pointer (some ⟨0, 0, none⟩), .int .i64 m], [.cells [.iface t (.agg ⟨.slice none n b :: c⟩), .int .i64 a, .bool bad] e true] =>
    some (.ite (Q t n c a m e) (.ite (Z a m bad) (.leaf (.slice none 0 0, [rdK t n b c (A a m bad) (B a m bad) e]))
      (.leaf (.slice (some ⟨1, 0, none⟩) (L m) unk, [rdK t n b c (A a m bad) (B a m bad) e, .cells (G a m) 5 false]))) .fail)
  | _, _ => none
noncomputable def ctN (Qs : Nat → Nat → List Value → Int → Int → Bool → Nat → Bool) (V A : Int → Int) (B : Int → Bool) (Qb : Nat → Nat → List Value → Int → Int → Nat → Bool) (A2 : Int → Int → Bool → Int) (Z2 B2 : Int → Int → Bool → Bool) (L2 : Int → Nat) (G2 : Int → Int → List Value) (O : Bool → ByteArray → ByteArray → Bool) : Ct :=
  addCallM 64 (NrdSV Qs V A B) (addCallM 65 (NrdBV Qb A2 Z2 B2 L2 G2) (addCall P 34 (RcheckV O) noCt))
theorem dec_rOpRead (Qs : Nat → Nat → List Value → Int → Int → Bool → Nat → Bool) (V A : Int → Int) (B : Int → Bool) (Qb : Nat → Nat → List Value → Int → Int → Nat → Bool) (A2 : Int → Int → Bool → Int) (Z2 B2 : Int → Int → Bool → Bool) (L2 : Int → Nat) (G2 : Int → Int → List Value) (O : Bool → ByteArray → ByteArray → Bool) (n b : Nat) (c : List Value) : callQ P E (ctN Qs V A B Qb A2 Z2 B2 L2 G2 O) 50 39 [mkFz 1 n b c] =
  (needB (Qs 18446744073709551617 n c (0 : Int) (1 : Int) Bool.false 69)
   (needB (Qs 18446744073709551617 n c (A (1 : Int)) (16 : Int) (B (1 : Int)) 69)
    (needB (Qb 18446744073709551617 n c (A (16 : Int)) (V (16 : Int)) 69)
     (iteB (Z2 (A (16 : Int)) (V (16 : Int)) (B (16 : Int)))
      (iteB (Go.VS.eqI (V (1 : Int)) (1 : Int))
       (needB (Qs 18446744073709551617 n c (A2 (A (16 : Int)) (V (16 : Int)) (B (16 : Int))) (32 : Int) (B2 (A (16 : Int)) (V (16 : Int)) (B (16 : Int))) 69)
        (needB (Qb 18446744073709551617 n c (A (32 : Int)) (V (32 : Int)) 69)
         (iteB (Z2 (A (32 : Int)) (V (32 : Int)) (B (32 : Int)))
          (iteB (B2 (A (32 : Int)) (V (32 : Int)) (B (32 : Int)))
           (some ((Go.Value.tuple (Array.mk [(Go.Value.agg (Array.mk [(Go.Value.bool Bool.false), (Go.Value.string (ByteArray.mk #[])), (Go.Value.string (ByteArray.mk #[]))])), (Go.Value.int Go.IntKind.i64 (0 : Int)), (Go.Value.int Go.IntKind.i64 (5 : Int))])), (Go.VS.mkSt [])))
           (iteB (O (Go.VS.eqI (V (1 : Int)) (1 : Int)) (ByteArray.mk #[]) (ByteArray.mk #[]))
            (iteB (B2 (A (32 : Int)) (V (32 : Int)) (B (32 : Int)))
             (some ((Go.Value.tuple (Array.mk [(Go.Value.agg (Array.mk [(Go.Value.bool Bool.false), (Go.Value.string (ByteArray.mk #[])), (Go.Value.string (ByteArray.mk #[]))])), (Go.Value.int Go.IntKind.i64 (0 : Int)), (Go.Value.int Go.IntKind.i64 (5 : Int))])), (Go.VS.mkSt [])))
             (needB (Go.VS.beqV (Go.Value.int Go.IntKind.i64 (A2 (A (32 : Int)) (V (32 : Int)) (B (32 : Int)))) (Go.Value.int Go.IntKind.i64 (A2 (A (32 : Int)) (V (32 : Int)) (B (32 : Int)))))
              (some ((Go.Value.tuple (Array.mk [(Go.Value.agg (Array.mk [(Go.Value.bool (Go.VS.eqI (V (1 : Int)) (1 : Int))), (Go.Value.string (ByteArray.mk #[])), (Go.Value.string (ByteArray.mk #[]))])), (Go.Value.int Go.IntKind.i64 (A2 (A (32 : Int)) (V (32 : Int)) (B (32 : Int)))), (Go.Value.int Go.IntKind.i64 (0 : Int))])), (Go.VS.mkSt [])))))
            (some ((Go.Value.tuple (Array.mk [(Go.Value.agg (Array.mk [(Go.Value.bool Bool.false), (Go.Value.string (ByteArray.mk #[])), (Go.Value.string (ByteArray.mk #[]))])), (Go.Value.int Go.IntKind.i64 (0 : Int)), (Go.Value.int Go.IntKind.i64 (5 : Int))])), (Go.VS.mkSt [])))))
          (needB (Bool.and (Nat.ble (Nat.add 0 (L2 (V (32 : Int)))) (List.length (Go.VS.renL Bool.true (Go.VS.backN [1] 4) (G2 (A (32 : Int)) (V (32 : Int)))))) (Go.VS.allBytes (Go.VS.takeC (L2 (V (32 : Int))) (Go.VS.dropC 0 (Go.VS.renL Bool.true (Go.VS.backN [1] 4) (G2 (A (32 : Int)) (V (32 : Int))))))))
           (iteB (B2 (A (32 : Int)) (V (32 : Int)) (B (32 : Int)))
            (some ((Go.Value.tuple (Array.mk [(Go.Value.agg (Array.mk [(Go.Value.bool Bool.false), (Go.Value.string (ByteArray.mk #[])), (Go.Value.string (ByteArray.mk #[]))])), (Go.Value.int Go.IntKind.i64 (0 : Int)), (Go.Value.int Go.IntKind.i64 (5 : Int))])), (Go.VS.mkSt [])))
            (iteB (O (Go.VS.eqI (V (1 : Int)) (1 : Int)) (ByteArray.mk #[]) (Go.VS.bytesT (Go.VS.takeC (L2 (V (32 : Int))) (Go.VS.dropC 0 (Go.VS.renL Bool.true (Go.VS.backN [1] 4) (G2 (A (32 : Int)) (V (32 : Int))))))))
             (iteB (B2 (A (32 : Int)) (V (32 : Int)) (B (32 : Int)))
              (some ((Go.Value.tuple (Array.mk [(Go.Value.agg (Array.mk [(Go.Value.bool Bool.false), (Go.Value.string (ByteArray.mk #[])), (Go.Value.string (ByteArray.mk #[]))])), (Go.Value.int Go.IntKind.i64 (0 : Int)), (Go.Value.int Go.IntKind.i64 (5 : Int))])), (Go.VS.mkSt [])))
              (needB (Go.VS.beqV (Go.Value.int Go.IntKind.i64 (A2 (A (32 : Int)) (V (32 : Int)) (B (32 : Int)))) (Go.Value.int Go.IntKind.i64 (A2 (A (32 : Int)) (V (32 : Int)) (B (32 : Int)))))
               (some ((Go.Value.tuple (Array.mk [(Go.Value.agg (Array.mk [(Go.Value.bool (Go.VS.eqI (V (1 : Int)) (1 : Int))), (Go.Value.string (ByteArray.mk #[])), (Go.Value.string (Go.VS.bytesT (Go.VS.takeC (L2 (V (32 : Int))) (Go.VS.dropC 0 (Go.VS.renL Bool.true (Go.VS.backN [1] 4) (G2 (A (32 : Int)) (V (32 : Int))))))))])), (Go.Value.int Go.IntKind.i64 (A2 (A (32 : Int)) (V (32 : Int)) (B (32 : Int)))), (Go.Value.int Go.IntKind.i64 (0 : Int))])), (Go.VS.mkSt [])))))
             (some ((Go.Value.tuple (Array.mk [(Go.Value.agg (Array.mk [(Go.Value.bool Bool.false), (Go.Value.string (ByteArray.mk #[])), (Go.Value.string (ByteArray.mk #[]))])), (Go.Value.int Go.IntKind.i64 (0 : Int)), (Go.Value.int Go.IntKind.i64 (5 : Int))])), (Go.VS.mkSt [])))))))))
       (iteB (B2 (A (16 : Int)) (V (16 : Int)) (B (16 : Int)))
        (some ((Go.Value.tuple (Array.mk [(Go.Value.agg (Array.mk [(Go.Value.bool Bool.false), (Go.Value.string (ByteArray.mk #[])), (Go.Value.string (ByteArray.mk #[]))])), (Go.Value.int Go.IntKind.i64 (0 : Int)), (Go.Value.int Go.IntKind.i64 (5 : Int))])), (Go.VS.mkSt [])))
        (iteB (O (Go.VS.eqI (V (1 : Int)) (1 : Int)) (ByteArray.mk #[]) (ByteArray.mk #[]))
         (iteB (B2 (A (16 : Int)) (V (16 : Int)) (B (16 : Int)))
          (some ((Go.Value.tuple (Array.mk [(Go.Value.agg (Array.mk [(Go.Value.bool Bool.false), (Go.Value.string (ByteArray.mk #[])), (Go.Value.string (ByteArray.mk #[]))])), (Go.Value.int Go.IntKind.i64 (0 : Int)), (Go.Value.int Go.IntKind.i64 (5 : Int))])), (Go.VS.mkSt [])))
          (needB (Go.VS.beqV (Go.Value.int Go.IntKind.i64 (A2 (A (16 : Int)) (V (16 : Int)) (B (16 : Int)))) (Go.Value.int Go.IntKind.i64 (A2 (A (16 : Int)) (V (16 : Int)) (B (16 : Int)))))
           (some ((Go.Value.tuple (Array.mk [(Go.Value.agg (Array.mk [(Go.Value.bool (Go.VS.eqI (V (1 : Int)) (1 : Int))), (Go.Value.string (ByteArray.mk #[])), (Go.Value.string (ByteArray.mk #[]))])), (Go.Value.int Go.IntKind.i64 (A2 (A (16 : Int)) (V (16 : Int)) (B (16 : Int)))), (Go.Value.int Go.IntKind.i64 (0 : Int))])), (Go.VS.mkSt [])))))
         (some ((Go.Value.tuple (Array.mk [(Go.Value.agg (Array.mk [(Go.Value.bool Bool.false), (Go.Value.string (ByteArray.mk #[])), (Go.Value.string (ByteArray.mk #[]))])), (Go.Value.int Go.IntKind.i64 (0 : Int)), (Go.Value.int Go.IntKind.i64 (5 : Int))])), (Go.VS.mkSt []))))))
      (needB (Bool.and (Nat.ble (Nat.add 0 (L2 (V (16 : Int)))) (List.length (Go.VS.renL Bool.true (Go.VS.backN [1] 3) (G2 (A (16 : Int)) (V (16 : Int)))))) (Go.VS.allBytes (Go.VS.takeC (L2 (V (16 : Int))) (Go.VS.dropC 0 (Go.VS.renL Bool.true (Go.VS.backN [1] 3) (G2 (A (16 : Int)) (V (16 : Int))))))))
       (iteB (Go.VS.eqI (V (1 : Int)) (1 : Int))
        (needB (Qs 18446744073709551617 n c (A2 (A (16 : Int)) (V (16 : Int)) (B (16 : Int))) (32 : Int) (B2 (A (16 : Int)) (V (16 : Int)) (B (16 : Int))) 69)
         (needB (Qb 18446744073709551617 n c (A (32 : Int)) (V (32 : Int)) 69)
          (iteB (Z2 (A (32 : Int)) (V (32 : Int)) (B (32 : Int)))
           (iteB (B2 (A (32 : Int)) (V (32 : Int)) (B (32 : Int)))
            (some ((Go.Value.tuple (Array.mk [(Go.Value.agg (Array.mk [(Go.Value.bool Bool.false), (Go.Value.string (ByteArray.mk #[])), (Go.Value.string (ByteArray.mk #[]))])), (Go.Value.int Go.IntKind.i64 (0 : Int)), (Go.Value.int Go.IntKind.i64 (5 : Int))])), (Go.VS.mkSt [])))
            (iteB (O (Go.VS.eqI (V (1 : Int)) (1 : Int)) (Go.VS.bytesT (Go.VS.takeC (L2 (V (16 : Int))) (Go.VS.dropC 0 (Go.VS.renL Bool.true (Go.VS.backN [1] 3) (G2 (A (16 : Int)) (V (16 : Int))))))) (ByteArray.mk #[]))
             (iteB (B2 (A (32 : Int)) (V (32 : Int)) (B (32 : Int)))
              (some ((Go.Value.tuple (Array.mk [(Go.Value.agg (Array.mk [(Go.Value.bool Bool.false), (Go.Value.string (ByteArray.mk #[])), (Go.Value.string (ByteArray.mk #[]))])), (Go.Value.int Go.IntKind.i64 (0 : Int)), (Go.Value.int Go.IntKind.i64 (5 : Int))])), (Go.VS.mkSt [])))
              (needB (Go.VS.beqV (Go.Value.int Go.IntKind.i64 (A2 (A (32 : Int)) (V (32 : Int)) (B (32 : Int)))) (Go.Value.int Go.IntKind.i64 (A2 (A (32 : Int)) (V (32 : Int)) (B (32 : Int)))))
               (some ((Go.Value.tuple (Array.mk [(Go.Value.agg (Array.mk [(Go.Value.bool (Go.VS.eqI (V (1 : Int)) (1 : Int))), (Go.Value.string (Go.VS.bytesT (Go.VS.takeC (L2 (V (16 : Int))) (Go.VS.dropC 0 (Go.VS.renL Bool.true (Go.VS.backN [1] 3) (G2 (A (16 : Int)) (V (16 : Int)))))))), (Go.Value.string (ByteArray.mk #[]))])), (Go.Value.int Go.IntKind.i64 (A2 (A (32 : Int)) (V (32 : Int)) (B (32 : Int)))), (Go.Value.int Go.IntKind.i64 (0 : Int))])), (Go.VS.mkSt [])))))
             (some ((Go.Value.tuple (Array.mk [(Go.Value.agg (Array.mk [(Go.Value.bool Bool.false), (Go.Value.string (ByteArray.mk #[])), (Go.Value.string (ByteArray.mk #[]))])), (Go.Value.int Go.IntKind.i64 (0 : Int)), (Go.Value.int Go.IntKind.i64 (5 : Int))])), (Go.VS.mkSt [])))))
           (needB (Bool.and (Nat.ble (Nat.add 0 (L2 (V (32 : Int)))) (List.length (Go.VS.renL Bool.true (Go.VS.backN [1] 5) (G2 (A (32 : Int)) (V (32 : Int)))))) (Go.VS.allBytes (Go.VS.takeC (L2 (V (32 : Int))) (Go.VS.dropC 0 (Go.VS.renL Bool.true (Go.VS.backN [1] 5) (G2 (A (32 : Int)) (V (32 : Int))))))))
            (iteB (B2 (A (32 : Int)) (V (32 : Int)) (B (32 : Int)))
             (some ((Go.Value.tuple (Array.mk [(Go.Value.agg (Array.mk [(Go.Value.bool Bool.false), (Go.Value.string (ByteArray.mk #[])), (Go.Value.string (ByteArray.mk #[]))])), (Go.Value.int Go.IntKind.i64 (0 : Int)), (Go.Value.int Go.IntKind.i64 (5 : Int))])), (Go.VS.mkSt [])))
             (iteB (O (Go.VS.eqI (V (1 : Int)) (1 : Int)) (Go.VS.bytesT (Go.VS.takeC (L2 (V (16 : Int))) (Go.VS.dropC 0 (Go.VS.renL Bool.true (Go.VS.backN [1] 3) (G2 (A (16 : Int)) (V (16 : Int))))))) (Go.VS.bytesT (Go.VS.takeC (L2 (V (32 : Int))) (Go.VS.dropC 0 (Go.VS.renL Bool.true (Go.VS.backN [1] 5) (G2 (A (32 : Int)) (V (32 : Int))))))))
              (iteB (B2 (A (32 : Int)) (V (32 : Int)) (B (32 : Int)))
               (some ((Go.Value.tuple (Array.mk [(Go.Value.agg (Array.mk [(Go.Value.bool Bool.false), (Go.Value.string (ByteArray.mk #[])), (Go.Value.string (ByteArray.mk #[]))])), (Go.Value.int Go.IntKind.i64 (0 : Int)), (Go.Value.int Go.IntKind.i64 (5 : Int))])), (Go.VS.mkSt [])))
               (needB (Go.VS.beqV (Go.Value.int Go.IntKind.i64 (A2 (A (32 : Int)) (V (32 : Int)) (B (32 : Int)))) (Go.Value.int Go.IntKind.i64 (A2 (A (32 : Int)) (V (32 : Int)) (B (32 : Int)))))
                (some ((Go.Value.tuple (Array.mk [(Go.Value.agg (Array.mk [(Go.Value.bool (Go.VS.eqI (V (1 : Int)) (1 : Int))), (Go.Value.string (Go.VS.bytesT (Go.VS.takeC (L2 (V (16 : Int))) (Go.VS.dropC 0 (Go.VS.renL Bool.true (Go.VS.backN [1] 3) (G2 (A (16 : Int)) (V (16 : Int)))))))), (Go.Value.string (Go.VS.bytesT (Go.VS.takeC (L2 (V (32 : Int))) (Go.VS.dropC 0 (Go.VS.renL Bool.true (Go.VS.backN [1] 5) (G2 (A (32 : Int)) (V (32 : Int))))))))])), (Go.Value.int Go.IntKind.i64 (A2 (A (32 : Int)) (V (32 : Int)) (B (32 : Int)))), (Go.Value.int Go.IntKind.i64 (0 : Int))])), (Go.VS.mkSt [])))))
              (some ((Go.Value.tuple (Array.mk [(Go.Value.agg (Array.mk [(Go.Value.bool Bool.false), (Go.Value.string (ByteArray.mk #[])), (Go.Value.string (ByteArray.mk #[]))])), (Go.Value.int Go.IntKind.i64 (0 : Int)), (Go.Value.int Go.IntKind.i64 (5 : Int))])), (Go.VS.mkSt [])))))))))
        (iteB (B2 (A (16 : Int)) (V (16 : Int)) (B (16 : Int)))
         (some ((Go.Value.tuple (Array.mk [(Go.Value.agg (Array.mk [(Go.Value.bool Bool.false), (Go.Value.string (ByteArray.mk #[])), (Go.Value.string (ByteArray.mk #[]))])), (Go.Value.int Go.IntKind.i64 (0 : Int)), (Go.Value.int Go.IntKind.i64 (5 : Int))])), (Go.VS.mkSt [])))
         (iteB (O (Go.VS.eqI (V (1 : Int)) (1 : Int)) (Go.VS.bytesT (Go.VS.takeC (L2 (V (16 : Int))) (Go.VS.dropC 0 (Go.VS.renL Bool.true (Go.VS.backN [1] 3) (G2 (A (16 : Int)) (V (16 : Int))))))) (ByteArray.mk #[]))
          (iteB (B2 (A (16 : Int)) (V (16 : Int)) (B (16 : Int)))
           (some ((Go.Value.tuple (Array.mk [(Go.Value.agg (Array.mk [(Go.Value.bool Bool.false), (Go.Value.string (ByteArray.mk #[])), (Go.Value.string (ByteArray.mk #[]))])), (Go.Value.int Go.IntKind.i64 (0 : Int)), (Go.Value.int Go.IntKind.i64 (5 : Int))])), (Go.VS.mkSt [])))
           (needB (Go.VS.beqV (Go.Value.int Go.IntKind.i64 (A2 (A (16 : Int)) (V (16 : Int)) (B (16 : Int)))) (Go.Value.int Go.IntKind.i64 (A2 (A (16 : Int)) (V (16 : Int)) (B (16 : Int)))))
            (some ((Go.Value.tuple (Array.mk [(Go.Value.agg (Array.mk [(Go.Value.bool (Go.VS.eqI (V (1 : Int)) (1 : Int))), (Go.Value.string (Go.VS.bytesT (Go.VS.takeC (L2 (V (16 : Int))) (Go.VS.dropC 0 (Go.VS.renL Bool.true (Go.VS.backN [1] 3) (G2 (A (16 : Int)) (V (16 : Int)))))))), (Go.Value.string (ByteArray.mk #[]))])), (Go.Value.int Go.IntKind.i64 (A2 (A (16 : Int)) (V (16 : Int)) (B (16 : Int)))), (Go.Value.int Go.IntKind.i64 (0 : Int))])), (Go.VS.mkSt [])))))
          (some ((Go.Value.tuple (Array.mk [(Go.Value.agg (Array.mk [(Go.Value.bool Bool.false), (Go.Value.string (ByteArray.mk #[])), (Go.Value.string (ByteArray.mk #[]))])), (Go.Value.int Go.IntKind.i64 (0 : Int)), (Go.Value.int Go.IntKind.i64 (5 : Int))])), (Go.VS.mkSt []))))))))))) := by kernel_rfl

def errV : Value := .tuple ⟨[.agg ⟨[.bool false, .string ⟨#[]⟩, .string ⟨#[]⟩]⟩, .int .i64 0, .int .i64 5]⟩
def okV (p : Bool) (k v : ByteArray) (n : Int) : Value := .tuple ⟨[.agg ⟨[.bool p, .string k, .string v]⟩, .int .i64 n, .int .i64 0]⟩
def resV (ok p : Bool) (k v : ByteArray) (n : Int) : Value := match ok with | true => okV p k v n | false => errV
theorem ropTail_eq (O : Bool → ByteArray → ByteArray → Bool) {bad p : Bool} {k v k' v' : ByteArray} {n : Int} (hk : bad = false → k = k') (hv : bad = false → v = v') : iteB bad (some (errV, mkSt [])) (iteB (O p k v) (iteB bad (some (errV, mkSt [])) (needB (beqV (.int .i64 n) (.int .i64 n)) (some (okV p k v n, mkSt [])))) (some (errV, mkSt []))) = some (resV (!bad && O p k' v') p k' v' n, mkSt []) := by
  cases bad with
  | true => exact ite_t rfl rfl
  | false =>
    refine ite_f rfl ?_
    obtain rfl := hk rfl
    obtain rfl := hv rfl
    cases h : O p k v with
    | false => exact ite_f rfl rfl
    | true => exact ite_t rfl (ite_f rfl (need_eq (by simp [beqV]) rfl))
theorem rOp_any (Qs : Nat → Nat → List Value → Int → Int → Bool → Nat → Bool) (V A : Int → Int) (B : Int → Bool) (Qb : Nat → Nat → List Value → Int → Int → Nat → Bool) (A2 : Int → Int → Bool → Int) (Z2 B2 : Int → Int → Bool → Bool) (L2 : Int → Nat) (G2 : Int → Int → List Value) (O : Bool → ByteArray → ByteArray → Bool) (n b : Nat) (c : List Value)
    (a3 : Int) (b3 : Bool) (ha3 : A2 (A 16) (V 16) (B 16) = a3) (hb3 : B2 (A 16) (V 16) (B 16) = b3) (a5 : Int) (b5 : Bool) (ha5 : A2 (A 32) (V 32) (B 32) = a5) (hb5 : B2 (A 32) (V 32) (B 32) = b5)
    (h1 : Qs 18446744073709551617 n c 0 1 false 69 = true) (h2 : Qs 18446744073709551617 n c (A 1) 16 (B 1) 69 = true) (h3 : Qb 18446744073709551617 n c (A 16) (V 16) 69 = true)
    (h4 : Qs 18446744073709551617 n c a3 32 b3 69 = true) (h5 : Qb 18446744073709551617 n c (A 32) (V 32) 69 = true)
    (kT vT : ByteArray) (hbb : b3 = true → b5 = true) (hk0 : Z2 (A 16) (V 16) (B 16) = true → b3 = false → kT = ⟨#[]⟩) (hv0 : Z2 (A 32) (V 32) (B 32) = true → b5 = false → vT = ⟨#[]⟩)
    (hk1 : Z2 (A 16) (V 16) (B 16) = false → ∃ l : List UInt8, G2 (A 16) (V 16) = bc l ∧ L2 (V 16) = l.length ∧ kT = ⟨⟨l⟩⟩) (hv1 : Z2 (A 32) (V 32) (B 32) = false → ∃ l : List UInt8, G2 (A 32) (V 32) = bc l ∧ L2 (V 32) = l.length ∧ vT = ⟨⟨l⟩⟩) :
    callQ P E (ctN Qs V A B Qb A2 Z2 B2 L2 G2 O) 50 39 [mkFz 1 n b c] = some (match eqI (V 1) 1 with | true => resV (!b5 && O true kT vT) true kT vT a5 | false => resV (!b3 && O false kT ⟨#[]⟩) false kT ⟨#[]⟩ a3, mkSt []) := by
  rw [dec_rOpRead, ha3, hb3, ha5, hb5]
  have hl : ∀ (ρ : Nat → Option Nat) (l : List UInt8), Bool.and (Nat.ble (Nat.add 0 l.length) (List.length (renL true ρ (bc l)))) (allBytes (takeC l.length (dropC 0 (renL true ρ (bc l))))) = true ∧ bytesT (takeC l.length (dropC 0 (renL true ρ (bc l)))) = ⟨⟨l⟩⟩ := by
    intro ρ l
    have : takeC l.length (dropC 0 (bc l)) = bc l := by unfold takeC dropC; rw [List.drop_zero, List.take_of_length_le (by rw [bc_length]; exact Nat.le_refl _)]
    rw [bc_ren, this]
    exact ⟨and_ok (ble_ok (by rw [bc_length]; show 0 + l.length ≤ _; omega)) (bc_all l), bc_text l⟩
  refine need_eq h1 (need_eq h2 (need_eq h3 ?_))
  cases hz : Z2 (A 16) (V 16) (B 16) with
  | true =>
    refine ite_t rfl ?_
    cases hp : eqI (V 1) 1 with
    | true =>
      refine ite_t rfl (need_eq h4 (need_eq h5 ?_))
      cases hy : Z2 (A 32) (V 32) (B 32) with
      | true => exact ite_t rfl (ropTail_eq O (fun h => (hk0 hz (by cases hb : b3 with | false => rfl | true => rw [hbb hb] at h; cases h)).symm) (fun h => (hv0 hy h).symm))
      | false =>
        obtain ⟨l, g1, g2, rfl⟩ := hv1 hy
        rw [g1, g2, (hl _ l).2]
        exact ite_f rfl (need_eq (hl _ l).1 (ropTail_eq O (fun h => (hk0 hz (by cases hb : b3 with | false => rfl | true => rw [hbb hb] at h; cases h)).symm) (fun h => rfl)))
    | false => exact ite_f rfl (ropTail_eq O (fun h => (hk0 hz h).symm) (fun h => rfl))
  | false =>
    obtain ⟨l, g1, g2, rfl⟩ := hk1 hz
    rw [g1, g2, (hl _ l).2]
    refine ite_f rfl (need_eq (hl _ l).1 ?_)
    cases hp : eqI (V 1) 1 with
    | true =>
      refine ite_t rfl (need_eq h4 (need_eq h5 ?_))
      cases hy : Z2 (A 32) (V 32) (B 32) with
      | true => exact ite_t rfl (ropTail_eq O (fun h => rfl) (fun h => (hv0 hy h).symm))
      | false =>
        obtain ⟨l', g1', g2', rfl⟩ := hv1 hy
        rw [g1', g2', (hl _ l').2]
        exact ite_f rfl (need_eq (hl _ l').1 (ropTail_eq O (fun h => rfl) (fun h => rfl)))
    | false => exact ite_f rfl (ropTail_eq O (fun h => rfl) (fun h => rfl))
end Go.VS.Try
end

section
namespace Go.VS.Try
set_option linter.unusedSimpArgs false
set_option linter.unusedVariables false
set_option maxRecDepth 1000000
open Go.VS
/-! ### the reader's three numbers, one behind the other -/
def stS (l : List UInt8) (m a : Int) (bad : Bool) : Int × Int × Bool := (rdSx l a m bad, rdSa l a m bad, rdSb l a m bad)
def stA (l : List UInt8) (q : Int × Int × Bool) : Int := rdBa l q.2.1 q.1 q.2.2
def stB (l : List UInt8) (q : Int × Int × Bool) : Bool := rdBb l q.2.1 q.1 q.2.2
def stT (l : List UInt8) (q : Int × Int × Bool) : ByteArray := ⟨⟨(l.drop q.2.1.toNat).take q.1.toNat⟩⟩
def q1 (l : List UInt8) : Int × Int × Bool := stS l 1 0 false
def q16 (l : List UInt8) : Int × Int × Bool := stS l 16 (q1 l).2.1 (q1 l).2.2
def q32 (l : List UInt8) : Int × Int × Bool := stS l 32 (stA l (q16 l)) (stB l (q16 l))
def qOf (l : List UInt8) (m : Int) : Int × Int × Bool := if m = 1 then q1 l else if m = 16 then q16 l else q32 l
def inOf (l : List UInt8) (m : Int) : Int × Bool := if m = 1 then (0, false) else if m = 16 then ((q1 l).2.1, (q1 l).2.2) else (stA l (q16 l), stB l (q16 l))
theorem qOf_eq (l : List UInt8) (m : Int) (h : m = 1 ∨ m = 16 ∨ m = 32) : qOf l m = stS l m (inOf l m).1 (inOf l m).2 := by
  rcases h with rfl | rfl | rfl <;> rfl
def QsL (l : List UInt8) (t n : Nat) (c : List Value) (a m : Int) (bad : Bool) (e : Nat) : Bool := rdC t n c a m e && decide (c.map byteOf = l) && decide (m = 1 ∨ m = 16 ∨ m = 32) && decide (inOf l m = (a, bad))
def QbL (l : List UInt8) (t n : Nat) (c : List Value) (a m : Int) (e : Nat) : Bool := rdC t n c a m e && decide (c.map byteOf = l)
theorem nrdS_ok (l : List UInt8) : CallOkM P 64 (NrdSV (QsL l) (fun m => (qOf l m).1) (fun m => (qOf l m).2.1) (fun m => (qOf l m).2.2)) := by
  refine ⟨fun args bs t hR v bs' hev => ?_⟩
  unfold NrdSV at hR
  split at hR
  · rename_i m t n b c a bad e
    obtain rfl := Option.some.inj hR
    cases hc : QsL l t n c a m bad e with
    | false => rw [hc] at hev; cases hev
    | true =>
      rw [hc] at hev
      unfold QsL at hc
      simp only [Bool.and_eq_true, decide_eq_true_eq] at hc
      obtain ⟨⟨⟨h1, h2⟩, h3⟩, h4⟩ := hc
      refine rdS_ok.run _ _ _ rfl v bs' ?_
      rw [h1, h2]
      rw [← hev]
      simp only [DT.eval, qOf_eq l m h3, h4]
      rfl
  · cases hR
theorem nrdB_ok (l : List UInt8) : CallOkM P 65 (NrdBV (QbL l) (rdBa l) (rdBz l) (rdBb l) rdBn (rdBc (bc l))) := by
  refine ⟨fun args bs t hR v bs' hev => ?_⟩
  unfold NrdBV at hR
  split at hR
  · rename_i m t n b c a bad e
    obtain rfl := Option.some.inj hR
    cases hc : QbL l t n c a m e with
    | false => rw [hc] at hev; cases hev
    | true =>
      rw [hc] at hev
      unfold QbL at hc
      simp only [Bool.and_eq_true, decide_eq_true_eq] at hc
      obtain ⟨h1, h2⟩ := hc
      refine rdB_ok.run _ _ _ rfl v bs' ?_
      obtain ⟨l', _, _, hcb, hl', _⟩ := rdC_of h1
      rw [h1, h2, ← hev]
      obtain rfl : l' = l := by rw [← hl', h2]
      subst hcb
      rfl
  · cases hR
noncomputable def ctR (l : List UInt8) : Ct := ctN (QsL l) (fun m => (qOf l m).1) (fun m => (qOf l m).2.1) (fun m => (qOf l m).2.2) (QbL l) (rdBa l) (rdBz l) (rdBb l) rdBn (rdBc (bc l)) opOk
theorem ctR_ok (l : List UInt8) : CtOk P (ctR l) := addCallM_ok (addCallM_ok (addCall_ok (noCt_ok P) rCheck_ok) (nrdB_ok l)) (nrdS_ok l)

/-! ### where it stands -/
theorem stS_in (l : List UInt8) (m : Int) {a : Nat} (ha : a ≤ l.length) (bad : Bool) (hm : 0 ≤ m) : (∃ k : Nat, (stS l m a bad).2.1 = k ∧ k ≤ l.length) ∧ 0 ≤ (stS l m a bad).1 ∧ (stS l m a bad).1 ≤ m := by
  unfold stS rdSx rdSa
  simp only [Int.toNat_natCast]
  cases bad with
  | true => exact ⟨⟨a, rfl, ha⟩, by simp, by simpa using hm⟩
  | false =>
    cases hs : smallB (l.drop a) m with
    | false => exact ⟨⟨a, rfl, ha⟩, by simp, by simpa using hm⟩
    | true =>
      have hcnt := numM_count (l.drop a)
      rw [List.length_drop] at hcnt
      unfold smallB at hs
      simp only [Bool.and_eq_true, decide_eq_true_eq] at hs
      refine ⟨⟨a + (numM (l.drop a)).2.1, by simp, by omega⟩, by simp, by simpa using hs.2⟩
theorem stA_in (l : List UInt8) (q : Int × Int × Bool) {a : Nat} (ha : q.2.1 = a) (hl : a ≤ l.length) (hm : 0 ≤ q.1) : ∃ k : Nat, stA l q = k ∧ k ≤ l.length := by
  unfold stA rdBa
  rw [ha]
  by_cases h : q.1 > (l.length : Int) - a
  · rw [decide_eq_true h, Bool.or_true]; exact ⟨a, rfl, hl⟩
  · rw [decide_eq_false h, Bool.or_false]
    cases q.2.2 with
    | true => exact ⟨a, rfl, hl⟩
    | false => exact ⟨(a + q.1).toNat, by simp only [cond_false]; omega, by omega⟩
theorem rdC_mk {l : List UInt8} (hl : l.length + 64 ≤ 4194304) {a : Int} {k : Nat} (ha : a = k) (hk : k ≤ l.length) {m : Int} (h0 : 0 ≤ m) (h1 : m ≤ 32) : rdC 18446744073709551617 l.length (bc l) a m 69 = true := by
  unfold rdC
  rw [← fz1, fzB_bc rfl hl, inI_ok (by omega) (by omega), inI_ok (by omega) (by omega)]
  rfl

/-- What is read of bytes: is it an op; which; how many bytes it has. -/
def rOpM (l : List UInt8) : Value := match eqI (q1 l).1 1 with
  | true => resV (!stB l (q32 l) && opOk true (stT l (q16 l)) (stT l (q32 l))) true (stT l (q16 l)) (stT l (q32 l)) (stA l (q32 l))
  | false => resV (!stB l (q16 l) && opOk false (stT l (q16 l)) ⟨#[]⟩) false (stT l (q16 l)) ⟨#[]⟩ (stA l (q16 l))
theorem stT_z {l : List UInt8} {q : Int × Int × Bool} (h : rdBz l q.2.1 q.1 q.2.2 = true) (hb : stB l q = false) : stT l q = ⟨#[]⟩ := by
  unfold stB rdBb at hb
  unfold rdBz at h
  rw [hb, Bool.false_or, decide_eq_true_eq] at h
  unfold stT
  rw [h]; simp
theorem stT_nz {l : List UInt8} {q : Int × Int × Bool} {a : Nat} (ha : q.2.1 = a) (hl : a ≤ l.length) (hm : 0 ≤ q.1) (h : rdBz l q.2.1 q.1 q.2.2 = false) : ∃ l' : List UInt8, rdBc (bc l) q.2.1 q.1 = bc l' ∧ rdBn q.1 = l'.length ∧ stT l q = ⟨⟨l'⟩⟩ := by
  refine ⟨(l.drop q.2.1.toNat).take q.1.toNat, ?_, ?_, rfl⟩
  · unfold rdBc; exact bc_cut _ _ _
  · unfold rdBz at h
    simp only [Bool.or_eq_false_iff, decide_eq_false_iff_not] at h
    unfold rdBn
    rw [List.length_take, List.length_drop, ha]
    rw [ha] at h
    omega
theorem qsL_mk {l : List UInt8} (hl : l.length + 64 ≤ 4194304) {a : Int} {k : Nat} (ha : a = k) (hk : k ≤ l.length) {m : Int} (h0 : 0 ≤ m) (h1 : m ≤ 32) {bad : Bool} (h2 : m = 1 ∨ m = 16 ∨ m = 32) (h3 : inOf l m = (a, bad)) : QsL l 18446744073709551617 l.length (bc l) a m bad 69 = true := by
  unfold QsL
  rw [rdC_mk hl ha hk h0 h1, decide_eq_true (bc_back l), decide_eq_true h2, decide_eq_true h3]; rfl
theorem qbL_mk {l : List UInt8} (hl : l.length + 64 ≤ 4194304) {a : Int} {k : Nat} (ha : a = k) (hk : k ≤ l.length) {m : Int} (h0 : 0 ≤ m) (h1 : m ≤ 32) : QbL l 18446744073709551617 l.length (bc l) a m 69 = true := by
  unfold QbL
  rw [rdC_mk hl ha hk h0 h1, decide_eq_true (bc_back l)]; rfl
theorem rOpRead_run {l : List UInt8} {b : Nat} (hl : l.length + 64 ≤ 4194304) : callQ P E (ctR l) 50 39 [mkFz 1 l.length b (bc l)] = some (rOpM l, mkSt []) := by
  obtain ⟨⟨k1, e1, i1⟩, u1, v1⟩ := stS_in l 1 (a := 0) (Nat.zero_le _) false (by decide)
  have e1 : (q1 l).2.1 = k1 := e1
  have hq16 : q16 l = stS l 16 k1 (q1 l).2.2 := by unfold q16; rw [e1]
  obtain ⟨⟨k16, e16, i16⟩, u16, v16⟩ := stS_in l 16 i1 (q1 l).2.2 (by decide)
  rw [← hq16] at e16 u16 v16
  obtain ⟨k3, e3, i3⟩ := stA_in l (q16 l) e16 i16 u16
  have hq32 : q32 l = stS l 32 k3 (stB l (q16 l)) := by unfold q32; rw [e3]
  obtain ⟨⟨k32, e32, i32⟩, u32, v32⟩ := stS_in l 32 i3 (stB l (q16 l)) (by decide)
  rw [← hq32] at e32 u32 v32
  have hbc := bc_back l
  unfold ctR
  rw [rOp_any (QsL l) (fun m => (qOf l m).1) (fun m => (qOf l m).2.1) (fun m => (qOf l m).2.2) (QbL l) (rdBa l) (rdBz l) (rdBb l) rdBn (rdBc (bc l)) opOk l.length b (bc l)
    (stA l (q16 l)) (stB l (q16 l)) rfl rfl (stA l (q32 l)) (stB l (q32 l)) rfl rfl
    (qsL_mk hl (k := 0) rfl (Nat.zero_le _) (by decide) (by decide) (Or.inl rfl) rfl)
    (qsL_mk hl (k := k1) e1 i1 (by decide) (by decide) (Or.inr (Or.inl rfl)) rfl)
    (qbL_mk hl (k := k16) e16 i16 u16 (Int.le_trans v16 (by decide)))
    (qsL_mk hl (k := k3) e3 i3 (by decide) (by decide) (Or.inr (Or.inr rfl)) rfl)
    (qbL_mk hl (k := k32) e32 i32 u32 v32)
    (stT l (q16 l)) (stT l (q32 l))
    (fun h => by rw [h] at hq32; unfold stB rdBb; rw [hq32]; rfl)
    (fun h hb => stT_z (q := q16 l) h hb) (fun h hb => stT_z (q := q32 l) h hb)
    (fun h => stT_nz (q := q16 l) e16 i16 u16 h) (fun h => stT_nz (q := q32 l) e32 i32 u32 h)]
  rfl
end Go.VS.Try
end

section
namespace Go.VS.Try
set_option linter.unusedSimpArgs false
set_option linter.unusedVariables false
set_option maxRecDepth 1000000
open Go.VS
/-- What is read of bytes. -/
def opRdM : List UInt8 → Value
  | [] => errV
  | x :: r => match gtI x.toNat 1, textB r 16 with
    | true, _ => errV
    | false, false => errV
    | false, true => match eqI x.toNat 1 with
      | false => resV (opOk false (textS r) ⟨#[]⟩) false (textS r) ⟨#[]⟩ (1 + textN r)
      | true => resV (textB (r.drop (textN r).toNat) 32 && opOk true (textS r) (textS (r.drop (textN r).toNat))) true (textS r) (textS (r.drop (textN r).toNat)) (1 + textN r + textN (r.drop (textN r).toNat))
theorem textN_le {r : List UInt8} {m : Int} (h : textB r m = true) : ∃ k : Nat, textN r = k ∧ k ≤ r.length := by
  unfold textB at h
  simp only [Bool.and_eq_true, decide_eq_true_eq] at h
  exact ⟨_, rfl, h.2⟩
theorem cut1 (x : UInt8) (r : List UInt8) : takeC (Nat.mul (lapN 1 (lenI (x :: r).length)) 1) (dropC 1 (bc (x :: r))) = bc r := by
  have := cut_end (x :: r) 1 (by simp)
  simpa [atN] using this
theorem lap1 (x : UInt8) (r : List UInt8) : lapN 1 (lenI (x :: r).length) = r.length := by
  unfold lapN lenI
  simp
theorem opRead_run {l : List UInt8} {b : Nat} (hl : l.length + 64 ≤ 4194304) : callQ P E ctO1 50 38 [mkFz 1 l.length b (bc l)] = some (opRdM l, mkSt []) := by
  unfold ctO1
  rw [dec_opRead]
  cases l with
  | nil => exact ite_t rfl rfl
  | cons x r =>
    have hlen : (x :: r).length = r.length + 1 := rfl
    have hx : asI (nthD (bc (x :: r)) 0) = x.toNat := rfl
    have he : etaB (.int .u8) (nthD (bc (x :: r)) 0) = true := rfl
    have hb1 : Nat.ble 1 (bc (x :: r)).length = true := ble_ok (by rw [bc_length]; omega)
    have hr : r.length + 64 ≤ 4194304 := by omega
    rw [cut1, lap1, hx]
    simp only [bc_back]
    refine ite_f (by show ((((x :: r).length : Nat) : Int) == 0) = false; simp; omega) (need_eq (and_ok rfl (inI_ok (by omega) (by omega))) (need_eq (and_ok hb1 he) ?_))
    cases hg : gtI x.toNat 1 with
    | true => exact ite_t rfl (by simp only [opRdM, hg]; rfl)
    | false =>
      refine ite_f rfl (need_eq (and_ok rfl (inI_ok (by omega) (by omega))) (need_eq (and_ok hb1 he) (need_eq (and_ok rfl (cutI_ok (by omega) (by unfold lenI; omega) (by unfold lenI; omega))) ?_)))
      refine need_eq (and_ok (by rw [← fz1]; exact fzB_bc rfl hr) (by decide)) ?_
      cases ht : textB r 16 with
      | false => exact ite_f rfl (by simp only [opRdM, hg, ht]; rfl)
      | true =>
        refine ite_t rfl ?_
        obtain ⟨k, hk, hkl⟩ := textN_le ht
        have hadd : addI .i64 1 (textN r) = ((1 + k : Nat) : Int) := by
          rw [hk]; unfold addI
          rw [wrap64 (by omega) (by omega)]; omega
        cases hp : eqI x.toNat 1 with
        | false =>
          refine ite_f rfl ?_
          rw [hadd]
          simp only [opRdM, hg, ht, hp]
          cases ho : opOk false (textS r) ⟨#[]⟩ with
          | true => exact ite_t rfl (by rw [hk]; show _ = some (okV _ _ _ _, _); unfold okV; rw [show ((1 + k : Nat) : Int) = 1 + (k : Int) by omega])
          | false => exact ite_f rfl rfl
        | true =>
          refine ite_t rfl ?_
          rw [hadd]
          have hcut := cut_end (x :: r) (1 + k) (by rw [hlen]; omega)
          have hlap : lapN ((1 + k : Nat) : Int) (lenI (x :: r).length) = r.length - k := by unfold lapN lenI; rw [hlen]; omega
          have hdrop : (x :: r).drop (1 + k) = r.drop k := by rw [Nat.add_comm]; rfl
          rw [hdrop] at hcut
          rw [hcut, hlap]
          simp only [bc_back]
          have hd : r.drop (textN r).toNat = r.drop k := by rw [hk]; rfl
          simp only [opRdM, hg, ht, hp, hd]
          refine need_eq (and_ok rfl (cutI_ok (by omega) (by unfold lenI; rw [hlen]; omega) (by unfold lenI; omega))) (need_eq (and_ok (by rw [← fz1]; exact fzB_bc (by rw [List.length_drop]) (by rw [List.length_drop]; omega)) (by decide)) ?_)
          cases ht2 : textB (r.drop k) 32 with
          | false => exact ite_f rfl rfl
          | true =>
            refine ite_t rfl ?_
            obtain ⟨k', hk', hkl'⟩ := textN_le ht2
            rw [List.length_drop] at hkl'
            have hadd2 : addI .i64 ((1 + k : Nat) : Int) (textN (r.drop k)) = 1 + (k : Int) + (k' : Int) := by
              rw [hk']; unfold addI
              rw [wrap64 (by omega) (by omega)]; omega
            rw [hadd2]
            cases ho : opOk true (textS r) (textS (r.drop k)) with
            | true => exact ite_t rfl (by rw [hk, hk']; rfl)
            | false => exact ite_f rfl rfl

/-! ### the answer's is the same -/
theorem stB_eq (l : List UInt8) (m : Int) {a : Nat} (ha : a ≤ l.length) : stB l (stS l m a false) = !(textB (l.drop a) m) := by
  unfold stB stS rdBb rdSx rdSa rdSb textB
  simp only [Int.toNat_natCast, cond_false]
  have hcnt := numM_count (l.drop a)
  rw [List.length_drop] at hcnt ⊢
  by_cases hs : smallB (l.drop a) m = true
  case neg => simp [hs]
  case pos =>
    simp only [hs, cond_true, Bool.not_true, Bool.false_or, Bool.true_and]
    by_cases h : (numM (l.drop a)).2.1 + (numM (l.drop a)).1 ≤ l.length - a
    · rw [decide_eq_true h, decide_eq_false (by omega)]; rfl
    · rw [decide_eq_false h, decide_eq_true (by omega)]; rfl
theorem stA_eq (l : List UInt8) (m : Int) {a : Nat} (ha : a ≤ l.length) (ht : textB (l.drop a) m = true) : stA l (stS l m a false) = a + textN (l.drop a) ∧ stT l (stS l m a false) = textS (l.drop a) := by
  have hb := stB_eq l m ha
  rw [ht] at hb
  have hs : smallB (l.drop a) m = true := by
    unfold textB at ht
    simp only [Bool.and_eq_true] at ht
    exact ht.1
  have h1 : (stS l m a false).2.1 = ((a + (numM (l.drop a)).2.1 : Nat) : Int) := by
    unfold stS rdSa
    simp only [Int.toNat_natCast, hs, cond_false, cond_true]; omega
  have h2 : (stS l m a false).1 = ((numM (l.drop a)).1 : Int) := by
    unfold stS rdSx
    simp only [Int.toNat_natCast, hs, cond_false, cond_true]
  constructor
  · unfold stB rdBb at hb
    unfold stA rdBa
    rw [hb, h1, h2]
    show ((a + (numM (l.drop a)).2.1 : Nat) : Int) + _ = _
    unfold textN; omega
  · unfold stT textS
    rw [h1, h2]
    simp only [Int.toNat_natCast, List.drop_drop]
theorem readM_big : ∀ (r : List UInt8) (i X : Nat), 1 ≤ i → i ≤ 9 → (readM i X r).1 = true → 2 ^ (7 * i) ≤ (readM i X r).2.1
  | [], i, X, _, _, h => by simp [readM] at h
  | c :: r, i, X, h1, h9, h => by
    unfold readM at h ⊢
    by_cases hn : i = 9 ∧ 1 < c.toNat
    · rw [decide_eq_true hn] at h; simp at h
    · rw [decide_eq_false hn] at h ⊢
      by_cases hc : 128 ≤ c.toNat
      · rw [decide_eq_true hc] at h ⊢
        have := readM_big r (i + 1) _ (by omega) (by omega) h
        exact Nat.le_trans (Nat.pow_le_pow_right (by decide) (by omega)) this
      · rw [decide_eq_false hc] at h ⊢
        by_cases h0 : c.toNat = 0 ∧ 0 < i
        · rw [decide_eq_true h0] at h; simp at h
        · rw [decide_eq_false h0] at h ⊢
          show 2 ^ (7 * i) ≤ stepN X i c.toNat
          by_cases hi : i ≤ 8
          · rw [step_small hi (by omega)]
            have : 1 * 2 ^ (7 * i) ≤ c.toNat * 2 ^ (7 * i) := Nat.mul_le_mul_right _ (by omega)
            omega
          · obtain rfl : i = 9 := by omega
            rw [step_nine (by omega)]
            have : c.toNat = 1 := by omega
            rw [this]
            have : 2 ^ (7 * 9) = 9223372036854775808 := by decide
            omega
theorem numM_low {x : UInt8} (r : List UInt8) (h : x.toNat < 128) : numM (x :: r) = (x.toNat, 1, 0) := by
  have e : readM 0 0 (x :: r) = (true, x.toNat, 1) := by
    unfold readM
    rw [decide_eq_false (show ¬ (0 = 9 ∧ 1 < x.toNat) by omega), decide_eq_false (show ¬ 128 ≤ x.toNat by omega), decide_eq_false (show ¬ (x.toNat = 0 ∧ 0 < 0) by omega)]
    show (true, stepN 0 0 x.toNat, 1) = _
    rw [step_small (by omega) h]; simp
  unfold numM; rw [e]
theorem small_high {x : UInt8} (r : List UInt8) (h : 1 < x.toNat) : smallB (x :: r) 1 = false := by
  unfold smallB
  by_cases hx : x.toNat < 128
  · rw [numM_low r hx]
    simp; omega
  · have e : readM 0 0 (x :: r) = readM 1 (stepN 0 0 x.toNat) r := by
      rw [readM, decide_eq_false (show ¬ (0 = 9 ∧ 1 < x.toNat) by omega), decide_eq_true (show 128 ≤ x.toNat by omega)]
    have hb := readM_big r 1 (stepN 0 0 x.toNat) (by omega) (by omega)
    unfold numM
    rw [e]
    revert hb
    rcases readM 1 (stepN 0 0 x.toNat) r with ⟨ok, X, n⟩
    intro hb
    cases ok with
    | false => rfl
    | true =>
      have hb : 128 ≤ X := hb rfl
      simp only [Bool.and_eq_false_iff, decide_eq_false_iff_not]
      right; omega
theorem small_low {x : UInt8} (r : List UInt8) (h : x.toNat ≤ 1) : smallB (x :: r) 1 = true := by
  unfold smallB
  rw [numM_low r (by omega)]
  simp; omega
theorem small_nil (m : Int) : smallB [] m = false := rfl
theorem rOpM_bad {l : List UInt8} (h : smallB l 1 = false) : rOpM l = errV := by
  have e1 : q1 l = (0, 0, true) := by
    unfold q1 stS rdSx rdSa rdSb
    simp only [Int.toNat_zero, List.drop_zero, h, cond_false, Bool.not_false]
  have e2 : (q16 l).2.2 = true := by unfold q16 stS rdSb; rw [e1]; rfl
  unfold rOpM
  rw [e1]
  have e3 : stB l (q16 l) = true := by unfold stB rdBb; rw [e2]; rfl
  rw [e3]; rfl
theorem rOpM_eq (l : List UInt8) : rOpM l = opRdM l := by
  cases l with
  | nil => exact rOpM_bad rfl
  | cons x r =>
    by_cases hx : 1 < x.toNat
    · rw [rOpM_bad (small_high r hx)]
      have : gtI x.toNat 1 = true := by unfold gtI; exact decide_eq_true (by omega)
      simp only [opRdM, this]
    · have hg : gtI x.toNat 1 = false := by unfold gtI; exact decide_eq_false (by omega)
      have hs := small_low r (show x.toNat ≤ 1 by omega)
      have e1 : q1 (x :: r) = ((x.toNat : Int), ((1 : Nat) : Int), false) := by
        unfold q1 stS rdSx rdSa rdSb
        simp only [Int.toNat_zero, List.drop_zero, hs, numM_low r (show x.toNat < 128 by omega), cond_false, cond_true]
        rfl
      have e16 : q16 (x :: r) = stS (x :: r) 16 ((1 : Nat) : Int) false := by unfold q16; rw [e1]
      have hd1 : (x :: r).drop 1 = r := rfl
      have b16 := stB_eq (x :: r) 16 (a := 1) (by simp)
      rw [hd1, ← e16] at b16
      unfold rOpM
      rw [e1]
      simp only [opRdM, hg]
      cases ht : textB r 16 with
      | false =>
        rw [ht] at b16
        have b32 : stB (x :: r) (q32 (x :: r)) = true := by
          have : (q32 (x :: r)).2.2 = true := by unfold q32 stS rdSb; rw [b16]; rfl
          unfold stB rdBb; rw [this]; rfl
        rw [b16, b32]
        cases eqI x.toNat 1 <;> rfl
      | true =>
        rw [ht] at b16
        obtain ⟨a16, t16⟩ := stA_eq (x :: r) 16 (a := 1) (by simp) (by rw [hd1]; exact ht)
        rw [hd1, ← e16] at a16 t16
        obtain ⟨k, hk, hkl⟩ := textN_le ht
        cases hp : eqI x.toNat 1 with
        | false =>
          simp only []
          rw [b16, a16, t16]; rfl
        | true =>
          simp only []
          have e32 : q32 (x :: r) = stS (x :: r) 32 ((1 + k : Nat) : Int) false := by unfold q32; rw [b16, a16, hk]; rfl
          have hdk : (x :: r).drop (1 + k) = r.drop k := by rw [Nat.add_comm]; rfl
          have b32 := stB_eq (x :: r) 32 (a := 1 + k) (by simp; omega)
          rw [hdk, ← e32] at b32
          have hd : r.drop (textN r).toNat = r.drop k := by rw [hk]; rfl
          rw [hd, b32, t16]
          cases ht2 : textB (r.drop k) 32 with
          | false => rfl
          | true =>
            obtain ⟨a32, t32⟩ := stA_eq (x :: r) 32 (a := 1 + k) (by simp; omega) (by rw [hdk]; exact ht2)
            rw [hdk, ← e32] at a32 t32
            rw [a32, t32, hk]
            congr 1
/-- What Read of both answers. -/
def RopRdV (M : List UInt8 → Value) : CallFn
  | [.iface t (.agg ⟨.slice none n b :: c⟩)] => some (.ite (fzB t n c) (.leaf (M (c.map byteOf), [])) .fail)
  | _ => none
def RopRd : CallFn := RopRdV opRdM
theorem opRd_any {F : Nat} {ct : List UInt8 → Ct} (hct : ∀ l, CtOk P (ct l)) (h : ∀ {l : List UInt8} {b : Nat}, l.length + 64 ≤ 4194304 → callQ P E (ct l) 50 F [mkFz 1 l.length b (bc l)] = some (opRdM l, mkSt [])) : CallOkR P F RopRd := by
  refine ⟨fun args t hR v bs hev => ?_⟩
  unfold RopRd RopRdV at hR
  split at hR
  · rename_i t n b c
    obtain rfl := Option.some.inj hR
    cases hc : fzB t n c with
    | false => rw [hc] at hev; cases hev
    | true =>
      rw [hc] at hev
      obtain ⟨rfl, rfl, ⟨l, rfl, hl⟩, h4⟩ := fzB_of hc
      rw [← hl] at hev
      simp only [DT.eval, Option.some.injEq, Prod.mk.injEq] at hev
      obtain ⟨rfl, rfl⟩ := hev
      rw [bc_length] at h4 ⊢
      exact CR.of (engOk (ct l)) noNum (hct l) (h h4)
  · cases hR
theorem opRead_ok : CallOkR P 38 RopRd := opRd_any (fun _ => ctO1_ok) opRead_run
theorem rOpRead_ok : CallOkR P 39 RopRd := opRd_any ctR_ok fun {l b} hl => by rw [rOpRead_run hl, rOpM_eq]
end Go.VS.Try
end

section
namespace Go.VS.Try
set_option linter.unusedSimpArgs false
set_option linter.unusedVariables false
set_option maxRecDepth 1000000
open Go.VS
noncomputable def Hsb : Head := ⟨0, 26, [0, 1, 4, 5], []⟩
noncomputable def Bsb : Code := (loopAt P 35 0).getD .skip
theorem Bsb_eq : loopAt P 35 0 = some Bsb := by kernel_rfl
theorem Bsb_occ : Occ P 35 (.block 0 (.loop Bsb)) := loopAt_has Bsb_eq
theorem dec_sb (n b n' b' : Nat) (c c' : List Value) (i : Int) : roundQ P E noCt 50 35 Bsb Hsb [mkFz 1 n b c, mkFz 1 n' b' c', .bool false, .int .i64 i] [] =
  (iteB (Go.VS.ltI i (Go.VS.lenI n))
   (needB (Bool.and (Nat.beq 1 1) (Go.VS.inI i n))
    (needB (Bool.and (Nat.ble (Nat.add (Go.VS.atN i 1) 1) (List.length c)) (Go.VS.etaB (Go.VS.Eta.int Go.IntKind.u8) (Go.VS.nthD c (Go.VS.atN i 1))))
     (needB (Bool.and (Nat.beq 1 1) (Go.VS.inI i n'))
      (needB (Bool.and (Nat.ble (Nat.add (Go.VS.atN i 1) 1) (List.length c')) (Go.VS.etaB (Go.VS.Eta.int Go.IntKind.u8) (Go.VS.nthD c' (Go.VS.atN i 1))))
       (iteB (Go.VS.neI (Go.VS.asI (Go.VS.nthD c (Go.VS.atN i 1))) (Go.VS.asI (Go.VS.nthD c' (Go.VS.atN i 1))))
        (some ((Go.Value.tuple (Array.mk [(Go.Value.int Go.IntKind.i64 (-1 : Int)), (Go.Value.iface 18446744073709551617 (Go.Value.agg (Array.mk ((Go.Value.slice none n b) :: c)))), (Go.Value.iface 18446744073709551617 (Go.Value.agg (Array.mk ((Go.Value.slice none n' b') :: c')))), (Go.Value.bool Bool.false), (Go.Value.int Go.IntKind.i64 i)])), (Go.VS.mkSt [])))
        (some ((Go.Value.tuple (Array.mk [(Go.Value.int Go.IntKind.i64 (0 : Int)), (Go.Value.iface 18446744073709551617 (Go.Value.agg (Array.mk ((Go.Value.slice none n b) :: c)))), (Go.Value.iface 18446744073709551617 (Go.Value.agg (Array.mk ((Go.Value.slice none n' b') :: c')))), (Go.Value.bool Bool.false), (Go.Value.int Go.IntKind.i64 (Go.VS.addI Go.IntKind.i64 i (1 : Int)))])), (Go.VS.mkSt []))))))))
   (some ((Go.Value.tuple (Array.mk [(Go.Value.int Go.IntKind.i64 (1 : Int)), (Go.Value.iface 18446744073709551617 (Go.Value.agg (Array.mk ((Go.Value.slice none n b) :: c)))), (Go.Value.iface 18446744073709551617 (Go.Value.agg (Array.mk ((Go.Value.slice none n' b') :: c')))), (Go.Value.bool Bool.false), (Go.Value.int Go.IntKind.i64 i)])), (Go.VS.mkSt [])))) := by kernel_rfl
def sbS (l l' : List UInt8) (b b' : Nat) (i : Int) : List Value := [mkFz 1 l.length b (bc l), mkFz 1 l'.length b' (bc l'), .bool false, .int .i64 i]
/-- Where two lists of one length part (or end). -/
def partM : List UInt8 → List UInt8 → Nat
  | x :: r, y :: s => match decide (x = y) with
    | true => partM r s + 1
    | false => 0
  | _, _ => 0
theorem partM_le : ∀ (r s : List UInt8), partM r s ≤ r.length
  | [], _ => by simp [partM]
  | x :: r, [] => by simp [partM]
  | x :: r, y :: s => by
    unfold partM
    have := partM_le r s
    split <;> simp <;> omega
def sbE (l l' : List UInt8) (b b' : Nat) : Ex × List Value := match decide (l = l') with
  | true => (.normal, sbS l l' b b' (l.length : Int))
  | false => (.ret, sbS l l' b b' (partM l l' : Int))
theorem sb_loop (l l' : List UInt8) (b b' : Nat) (hl : l.length < 9223372036854775800) (hll : l.length = l'.length) : ∀ (k i : Nat), i + k = l.length → l.take i = l'.take i →
    LR P 35 0 Bsb Hsb (sbS l l' b b' i) [] (sbE l l' b b').1 (sbE l l' b b').2 []
  | 0, i, hi, ht => by
    have e : l = l' := by rw [List.take_of_length_le (by omega), List.take_of_length_le (by omega)] at ht; exact ht
    have e2 : sbE l l' b b' = (.normal, sbS l l' b b' (i : Int)) := by unfold sbE; rw [decide_eq_true e, show i = l.length by omega]
    rw [e2]
    refine LR.stop (n := 50) (engOk noCt) noNum (noCt_ok P) Bsb_occ (by kernel_rfl) (e := .exit 0) ?_ (by intro h; cases h)
    unfold sbS
    rw [dec_sb]
    exact ite_f (by show decide (_ < _) = false; unfold lenI; exact decide_eq_false (by omega)) (leaf_eq (by simp only [mkFz, fz1]; rfl) rfl)
  | k + 1, i, hi, ht => by
    have h1 : i < l.length := by omega
    have h2 : i < l'.length := by omega
    have round : ∀ {r : Res}, iteB (neI (l[i].toNat : Int) (l'[i].toNat : Int)) (some (.tuple ⟨exV .ret :: sbS l l' b b' i⟩, mkSt [])) (some (.tuple ⟨exV .normal :: sbS l l' b b' ((i + 1 : Nat) : Int)⟩, mkSt [])) = r →
        roundQ P E noCt 50 35 Bsb Hsb (sbS l l' b b' i) [] = r := by
      intro r h
      rw [← h]
      unfold sbS
      rw [dec_sb]
      simp only [nth0 h1, nth0 h2, asI_int, etaB_u8, bc_length, add1 (show i < 9223372036854775800 by omega)]
      refine ite_t (by unfold ltI lenI; exact decide_eq_true (by omega)) (need_eq (and_ok rfl (inI_ok (by omega) (by omega))) (need_eq (and_ok (ble_ok (by show atN (i : Int) 1 + 1 ≤ _; simp [atN]; omega)) rfl) ?_))
      exact need_eq (and_ok rfl (inI_ok (by omega) (by omega))) (need_eq (and_ok (ble_ok (by show atN (i : Int) 1 + 1 ≤ _; simp [atN]; omega)) rfl) (by simp only [mkFz, fz1]; rfl))
    by_cases he : l[i] = l'[i]
    · have ih := sb_loop l l' b b' hl hll k (i + 1) (by omega) (by rw [List.take_add_one, List.take_add_one, ht, List.getElem?_eq_getElem h1, List.getElem?_eq_getElem h2, he])
      exact LR.again (engOk noCt) noNum (noCt_ok P) Bsb_occ (by kernel_rfl) (round (ite_f (by simp [neI, he]) rfl)) ih
    · have e : ¬ l = l' := by rintro rfl; exact he rfl
      have hp : partM l l' = i := by
        have : ∀ (i : Nat) (l l' : List UInt8) (h1 : i < l.length) (h2 : i < l'.length), l.take i = l'.take i → l[i] ≠ l'[i] → partM l l' = i := by
          intro i
          induction i with
          | zero =>
            intro l l' h1 h2 ht he
            cases l with
            | nil => simp at h1
            | cons x r => cases l' with
              | nil => simp at h2
              | cons y s =>
                unfold partM
                have : ¬ x = y := by simpa using he
                rw [decide_eq_false this]
          | succ i ih =>
            intro l l' h1 h2 ht he
            cases l with
            | nil => simp at h1
            | cons x r => cases l' with
              | nil => simp at h2
              | cons y s =>
                simp only [List.take_succ_cons, List.cons.injEq] at ht
                unfold partM
                rw [decide_eq_true ht.1]
                exact congrArg (· + 1) (ih r s (by simpa using h1) (by simpa using h2) ht.2 (by simpa using he))
        exact this i l l' h1 h2 ht he
      have e2 : sbE l l' b b' = (.ret, sbS l l' b b' (i : Int)) := by unfold sbE; rw [decide_eq_false e, hp]
      rw [e2]
      refine LR.stop (n := 50) (engOk noCt) noNum (noCt_ok P) Bsb_occ (by kernel_rfl) (e := .ret) (round (ite_t (by simp only [neI, bne_iff_ne, ne_eq]; intro h; exact he (UInt8.toNat_inj.1 (by omega))) rfl)) (by intro h; cases h)
def sbC (t n t' n' : Nat) (c c' : List Value) (r : Bool) (i : Int) : Bool := fzB t n c && fzB t' n' c' && Nat.beq n n' && !r && i == 0
def sameL (l l' : List UInt8) : Bool := decide (l = l')
def RsbV (Q : List UInt8 → List UInt8 → Bool) (N : List UInt8 → List UInt8 → Nat) : LoopFn := fun vs bs => match vs, bs with
  | [.iface t (.agg ⟨.slice none n b :: c⟩), .iface t' (.agg ⟨.slice none n' b' :: c'⟩), .bool r, .int .i64 i], [] => some (.ite (sbC t n t' n' c c' r i)
      (.ite (Q (c.map byteOf) (c'.map byteOf)) (.leaf (.normal, sbS (c.map byteOf) (c'.map byteOf) b b' ((c.map byteOf).length : Int), [])) (.leaf (.ret, sbS (c.map byteOf) (c'.map byteOf) b b' (N (c.map byteOf) (c'.map byteOf) : Int), []))) .fail)
  | _, _ => none
def RsbL : LoopFn := RsbV sameL partM
theorem sb_loopOk : LoopOk P 35 0 Bsb Hsb RsbL where
  occ := loopAt_occ Bsb_eq
  ok := by kernel_rfl
  run := by
    intro vs bs t hR e vs' bs' hev
    unfold RsbL RsbV at hR
    split at hR
    · rename_i t n b c t' n' b' c' r i
      obtain rfl := Option.some.inj hR
      cases hc : sbC t n t' n' c c' r i with
      | false => rw [hc] at hev; cases hev
      | true =>
        rw [hc] at hev
        simp only [sbC, Bool.and_eq_true, beq_iff_eq, Bool.not_eq_true'] at hc
        obtain ⟨⟨⟨⟨h1, h2⟩, h3⟩, rfl⟩, rfl⟩ := hc
        obtain ⟨rfl, rfl, ⟨l, rfl, hl⟩, h4⟩ := fzB_of h1
        obtain ⟨rfl, rfl, ⟨l', rfl, hl'⟩, h4'⟩ := fzB_of h2
        have h3 := Nat.eq_of_beq_eq_true h3
        rw [bc_length, bc_length] at h3
        rw [bc_length] at h4
        rw [← hl, ← hl'] at hev
        rw [bc_length, bc_length]
        have := sb_loop l l' b b' (by omega) h3 l.length 0 (by omega) rfl
        unfold sbE at this
        unfold sameL at hev
        cases hd : decide (l = l') with
        | true =>
          rw [hd] at hev this
          simp only [DT.eval, Option.some.injEq, Prod.mk.injEq] at hev
          obtain ⟨rfl, rfl, rfl⟩ := hev
          exact this
        | false =>
          rw [hd] at hev this
          simp only [DT.eval, Option.some.injEq, Prod.mk.injEq] at hev
          obtain ⟨rfl, rfl, rfl⟩ := hev
          exact this
    · cases hR
noncomputable def ctSbv (Q : List UInt8 → List UInt8 → Bool) (N : List UInt8 → List UInt8 → Nat) : Ct := addLoopF 35 0 Hsb (RsbV Q N) noCt
noncomputable def ctSb : Ct := ctSbv sameL partM
theorem ctSb_ok : CtOk P ctSb := addLoopF_ok rfl (noCt_ok P) sb_loopOk
theorem dec_same (Q : List UInt8 → List UInt8 → Bool) (N : List UInt8 → List UInt8 → Nat) (n b n' b' : Nat) (c c' : List Value) : callQ P E (ctSbv Q N) 50 35 [mkFz 1 n b c, mkFz 1 n' b' c'] =
  (iteB (Go.VS.neI (Go.VS.lenI n) (Go.VS.lenI n'))
   (some ((Go.Value.bool Bool.false), (Go.VS.mkSt [])))
   (needB (Go.VS.Try.sbC 18446744073709551617 n 18446744073709551617 n' c c' Bool.false (0 : Int))
    (iteB (Q (List.map Go.VS.byteOf c) (List.map Go.VS.byteOf c'))
     (some ((Go.Value.bool Bool.true), (Go.VS.mkSt [])))
     (some ((Go.Value.bool Bool.false), (Go.VS.mkSt [])))))) := by kernel_rfl
theorem dec_lent (n b : Nat) (c : List Value) : callQ P E noCt 50 28 [mkFz 1 n b c] =
  (needB (List.all c Go.VS.oneCell)
   (needB (Nat.ble (Nat.add 0 n) 4194304)
    (iteB (Nat.beq n 0)
     (some ((Go.Value.slice (Option.some (Go.Addr.mk 0 0 none)) 3 18446744073709551616), (Go.VS.mkSt [(Go.VS.Blk.cells [(Go.Value.int Go.IntKind.u8 (201 : Int)), (Go.Value.int Go.IntKind.u8 (202 : Int)), (Go.Value.int Go.IntKind.u8 (203 : Int))] 5 Bool.false)])))
     (needB (Bool.and (Bool.not Bool.false) (Bool.and (Nat.beq 5 5) (Bool.and (Nat.ble 0 (List.length (List.append [] c))) (Nat.ble (Nat.add (Nat.add 0 n) 1) 4194304))))
      (needB (Nat.beq (Nat.add 0 (Nat.mul (Nat.add 0 n) 1)) (List.length (List.append [] c)))
       (needB (Bool.and (Bool.not Bool.false) (Bool.and (Nat.beq 5 5) (Bool.and (Nat.ble 0 (List.length (List.append (Go.VS.takeC (Nat.mul (Nat.add 0 n) 1) (Go.VS.dropC 0 (List.append [] c))) [(Go.Value.int Go.IntKind.u8 (201 : Int))]))) (Nat.ble (Nat.add (Nat.add (Nat.add 0 n) 1) 1) 4194304))))
        (needB (Nat.beq (Nat.add 0 (Nat.mul (Nat.add (Nat.add 0 n) 1) 1)) (List.length (List.append (Go.VS.takeC (Nat.mul (Nat.add 0 n) 1) (Go.VS.dropC 0 (List.append [] c))) [(Go.Value.int Go.IntKind.u8 (201 : Int))])))
         (needB (Bool.and (Bool.not Bool.false) (Bool.and (Nat.beq 5 5) (Bool.and (Nat.ble 0 (List.length (List.append (Go.VS.takeC (Nat.mul (Nat.add (Nat.add 0 n) 1) 1) (Go.VS.dropC 0 (List.append (Go.VS.takeC (Nat.mul (Nat.add 0 n) 1) (Go.VS.dropC 0 (List.append [] c))) [(Go.Value.int Go.IntKind.u8 (201 : Int))]))) [(Go.Value.int Go.IntKind.u8 (202 : Int))]))) (Nat.ble (Nat.add (Nat.add (Nat.add (Nat.add 0 n) 1) 1) 1) 4194304))))
          (needB (Nat.beq (Nat.add 0 (Nat.mul (Nat.add (Nat.add (Nat.add 0 n) 1) 1) 1)) (List.length (List.append (Go.VS.takeC (Nat.mul (Nat.add (Nat.add 0 n) 1) 1) (Go.VS.dropC 0 (List.append (Go.VS.takeC (Nat.mul (Nat.add 0 n) 1) (Go.VS.dropC 0 (List.append [] c))) [(Go.Value.int Go.IntKind.u8 (201 : Int))]))) [(Go.Value.int Go.IntKind.u8 (202 : Int))])))
           (some ((Go.Value.slice (Option.some (Go.Addr.mk 0 0 none)) (Nat.add (Nat.add (Nat.add (Nat.add 0 n) 1) 1) 1) 18446744073709551616), (Go.VS.mkSt [(Go.VS.Blk.cells (Go.VS.renL Bool.true (Go.VS.rhoO 0 [7]) (List.append (Go.VS.takeC (Nat.mul (Nat.add (Nat.add (Nat.add 0 n) 1) 1) 1) (Go.VS.dropC 0 (List.append (Go.VS.takeC (Nat.mul (Nat.add (Nat.add 0 n) 1) 1) (Go.VS.dropC 0 (List.append (Go.VS.takeC (Nat.mul (Nat.add 0 n) 1) (Go.VS.dropC 0 (List.append [] c))) [(Go.Value.int Go.IntKind.u8 (201 : Int))]))) [(Go.Value.int Go.IntKind.u8 (202 : Int))]))) [(Go.Value.int Go.IntKind.u8 (203 : Int))])) 5 Bool.false)])))))))))))) := by kernel_rfl
end Go.VS.Try
end

section
namespace Go.VS.Try
set_option linter.unusedSimpArgs false
set_option linter.unusedVariables false
set_option maxRecDepth 1000000
open Go.VS
/-! ### contracts of the kit's functions -/
def RsameV (Q : List UInt8 → List UInt8 → Bool) : CallFn
  | [.iface t (.agg ⟨.slice none n b :: c⟩), .iface t' (.agg ⟨.slice none n' b' :: c'⟩)] => some (.ite (fzB t n c && fzB t' n' c') (.leaf (.bool (Q (c.map byteOf) (c'.map byteOf)), [])) .fail)
  | _ => none
def Rsame : CallFn := RsameV sameL
theorem sbC_ok {l l' : List UInt8} (h : l.length + 64 ≤ 4194304) (h' : l'.length + 64 ≤ 4194304) (he : l.length = l'.length) : sbC 18446744073709551617 l.length 18446744073709551617 l'.length (bc l) (bc l') false 0 = true := by
  unfold sbC
  rw [← fz1, fzB_bc rfl h, fzB_bc rfl h', beq_ok he]; rfl
theorem same_ok : CallOkR P 35 Rsame := by
  refine ok_of ctSb_ok (n := 50) fun args t hR v bs hev => ?_
  unfold Rsame RsameV at hR
  split at hR
  · rename_i t n b c t' n' b' c'
    obtain rfl := Option.some.inj hR
    cases hc : fzB t n c && fzB t' n' c' with
    | false => rw [hc] at hev; cases hev
    | true =>
      rw [hc] at hev
      simp only [Bool.and_eq_true] at hc
      obtain ⟨rfl, rfl, ⟨l, rfl, hl⟩, h4⟩ := fzB_of hc.1
      obtain ⟨rfl, rfl, ⟨l', rfl, hl'⟩, h4'⟩ := fzB_of hc.2
      rw [← hl, ← hl'] at hev
      simp only [DT.eval, Option.some.injEq, Prod.mk.injEq] at hev
      obtain ⟨rfl, rfl⟩ := hev
      rw [bc_length] at h4 h4' ⊢
      rw [bc_length]
      show callQ P E ctSb 50 _ [mkFz 1 l.length b (bc l), mkFz 1 l'.length b' (bc l')] = _
      unfold ctSb
      rw [dec_same]
      simp only [bc_back]
      by_cases he : l.length = l'.length
      · refine ite_f (by simp [neI, lenI, he]) (need_eq (sbC_ok h4 h4' he) ?_)
        cases sameL l l' <;> rfl
      · have : sameL l l' = false := decide_eq_false fun h => he (by rw [h])
        rw [this]
        exact ite_t (by simp [neI, lenI]; omega) rfl
  · cases hR
def tailB : List UInt8 := [201, 202, 203]
def RlentV (G : List Value → List Value) : CallFn
  | [.iface t (.agg ⟨.slice none n b :: c⟩)] => some (.ite (fzB t n c) (.leaf (sl 0 (n + 3), [.cells (G c) 5 false])) .fail)
  | _ => none
def lentM (c : List Value) : List Value := c ++ bc tailB
def Rlent : CallFn := RlentV lentM
theorem snoc_len (a : List UInt8) (x : Value) : List.length (List.append (bc a) [x]) = a.length + 1 := by show (bc a ++ [x]).length = _; rw [List.length_append, bc_length]; rfl
theorem lent_ok : CallOkR P 28 Rlent := by
  refine ok_of (noCt_ok P) (n := 50) fun args t hR v bs hev => ?_
  unfold Rlent RlentV at hR
  split at hR
  · rename_i t n b c
    obtain rfl := Option.some.inj hR
    cases hc : fzB t n c with
    | false => rw [hc] at hev; cases hev
    | true =>
      rw [hc] at hev
      obtain ⟨rfl, rfl, ⟨l, rfl, hl⟩, h4⟩ := fzB_of hc
      simp only [DT.eval, Option.some.injEq, Prod.mk.injEq] at hev
      obtain ⟨rfl, rfl⟩ := hev
      rw [bc_length] at h4 ⊢
      show callQ P E noCt 50 _ [mkFz 1 l.length b (bc l)] = _
      rw [dec_lent]
      have e0 : List.append [] (bc l) = bc l := rfl
      have k0 : (bc l).length = l.length := bc_length l
      have t0 : ∀ (a : List UInt8) (n : Nat), n = a.length → takeC (Nat.mul n 1) (dropC 0 (bc a)) = bc a := by
        intro a n h
        rw [h]
        have := take_all (bc a)
        rw [bc_length] at this
        exact this
      have s1 : ∀ (a : List UInt8) (x : UInt8), List.append (bc a) [.int .u8 (x.toNat : Int)] = bc (a ++ [x]) := fun a x => by show bc a ++ bc [x] = _; rw [← bc_append]
      have w1 : (Value.int .u8 (201 : Int)) = .int .u8 ((201 : UInt8).toNat : Int) := rfl
      have w2 : (Value.int .u8 (202 : Int)) = .int .u8 ((202 : UInt8).toNat : Int) := rfl
      have w3 : (Value.int .u8 (203 : Int)) = .int .u8 ((203 : UInt8).toNat : Int) := rfl
      rw [w1, w2, w3]
      simp only [e0, t0 l (Nat.add 0 l.length) (by show 0 + l.length = _; omega), s1, t0 (l ++ [201]) (Nat.add (Nat.add 0 l.length) 1) (by show 0 + l.length + 1 = _; simp),
        t0 (l ++ [201] ++ [202]) (Nat.add (Nat.add (Nat.add 0 l.length) 1) 1) (by show 0 + l.length + 1 + 1 = _; simp), bc_length, bc_ren]
      refine need_eq (bc_one _) (need_eq (ble_ok (by show 0 + l.length ≤ _; omega)) ?_)
      cases l with
      | nil => exact ite_t rfl rfl
      | cons x r =>
        refine ite_f rfl ?_
        have hh : ∀ k, k ≤ 3 → 0 + (x :: r).length + k ≤ 4194304 := by intro k hk; omega
        refine need_eq (and_ok rfl (and_ok rfl (and_ok (ble_ok (Nat.zero_le _)) (ble_ok (hh 1 (by omega)))))) (need_eq (beq_ok (by show 0 + (0 + (x :: r).length) * 1 = _; omega)) ?_)
        refine need_eq (and_ok rfl (and_ok rfl (and_ok (ble_ok (Nat.zero_le _)) (ble_ok (hh 2 (by omega)))))) (need_eq (beq_ok (by show 0 + (0 + (x :: r).length + 1) * 1 = _; rw [List.length_append]; simp)) ?_)
        refine need_eq (and_ok rfl (and_ok rfl (and_ok (ble_ok (Nat.zero_le _)) (ble_ok (hh 3 (by omega)))))) (need_eq (beq_ok (by show 0 + (0 + (x :: r).length + 1 + 1) * 1 = _; rw [List.length_append, List.length_append]; simp)) ?_)
        refine leaf_eq ?_ ?_
        · show Value.slice _ (0 + (x :: r).length + 1 + 1 + 1) _ = Value.slice _ ((x :: r).length + 3) _
          congr 1; omega
        · have : bc (x :: r ++ [201] ++ [202] ++ [203]) = lentM (bc (x :: r)) := by
            unfold lentM tailB
            rw [← bc_append, List.append_assoc, List.append_assoc]; rfl
          rw [this]
  · cases hR

/-! ### what Read answers, part by part -/
def vP : Value → Bool
  | .tuple ⟨[.agg ⟨[.bool p, _, _]⟩, _, _]⟩ => p
  | _ => false
def vK : Value → ByteArray
  | .tuple ⟨[.agg ⟨[_, .string k, _]⟩, _, _]⟩ => k
  | _ => ⟨#[]⟩
def vV : Value → ByteArray
  | .tuple ⟨[.agg ⟨[_, _, .string v]⟩, _, _]⟩ => v
  | _ => ⟨#[]⟩
def vN : Value → Int
  | .tuple ⟨[_, .int _ n, _]⟩ => n
  | _ => 0
def vE : Value → Int
  | .tuple ⟨[_, _, .int _ n]⟩ => n
  | _ => 0
def tupV (p : Bool) (k v : ByteArray) (n e : Int) : Value := .tuple ⟨[.agg ⟨[.bool p, .string k, .string v]⟩, .int .i64 n, .int .i64 e]⟩
def isTup (x : Value) : Prop := x = tupV (vP x) (vK x) (vV x) (vN x) (vE x)
theorem resV_tup (ok p : Bool) (k v : ByteArray) (n : Int) : isTup (resV ok p k v n) := by cases ok <;> rfl
theorem opRdM_tup (l : List UInt8) : isTup (opRdM l) := by
  cases l with
  | nil => rfl
  | cons x r =>
    simp only [opRdM]
    split
    · rfl
    · rfl
    · split <;> exact resV_tup _ _ _ _ _
def RopRdT (A : List UInt8 → Bool) (B C : List UInt8 → ByteArray) (N Z : List UInt8 → Int) : CallFn
  | [.iface t (.agg ⟨.slice none n b :: c⟩)] => some (.ite (fzB t n c) (.leaf (tupV (A (c.map byteOf)) (B (c.map byteOf)) (C (c.map byteOf)) (N (c.map byteOf)) (Z (c.map byteOf)), [])) .fail)
  | _ => none
def oP (l : List UInt8) : Bool := vP (opRdM l)
def oK (l : List UInt8) : ByteArray := vK (opRdM l)
def oV (l : List UInt8) : ByteArray := vV (opRdM l)
def oN (l : List UInt8) : Int := vN (opRdM l)
def oE (l : List UInt8) : Int := vE (opRdM l)
theorem opRdT_ok {F : Nat} (h : CallOkR P F RopRd) : CallOkR P F (RopRdT oP oK oV oN oE) := by
  refine ⟨fun args t hR v bs hev => ?_⟩
  unfold RopRdT at hR
  split at hR
  · rename_i t n b c
    obtain rfl := Option.some.inj hR
    refine h.run _ _ rfl v bs ?_
    rw [← hev]
    cases fzB t n c with
    | false => rfl
    | true =>
      show some (opRdM (c.map byteOf), []) = some (_, [])
      rw [opRdM_tup]; rfl
  · cases hR
/-- The examples that each law asks first. -/
def RlivesB : CallFn
  | [] => some (.leaf (.bool true, []))
  | _ => none
theorem lives_run : callQ P E noCt 1000 25 [] = some (.bool true, mkSt []) := by kernel_rfl
theorem lives_ok : CallOkR P 25 RlivesB := by
  refine ok_of (noCt_ok P) (n := 1000) fun args t hR v bs hev => ?_
  unfold RlivesB at hR
  split at hR
  · obtain rfl := Option.some.inj hR
    simp only [DT.eval, Option.some.injEq, Prod.mk.injEq] at hev
    obtain ⟨rfl, rfl⟩ := hev
    exact lives_run
  · cases hR
noncomputable def ctKv (Q : List UInt8 → List UInt8 → Bool) (G : List Value → List Value) : Ct := addCall P 25 RlivesB (addCall P 35 (RsameV Q) (addCall P 28 (RlentV G) noCt))
noncomputable def ctK : Ct := ctKv sameL lentM
theorem ctK_ok : CtOk P ctK := addCall_ok (addCall_ok (addCall_ok (noCt_ok P) lent_ok) same_ok) lives_ok
noncomputable def ctLv (Q : List UInt8 → List UInt8 → Bool) (G : List Value → List Value) (A : List UInt8 → Bool) (B C : List UInt8 → ByteArray) (N Z : List UInt8 → Int) : Ct := addCall P 38 (RopRdT A B C N Z) (addCall P 39 (RopRdT A B C N Z) (ctKv Q G))
noncomputable def ctL : Ct := ctLv sameL lentM oP oK oV oN oE
theorem ctL_ok : CtOk P ctL := addCall_ok (addCall_ok ctK_ok (opRdT_ok rOpRead_ok)) (opRdT_ok opRead_ok)
end Go.VS.Try
end

section
namespace Go.VS.Try
set_option linter.unusedSimpArgs false
set_option linter.unusedVariables false
set_option maxRecDepth 1000000
open Go.VS
theorem dec_opReads (Q : List UInt8 → List UInt8 → Bool) (G : List Value → List Value) (A : List UInt8 → Bool) (B C : List UInt8 → ByteArray) (N Z : List UInt8 → Int) (n b : Nat) (c : List Value) : callQ P E (ctLv Q G A B C N Z) 200 9 [mkFz 1 n b c] =
  (needB (Go.VS.Try.fzB 18446744073709551617 n c)
   (needB (Go.VS.cutI (0 : Int) (Go.VS.lenI n) (Nat.div (Nat.sub (List.length (Go.VS.renL Bool.false (Go.VS.shiftN 0) (G c))) 0) 1))
    (iteB (Nat.ble 1 (Nat.div (Nat.sub (List.length (Go.VS.renL Bool.false (Go.VS.shiftN 0) (G c))) 0) 1))
     (needB (Bool.and (Nat.ble (Nat.add 0 (Nat.mul (Go.VS.lapN (0 : Int) (Go.VS.lenI n)) 1)) (List.length (Go.VS.renL Bool.false (Go.VS.shiftN 0) (G c)))) (Nat.ble 1 1))
      (needB (Go.VS.flatL (Go.VS.takeC (Nat.mul (Go.VS.lapN (0 : Int) (Go.VS.lenI n)) 1) (Go.VS.dropC 0 (Go.VS.renL Bool.false (Go.VS.shiftN 0) (G c)))))
       (needB (Go.VS.Try.fzB 18446744073709551617 (Go.VS.lapN (0 : Int) (Go.VS.lenI n)) (Go.VS.takeC (Nat.mul (Go.VS.lapN (0 : Int) (Go.VS.lenI n)) 1) (Go.VS.dropC 0 (Go.VS.renL Bool.false (Go.VS.shiftN 0) (G c)))))
        (needB (Go.VS.Try.fzB 18446744073709551617 n c)
         (iteB (Bool.and (Go.VS.eqB (A (List.map Go.VS.byteOf (Go.VS.takeC (Nat.mul (Go.VS.lapN (0 : Int) (Go.VS.lenI n)) 1) (Go.VS.dropC 0 (Go.VS.renL Bool.false (Go.VS.shiftN 0) (G c)))))) (A (List.map Go.VS.byteOf c))) (Bool.and (Go.VS.eqS (B (List.map Go.VS.byteOf (Go.VS.takeC (Nat.mul (Go.VS.lapN (0 : Int) (Go.VS.lenI n)) 1) (Go.VS.dropC 0 (Go.VS.renL Bool.false (Go.VS.shiftN 0) (G c)))))) (B (List.map Go.VS.byteOf c))) (Bool.and (Go.VS.eqS (C (List.map Go.VS.byteOf (Go.VS.takeC (Nat.mul (Go.VS.lapN (0 : Int) (Go.VS.lenI n)) 1) (Go.VS.dropC 0 (Go.VS.renL Bool.false (Go.VS.shiftN 0) (G c)))))) (C (List.map Go.VS.byteOf c))) Bool.true)))
          (iteB (Go.VS.eqI (N (List.map Go.VS.byteOf (Go.VS.takeC (Nat.mul (Go.VS.lapN (0 : Int) (Go.VS.lenI n)) 1) (Go.VS.dropC 0 (Go.VS.renL Bool.false (Go.VS.shiftN 0) (G c)))))) (N (List.map Go.VS.byteOf c)))
           (iteB (Go.VS.eqI (Z (List.map Go.VS.byteOf (Go.VS.takeC (Nat.mul (Go.VS.lapN (0 : Int) (Go.VS.lenI n)) 1) (Go.VS.dropC 0 (Go.VS.renL Bool.false (Go.VS.shiftN 0) (G c)))))) (Z (List.map Go.VS.byteOf c)))
            (needB (Go.VS.Try.fzB 18446744073709551617 n c)
             (needB (Bool.and (Nat.ble (Nat.add 0 (Nat.mul (HAdd.hAdd n 3) 1)) (List.length (Go.VS.renL Bool.false (Go.VS.shiftN 0) (G c)))) (Nat.ble 1 1))
              (needB (Go.VS.flatL (Go.VS.takeC (Nat.mul (HAdd.hAdd n 3) 1) (Go.VS.dropC 0 (Go.VS.renL Bool.false (Go.VS.shiftN 0) (G c)))))
               (needB (Bool.and (Nat.ble (Nat.add 0 (Nat.mul (HAdd.hAdd n 3) 1)) (List.length (Go.VS.renL Bool.false (Go.VS.shiftN 3) (G c)))) (Nat.ble 1 1))
                (needB (Go.VS.flatL (Go.VS.takeC (Nat.mul (HAdd.hAdd n 3) 1) (Go.VS.dropC 0 (Go.VS.renL Bool.false (Go.VS.shiftN 3) (G c)))))
                 (needB (Bool.and (Go.VS.Try.fzB 18446744073709551617 (HAdd.hAdd n 3) (Go.VS.takeC (Nat.mul (HAdd.hAdd n 3) 1) (Go.VS.dropC 0 (Go.VS.renL Bool.false (Go.VS.shiftN 0) (G c))))) (Go.VS.Try.fzB 18446744073709551617 (HAdd.hAdd n 3) (Go.VS.takeC (Nat.mul (HAdd.hAdd n 3) 1) (Go.VS.dropC 0 (Go.VS.renL Bool.false (Go.VS.shiftN 3) (G c))))))
                  (some ((Go.Value.bool (Q (List.map Go.VS.byteOf (Go.VS.takeC (Nat.mul (HAdd.hAdd n 3) 1) (Go.VS.dropC 0 (Go.VS.renL Bool.false (Go.VS.shiftN 0) (G c))))) (List.map Go.VS.byteOf (Go.VS.takeC (Nat.mul (HAdd.hAdd n 3) 1) (Go.VS.dropC 0 (Go.VS.renL Bool.false (Go.VS.shiftN 3) (G c))))))), (Go.VS.mkSt [])))))))))
            (some ((Go.Value.bool Bool.false), (Go.VS.mkSt []))))
           (some ((Go.Value.bool Bool.false), (Go.VS.mkSt []))))
          (some ((Go.Value.bool Bool.false), (Go.VS.mkSt []))))))))
     (needB (Go.VS.Try.fzB 18446744073709551617 n c)
      (iteB (Bool.and (Go.VS.eqB (A []) (A (List.map Go.VS.byteOf c))) (Bool.and (Go.VS.eqS (B []) (B (List.map Go.VS.byteOf c))) (Bool.and (Go.VS.eqS (C []) (C (List.map Go.VS.byteOf c))) Bool.true)))
       (iteB (Go.VS.eqI (N []) (N (List.map Go.VS.byteOf c)))
        (iteB (Go.VS.eqI (Z []) (Z (List.map Go.VS.byteOf c)))
         (needB (Go.VS.Try.fzB 18446744073709551617 n c)
          (needB (Bool.and (Nat.ble (Nat.add 0 (Nat.mul (HAdd.hAdd n 3) 1)) (List.length (Go.VS.renL Bool.false (Go.VS.shiftN 0) (G c)))) (Nat.ble 1 1))
           (needB (Go.VS.flatL (Go.VS.takeC (Nat.mul (HAdd.hAdd n 3) 1) (Go.VS.dropC 0 (Go.VS.renL Bool.false (Go.VS.shiftN 0) (G c)))))
            (needB (Bool.and (Nat.ble (Nat.add 0 (Nat.mul (HAdd.hAdd n 3) 1)) (List.length (Go.VS.renL Bool.false (Go.VS.shiftN 3) (G c)))) (Nat.ble 1 1))
             (needB (Go.VS.flatL (Go.VS.takeC (Nat.mul (HAdd.hAdd n 3) 1) (Go.VS.dropC 0 (Go.VS.renL Bool.false (Go.VS.shiftN 3) (G c)))))
              (needB (Bool.and (Go.VS.Try.fzB 18446744073709551617 (HAdd.hAdd n 3) (Go.VS.takeC (Nat.mul (HAdd.hAdd n 3) 1) (Go.VS.dropC 0 (Go.VS.renL Bool.false (Go.VS.shiftN 0) (G c))))) (Go.VS.Try.fzB 18446744073709551617 (HAdd.hAdd n 3) (Go.VS.takeC (Nat.mul (HAdd.hAdd n 3) 1) (Go.VS.dropC 0 (Go.VS.renL Bool.false (Go.VS.shiftN 3) (G c))))))
               (some ((Go.Value.bool (Q (List.map Go.VS.byteOf (Go.VS.takeC (Nat.mul (HAdd.hAdd n 3) 1) (Go.VS.dropC 0 (Go.VS.renL Bool.false (Go.VS.shiftN 0) (G c))))) (List.map Go.VS.byteOf (Go.VS.takeC (Nat.mul (HAdd.hAdd n 3) 1) (Go.VS.dropC 0 (Go.VS.renL Bool.false (Go.VS.shiftN 3) (G c))))))), (Go.VS.mkSt [])))))))))
         (some ((Go.Value.bool Bool.false), (Go.VS.mkSt []))))
        (some ((Go.Value.bool Bool.false), (Go.VS.mkSt []))))
       (some ((Go.Value.bool Bool.false), (Go.VS.mkSt [])))))))) := by kernel_rfl
theorem lent_take (l : List UInt8) (n : Nat) (h : n = l.length + 3) : takeC (Nat.mul n 1) (dropC 0 (bc (l ++ tailB))) = bc (l ++ tailB) := by
  have := take_all (bc (l ++ tailB))
  rw [bc_length] at this
  rw [h]
  have e : (l ++ tailB).length = l.length + 3 := by simp [tailB]
  rw [e] at this
  exact this
theorem lent_front (l : List UInt8) : takeC (Nat.mul l.length 1) (dropC 0 (bc (l ++ tailB))) = bc l := by
  rw [cut_bc, List.drop_zero, List.take_left']
  rfl
theorem opReads_run {l : List UInt8} {b : Nat} (h : l.length ≤ 1048576) : callQ P E ctL 200 9 [mkFz 1 l.length b (bc l)] = some (.bool true, mkSt []) := by
  unfold ctL
  rw [dec_opReads]
  have hG : lentM (bc l) = bc (l ++ tailB) := by unfold lentM; rw [bc_append]
  have hL : lapN 0 (lenI l.length) = l.length := by unfold lapN lenI; simp
  have hlen : (l ++ tailB).length = l.length + 3 := by simp [tailB]
  simp only [hG, bc_ren, lent_front, lent_take l (l.length + 3) rfl, bc_back, hL, bc_length, hlen, Nat.sub_zero]
  have f1 : fzB 18446744073709551617 l.length (bc l) = true := by rw [← fz1]; exact fzB_bc rfl (by omega)
  have f2 : fzB 18446744073709551617 (l.length + 3) (bc (l ++ tailB)) = true := by rw [← fz1]; exact fzB_bc hlen.symm (by omega)
  have hd : Nat.div (l.length + 3) 1 = l.length + 3 := Nat.div_one _
  have hd' : Nat.sub (l.length + 3) 0 = l.length + 3 := Nat.sub_zero _
  rw [hd', hd]
  refine need_eq f1 (need_eq (cutI_ok (by omega) (by unfold lenI; omega) (by unfold lenI; omega)) (ite_t (ble_ok (by omega)) ?_))
  refine need_eq (and_ok (ble_ok (by show 0 + l.length * 1 ≤ _; omega)) rfl) (need_eq (bc_flat _) (need_eq f1 (need_eq f1 ?_)))
  refine ite_t (and_ok (by simp [eqB]) (and_ok (by rw [eqS_eq]; exact beq_self_eq_true _) (and_ok (by rw [eqS_eq]; exact beq_self_eq_true _) rfl))) (ite_t (by simp [eqI]) (ite_t (by simp [eqI]) ?_))
  refine need_eq f1 (need_eq (and_ok (ble_ok (by show 0 + (l.length + 3) * 1 ≤ _; omega)) rfl) (need_eq (bc_flat _) (need_eq (and_ok (ble_ok (by show 0 + (l.length + 3) * 1 ≤ _; omega)) rfl) (need_eq (bc_flat _) (need_eq (and_ok f2 f2) ?_)))))
  have : sameL (l ++ tailB) (l ++ tailB) = true := by simp [sameL]
  rw [this]
end Go.VS.Try
end

section
namespace Go.VS
set_option linter.unusedSimpArgs false
set_option linter.unusedVariables false
section
variable {P : Program}

theorem cell_one {w : World} {r : Reach} {base : Nat} {t : TypeId} {v : Value} (h : Cell.okWide P w r base t v) : v.oneCell' = true := by
  cases v with
  | agg cs => cases hu : P.underlying t with
    | none => simp [Cell.okWide, Cell.ok, hu] at h
    | some d => cases d <;> simp [Cell.okWide, Cell.ok, hu] at h
  | tuple cs => cases hu : P.underlying t with
    | none => simp [Cell.okWide, Cell.ok, hu] at h
    | some d => cases d <;> simp [Cell.okWide, Cell.ok, hu] at h
  | _ => rfl

theorem vrl_tops {β : Env} : ∀ (l : List Value), (∀ v ∈ l, v.oneCell' = true) → VRL β (List.replicate l.length (.chan (some 0))) l
  | [], _ => VRL.nil
  | v :: l, h => VRL.cons (h v (by simp)) (vrl_tops l fun x hx => h x (by simp [hx]))

theorem top_struct {β : Env} {w : World} {r : Reach} {base : Nat} {t : TypeId} {v : Value} {fs : Array Field} {n : Nat} (ht : P.underlying t = some (.struct fs)) (hn : P.cellsOf t = n) (h : Value.okWide P w r base t v) :
    VR β (.agg ⟨List.replicate n (.chan (some 0))⟩) v := by
  unfold Value.okWide at h
  rw [ht] at h
  obtain ⟨cs, rfl, hsz, ts, _, _, hc⟩ := h
  refine ⟨cs, rfl, ?_⟩
  obtain ⟨l⟩ := cs
  have hl : l.length = n := by rw [← hn, ← hsz]; rfl
  show VRL β (List.replicate n (.chan (some 0))) l
  rw [← hl]
  refine vrl_tops l fun v hv => ?_
  obtain ⟨i, hi⟩ := List.getElem?_of_mem hv
  obtain ⟨u, _, hu⟩ := hc i v (by simpa using hi)
  exact cell_one hu

theorem top_int {β : Env} {w : World} {r : Reach} {base : Nat} {t : TypeId} {v : Value} {k : IntKind} (ht : P.underlying t = some (.int k)) (h : Value.okWide P w r base t v) : VR β (.chan (some 0)) v := by
  unfold Value.okWide at h
  rw [ht] at h
  exact cell_one h

theorem struct_cells {w : World} {r : Reach} {base : Nat} {t : TypeId} {v : Value} {fs : Array Field} {ts : List TypeId} (ht : P.underlying t = some (.struct fs)) (hts : P.cellTypes P.depth t = some ts) (hn : P.cellsOf t = ts.length) (h : Value.okWide P w r base t v) :
    ∃ l : List Value, v = .agg ⟨l⟩ ∧ l.length = ts.length ∧ ∀ (i : Nat) u x, ts[i]? = some u → l[i]? = some x → Cell.okWide P w r base u x := by
  unfold Value.okWide at h
  rw [ht] at h
  obtain ⟨cs, rfl, hsz, ts', h1, _, hc⟩ := h
  rw [hts] at h1
  obtain rfl := Option.some.inj h1
  obtain ⟨l⟩ := cs
  have hl : l.length = ts.length := by rw [← hn, ← hsz]; rfl
  refine ⟨l, rfl, hl, fun i u x hu hx => ?_⟩
  obtain ⟨u', h1, h2⟩ := hc i x (by simpa using hx)
  have : i < ts.length := (List.getElem?_eq_some_iff.1 hu).1
  rw [Nat.mod_eq_of_lt this, hu] at h1
  obtain rfl := Option.some.inj h1
  exact h2
theorem cell_int {w : World} {r : Reach} {base : Nat} {t : TypeId} {k : IntKind} {v : Value} (ht : P.underlying t = some (.int k)) (h : Cell.okWide P w r base t v) : ∃ n, v = .int k n :=
  WideShapes.okWide_int ht (by unfold Value.okWide; rw [ht]; exact h)
theorem cell_string {w : World} {r : Reach} {base : Nat} {t : TypeId} {v : Value} (ht : P.underlying t = some .string) (h : Cell.okWide P w r base t v) : ∃ s, v = .string s :=
  WideShapes.okWide_string ht (by unfold Value.okWide; rw [ht]; exact h)
theorem cell_bool {w : World} {r : Reach} {base : Nat} {t : TypeId} {v : Value} (ht : P.underlying t = some .bool) (h : Cell.okWide P w r base t v) : ∃ b, v = .bool b :=
  WideShapes.okWide_bool ht (by unfold Value.okWide; rw [ht]; exact h)
theorem vr_agg {β : Env} {l l' : List Value} (h : VRL β l l') : VR β (.agg ⟨l⟩) (.agg ⟨l'⟩) := ⟨_, rfl, h⟩
theorem vr_int {β : Env} {k : IntKind} {n : Int} : VR β (.int k n) (.int k n) := rfl
theorem vr_string {β : Env} {s : ByteArray} : VR β (.string s) (.string s) := rfl
theorem vr_bool {β : Env} {b : Bool} : VR β (.bool b) (.bool b) := rfl
theorem vr_top {β : Env} {v : Value} (h : v.oneCell' = true) : VR β (.chan (some 0)) v := h
end
end Go.VS
end

section
namespace Go.VS
set_option linter.unusedSimpArgs false
set_option linter.unusedVariables false
section
variable {P : Program}

theorem add_zero (a : Addr) : a.add 0 = a := by unfold Addr.add; simp
theorem spot_none {w : World} {a : Addr} {v : Value} (h : w.cell? (a.add 0) = some v) : a.spot = none := by
  rw [add_zero] at h
  unfold World.cell? at h
  split at h
  · cases hs : a.spot with
    | none => rfl
    | some s => rw [hs] at h; cases h
  · cases h
theorem cell_get {w : World} {a : Addr} {i : Nat} {v : Value} (hs : a.spot = none) (h : w.cell? (a.add i) = some v) : ∃ c e f, w.heap[a.block]? = some (.cells c e f) ∧ c[a.off + i]? = some v := by
  have : a.add i = ⟨a.block, a.off + i, none⟩ := by
    obtain ⟨b, o, s⟩ := a
    cases hs; simp [Addr.add]
  rw [this] at h
  unfold World.cell? at h
  split at h
  · rename_i c e f hg
    exact ⟨c, e, f, hg, by simpa using h⟩
  · cases h

theorem seg_vr {w : World} {a : Addr} {cs : List Value} {n sz cap : Nat} (hsz : sz ≠ 0) (hcap : n ≤ cap) (hlen : cs.length = n * sz) (hf : flatL cs = true) (hc : ∀ i v, cs[i]? = some v → w.cell? (a.add i) = some v) (h1 : ∀ v ∈ cs, v.oneCell' = true) : VR (envOf w) (mkFz sz n 0 cs) (.slice (some a) n cap) := by
  refine fz_mk hsz ?_
  unfold FrzR
  rw [if_neg hsz]
  refine ⟨hlen, ?_⟩
  by_cases hn : n = 0
  · exact Or.inr (Or.inl ⟨hn, a, cap, by rw [hn], fun h => absurd rfl h⟩)
  · have h0 : 0 < cs.length := by rw [hlen]; exact Nat.mul_pos (by omega) (by omega)
    obtain ⟨v0, hv0⟩ : ∃ v, cs[0]? = some v := ⟨_, List.getElem?_eq_getElem h0⟩
    have g2 := spot_none (hc 0 v0 hv0)
    obtain ⟨c, e, f, g1, g3⟩ := cell_get g2 (hc 0 v0 hv0)
    have hget : ∀ i v, cs[i]? = some v → c[a.off + i]? = some v := by
      intro i v hi
      obtain ⟨c', e', f', k1, k3⟩ := cell_get g2 (hc i v hi)
      rw [g1] at k1
      simp only [Option.some.injEq, Obj.cells.injEq] at k1
      obtain ⟨rfl, rfl, rfl⟩ := k1
      exact k3
    have hseg : (c.toList.drop a.off).take cs.length = cs := by
      apply List.ext_getElem?
      intro i
      rw [List.getElem?_take]
      split
      · rename_i hi
        rw [List.getElem?_drop, List.getElem?_eq_getElem hi]
        have := hget i _ (List.getElem?_eq_getElem hi)
        rw [Array.getElem?_toList]; exact this
      · rename_i hi
        rw [List.getElem?_eq_none (by omega)]
    have hle : a.off + cs.length ≤ c.size := by
      have := hget (cs.length - 1) _ (List.getElem?_eq_getElem (by omega))
      have := (Array.getElem?_eq_some_iff.1 this).1
      omega
    have haddr : a = ⟨a.block, a.off, none⟩ := by
      obtain ⟨b, o, s⟩ := a
      cases g2; rfl
    have henv : envOf w (Int.negSucc a.block) = some ⟨a.block, 0, 0, 0, some (.cells c e f), false⟩ := by simp [envOf, g1]
    refine Or.inr (Or.inr ⟨by omega, a.block, a.off, cap, c, e, f, _, by rw [← haddr], fun h => absurd rfl h, henv, rfl, hle, ?_, ?_⟩)
    · rw [negE_envOf, hseg]
      exact VRL.flat_refl _ hf
    · exact hcap

variable {H : Type} {enc : TypeId × Value → H}
open Go.ChangeShapes in
/-- A list of ints that came in. -/
theorem open_ints_vr {w : World} {t e : TypeId} {k : IntKind} {v : Value} {d : DataW H} {ps : List MemPlace} {r : Reach} {b0 : Nat} (ht : P.underlying t = some (.slice e)) (he : P.underlying e = some (.int k)) (hc : P.cellsOf e = 1)
    (hval : Value.okWide P w r b0 t v) (h : DataW.Trod enc P w 0 (fun _ => true) true t v d ps) :
    ∃ zs rest : List Int, VR (envOf w) (mkFz 1 zs.length 0 (zs.map (Value.int k))) v ∧ (d = .nil ∧ zs = [] ∨ d = .slice (lits k zs) (lits k rest)) ∧ ∀ n ∈ zs, (Lit.int k n).wf = true := by
  have hv : v.cells = #[v] := by
    unfold Value.okWide at hval
    rw [ht] at hval
    have := cell_one hval
    cases v <;> first | rfl | simp [Value.oneCell'] at this
  obtain ⟨fuel, h⟩ := h
  rw [hv] at h
  rcases open_ints ht he hc h with ⟨h1, h2⟩ | ⟨a, len, cap, zs, h1, h2, h3, h4, h5, h6, h7, h8⟩
  · simp only [List.cons.injEq, and_true] at h1
    subst h1
    simp only [Prod.mk.injEq] at h2
    refine ⟨[], [], ?_, Or.inl ⟨h2.1, rfl⟩, by simp⟩
    refine fz_mk (by decide) ?_
    unfold FrzR
    rw [if_neg (by decide)]
    exact ⟨rfl, Or.inl ⟨rfl, by omega, rfl⟩⟩
  · simp only [List.cons.injEq, and_true] at h1
    subst h1
    simp only [if_true] at h5
    simp only [Prod.mk.injEq] at h6
    refine ⟨zs.take len, zs.drop len, ?_, Or.inr h6.1, fun n hn => h8 n (List.mem_of_mem_take hn)⟩
    have hl : (zs.take len).length = len := by rw [List.length_take]; omega
    rw [hl]
    refine seg_vr (by decide) h3 (by rw [List.length_map, hl, Nat.mul_one]) ?_ ?_ ?_
    · generalize zs.take len = l
      induction l with
      | nil => rfl
      | cons x l ih => simpa [flatL, flat] using ih
    · intro i v hi
      rw [List.getElem?_map, Option.map_eq_some_iff] at hi
      obtain ⟨n, hn, rfl⟩ := hi
      have hi : i < len := by have := (List.getElem?_eq_some_iff.1 hn).1; omega
      rw [h7 i (by omega)]
      rw [List.getElem?_take, if_pos hi] at hn
      rw [List.getD_eq_getElem?_getD, hn]; rfl
    · intro v hv
      obtain ⟨n, _, rfl⟩ := List.mem_map.1 hv
      rfl
theorem bytes_of : ∀ {zs : List Int}, (∀ n ∈ zs, (Lit.int .u8 n).wf = true) → ∃ l : List UInt8, zs.map (Value.int .u8) = l.map (fun b => Value.int .u8 b.toNat) ∧ l.length = zs.length
  | [], _ => ⟨[], rfl, rfl⟩
  | n :: zs, h => by
    obtain ⟨l, h1, h2⟩ := bytes_of (zs := zs) fun m hm => h m (by simp [hm])
    have hn := h n (by simp)
    have hn : 0 ≤ n ∧ n < 256 := by
      simp only [Lit.wf, Bool.and_eq_true, decide_eq_true_eq, show IntKind.u8.min = 0 from rfl, show IntKind.u8.max = 255 from rfl] at hn
      omega
    refine ⟨UInt8.ofNat n.toNat :: l, ?_, by simp [h2]⟩
    simp only [List.map_cons, h1, List.cons.injEq, and_true]
    congr 1
    simp only [UInt8.toNat_ofNat']
    omega
end
end Go.VS
end

section
namespace Go.Proofs.Ytbdeppefllcocaa.opReads
open Go.ChangeShapes Go.WideShapes Go.ChangeAt Go.RowKit
set_option linter.unusedVariables false
set_option linter.unusedSimpArgs false

theorem own : ownKnob Try.prog.godebug = none := by kernel_rfl
theorem laidOut : laidOutB Try.prog = true := by kernel_rfl

theorem walk {l : List UInt8} {v : Value} (w : World) (h : VS.VR (VS.envOf w) (VS.mkFz 1 l.length 0 (VS.bc l)) v) (hl : l.length ≤ 1048576) :
    Calls Try.prog 9 #[v] w fun e w' => e = .returned (.bool true) ∧ Below w.heap.size w w' :=
  VS.CR.true_calls (VS.CR.of (VS.Try.engOk VS.Try.ctL) VS.Try.noNum VS.Try.ctL_ok (VS.Try.opReads_run hl)) (args' := #[v]) (VS.VRL.cons h VS.VRL.nil)

theorem bulk {H : Type} (k : IntKind) : ∀ zs : List Int, Rows.uptoBulkAll (lits (H := H) k zs) = zs.length
  | [] => rfl
  | n :: zs => by
    show Rows.uptoBulk (DataW.lit (H := H) (.int k n)) + Rows.uptoBulkAll (lits (H := H) k zs) = _
    rw [bulk k zs]
    simp only [Rows.uptoBulk, List.length_cons]; omega

theorem contract (H : Type) (enc : TypeId × Value → H) (W : World) (base : Nat) (args : Array Value) (ds gs : List (DataW H)) (before : List MemPlace)
    (hval : ∀ (j : Nat) t v, Try.f9.params[j]? = some t → args[j]? = some v → Value.okWide Try.prog W .any base t v)
    (hW : DataW.Whole enc Try.prog Try.f9.params.toList Rows.opReadsSpec.vars false W args.toList ds gs before) (hk : Rows.uptoSmall H (ds ++ gs) = true) :
    Calls Try.prog 9 args W fun e W' => ∃ v, e = .returned v ∧ Rows.opReadsSpec.post enc Try.prog Try.f9 false true false false W args v W' := by
  have hW' := hW
  obtain ⟨p, q, hA0, hV, rfl, hfz, hnd⟩ := hW
  have hA : DataW.TrodAll enc Try.prog W 0 (fun _ => true) true Try.f9.params.toList args.toList ds p := hA0
  rw [Try.params9] at hA hval
  obtain ⟨v0, vs0, d0, ds0, p0, q0, hargs, rfl, rfl, h0, r0⟩ := trodAll_cons hA
  obtain ⟨rfl, rfl, rfl⟩ := trodAll_nil r0
  obtain rfl : args = #[v0] := by cases args; simp_all
  obtain ⟨rfl, rfl⟩ := trodVars_none hV
  obtain ⟨zs, rest, g0, hd, hwf⟩ := VS.open_ints_vr Try.underlying37 Try.underlying5 (by kernel_rfl) (hval 0 37 v0 rfl rfl) h0
  obtain ⟨l, hl1, hl2⟩ := VS.bytes_of hwf
  have e : zs.map (Value.int .u8) = VS.bc l := hl1
  rw [e, ← hl2] at g0
  clear hA0
  simp only [List.append_nil] at hW' hk
  have hsz : l.length ≤ 1048576 := by
    have h : Rows.uptoBulkAll [d0] ≤ 1048576 := of_decide_eq_true hk
    rcases hd with ⟨_, h2⟩ | rfl
    · rw [hl2, h2]; simp
    · have h : Rows.uptoBulkAll (lits (H := H) .u8 zs) + Rows.uptoBulkAll (lits (H := H) .u8 rest) + 1 + 0 ≤ 1048576 := h
      rw [bulk, bulk] at h
      omega
  have hlt0 : ∀ x ∈ p0, x.block < W.heap.size := fun x hx => by simpa using hW'.lt x (by simp [hx])
  refine (walk W g0 hsz).mono fun e W' ⟨he, hg⟩ => ?_
  subst he
  refine ⟨_, rfl, _, _, _, [], p0, [], hW', ?_, ?_, rfl, hg.frame _, fun h => by cases h⟩
  · exact trodAll_cons_mk (shut_bool Try.underlying4 _) trodAll_mk0
  · have T1 := (trodAll_mk0 : DataW.TrodAll enc Try.prog W' 0 (fun b => decide (b < W.heap.size)) true [] [] [] [])
    have T0 := trodAll_cons_mk (Below.trod laidOut (by kernel_rfl) (of_decide_eq_true (by kernel_rfl)) h0 hg hlt0) T1
    simp only [List.append_nil] at T0
    exact T0

set_option maxRecDepth 100000 in
theorem lifted (os : Os) (started : os.Started) (H : Type) (enc : TypeId × Value → H) (F : Stop.Interp) :
    ReturnsInHanded {} Try.checked os 9 .any ((Rows.OpenSpec.upto Rows.opReadsSpec).pre6 enc Try.prog Try.f9 Rows.opReadsUptoRow.domain false) (((Rows.OpenSpec.upto Rows.opReadsSpec).at F).post enc Try.prog Try.f9 false true false false) := by
  refine returnsInHanded_of_cond (C := Try.checked) (s := Rows.OpenSpec.upto Rows.opReadsSpec) (k := Rows.uptoSmall) rfl own started (by kernel_rfl) Try.func9
    (OpenSpec.witness (enc := enc) (C := Try.checked) (s := Rows.OpenSpec.upto Rows.opReadsSpec) (k := Rows.uptoSmall) rfl false ⟨#[], #[.slice none 0 0], []⟩ 8 (by kernel_rfl) (by kernel_rfl) (by kernel_rfl)
      (x := ([.nil], [], [])) (by kernel_rfl) rfl (by kernel_rfl)) ?_
  intro W base args ds gs before hval hW _ hk _
  exact contract H enc W base args ds gs before hval hW hk

theorem proved : Rows.OpReadsUptoSaid :=
  OpenClaim.holds_of_cond 9 Try.f9 rfl rfl rfl rfl rfl rfl rfl ⟨rfl, rfl, rfl, rfl, rfl⟩ rfl rfl rfl rfl rfl (by kernel_rfl) Try.func9 (by kernel_rfl)
    (of_decide_eq_true (by kernel_rfl)) (by unfold Func.isWrapper; first | (rw [if_pos (by decide +kernel)]; kernel_rfl) | (rw [if_neg (by decide +kernel)]; exact ⟨rfl, rfl⟩))
    (fun os started H enc _ F => lifted os started H enc F)
#print axioms proved
end Go.Proofs.Ytbdeppefllcocaa.opReads
end
