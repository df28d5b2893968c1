/- What a word's bytes are: the program's function. No conditions. -/
import Derived.Test.YtbdeppefllcocaaOp4
namespace Go.VS.Try
set_option linter.unusedSimpArgs false
set_option linter.unusedVariables false
set_option maxRecDepth 1000000
open Go.VS

noncomputable def Hbytes : Head := ⟨0, 86, [0, 4, 5, 6], [(4, 5)]⟩
noncomputable def Bbytes : Code := (loopAt P 23 0).getD .skip
theorem Bbytes_eq : loopAt P 23 0 = some Bbytes := by kernel_rfl
theorem Bbytes_occ : Occ P 23 (.block 0 (.loop Bbytes)) := loopAt_has Bbytes_eq

theorem dec_bytes (s : ByteArray) (c : List Value) (i : Int) : roundQ P E ct1 50 23 Bbytes Hbytes [.string s, .slice (some ⟨0, 0, none⟩) c.length unk, .bool false, .int .i64 i] [.cells c 5 false] =
  (iteB (Go.VS.ltI i (Go.VS.lenI (ByteArray.size s)))
   (needB (Go.VS.inI i (ByteArray.size s))
    (iteB (Go.VS.Try.plainM (Go.VS.bAt s i))
     (needB (Bool.and (Bool.not Bool.false) (Bool.and (Nat.beq 5 5) (Bool.and (Nat.ble 0 (List.length c)) (Nat.ble (Nat.add (List.length c) 1) 4194304))))
      (needB (Nat.beq (Nat.add 0 (Nat.mul (List.length c) 1)) (List.length c))
       (some ((Go.Value.tuple (Array.mk [(Go.Value.int Go.IntKind.i64 (0 : Int)), (Go.Value.string s), (Go.Value.slice (Option.some (Go.Addr.mk 0 0 none)) (Nat.add (List.length c) 1) 18446744073709551616), (Go.Value.bool Bool.false), (Go.Value.int Go.IntKind.i64 (Go.VS.addI Go.IntKind.i64 i (1 : Int)))])), (Go.VS.mkSt [(Go.VS.Blk.cells (Go.VS.renL Bool.true (Go.VS.rhoO 0 [2]) (List.append (Go.VS.takeC (Nat.mul (List.length c) 1) (Go.VS.dropC 0 c)) [(Go.Value.int Go.IntKind.u8 (Go.VS.bAt s i))])) 5 Bool.false)])))))
     (iteB (Go.VS.eqI (Go.VS.bAt s i) (92 : Int))
      (iteB (Go.VS.ltI (Go.VS.addI Go.IntKind.i64 i (2 : Int)) (Go.VS.lenI (ByteArray.size s)))
       (needB (Go.VS.inI (Go.VS.addI Go.IntKind.i64 i (1 : Int)) (ByteArray.size s))
        (needB (Go.VS.inI (Go.VS.addI Go.IntKind.i64 i (2 : Int)) (ByteArray.size s))
         (iteB (Go.VS.notB (Go.VS.Try.digB (Go.VS.bAt s (Go.VS.addI Go.IntKind.i64 i (1 : Int)))))
          (some ((Go.Value.tuple (Array.mk [(Go.Value.int Go.IntKind.i64 (1 : Int)), (Go.Value.string s), (Go.Value.slice (Option.some (Go.Addr.mk 0 0 none)) (List.length c) 18446744073709551616), (Go.Value.bool Bool.true), (Go.Value.int Go.IntKind.i64 i)])), (Go.VS.mkSt [(Go.VS.Blk.cells (Go.VS.renL Bool.true (Go.VS.rhoO 0 [0]) c) 5 Bool.false)])))
          (iteB (Go.VS.notB (Go.VS.Try.digB (Go.VS.bAt s (Go.VS.addI Go.IntKind.i64 i (2 : Int)))))
           (some ((Go.Value.tuple (Array.mk [(Go.Value.int Go.IntKind.i64 (1 : Int)), (Go.Value.string s), (Go.Value.slice (Option.some (Go.Addr.mk 0 0 none)) (List.length c) 18446744073709551616), (Go.Value.bool Bool.true), (Go.Value.int Go.IntKind.i64 i)])), (Go.VS.mkSt [(Go.VS.Blk.cells (Go.VS.renL Bool.true (Go.VS.rhoO 0 [0]) c) 5 Bool.false)])))
           (iteB (Go.VS.Try.plainM (Go.VS.orI Go.IntKind.u8 (Go.VS.shlI Go.IntKind.u8 (Go.VS.Try.digV (Go.VS.bAt s (Go.VS.addI Go.IntKind.i64 i (1 : Int)))) (4 : Int)) (Go.VS.Try.digV (Go.VS.bAt s (Go.VS.addI Go.IntKind.i64 i (2 : Int))))))
            (some ((Go.Value.tuple (Array.mk [(Go.Value.int Go.IntKind.i64 (1 : Int)), (Go.Value.string s), (Go.Value.slice (Option.some (Go.Addr.mk 0 0 none)) (List.length c) 18446744073709551616), (Go.Value.bool Bool.true), (Go.Value.int Go.IntKind.i64 i)])), (Go.VS.mkSt [(Go.VS.Blk.cells (Go.VS.renL Bool.true (Go.VS.rhoO 0 [0]) c) 5 Bool.false)])))
            (needB (Bool.and (Bool.not Bool.false) (Bool.and (Nat.beq 5 5) (Bool.and (Nat.ble 0 (List.length c)) (Nat.ble (Nat.add (List.length c) 1) 4194304))))
             (needB (Nat.beq (Nat.add 0 (Nat.mul (List.length c) 1)) (List.length c))
              (some ((Go.Value.tuple (Array.mk [(Go.Value.int Go.IntKind.i64 (0 : Int)), (Go.Value.string s), (Go.Value.slice (Option.some (Go.Addr.mk 0 0 none)) (Nat.add (List.length c) 1) 18446744073709551616), (Go.Value.bool Bool.false), (Go.Value.int Go.IntKind.i64 (Go.VS.addI Go.IntKind.i64 (Go.VS.addI Go.IntKind.i64 i (2 : Int)) (1 : Int)))])), (Go.VS.mkSt [(Go.VS.Blk.cells (Go.VS.renL Bool.true (Go.VS.rhoO 0 [2]) (List.append (Go.VS.takeC (Nat.mul (List.length c) 1) (Go.VS.dropC 0 c)) [(Go.Value.int Go.IntKind.u8 (Go.VS.orI Go.IntKind.u8 (Go.VS.shlI Go.IntKind.u8 (Go.VS.Try.digV (Go.VS.bAt s (Go.VS.addI Go.IntKind.i64 i (1 : Int)))) (4 : Int)) (Go.VS.Try.digV (Go.VS.bAt s (Go.VS.addI Go.IntKind.i64 i (2 : Int))))))])) 5 Bool.false)]))))))))))
       (some ((Go.Value.tuple (Array.mk [(Go.Value.int Go.IntKind.i64 (1 : Int)), (Go.Value.string s), (Go.Value.slice (Option.some (Go.Addr.mk 0 0 none)) (List.length c) 18446744073709551616), (Go.Value.bool Bool.true), (Go.Value.int Go.IntKind.i64 i)])), (Go.VS.mkSt [(Go.VS.Blk.cells (Go.VS.renL Bool.true (Go.VS.rhoO 0 [0]) c) 5 Bool.false)]))))
      (some ((Go.Value.tuple (Array.mk [(Go.Value.int Go.IntKind.i64 (1 : Int)), (Go.Value.string s), (Go.Value.slice (Option.some (Go.Addr.mk 0 0 none)) (List.length c) 18446744073709551616), (Go.Value.bool Bool.true), (Go.Value.int Go.IntKind.i64 i)])), (Go.VS.mkSt [(Go.VS.Blk.cells (Go.VS.renL Bool.true (Go.VS.rhoO 0 [0]) c) 5 Bool.false)]))))))
   (some ((Go.Value.tuple (Array.mk [(Go.Value.int Go.IntKind.i64 (1 : Int)), (Go.Value.string s), (Go.Value.slice (Option.some (Go.Addr.mk 0 0 none)) (List.length c) 18446744073709551616), (Go.Value.bool Bool.false), (Go.Value.int Go.IntKind.i64 i)])), (Go.VS.mkSt [(Go.VS.Blk.cells (Go.VS.renL Bool.true (Go.VS.rhoO 0 [0]) c) 5 Bool.false)])))) := by kernel_rfl

/-! ### the answer's digit: sixteen rounds -/
theorem dec_rdigit (x : Int) : callQ P E ct1 50 45 [.int .u8 x] =
  (iteB (Go.VS.eqI (48 : Int) x)
   (some ((Go.Value.tuple (Array.mk [(Go.Value.int Go.IntKind.u8 (0 : Int)), (Go.Value.bool Bool.true)])), (Go.VS.mkSt [])))
   (iteB (Go.VS.eqI (49 : Int) x)
    (some ((Go.Value.tuple (Array.mk [(Go.Value.int Go.IntKind.u8 (1 : Int)), (Go.Value.bool Bool.true)])), (Go.VS.mkSt [])))
    (iteB (Go.VS.eqI (50 : Int) x)
     (some ((Go.Value.tuple (Array.mk [(Go.Value.int Go.IntKind.u8 (2 : Int)), (Go.Value.bool Bool.true)])), (Go.VS.mkSt [])))
     (iteB (Go.VS.eqI (51 : Int) x)
      (some ((Go.Value.tuple (Array.mk [(Go.Value.int Go.IntKind.u8 (3 : Int)), (Go.Value.bool Bool.true)])), (Go.VS.mkSt [])))
      (iteB (Go.VS.eqI (52 : Int) x)
       (some ((Go.Value.tuple (Array.mk [(Go.Value.int Go.IntKind.u8 (4 : Int)), (Go.Value.bool Bool.true)])), (Go.VS.mkSt [])))
       (iteB (Go.VS.eqI (53 : Int) x)
        (some ((Go.Value.tuple (Array.mk [(Go.Value.int Go.IntKind.u8 (5 : Int)), (Go.Value.bool Bool.true)])), (Go.VS.mkSt [])))
        (iteB (Go.VS.eqI (54 : Int) x)
         (some ((Go.Value.tuple (Array.mk [(Go.Value.int Go.IntKind.u8 (6 : Int)), (Go.Value.bool Bool.true)])), (Go.VS.mkSt [])))
         (iteB (Go.VS.eqI (55 : Int) x)
          (some ((Go.Value.tuple (Array.mk [(Go.Value.int Go.IntKind.u8 (7 : Int)), (Go.Value.bool Bool.true)])), (Go.VS.mkSt [])))
          (iteB (Go.VS.eqI (56 : Int) x)
           (some ((Go.Value.tuple (Array.mk [(Go.Value.int Go.IntKind.u8 (8 : Int)), (Go.Value.bool Bool.true)])), (Go.VS.mkSt [])))
           (iteB (Go.VS.eqI (57 : Int) x)
            (some ((Go.Value.tuple (Array.mk [(Go.Value.int Go.IntKind.u8 (9 : Int)), (Go.Value.bool Bool.true)])), (Go.VS.mkSt [])))
            (iteB (Go.VS.eqI (97 : Int) x)
             (some ((Go.Value.tuple (Array.mk [(Go.Value.int Go.IntKind.u8 (10 : Int)), (Go.Value.bool Bool.true)])), (Go.VS.mkSt [])))
             (iteB (Go.VS.eqI (98 : Int) x)
              (some ((Go.Value.tuple (Array.mk [(Go.Value.int Go.IntKind.u8 (11 : Int)), (Go.Value.bool Bool.true)])), (Go.VS.mkSt [])))
              (iteB (Go.VS.eqI (99 : Int) x)
               (some ((Go.Value.tuple (Array.mk [(Go.Value.int Go.IntKind.u8 (12 : Int)), (Go.Value.bool Bool.true)])), (Go.VS.mkSt [])))
               (iteB (Go.VS.eqI (100 : Int) x)
                (some ((Go.Value.tuple (Array.mk [(Go.Value.int Go.IntKind.u8 (13 : Int)), (Go.Value.bool Bool.true)])), (Go.VS.mkSt [])))
                (iteB (Go.VS.eqI (101 : Int) x)
                 (some ((Go.Value.tuple (Array.mk [(Go.Value.int Go.IntKind.u8 (14 : Int)), (Go.Value.bool Bool.true)])), (Go.VS.mkSt [])))
                 (iteB (Go.VS.eqI (102 : Int) x)
                  (some ((Go.Value.tuple (Array.mk [(Go.Value.int Go.IntKind.u8 (15 : Int)), (Go.Value.bool Bool.true)])), (Go.VS.mkSt [])))
                  (some ((Go.Value.tuple (Array.mk [(Go.Value.int Go.IntKind.u8 (0 : Int)), (Go.Value.bool Bool.false)])), (Go.VS.mkSt []))))))))))))))))))) := by kernel_rfl

/-! ### the model -/
def hv (h l : UInt8) : Int := orI .u8 (shlI .u8 (digV h.toNat) 4) (digV l.toNat)
def goodH (h l : UInt8) : Bool := digB h.toNat && digB l.toNat && !plainM (hv h l)
def byteH (h l : UInt8) : UInt8 := UInt8.ofNat (hv h l).toNat
theorem wrap_u8 (n : Int) : IntKind.u8.wrap n = n % 256 := by
  show (if (false && decide (n % (2 ^ 8 : Int) ≥ (2 ^ (8 - 1) : Int))) = true then n % (2 ^ 8 : Int) - (2 ^ 8 : Int) else n % (2 ^ 8 : Int)) = _
  simp
theorem byteH_eq (h l : UInt8) : ((byteH h l).toNat : Int) = hv h l := by
  unfold byteH
  have h1 : 0 ≤ hv h l ∧ hv h l < 256 := by
    unfold hv orI
    rw [wrap_u8]
    omega
  generalize hv h l = n at h1
  simp only [UInt8.toNat_ofNat']
  omega
/-- Bytes of a word: what they are, whether it stops at a fault, and how many are left then. -/
def decL : List UInt8 → List UInt8 × Bool × Nat
  | [] => ([], false, 0)
  | x :: r => match plainM x.toNat with
    | true => (x :: (decL r).1, (decL r).2)
    | false => match eqI x.toNat 92, r with
      | true, h :: l :: r' => match goodH h l with
        | true => (byteH h l :: (decL r').1, (decL r').2)
        | false => ([], true, r'.length + 3)
      | _, r => ([], true, r.length + 1)

section
variable {s : ByteArray} {i : Nat} {c : List Value}
theorem addI_nat {i k : Nat} (h : i + k < 9223372036854775808) : addI .i64 (i : Int) (k : Int) = ((i + k : Nat) : Int) := by
  unfold addI
  rw [wrap64 (by omega) (by omega)]; omega

theorem bytes_plain (h : i < s.data.toList.length) (hc : flatL c = true) (hb : c.length + 1 ≤ 4194304) (hl : s.size < 9223372036854775800) (hp : plainM (s.data.toList[i].toNat : Int) = true) :
    roundQ P E ct1 50 23 Bbytes Hbytes [.string s, sl 0 c.length, .bool false, .int .i64 i] [.cells c 5 false] =
      some (.tuple ⟨exV .normal :: [.string s, sl 0 (c ++ bc [s.data.toList[i]]).length, .bool false, .int .i64 ((i + 1 : Nat) : Int)]⟩, mkSt [.cells (c ++ bc [s.data.toList[i]]) 5 false]) := by
  unfold sl
  have hsz : s.data.toList.length = s.size := by simp
  have hx : (i : Int) < (s.size : Int) := by omega
  have hw := addI_nat (i := i) (k := 1) (by omega)
  rw [dec_bytes]
  refine ite_t (decide_eq_true hx) ?_
  refine need_eq (inI_ok (by omega) hx) ?_
  rw [bAt_nth h]
  refine ite_t hp ?_
  refine need_eq (and_ok rfl (and_ok rfl (and_ok (ble_ok (Nat.zero_le _)) (ble_ok (by simp; omega))))) ?_
  refine need_eq (beq_ok (by simp)) ?_
  refine leaf_eq ?_ ?_
  · rw [show addI .i64 (i : Int) 1 = ((i + 1 : Nat) : Int) from hw]; simp [exV, bc, unk]
  · simp only [take_all]
    have e : ∀ x : List Value, x = bc [s.data.toList[i]] → renL true (rhoO 0 [2]) (c.append x) = c ++ bc [s.data.toList[i]] := by
      intro x hx
      rw [hx, show c.append (bc [s.data.toList[i]]) = c ++ bc _ from rfl, renL_append, renL_flat hc, bc_ren]
    exact congrArg (fun x => [Blk.cells x 5 false]) (e _ rfl)

theorem bytes_end (hc : flatL c = true) (h : i = s.size) :
    roundQ P E ct1 50 23 Bbytes Hbytes [.string s, sl 0 c.length, .bool false, .int .i64 i] [.cells c 5 false] =
      some (.tuple ⟨exV (.exit 0) :: [.string s, sl 0 c.length, .bool false, .int .i64 i]⟩, mkSt [.cells c 5 false]) := by
  unfold sl
  rw [dec_bytes]
  refine ite_f (by subst h; simp [ltI, lenI]) ?_
  refine leaf_eq (by simp [exV, unk]) ?_
  simp only [renL_flat hc]

theorem bad_leaf (hc : flatL c = true) : (some ((Go.Value.tuple (Array.mk [(Go.Value.int Go.IntKind.i64 (1 : Int)), (Go.Value.string s), (Go.Value.slice (Option.some (Go.Addr.mk 0 0 none)) (List.length c) 18446744073709551616), (Go.Value.bool Bool.true), (Go.Value.int Go.IntKind.i64 (i : Int))])), (Go.VS.mkSt [(Go.VS.Blk.cells (Go.VS.renL Bool.true (Go.VS.rhoO 0 [0]) c) 5 Bool.false)])) : Res) =
    some (.tuple ⟨exV (.exit 0) :: [.string s, sl 0 c.length, .bool true, .int .i64 i]⟩, mkSt [.cells c 5 false]) := by
  refine leaf_eq (by simp [exV, unk, sl]) ?_
  simp only [renL_flat hc]

theorem bytes_other (h : i < s.data.toList.length) (hc : flatL c = true) (hp : plainM (s.data.toList[i].toNat : Int) = false) (hb : eqI (s.data.toList[i].toNat : Int) 92 = false ∨ s.data.toList.length ≤ i + 2) (hl : s.size < 9223372036854775800) :
    roundQ P E ct1 50 23 Bbytes Hbytes [.string s, sl 0 c.length, .bool false, .int .i64 i] [.cells c 5 false] =
      some (.tuple ⟨exV (.exit 0) :: [.string s, sl 0 c.length, .bool true, .int .i64 i]⟩, mkSt [.cells c 5 false]) := by
  have hsz : s.data.toList.length = s.size := by simp
  have hx : (i : Int) < (s.size : Int) := by omega
  have hw2 := addI_nat (i := i) (k := 2) (by omega)
  have hd := dec_bytes s c i
  unfold sl
  rw [hd]
  refine ite_t (decide_eq_true hx) ?_
  refine need_eq (inI_ok (by omega) hx) ?_
  rw [bAt_nth h]
  refine ite_f hp ?_
  cases he : eqI (s.data.toList[i].toNat : Int) 92 with
  | false => exact ite_f rfl (bad_leaf hc)
  | true =>
    refine ite_t rfl ?_
    have hb : s.data.toList.length ≤ i + 2 := hb.resolve_left (by rw [he]; decide)
    refine ite_f ?_ (bad_leaf hc)
    rw [show addI .i64 (i : Int) 2 = ((i + 2 : Nat) : Int) from hw2]
    refine decide_eq_false ?_
    show ¬ ((i + 2 : Nat) : Int) < (s.size : Int)
    omega

theorem bytes_pair (h2 : i + 2 < s.data.toList.length) (hc : flatL c = true) (hb : c.length + 1 ≤ 4194304) (hp : plainM (s.data.toList[i].toNat : Int) = false) (he : eqI (s.data.toList[i].toNat : Int) 92 = true) (hl : s.size < 9223372036854775800) :
    roundQ P E ct1 50 23 Bbytes Hbytes [.string s, sl 0 c.length, .bool false, .int .i64 i] [.cells c 5 false] =
      match goodH s.data.toList[i + 1] s.data.toList[i + 2] with
      | true => some (.tuple ⟨exV .normal :: [.string s, sl 0 (c ++ bc [byteH s.data.toList[i + 1] s.data.toList[i + 2]]).length, .bool false, .int .i64 ((i + 3 : Nat) : Int)]⟩, mkSt [.cells (c ++ bc [byteH s.data.toList[i + 1] s.data.toList[i + 2]]) 5 false])
      | false => some (.tuple ⟨exV (.exit 0) :: [.string s, sl 0 c.length, .bool true, .int .i64 i]⟩, mkSt [.cells c 5 false]) := by
  have hsz : s.data.toList.length = s.size := by simp
  have hx : (i : Int) < (s.size : Int) := by omega
  have hw1 : addI .i64 (i : Int) 1 = ((i + 1 : Nat) : Int) := addI_nat (i := i) (k := 1) (by omega)
  have hw2 : addI .i64 (i : Int) 2 = ((i + 2 : Nat) : Int) := addI_nat (i := i) (k := 2) (by omega)
  have hw3 : addI .i64 ((i + 2 : Nat) : Int) 1 = ((i + 3 : Nat) : Int) := addI_nat (i := i + 2) (k := 1) (by omega)
  have hx1 : ((i + 1 : Nat) : Int) < (s.size : Int) := by omega
  have hx2 : ((i + 2 : Nat) : Int) < (s.size : Int) := by omega
  have hd := dec_bytes s c i
  rw [hw1, hw2, hw3, bAt_nth (show i < s.data.toList.length by omega), bAt_nth (show i + 1 < s.data.toList.length by omega), bAt_nth h2] at hd
  unfold sl
  rw [hd]
  refine ite_t (decide_eq_true hx) ?_
  refine need_eq (inI_ok (by omega) hx) ?_
  refine ite_f hp ?_
  refine ite_t he ?_
  refine ite_t (decide_eq_true hx2) ?_
  refine need_eq (inI_ok (by omega) hx1) ?_
  refine need_eq (inI_ok (by omega) hx2) ?_
  unfold goodH
  cases d1 : digB (s.data.toList[i + 1].toNat : Int) with
  | false => exact ite_t rfl (bad_leaf hc)
  | true =>
    refine ite_f rfl ?_
    cases d2 : digB (s.data.toList[i + 2].toNat : Int) with
    | false => exact ite_t rfl (bad_leaf hc)
    | true =>
      refine ite_f rfl ?_
      cases d3 : plainM (hv s.data.toList[i + 1] s.data.toList[i + 2]) with
      | true => exact ite_t d3 (bad_leaf hc)
      | false =>
        refine ite_f d3 ?_
        refine need_eq (and_ok rfl (and_ok rfl (and_ok (ble_ok (Nat.zero_le _)) (ble_ok (by simp; omega))))) ?_
        refine need_eq (beq_ok (by simp)) ?_
        refine leaf_eq ?_ ?_
        · simp [exV, bc, unk]
        · simp only [take_all]
          have e : ∀ x : List Value, x = bc [byteH s.data.toList[i + 1] s.data.toList[i + 2]] → renL true (rhoO 0 [2]) (c.append x) = c ++ bc [byteH s.data.toList[i + 1] s.data.toList[i + 2]] := by
            intro x hx
            rw [hx, show c.append (bc [byteH s.data.toList[i + 1] s.data.toList[i + 2]]) = c ++ bc _ from rfl, renL_append, renL_flat hc, bc_ren]
          refine congrArg (fun x => [Blk.cells x 5 false]) (e _ ?_)
          show [Value.int .u8 (hv s.data.toList[i + 1] s.data.toList[i + 2])] = [Value.int .u8 ((byteH s.data.toList[i + 1] s.data.toList[i + 2]).toNat : Int)]
          rw [byteH_eq]
end
end Go.VS.Try
