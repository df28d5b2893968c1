/- What a word's bytes are: the answer's function. No conditions. -/
import Derived.Test.YtbdeppefllcocaaOp6
namespace Go.VS.Try
set_option linter.unusedSimpArgs false
set_option linter.unusedVariables false
set_option maxRecDepth 1000000
open Go.VS

theorem rdigit_ok : CallOkR P 45 Rdigit := by
  refine ok_of ct1_ok (n := 50) fun args t hR v bs hev => ?_
  unfold Rdigit at hR
  split at hR
  · rename_i x
    obtain rfl := Option.some.inj hR
    simp only [DT.eval, Option.some.injEq, Prod.mk.injEq] at hev
    obtain ⟨rfl, rfl⟩ := hev
    rw [dec_rdigit]
    by_cases h48 : x = 48
    · subst h48; rfl
    by_cases h49 : x = 49
    · subst h49; rfl
    by_cases h50 : x = 50
    · subst h50; rfl
    by_cases h51 : x = 51
    · subst h51; rfl
    by_cases h52 : x = 52
    · subst h52; rfl
    by_cases h53 : x = 53
    · subst h53; rfl
    by_cases h54 : x = 54
    · subst h54; rfl
    by_cases h55 : x = 55
    · subst h55; rfl
    by_cases h56 : x = 56
    · subst h56; rfl
    by_cases h57 : x = 57
    · subst h57; rfl
    by_cases h97 : x = 97
    · subst h97; rfl
    by_cases h98 : x = 98
    · subst h98; rfl
    by_cases h99 : x = 99
    · subst h99; rfl
    by_cases h100 : x = 100
    · subst h100; rfl
    by_cases h101 : x = 101
    · subst h101; rfl
    by_cases h102 : x = 102
    · subst h102; rfl
    have hB : digB x = false := by simp [digB, geI, leI]; omega
    have hV : digV x = 0 := by
      unfold digB at hB
      simp only [Bool.or_eq_false_iff] at hB
      unfold digV
      rw [hB.1, hB.2]
      rfl
    rw [hB, hV]
    refine ite_f (by simp [eqI]; omega) ?_
    refine ite_f (by simp [eqI]; omega) ?_
    refine ite_f (by simp [eqI]; omega) ?_
    refine ite_f (by simp [eqI]; omega) ?_
    refine ite_f (by simp [eqI]; omega) ?_
    refine ite_f (by simp [eqI]; omega) ?_
    refine ite_f (by simp [eqI]; omega) ?_
    refine ite_f (by simp [eqI]; omega) ?_
    refine ite_f (by simp [eqI]; omega) ?_
    refine ite_f (by simp [eqI]; omega) ?_
    refine ite_f (by simp [eqI]; omega) ?_
    refine ite_f (by simp [eqI]; omega) ?_
    refine ite_f (by simp [eqI]; omega) ?_
    refine ite_f (by simp [eqI]; omega) ?_
    refine ite_f (by simp [eqI]; omega) ?_
    refine ite_f (by simp [eqI]; omega) ?_
    rfl
  · cases hR

noncomputable def ct5 : Ct := addCall P 45 Rdigit (addCall P 23 RBytes ct4)
theorem ct5_ok : CtOk P ct5 := addCall_ok (addCall_ok ct4_ok Bytes_ok) rdigit_ok

noncomputable def Hrbytes : Head := ⟨0, 75, [0, 2, 3, 4, 5], [(4, 5)]⟩
noncomputable def Brbytes : Code := (loopAt P 24 0).getD .skip
theorem Brbytes_eq : loopAt P 24 0 = some Brbytes := by kernel_rfl
theorem Brbytes_occ : Occ P 24 (.block 0 (.loop Brbytes)) := loopAt_has Brbytes_eq

theorem dec_rbytes (s : ByteArray) (c : List Value) (i : Int) : roundQ P E ct5 50 24 Brbytes Hrbytes [.string s, .string ⟨#[]⟩, .int .i64 0, .slice (some ⟨0, 0, none⟩) c.length unk, .int .i64 i] [.cells c 5 false] =
  (iteB (Go.VS.ltI i (Go.VS.lenI (ByteArray.size s)))
   (iteB (Go.VS.neS s (ByteArray.mk #[34, 34]))
    (needB (Go.VS.inI i (ByteArray.size s))
     (iteB (Go.VS.neI (Go.VS.bAt s i) (92 : Int))
      (needB (Go.VS.inI i (ByteArray.size s))
       (needB (Bool.and (Bool.not Bool.false) (Bool.and (Nat.beq 5 5) (Bool.and (Nat.ble 0 (List.length c)) (Nat.ble (Nat.add (List.length c) 1) 4194304))))
        (needB (Nat.beq (Nat.add 0 (Nat.mul (List.length c) 1)) (List.length c))
         (some ((Go.Value.tuple (Array.mk [(Go.Value.int Go.IntKind.i64 (0 : Int)), (Go.Value.string s), (Go.Value.string (ByteArray.mk #[])), (Go.Value.int Go.IntKind.i64 (0 : Int)), (Go.Value.slice (Option.some (Go.Addr.mk 0 0 none)) (Nat.add (List.length c) 1) 18446744073709551616), (Go.Value.int Go.IntKind.i64 (Go.VS.addI Go.IntKind.i64 i (1 : Int)))])), (Go.VS.mkSt [(Go.VS.Blk.cells (Go.VS.renL Bool.true (Go.VS.rhoO 0 [3]) (List.append (Go.VS.takeC (Nat.mul (List.length c) 1) (Go.VS.dropC 0 c)) [(Go.Value.int Go.IntKind.u8 (Go.VS.bAt s i))])) 5 Bool.false)]))))))
      (iteB (Go.VS.geI (Go.VS.addI Go.IntKind.i64 i (2 : Int)) (Go.VS.lenI (ByteArray.size s)))
       (some ((Go.Value.tuple (Array.mk [(Go.Value.int Go.IntKind.i64 (-1 : Int)), (Go.Value.string s), (Go.Value.string (ByteArray.mk #[])), (Go.Value.int Go.IntKind.i64 (5 : Int)), (Go.Value.slice (Option.some (Go.Addr.mk 0 0 none)) (List.length c) 18446744073709551616), (Go.Value.int Go.IntKind.i64 i)])), (Go.VS.mkSt [(Go.VS.Blk.cells (Go.VS.renL Bool.true (Go.VS.rhoO 0 [0]) c) 5 Bool.false)])))
       (needB (Go.VS.inI (Go.VS.addI Go.IntKind.i64 i (1 : Int)) (ByteArray.size s))
        (needB (Go.VS.inI (Go.VS.addI Go.IntKind.i64 i (2 : Int)) (ByteArray.size s))
         (iteB (Go.VS.notB (Go.VS.Try.digB (Go.VS.bAt s (Go.VS.addI Go.IntKind.i64 i (1 : Int)))))
          (some ((Go.Value.tuple (Array.mk [(Go.Value.int Go.IntKind.i64 (-1 : Int)), (Go.Value.string s), (Go.Value.string (ByteArray.mk #[])), (Go.Value.int Go.IntKind.i64 (5 : Int)), (Go.Value.slice (Option.some (Go.Addr.mk 0 0 none)) (List.length c) 18446744073709551616), (Go.Value.int Go.IntKind.i64 i)])), (Go.VS.mkSt [(Go.VS.Blk.cells (Go.VS.renL Bool.true (Go.VS.rhoO 0 [0]) c) 5 Bool.false)])))
          (iteB (Go.VS.notB (Go.VS.Try.digB (Go.VS.bAt s (Go.VS.addI Go.IntKind.i64 i (2 : Int)))))
           (some ((Go.Value.tuple (Array.mk [(Go.Value.int Go.IntKind.i64 (-1 : Int)), (Go.Value.string s), (Go.Value.string (ByteArray.mk #[])), (Go.Value.int Go.IntKind.i64 (5 : Int)), (Go.Value.slice (Option.some (Go.Addr.mk 0 0 none)) (List.length c) 18446744073709551616), (Go.Value.int Go.IntKind.i64 i)])), (Go.VS.mkSt [(Go.VS.Blk.cells (Go.VS.renL Bool.true (Go.VS.rhoO 0 [0]) c) 5 Bool.false)])))
           (needB (Bool.and (Bool.not Bool.false) (Bool.and (Nat.beq 5 5) (Bool.and (Nat.ble 0 (List.length c)) (Nat.ble (Nat.add (List.length c) 1) 4194304))))
            (needB (Nat.beq (Nat.add 0 (Nat.mul (List.length c) 1)) (List.length c))
             (some ((Go.Value.tuple (Array.mk [(Go.Value.int Go.IntKind.i64 (0 : Int)), (Go.Value.string s), (Go.Value.string (ByteArray.mk #[])), (Go.Value.int Go.IntKind.i64 (0 : Int)), (Go.Value.slice (Option.some (Go.Addr.mk 0 0 none)) (Nat.add (List.length c) 1) 18446744073709551616), (Go.Value.int Go.IntKind.i64 (Go.VS.addI Go.IntKind.i64 (Go.VS.addI Go.IntKind.i64 i (2 : Int)) (1 : Int)))])), (Go.VS.mkSt [(Go.VS.Blk.cells (Go.VS.renL Bool.true (Go.VS.rhoO 0 [3]) (List.append (Go.VS.takeC (Nat.mul (List.length c) 1) (Go.VS.dropC 0 c)) [(Go.Value.int Go.IntKind.u8 (Go.VS.addI Go.IntKind.u8 (Go.VS.mulI Go.IntKind.u8 (16 : Int) (Go.VS.Try.digV (Go.VS.bAt s (Go.VS.addI Go.IntKind.i64 i (1 : Int))))) (Go.VS.Try.digV (Go.VS.bAt s (Go.VS.addI Go.IntKind.i64 i (2 : Int))))))])) 5 Bool.false)]))))))))))))
    (some ((Go.Value.tuple (Array.mk [(Go.Value.int Go.IntKind.i64 (1 : Int)), (Go.Value.string s), (Go.Value.string (ByteArray.mk #[])), (Go.Value.int Go.IntKind.i64 (0 : Int)), (Go.Value.slice (Option.some (Go.Addr.mk 0 0 none)) (List.length c) 18446744073709551616), (Go.Value.int Go.IntKind.i64 i)])), (Go.VS.mkSt [(Go.VS.Blk.cells (Go.VS.renL Bool.true (Go.VS.rhoO 0 [0]) c) 5 Bool.false)]))))
   (some ((Go.Value.tuple (Array.mk [(Go.Value.int Go.IntKind.i64 (1 : Int)), (Go.Value.string s), (Go.Value.string (ByteArray.mk #[])), (Go.Value.int Go.IntKind.i64 (0 : Int)), (Go.Value.slice (Option.some (Go.Addr.mk 0 0 none)) (List.length c) 18446744073709551616), (Go.Value.int Go.IntKind.i64 i)])), (Go.VS.mkSt [(Go.VS.Blk.cells (Go.VS.renL Bool.true (Go.VS.rhoO 0 [0]) c) 5 Bool.false)])))) := by kernel_rfl

def rhv (h l : UInt8) : Int := addI .u8 (mulI .u8 16 (digV h.toNat)) (digV l.toNat)
theorem dig_lt : ∀ n : Fin 256, digB (n.val : Int) = true → 0 ≤ digV (n.val : Int) ∧ digV (n.val : Int) < 16 := by decide +kernel
theorem mix_eq : ∀ a b : Fin 16, addI .u8 (mulI .u8 16 (a.val : Int)) (b.val : Int) = orI .u8 (shlI .u8 (a.val : Int) 4) (b.val : Int) := by decide +kernel
theorem rhv_eq {h l : UInt8} (h1 : digB h.toNat = true) (h2 : digB l.toNat = true) : rhv h l = hv h l := by
  have a := dig_lt ⟨h.toNat, h.toNat_lt⟩ h1
  have b := dig_lt ⟨l.toNat, l.toNat_lt⟩ h2
  simp only at a b
  unfold rhv hv
  generalize digV (h.toNat : Int) = x at a
  generalize digV (l.toNat : Int) = y at b
  obtain ⟨x, rfl⟩ := Int.eq_ofNat_of_zero_le a.1
  obtain ⟨y, rfl⟩ := Int.eq_ofNat_of_zero_le b.1
  exact mix_eq ⟨x, by omega⟩ ⟨y, by omega⟩

/-- As far as the answer reads a word: bytes, whether it stops at a fault, and how many are left then. -/
def decR : List UInt8 → List UInt8 × Bool × Nat
  | [] => ([], false, 0)
  | x :: r => match neI x.toNat 92, r with
    | true, r => (x :: (decR r).1, (decR r).2)
    | false, h :: l :: r' => match digB h.toNat && digB l.toNat with
      | true => (byteH h l :: (decR r').1, (decR r').2)
      | false => ([], true, r'.length + 3)
    | false, r => ([], true, r.length + 1)
theorem decR_plain {x : UInt8} {r : List UInt8} (h : neI x.toNat 92 = true) : decR (x :: r) = (x :: (decR r).1, (decR r).2) := by
  rw [decR.eq_def]; simp only [h]
theorem decR_pair {x h l : UInt8} {r : List UInt8} (hp : neI x.toNat 92 = false) : decR (x :: h :: l :: r) = match digB h.toNat && digB l.toNat with
    | true => (byteH h l :: (decR r).1, (decR r).2)
    | false => ([], true, r.length + 3) := by
  rw [decR.eq_def]; simp only [hp]
theorem decR_short {x : UInt8} {r : List UInt8} (hp : neI x.toNat 92 = false) (ho : r.length < 2) : decR (x :: r) = ([], true, r.length + 1) := by
  rw [decR.eq_def]
  simp only [hp]
  cases r with
  | nil => rfl
  | cons a r => cases r with
    | nil => rfl
    | cons b r => simp at ho; omega

section
variable {s : ByteArray} {i : Nat} {c : List Value}
/-- The slots at the loop's head. -/
def rb (s : ByteArray) (e : Int) (n : Nat) (i : Int) : List Value := [.string s, .string ⟨#[]⟩, .int .i64 e, sl 0 n, .int .i64 i]

theorem ren_one (ρ : Nat → Option Nat) (hc : flatL c = true) {l : List UInt8} {x : List Value} (hx : x = bc l) : renL true ρ (c.append x) = c ++ bc l := by
  rw [hx, show c.append (bc l) = c ++ bc l from rfl, renL_append, renL_flat hc, bc_ren]

theorem rbytes_plain (h : i < s.data.toList.length) (hc : flatL c = true) (hb : c.length + 1 ≤ 4194304) (hl : s.size < 9223372036854775800) (hq : neS s ⟨#[34, 34]⟩ = true) (hp : neI (s.data.toList[i].toNat : Int) 92 = true) :
    roundQ P E ct5 50 24 Brbytes Hrbytes (rb s 0 c.length i) [.cells c 5 false] =
      some (.tuple ⟨exV .normal :: rb s 0 (c ++ bc [s.data.toList[i]]).length ((i + 1 : Nat) : Int)⟩, mkSt [.cells (c ++ bc [s.data.toList[i]]) 5 false]) := by
  unfold rb sl
  have hsz : s.data.toList.length = s.size := by simp
  have hx : (i : Int) < (s.size : Int) := by omega
  have hw : addI .i64 (i : Int) 1 = ((i + 1 : Nat) : Int) := addI_nat (i := i) (k := 1) (by omega)
  rw [dec_rbytes]
  refine ite_t (decide_eq_true hx) ?_
  refine ite_t hq ?_
  refine need_eq (inI_ok (by omega) hx) ?_
  rw [bAt_nth h]
  refine ite_t hp ?_
  refine need_eq (inI_ok (by omega) hx) ?_
  refine need_eq (and_ok rfl (and_ok rfl (and_ok (ble_ok (Nat.zero_le _)) (ble_ok (by simp; omega))))) ?_
  refine need_eq (beq_ok (by simp)) ?_
  refine leaf_eq ?_ ?_
  · rw [hw]; simp [exV, bc, unk]
  · simp only [take_all]
    exact congrArg (fun x => [Blk.cells x 5 false]) (ren_one _ hc rfl)

theorem rbytes_end (hc : flatL c = true) (h : i = s.size ∨ neS s ⟨#[34, 34]⟩ = false) (hi : i ≤ s.size) :
    roundQ P E ct5 50 24 Brbytes Hrbytes (rb s 0 c.length i) [.cells c 5 false] =
      some (.tuple ⟨exV (.exit 0) :: rb s 0 c.length i⟩, mkSt [.cells c 5 false]) := by
  unfold rb sl
  rw [dec_rbytes]
  by_cases hs : i = s.size
  · refine ite_f (by subst hs; simp [ltI, lenI]) ?_
    refine leaf_eq (by simp [exV, unk]) ?_
    simp only [renL_flat hc]
  · have hx : (i : Int) < (s.size : Int) := by omega
    refine ite_t (decide_eq_true hx) ?_
    refine ite_f (h.resolve_left hs) ?_
    refine leaf_eq (by simp [exV, unk]) ?_
    simp only [renL_flat hc]

theorem rbytes_short (h : i < s.data.toList.length) (hc : flatL c = true) (hl : s.size < 9223372036854775800) (hq : neS s ⟨#[34, 34]⟩ = true) (hp : neI (s.data.toList[i].toNat : Int) 92 = false) (hn : s.data.toList.length ≤ i + 2) :
    roundQ P E ct5 50 24 Brbytes Hrbytes (rb s 0 c.length i) [.cells c 5 false] =
      some (.tuple ⟨exV .ret :: rb s 5 c.length i⟩, mkSt [.cells c 5 false]) := by
  unfold rb sl
  have hsz : s.data.toList.length = s.size := by simp
  have hx : (i : Int) < (s.size : Int) := by omega
  have hw2 : addI .i64 (i : Int) 2 = ((i + 2 : Nat) : Int) := addI_nat (i := i) (k := 2) (by omega)
  rw [dec_rbytes]
  refine ite_t (decide_eq_true hx) ?_
  refine ite_t hq ?_
  refine need_eq (inI_ok (by omega) hx) ?_
  rw [bAt_nth h]
  refine ite_f hp ?_
  refine ite_t ?_ ?_
  · rw [hw2]
    refine decide_eq_true ?_
    show ((i + 2 : Nat) : Int) ≥ (s.size : Int)
    omega
  refine leaf_eq (by simp [exV, unk]) ?_
  simp only [renL_flat hc]

theorem rbytes_pair (h2 : i + 2 < s.data.toList.length) (hc : flatL c = true) (hb : c.length + 1 ≤ 4194304) (hl : s.size < 9223372036854775800) (hq : neS s ⟨#[34, 34]⟩ = true) (hp : neI (s.data.toList[i].toNat : Int) 92 = false) :
    roundQ P E ct5 50 24 Brbytes Hrbytes (rb s 0 c.length i) [.cells c 5 false] =
      match digB (s.data.toList[i + 1].toNat : Int) && digB (s.data.toList[i + 2].toNat : Int) with
      | true => some (.tuple ⟨exV .normal :: rb s 0 (c ++ bc [byteH s.data.toList[i + 1] s.data.toList[i + 2]]).length ((i + 3 : Nat) : Int)⟩, mkSt [.cells (c ++ bc [byteH s.data.toList[i + 1] s.data.toList[i + 2]]) 5 false])
      | false => some (.tuple ⟨exV .ret :: rb s 5 c.length i⟩, mkSt [.cells c 5 false]) := by
  have hsz : s.data.toList.length = s.size := by simp
  have hx : (i : Int) < (s.size : Int) := by omega
  have hw1 : addI .i64 (i : Int) 1 = ((i + 1 : Nat) : Int) := addI_nat (i := i) (k := 1) (by omega)
  have hw2 : addI .i64 (i : Int) 2 = ((i + 2 : Nat) : Int) := addI_nat (i := i) (k := 2) (by omega)
  have hw3 : addI .i64 ((i + 2 : Nat) : Int) 1 = ((i + 3 : Nat) : Int) := addI_nat (i := i + 2) (k := 1) (by omega)
  have hx1 : ((i + 1 : Nat) : Int) < (s.size : Int) := by omega
  have hx2 : ((i + 2 : Nat) : Int) < (s.size : Int) := by omega
  have hd := dec_rbytes s c i
  rw [hw1, hw2, hw3, bAt_nth (show i < s.data.toList.length by omega), bAt_nth (show i + 1 < s.data.toList.length by omega), bAt_nth h2] at hd
  unfold rb sl
  rw [hd]
  refine ite_t (decide_eq_true hx) ?_
  refine ite_t hq ?_
  refine need_eq (inI_ok (by omega) hx) ?_
  refine ite_f hp ?_
  refine ite_f ?_ ?_
  · refine decide_eq_false ?_
    show ¬ ((i + 2 : Nat) : Int) ≥ (s.size : Int)
    omega
  refine need_eq (inI_ok (by omega) hx1) ?_
  refine need_eq (inI_ok (by omega) hx2) ?_
  cases d1 : digB (s.data.toList[i + 1].toNat : Int) with
  | false =>
    refine ite_t rfl ?_
    refine leaf_eq (by simp [exV, unk]) ?_
    simp only [renL_flat hc]
  | true =>
    refine ite_f rfl ?_
    cases d2 : digB (s.data.toList[i + 2].toNat : Int) with
    | false =>
      refine ite_t rfl ?_
      refine leaf_eq (by simp [exV, unk]) ?_
      simp only [renL_flat hc]
    | true =>
      refine ite_f rfl ?_
      refine need_eq (and_ok rfl (and_ok rfl (and_ok (ble_ok (Nat.zero_le _)) (ble_ok (by simp; omega))))) ?_
      refine need_eq (beq_ok (by simp)) ?_
      refine leaf_eq ?_ ?_
      · simp [exV, bc, unk]
      · simp only [take_all]
        refine congrArg (fun x => [Blk.cells x 5 false]) (ren_one _ hc ?_)
        show [Value.int .u8 (rhv s.data.toList[i + 1] s.data.toList[i + 2])] = [Value.int .u8 ((byteH s.data.toList[i + 1] s.data.toList[i + 2]).toNat : Int)]
        rw [byteH_eq, rhv_eq d1 d2]
end
end Go.VS.Try
