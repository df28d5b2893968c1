/- What a word of a text is: the program's. No conditions. -/
import Derived.Test.YtbdeppefllcocaaOp1
import Derived.Test.YtbdeppefllcocaaVsLaws
namespace Go.VS.Try
set_option linter.unusedSimpArgs false
set_option linter.unusedVariables false
set_option maxRecDepth 1000000
open Go.VS

noncomputable def ct1 : Ct := addCall P 43 Rplain (addCall P 46 Rrplain (addCall P 44 Rdigit (addCall P 47 Rhex noCt)))
theorem ct1_ok : CtOk P ct1 := addCall_ok (addCall_ok (addCall_ok (addCall_ok (noCt_ok P) hex_ok) digit_ok) rplain_ok) plain_ok

noncomputable def Hword : Head := ⟨1, 33, [3, 9, 10, 11], [(3, 5)]⟩
noncomputable def Bword : Code := (loopAt P 26 0).getD .skip
theorem Bword_eq : loopAt P 26 0 = some Bword := by kernel_rfl
theorem Bword_occ : Occ P 26 (.block 0 (.loop Bword)) := loopAt_has Bword_eq

theorem dec_word (cb c : List Value) (m : Nat) (z i : Int) : roundQ P E ct1 50 26 Bword Hword [.slice (some ⟨1, 0, none⟩) c.length unk, .slice (some ⟨0, 0, none⟩) m unk, .int .i64 z, .int .i64 i] [.cells cb 5 false, .cells c 5 false] =
  (iteB (Go.VS.ltI i z)
   (needB (Go.VS.inI i m)
    (needB (Bool.and (Nat.ble (Nat.add (Nat.add 0 (Go.VS.atN i 1)) 1) (List.length cb)) (Go.VS.etaB (Go.VS.Eta.int Go.IntKind.u8) (Go.VS.nthD cb (Nat.add 0 (Go.VS.atN i 1)))))
     (iteB (Go.VS.Try.plainM (Go.VS.asI (Go.VS.nthD cb (Nat.add 0 (Go.VS.atN i 1)))))
      (needB (Bool.and (Bool.not Bool.false) (Bool.and (Nat.beq 5 5) (Bool.and (Nat.ble 0 (List.length c)) (Nat.ble (Nat.add (List.length c) 1) 4194304))))
       (needB (Nat.beq (Nat.add 0 (Nat.mul (List.length c) 1)) (List.length c))
        (some ((Go.Value.tuple (Array.mk [(Go.Value.int Go.IntKind.i64 (0 : Int)), (Go.Value.slice (Option.some (Go.Addr.mk 1 0 none)) (Nat.add (List.length c) 1) 18446744073709551616), (Go.Value.slice (Option.some (Go.Addr.mk 0 0 none)) m 18446744073709551616), (Go.Value.int Go.IntKind.i64 z), (Go.Value.int Go.IntKind.i64 (Go.VS.addI Go.IntKind.i64 i (1 : Int)))])), (Go.VS.mkSt [(Go.VS.Blk.cells (Go.VS.renL Bool.true (Go.VS.rhoO 1 [3]) cb) 5 Bool.false), (Go.VS.Blk.cells (Go.VS.renL Bool.true (Go.VS.rhoO 1 [3]) (List.append (Go.VS.takeC (Nat.mul (List.length c) 1) (Go.VS.dropC 0 c)) [(Go.Value.int Go.IntKind.u8 (Go.VS.asI (Go.VS.nthD cb (Nat.add 0 (Go.VS.atN i 1)))))])) 5 Bool.false)])))))
      (needB (Go.VS.inI (Go.VS.shrI Go.IntKind.u8 (Go.VS.asI (Go.VS.nthD cb (Nat.add 0 (Go.VS.atN i 1)))) (4 : Int)) 16)
       (needB (Go.VS.inI (Go.VS.andI Go.IntKind.u8 (Go.VS.asI (Go.VS.nthD cb (Nat.add 0 (Go.VS.atN i 1)))) (15 : Int)) 16)
        (needB (Bool.and (Bool.not Bool.false) (Bool.and (Nat.beq 5 5) (Bool.and (Nat.ble 0 (List.length c)) (Nat.ble (Nat.add (List.length c) 3) 4194304))))
         (needB (Nat.beq (Nat.add 0 (Nat.mul (List.length c) 1)) (List.length c))
          (some ((Go.Value.tuple (Array.mk [(Go.Value.int Go.IntKind.i64 (0 : Int)), (Go.Value.slice (Option.some (Go.Addr.mk 1 0 none)) (Nat.add (List.length c) 3) 18446744073709551616), (Go.Value.slice (Option.some (Go.Addr.mk 0 0 none)) m 18446744073709551616), (Go.Value.int Go.IntKind.i64 z), (Go.Value.int Go.IntKind.i64 (Go.VS.addI Go.IntKind.i64 i (1 : Int)))])), (Go.VS.mkSt [(Go.VS.Blk.cells (Go.VS.renL Bool.true (Go.VS.rhoO 1 [12]) cb) 5 Bool.false), (Go.VS.Blk.cells (Go.VS.renL Bool.true (Go.VS.rhoO 1 [12]) (List.append (Go.VS.takeC (Nat.mul (List.length c) 1) (Go.VS.dropC 0 c)) [(Go.Value.int Go.IntKind.u8 (92 : Int)), (Go.Value.int Go.IntKind.u8 (Go.VS.bAt (ByteArray.mk #[48, 49, 50, 51, 52, 53, 54, 55, 56, 57, 97, 98, 99, 100, 101, 102]) (Go.VS.shrI Go.IntKind.u8 (Go.VS.asI (Go.VS.nthD cb (Nat.add 0 (Go.VS.atN i 1)))) (4 : Int)))), (Go.Value.int Go.IntKind.u8 (Go.VS.bAt (ByteArray.mk #[48, 49, 50, 51, 52, 53, 54, 55, 56, 57, 97, 98, 99, 100, 101, 102]) (Go.VS.andI Go.IntKind.u8 (Go.VS.asI (Go.VS.nthD cb (Nat.add 0 (Go.VS.atN i 1)))) (15 : Int))))])) 5 Bool.false)]))))))))))
   (some ((Go.Value.tuple (Array.mk [(Go.Value.int Go.IntKind.i64 (1 : Int)), (Go.Value.slice (Option.some (Go.Addr.mk 1 0 none)) (List.length c) 18446744073709551616), (Go.Value.slice (Option.some (Go.Addr.mk 0 0 none)) m 18446744073709551616), (Go.Value.int Go.IntKind.i64 z), (Go.Value.int Go.IntKind.i64 i)])), (Go.VS.mkSt [(Go.VS.Blk.cells (Go.VS.renL Bool.true (Go.VS.rhoO 1 [1]) cb) 5 Bool.false), (Go.VS.Blk.cells (Go.VS.renL Bool.true (Go.VS.rhoO 1 [1]) c) 5 Bool.false)])))) := by kernel_rfl

/-! ### the model -/
def hxU (i : Int) : UInt8 := hexD.data.toList.getD i.toNat 0
theorem bAt_hx (i : Int) : bAt hexD i = ((hxU i).toNat : Int) := rfl
/-- A byte in a word. -/
def enc (b : UInt8) : List UInt8 := match plainM b.toNat with
  | true => [b]
  | false => [92, hxU (shrI .u8 b.toNat 4), hxU (andI .u8 b.toNat 15)]
def encL (l : List UInt8) : List UInt8 := l.flatMap enc
theorem encL_cons (b : UInt8) (l : List UInt8) : encL (b :: l) = enc b ++ encL l := List.flatMap_cons
theorem shr_lt : ∀ n : Fin 256, inI (shrI .u8 (n.val : Int) 4) 16 = true := by decide +kernel
theorem and_lt : ∀ n : Fin 256, inI (andI .u8 (n.val : Int) 15) 16 = true := by decide +kernel
theorem shr_ok (b : UInt8) : inI (shrI .u8 (b.toNat : Int) 4) 16 = true := shr_lt ⟨b.toNat, b.toNat_lt⟩
theorem and_ok' (b : UInt8) : inI (andI .u8 (b.toNat : Int) 15) 16 = true := and_lt ⟨b.toNat, b.toNat_lt⟩
theorem enc_length (b : UInt8) : (enc b).length ≤ 3 := by unfold enc; split <;> simp

def sl (b n : Nat) : Value := .slice (some ⟨b, 0, none⟩) n unk

theorem nth_ok {l : List UInt8} {i : Nat} (h : i < l.length) : nthD (bc l) (Nat.add 0 (atN (i : Int) 1)) = .int .u8 (l[i].toNat) := by
  have e : Nat.add 0 (atN (i : Int) 1) = i := by simp [atN]
  rw [e]; exact bc_nth h

theorem word_again {l : List UInt8} {i : Nat} {c : List Value} (h : i < l.length) (hc : flatL c = true) (hb : c.length + 3 ≤ 4194304) (hl : l.length < 9223372036854775807) :
    roundQ P E ct1 50 26 Bword Hword [sl 1 c.length, sl 0 l.length, .int .i64 l.length, .int .i64 i] [.cells (bc l) 5 false, .cells c 5 false] =
      some (.tuple ⟨exV .normal :: [sl 1 (c ++ bc (enc l[i])).length, sl 0 l.length, .int .i64 l.length, .int .i64 ((i + 1 : Nat) : Int)]⟩, mkSt [.cells (bc l) 5 false, .cells (c ++ bc (enc l[i])) 5 false]) := by
  unfold sl
  rw [dec_word]
  have hw : addI .i64 (i : Int) 1 = ((i + 1 : Nat) : Int) := by
    unfold addI
    rw [wrap64 (by omega) (by omega)]; omega
  refine ite_t (by simp [ltI, h]) ?_
  refine need_eq (inI_ok (by omega) (by omega)) ?_
  refine need_eq (and_ok (ble_ok (by rw [bc_length]; simp [atN]; omega)) (by rw [nth_ok h]; rfl)) ?_
  simp only [nth_ok h, asI]
  cases hp : plainM (l[i].toNat : Int) with
  | true =>
    have he : enc l[i] = [l[i]] := by unfold enc; rw [hp]
    refine ite_t rfl ?_
    refine need_eq (and_ok rfl (and_ok rfl (and_ok (ble_ok (Nat.zero_le _)) (ble_ok (by simp; omega))))) ?_
    refine need_eq (beq_ok (by simp)) ?_
    refine leaf_eq ?_ ?_
    · rw [he, hw]; simp [exV, bc, unk]
    · simp only [bc_ren, take_all, renL_flat hc, renL_append, he]
      rw [show c.append [Value.int .u8 (l[i].toNat : Int)] = c ++ bc [l[i]] from rfl, renL_append, renL_flat hc, bc_ren]
  | false =>
    have he : enc l[i] = [92, hxU (shrI .u8 l[i].toNat 4), hxU (andI .u8 l[i].toNat 15)] := by unfold enc; rw [hp]
    refine ite_f rfl ?_
    refine need_eq (shr_ok _) ?_
    refine need_eq (and_ok' _) ?_
    refine need_eq (and_ok rfl (and_ok rfl (and_ok (ble_ok (Nat.zero_le _)) (ble_ok (by simp; omega))))) ?_
    refine need_eq (beq_ok (by simp)) ?_
    refine leaf_eq ?_ ?_
    · rw [he, hw]; simp [exV, bc, unk]
    · simp only [bc_ren, take_all, he]
      have e : ∀ x : List Value, x = bc [92, hxU (shrI .u8 l[i].toNat 4), hxU (andI .u8 l[i].toNat 15)] → renL true (rhoO 1 [12]) (c.append x) = c ++ bc [92, hxU (shrI .u8 l[i].toNat 4), hxU (andI .u8 l[i].toNat 15)] := by
        intro x hx
        rw [hx, show c.append (bc [92, hxU (shrI .u8 l[i].toNat 4), hxU (andI .u8 l[i].toNat 15)]) = c ++ bc _ from rfl, renL_append, renL_flat hc, bc_ren]
      exact congrArg (fun x => [Blk.cells (bc l) 5 false, Blk.cells x 5 false]) (e _ rfl)

theorem word_stop {l : List UInt8} {c : List Value} (hc : flatL c = true) :
    roundQ P E ct1 50 26 Bword Hword [sl 1 c.length, sl 0 l.length, .int .i64 l.length, .int .i64 (l.length : Int)] [.cells (bc l) 5 false, .cells c 5 false] =
      some (.tuple ⟨exV (.exit 0) :: [sl 1 c.length, sl 0 l.length, .int .i64 l.length, .int .i64 l.length]⟩, mkSt [.cells (bc l) 5 false, .cells c 5 false]) := by
  unfold sl
  rw [dec_word]
  refine ite_f (by simp [ltI]) ?_
  refine leaf_eq ?_ ?_
  · simp [exV, unk]
  · simp only [bc_ren, renL_flat hc]

theorem word_loop (l : List UInt8) (hl : l.length < 9223372036854775807) : ∀ (k i : Nat) (c : List Value), i + k = l.length → flatL c = true → c.length + 3 * k ≤ 4194304 →
    LR P 26 0 Bword Hword [sl 1 c.length, sl 0 l.length, .int .i64 l.length, .int .i64 i] [.cells (bc l) 5 false, .cells c 5 false] .normal
      [sl 1 (c ++ bc (encL (l.drop i))).length, sl 0 l.length, .int .i64 l.length, .int .i64 l.length] [.cells (bc l) 5 false, .cells (c ++ bc (encL (l.drop i))) 5 false]
  | 0, i, c, hi, hc, hb => by
    have : i = l.length := by omega
    subst this
    have e : c ++ bc (encL (l.drop l.length)) = c := by simp [encL, bc]
    rw [e]
    exact LR.stop (engOk ct1) noNum ct1_ok Bword_occ (by kernel_rfl) (e := .exit 0) (word_stop hc) (by intro h; cases h)
  | k + 1, i, c, hi, hc, hb => by
    have hlt : i < l.length := by omega
    have hr := word_again hlt hc (by omega) hl
    have hlen := enc_length l[i]
    have ih := word_loop l hl k (i + 1) (c ++ bc (enc l[i])) (by omega) (by rw [flatL_append, hc, bc_flat]; rfl) (by rw [List.length_append, bc_length]; omega)
    have e : c ++ bc (enc l[i]) ++ bc (encL (l.drop (i + 1))) = c ++ bc (encL (l.drop i)) := by
      rw [List.drop_eq_getElem_cons hlt, encL_cons, bc_append, List.append_assoc]
    rw [e] at ih
    exact LR.again (engOk ct1) noNum ct1_ok Bword_occ (by kernel_rfl) hr ih
end Go.VS.Try
