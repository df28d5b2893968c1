/- What a word of a text is: the answer's function. No conditions. -/
import Derived.Test.YtbdeppefllcocaaOp3
namespace Go.VS.Try
set_option linter.unusedSimpArgs false
set_option linter.unusedVariables false
set_option maxRecDepth 1000000
open Go.VS

noncomputable def Hrword : Head := ⟨0, 40, [0, 3, 4], [(3, 5)]⟩
noncomputable def Brword : Code := (loopAt P 27 0).getD .skip
theorem Brword_eq : loopAt P 27 0 = some Brword := by kernel_rfl
theorem Brword_occ : Occ P 27 (.block 0 (.loop Brword)) := loopAt_has Brword_eq

theorem dec_rword (s : ByteArray) (c : List Value) (i : Int) : roundQ P E ct1 50 27 Brword Hrword [.string s, .slice (some ⟨0, 0, none⟩) c.length unk, .int .i64 i] [.cells c 5 false] =
  (iteB (Go.VS.ltI i (Go.VS.lenI (ByteArray.size s)))
   (needB (Go.VS.inI i (ByteArray.size s))
    (iteB (Go.VS.Try.rplainM (Go.VS.bAt s i))
     (needB (Go.VS.inI i (ByteArray.size s))
      (needB (Bool.and (Bool.not Bool.false) (Bool.and (Nat.beq 5 5) (Bool.and (Nat.ble 0 (List.length c)) (Nat.ble (Nat.add (List.length c) 1) 4194304))))
       (needB (Nat.beq (Nat.add 0 (Nat.mul (List.length c) 1)) (List.length c))
        (some ((Go.Value.tuple (Array.mk [(Go.Value.int Go.IntKind.i64 (0 : Int)), (Go.Value.string s), (Go.Value.slice (Option.some (Go.Addr.mk 0 0 none)) (Nat.add (List.length c) 1) 18446744073709551616), (Go.Value.int Go.IntKind.i64 (Go.VS.addI Go.IntKind.i64 i (1 : Int)))])), (Go.VS.mkSt [(Go.VS.Blk.cells (Go.VS.renL Bool.true (Go.VS.rhoO 0 [2]) (List.append (Go.VS.takeC (Nat.mul (List.length c) 1) (Go.VS.dropC 0 c)) [(Go.Value.int Go.IntKind.u8 (Go.VS.bAt s i))])) 5 Bool.false)]))))))
     (needB (Go.VS.inI i (ByteArray.size s))
      (needB (Go.VS.inI (Go.VS.quoI Go.IntKind.u8 (Go.VS.bAt s i) (16 : Int)) 16)
       (needB (Go.VS.inI i (ByteArray.size s))
        (needB (Go.VS.inI (Go.VS.remI (Go.VS.bAt s i) (16 : Int)) 16)
         (needB (Bool.and (Bool.not Bool.false) (Bool.and (Nat.beq 5 5) (Bool.and (Nat.ble 0 (List.length c)) (Nat.ble (Nat.add (List.length c) 3) 4194304))))
          (needB (Nat.beq (Nat.add 0 (Nat.mul (List.length c) 1)) (List.length c))
           (some ((Go.Value.tuple (Array.mk [(Go.Value.int Go.IntKind.i64 (0 : Int)), (Go.Value.string s), (Go.Value.slice (Option.some (Go.Addr.mk 0 0 none)) (Nat.add (List.length c) 3) 18446744073709551616), (Go.Value.int Go.IntKind.i64 (Go.VS.addI Go.IntKind.i64 i (1 : Int)))])), (Go.VS.mkSt [(Go.VS.Blk.cells (Go.VS.renL Bool.true (Go.VS.rhoO 0 [15]) (List.append (Go.VS.takeC (Nat.mul (List.length c) 1) (Go.VS.dropC 0 c)) [(Go.Value.int Go.IntKind.u8 (92 : Int)), (Go.Value.int Go.IntKind.u8 (Go.VS.bAt (ByteArray.mk #[48, 49, 50, 51, 52, 53, 54, 55, 56, 57, 97, 98, 99, 100, 101, 102]) (Go.VS.quoI Go.IntKind.u8 (Go.VS.bAt s i) (16 : Int)))), (Go.Value.int Go.IntKind.u8 (Go.VS.bAt (ByteArray.mk #[48, 49, 50, 51, 52, 53, 54, 55, 56, 57, 97, 98, 99, 100, 101, 102]) (Go.VS.remI (Go.VS.bAt s i) (16 : Int))))])) 5 Bool.false)])))))))))))
   (some ((Go.Value.tuple (Array.mk [(Go.Value.int Go.IntKind.i64 (1 : Int)), (Go.Value.string s), (Go.Value.slice (Option.some (Go.Addr.mk 0 0 none)) (List.length c) 18446744073709551616), (Go.Value.int Go.IntKind.i64 i)])), (Go.VS.mkSt [(Go.VS.Blk.cells (Go.VS.renL Bool.true (Go.VS.rhoO 0 [0]) c) 5 Bool.false)])))) := by kernel_rfl

theorem rplain_eq (x : Int) : rplainM x = plainM x := by
  unfold rplainM plainM geI leI gtI ltI
  have h1 : decide (x ≥ 33) = decide (x > 32) := by simp only [ge_iff_le, gt_iff_lt, decide_eq_decide]; omega
  have h2 : decide (x ≤ 126) = decide (x < 127) := by simp only [decide_eq_decide]; omega
  rw [h1, h2]
theorem quo_eq : ∀ n : Fin 256, quoI .u8 (n.val : Int) 16 = shrI .u8 (n.val : Int) 4 := by decide +kernel
theorem rem_eq : ∀ n : Fin 256, remI (n.val : Int) 16 = andI .u8 (n.val : Int) 15 := by decide +kernel
theorem quo_ok (b : UInt8) : quoI .u8 (b.toNat : Int) 16 = shrI .u8 (b.toNat : Int) 4 := quo_eq ⟨b.toNat, b.toNat_lt⟩
theorem rem_ok (b : UInt8) : remI (b.toNat : Int) 16 = andI .u8 (b.toNat : Int) 15 := rem_eq ⟨b.toNat, b.toNat_lt⟩
theorem bAt_nth {s : ByteArray} {i : Nat} (h : i < s.data.toList.length) : bAt s (i : Int) = ((s.data.toList[i]).toNat : Int) := by
  unfold bAt
  rw [Int.toNat_natCast, List.getD_eq_getElem?_getD, List.getElem?_eq_getElem h]
  rfl

theorem rword_again {s : ByteArray} {i : Nat} {c : List Value} (h : i < s.data.toList.length) (hc : flatL c = true) (hb : c.length + 3 ≤ 4194304) (hl : s.size < 9223372036854775807) :
    roundQ P E ct1 50 27 Brword Hrword [.string s, sl 0 c.length, .int .i64 i] [.cells c 5 false] =
      some (.tuple ⟨exV .normal :: [.string s, sl 0 (c ++ bc (enc s.data.toList[i])).length, .int .i64 ((i + 1 : Nat) : Int)]⟩, mkSt [.cells (c ++ bc (enc s.data.toList[i])) 5 false]) := by
  unfold sl
  have hsz : s.data.toList.length = s.size := by simp
  rw [dec_rword]
  have hw : addI .i64 (i : Int) 1 = ((i + 1 : Nat) : Int) := by
    unfold addI
    rw [wrap64 (by omega) (by omega)]; omega
  have hin : inI (i : Int) s.size = true := by
    clear hw
    exact inI_ok (by omega) (by omega)
  have hlt : ltI (i : Int) (lenI s.size) = true := by
    clear hw hin
    have hx : (i : Int) < (s.size : Int) := by omega
    exact decide_eq_true hx
  refine ite_t hlt ?_
  refine need_eq hin ?_
  simp only [bAt_nth h, rplain_eq]
  cases hp : plainM (s.data.toList[i].toNat : Int) with
  | true =>
    have he : enc s.data.toList[i] = [s.data.toList[i]] := by unfold enc; rw [hp]
    refine ite_t rfl ?_
    refine need_eq hin ?_
    refine need_eq (and_ok rfl (and_ok rfl (and_ok (ble_ok (Nat.zero_le _)) (ble_ok (by simp; omega))))) ?_
    refine need_eq (beq_ok (by simp)) ?_
    refine leaf_eq ?_ ?_
    · rw [he, hw]; simp [exV, bc, unk]
    · simp only [take_all, he]
      have e : ∀ x : List Value, x = bc [s.data.toList[i]] → renL true (rhoO 0 [2]) (c.append x) = c ++ bc [s.data.toList[i]] := by
        intro x hx
        rw [hx, show c.append (bc [s.data.toList[i]]) = c ++ bc _ from rfl, renL_append, renL_flat hc, bc_ren]
      exact congrArg (fun x => [Blk.cells x 5 false]) (e _ rfl)
  | false =>
    have he : enc s.data.toList[i] = [92, hxU (shrI .u8 s.data.toList[i].toNat 4), hxU (andI .u8 s.data.toList[i].toNat 15)] := by unfold enc; rw [hp]
    simp only [quo_ok, rem_ok]
    refine ite_f rfl ?_
    refine need_eq hin ?_
    refine need_eq (shr_ok _) ?_
    refine need_eq hin ?_
    refine need_eq (and_ok' _) ?_
    refine need_eq (and_ok rfl (and_ok rfl (and_ok (ble_ok (Nat.zero_le _)) (ble_ok (by simp; omega))))) ?_
    refine need_eq (beq_ok (by simp)) ?_
    refine leaf_eq ?_ ?_
    · rw [he, hw]; simp [exV, bc, unk]
    · simp only [take_all, he]
      have e : ∀ x : List Value, x = bc [92, hxU (shrI .u8 s.data.toList[i].toNat 4), hxU (andI .u8 s.data.toList[i].toNat 15)] → renL true (rhoO 0 [15]) (c.append x) = c ++ bc [92, hxU (shrI .u8 s.data.toList[i].toNat 4), hxU (andI .u8 s.data.toList[i].toNat 15)] := by
        intro x hx
        rw [hx, show c.append (bc [92, hxU (shrI .u8 s.data.toList[i].toNat 4), hxU (andI .u8 s.data.toList[i].toNat 15)]) = c ++ bc _ from rfl, renL_append, renL_flat hc, bc_ren]
      exact congrArg (fun x => [Blk.cells x 5 false]) (e _ rfl)

theorem rword_stop {s : ByteArray} {c : List Value} (hc : flatL c = true) :
    roundQ P E ct1 50 27 Brword Hrword [.string s, sl 0 c.length, .int .i64 (s.size : Int)] [.cells c 5 false] =
      some (.tuple ⟨exV (.exit 0) :: [.string s, sl 0 c.length, .int .i64 s.size]⟩, mkSt [.cells c 5 false]) := by
  unfold sl
  rw [dec_rword]
  refine ite_f (by simp [ltI, lenI]) ?_
  refine leaf_eq ?_ ?_
  · simp [exV, unk]
  · simp only [renL_flat hc]

theorem rword_loop (s : ByteArray) (hl : s.size < 9223372036854775807) : ∀ (k i : Nat) (c : List Value), i + k = s.size → flatL c = true → c.length + 3 * k ≤ 4194304 →
    LR P 27 0 Brword Hrword [.string s, sl 0 c.length, .int .i64 i] [.cells c 5 false] .normal
      [.string s, sl 0 (c ++ bc (encL (s.data.toList.drop i))).length, .int .i64 s.size] [.cells (c ++ bc (encL (s.data.toList.drop i))) 5 false]
  | 0, i, c, hi, hc, hb => by
    have hsz : s.data.toList.length = s.size := by simp
    have : i = s.size := by omega
    subst this
    have e : c ++ bc (encL (s.data.toList.drop s.size)) = c := by rw [List.drop_of_length_le (by omega)]; simp [encL, bc]
    rw [e]
    exact LR.stop (engOk ct1) noNum ct1_ok Brword_occ (by kernel_rfl) (e := .exit 0) (rword_stop hc) (by intro h; cases h)
  | k + 1, i, c, hi, hc, hb => by
    have hsz : s.data.toList.length = s.size := by simp
    have hlt : i < s.data.toList.length := by omega
    have hr := rword_again hlt hc (by omega) hl
    have hlen := enc_length s.data.toList[i]
    have ih := rword_loop s hl k (i + 1) (c ++ bc (enc s.data.toList[i])) (by omega) (by rw [flatL_append, hc, bc_flat]; rfl) (by rw [List.length_append, bc_length]; omega)
    have e : c ++ bc (enc s.data.toList[i]) ++ bc (encL (s.data.toList.drop (i + 1))) = c ++ bc (encL (s.data.toList.drop i)) := by
      rw [List.drop_eq_getElem_cons hlt, encL_cons, bc_append, List.append_assoc]
    rw [e] at ih
    exact LR.again (engOk ct1) noNum ct1_ok Brword_occ (by kernel_rfl) hr ih

def rwordC (s : ByteArray) (v1 : Value) (i : Int) (c : List Value) (e1 : TypeId) : Bool :=
  atB v1 0 c.length && i == 0 && flatL c && e1 == 5 && Nat.ble (c.length + 3 * s.size) 4194304
def Rrword : LoopFn := fun vs bs => match vs, bs with
  | [.string s, v1, .int .i64 i], [.cells c e1 false] => some (.ite (rwordC s v1 i c e1)
      (.leaf (.normal, [.string s, sl 0 (c ++ bc (encL s.data.toList)).length, .int .i64 s.size], [.cells (c ++ bc (encL s.data.toList)) 5 false])) .fail)
  | _, _ => none

theorem rword_loopOk : LoopOk P 27 0 Brword Hrword Rrword where
  occ := loopAt_occ Brword_eq
  ok := by kernel_rfl
  run := by
    intro vs bs t hR e vs' bs' hev
    unfold Rrword at hR
    split at hR
    · rename_i s v1 i c e1
      obtain rfl := Option.some.inj hR
      cases hc : rwordC s v1 i c e1 with
      | false => rw [hc] at hev; cases hev
      | true =>
        rw [hc] at hev
        simp only [DT.eval, Option.some.injEq, Prod.mk.injEq] at hev
        obtain ⟨rfl, rfl, rfl⟩ := hev
        simp only [rwordC, Bool.and_eq_true, beq_iff_eq] at hc
        obtain ⟨⟨⟨⟨h1, h2⟩, h3⟩, h4⟩, h5⟩ := hc
        have h5 := Nat.le_of_ble_eq_true h5
        rw [atB_eq h1]
        subst h2 h4
        have := rword_loop s (by omega) s.size 0 c (by omega) h3 (by omega)
        rw [List.drop_zero] at this
        exact this
    · cases hR

noncomputable def ct3 : Ct := addLoop 27 0 Hrword Rrword (addCall P 26 RWord ct2)
theorem ct3_ok : CtOk P ct3 := addLoop_ok (addCall_ok ct2_ok word_ok) rword_loopOk

theorem dec_rWord (s : ByteArray) : callQ P E ct3 50 27 [.string s] =
  (iteB (Go.VS.eqS s (ByteArray.mk #[]))
   (some ((Go.Value.string (ByteArray.mk #[34, 34])), (Go.VS.mkSt [])))
   (needB (Go.VS.Try.rwordC s (Go.Value.slice (Option.some (Go.Addr.mk 0 0 none)) 0 18446744073709551616) (0 : Int) [] 5)
    (needB (Bool.and (Nat.ble (Nat.add 0 (List.length (HAppend.hAppend [] (Go.VS.bc (Go.VS.Try.encL (Array.toList (ByteArray.data s))))))) (List.length (HAppend.hAppend [] (Go.VS.bc (Go.VS.Try.encL (Array.toList (ByteArray.data s))))))) (Go.VS.allBytes (Go.VS.takeC (List.length (HAppend.hAppend [] (Go.VS.bc (Go.VS.Try.encL (Array.toList (ByteArray.data s)))))) (Go.VS.dropC 0 (HAppend.hAppend [] (Go.VS.bc (Go.VS.Try.encL (Array.toList (ByteArray.data s)))))))))
     (some ((Go.Value.string (Go.VS.bytesT (Go.VS.takeC (List.length (HAppend.hAppend [] (Go.VS.bc (Go.VS.Try.encL (Array.toList (ByteArray.data s)))))) (Go.VS.dropC 0 (HAppend.hAppend [] (Go.VS.bc (Go.VS.Try.encL (Array.toList (ByteArray.data s))))))))), (Go.VS.mkSt [])))))) := by kernel_rfl

theorem rWord_ok : CallOkR P 27 RWord := by
  refine ok_of ct3_ok (n := 50) fun args t hR v bs hev => ?_
  unfold RWord at hR
  split at hR
  · rename_i s
    obtain rfl := Option.some.inj hR
    cases hc : Nat.ble (3 * s.size) 4194304 with
    | false => rw [hc] at hev; cases hev
    | true =>
      rw [hc] at hev
      simp only [DT.eval, Option.some.injEq, Prod.mk.injEq] at hev
      obtain ⟨rfl, rfl⟩ := hev
      have hsz := Nat.le_of_ble_eq_true hc
      rw [dec_rWord]
      cases hs : s.data.toList with
      | nil =>
        refine ite_t (by rw [eqS_eq, hs]; rfl) ?_
        rfl
      | cons b l =>
        refine ite_f (by rw [eqS_eq, hs]; rfl) ?_
        simp only [List.nil_append, takeC_self, bc_text]
        refine need_eq ?_ ?_
        · have h1 : atB (.slice (some ⟨0, 0, none⟩) 0 18446744073709551616) 0 ([] : List Value).length = true := atB_sl 0 0
          have h9 : Nat.ble (([] : List Value).length + 3 * s.size) 4194304 = true := ble_ok (by simpa using hsz)
          unfold rwordC
          rw [h1, h9]
          rfl
        refine need_eq (and_ok (ble_ok (by simp)) (bc_all _)) ?_
        first
          | rfl
          | (rw [hs]; rfl)
  · cases hR
end Go.VS.Try
