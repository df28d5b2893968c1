/- What a word of a text is: the program's function. No conditions. -/
import Derived.Test.YtbdeppefllcocaaOp2
namespace Go.VS.Try
set_option linter.unusedSimpArgs false
set_option linter.unusedVariables false
set_option maxRecDepth 1000000
open Go.VS

def atB (v : Value) (b n : Nat) : Bool := match v with
  | .slice (some a) n' c => a.block == b && a.off == 0 && a.spot.isNone && n' == n && c == unk
  | _ => false
theorem atB_eq {v : Value} {b n : Nat} (h : atB v b n = true) : v = sl b n := by
  unfold atB at h
  split at h
  · rename_i a n' c
    simp only [Bool.and_eq_true, beq_iff_eq, Option.isNone_iff_eq_none] at h
    obtain ⟨⟨⟨⟨h1, h2⟩, h3⟩, h4⟩, h5⟩ := h
    obtain ⟨bb, oo, ss⟩ := a
    simp only at h1 h2 h3
    subst h1 h2 h3 h4 h5
    rfl
  · cases h
theorem atB_sl (b n : Nat) : atB (sl b n) b n = true := by simp [atB, sl]

def wordC (v1 v2 : Value) (z i : Int) (cb : List Value) (e1 : TypeId) (c : List Value) (e2 : TypeId) : Bool :=
  atB v1 1 c.length && atB v2 0 cb.length && z == cb.length && i == 0 && bytesB cb && flatL c && e1 == 5 && e2 == 5 && Nat.ble (c.length + 3 * cb.length) 4194304
def Rword : LoopFn := fun vs bs => match vs, bs with
  | [v1, v2, .int .i64 z, .int .i64 i], [.cells cb e1 false, .cells c e2 false] => some (.ite (wordC v1 v2 z i cb e1 c e2)
      (.leaf (.normal, [sl 1 (c ++ bc (encL (cb.map byteOf))).length, sl 0 cb.length, .int .i64 cb.length, .int .i64 cb.length], [.cells cb 5 false, .cells (c ++ bc (encL (cb.map byteOf))) 5 false])) .fail)
  | _, _ => none

theorem word_loopOk : LoopOk P 26 0 Bword Hword Rword where
  occ := loopAt_occ Bword_eq
  ok := by kernel_rfl
  run := by
    intro vs bs t hR e vs' bs' hev
    unfold Rword at hR
    split at hR
    · rename_i v1 v2 z i cb e1 c e2
      obtain rfl := Option.some.inj hR
      cases hc : wordC v1 v2 z i cb e1 c e2 with
      | false => rw [hc] at hev; cases hev
      | true =>
        rw [hc] at hev
        simp only [DT.eval, Option.some.injEq, Prod.mk.injEq] at hev
        obtain ⟨rfl, rfl, rfl⟩ := hev
        simp only [wordC, Bool.and_eq_true, beq_iff_eq] at hc
        obtain ⟨⟨⟨⟨⟨⟨⟨⟨h1, h2⟩, h3⟩, h4⟩, h5⟩, h6⟩, h7⟩, h8⟩, h9⟩ := hc
        have h9 := Nat.le_of_ble_eq_true h9
        rw [atB_eq h1, atB_eq h2]
        subst h3 h4 h7 h8
        have hcb := bc_of h5
        have hlen : (cb.map byteOf).length = cb.length := by simp
        have := word_loop (cb.map byteOf) (by omega) cb.length 0 c (by omega) h6 (by omega)
        rw [← hcb, hlen, List.drop_zero] at this
        exact this
    · cases hR

noncomputable def ct2 : Ct := addLoop 26 0 Hword Rword ct1
theorem ct2_ok : CtOk P ct2 := addLoop_ok ct1_ok word_loopOk

theorem dec_Word (s : ByteArray) : callQ P E ct2 50 26 [.string s] =
  (iteB (Go.VS.eqS s (ByteArray.mk #[]))
   (some ((Go.Value.string (ByteArray.mk #[34, 34])), (Go.VS.mkSt [])))
   (needB (Nat.ble (ByteArray.size s) 4194304)
    (needB (Go.VS.Try.wordC (Go.Value.slice (Option.some (Go.Addr.mk 1 0 none)) 0 18446744073709551616) (Go.Value.slice (Option.some (Go.Addr.mk 0 0 none)) (ByteArray.size s) 18446744073709551616) (Go.VS.lenI (ByteArray.size s)) (0 : Int) (Go.VS.renL Bool.true (Go.VS.rhoO 1 [1]) (Go.byteCells s)) 5 [] 5)
     (needB (Bool.and (Nat.ble (Nat.add 0 (List.length (HAppend.hAppend [] (Go.VS.bc (Go.VS.Try.encL (List.map Go.VS.byteOf (Go.VS.renL Bool.true (Go.VS.rhoO 1 [1]) (Go.byteCells s)))))))) (List.length (HAppend.hAppend [] (Go.VS.bc (Go.VS.Try.encL (List.map Go.VS.byteOf (Go.VS.renL Bool.true (Go.VS.rhoO 1 [1]) (Go.byteCells s)))))))) (Go.VS.allBytes (Go.VS.takeC (List.length (HAppend.hAppend [] (Go.VS.bc (Go.VS.Try.encL (List.map Go.VS.byteOf (Go.VS.renL Bool.true (Go.VS.rhoO 1 [1]) (Go.byteCells s))))))) (Go.VS.dropC 0 (HAppend.hAppend [] (Go.VS.bc (Go.VS.Try.encL (List.map Go.VS.byteOf (Go.VS.renL Bool.true (Go.VS.rhoO 1 [1]) (Go.byteCells s))))))))))
      (some ((Go.Value.string (Go.VS.bytesT (Go.VS.takeC (List.length (HAppend.hAppend [] (Go.VS.bc (Go.VS.Try.encL (List.map Go.VS.byteOf (Go.VS.renL Bool.true (Go.VS.rhoO 1 [1]) (Go.byteCells s))))))) (Go.VS.dropC 0 (HAppend.hAppend [] (Go.VS.bc (Go.VS.Try.encL (List.map Go.VS.byteOf (Go.VS.renL Bool.true (Go.VS.rhoO 1 [1]) (Go.byteCells s)))))))))), (Go.VS.mkSt []))))))) := by kernel_rfl

/-- The word of bytes. -/
def wordM (l : List UInt8) : List UInt8 := match l with
  | [] => [34, 34]
  | l => encL l
def RWord : CallFn
  | [.string s] => some (.ite (Nat.ble (3 * s.size) 4194304) (.leaf (.string ⟨⟨wordM s.data.toList⟩⟩, [])) .fail)
  | _ => none
theorem takeC_self (c : List Value) : takeC c.length (dropC 0 c) = c := take_all' c rfl
theorem word_ok : CallOkR P 26 RWord := by
  refine ok_of ct2_ok (n := 50) fun args t hR v bs hev => ?_
  unfold RWord at hR
  split at hR
  · rename_i s
    obtain rfl := Option.some.inj hR
    cases hc : Nat.ble (3 * s.size) 4194304 with
    | false => rw [hc] at hev; cases hev
    | true =>
      rw [hc] at hev
      simp only [DT.eval, Option.some.injEq, Prod.mk.injEq] at hev
      obtain ⟨rfl, rfl⟩ := hev
      have hsz := Nat.le_of_ble_eq_true hc
      have hlen : s.data.toList.length = s.size := by simp
      rw [dec_Word]
      cases hs : s.data.toList with
      | nil =>
        refine ite_t (by rw [eqS_eq, hs]; rfl) ?_
        rfl
      | cons b l =>
        refine ite_f (by rw [eqS_eq, hs]; rfl) ?_
        refine need_eq (ble_ok (by omega)) ?_
        simp only [byteCells_bc, bc_ren, bc_back, List.nil_append, takeC_self, bc_text]
        refine need_eq ?_ ?_
        · have h1 : atB (.slice (some ⟨1, 0, none⟩) 0 18446744073709551616) 1 ([] : List Value).length = true := atB_sl 1 0
          have h2 : atB (.slice (some ⟨0, 0, none⟩) s.size 18446744073709551616) 0 (bc s.data.toList).length = true := by rw [bc_length, hlen]; exact atB_sl 0 s.size
          have h3 : (lenI s.size == ((bc s.data.toList).length : Int)) = true := by rw [bc_length, hlen]; simp [lenI]
          have h9 : Nat.ble (([] : List Value).length + 3 * (bc s.data.toList).length) 4194304 = true := ble_ok (by rw [bc_length, hlen]; simpa using hsz)
          unfold wordC
          rw [h1, h2, h3, bytesB_bc, h9]
          rfl
        refine need_eq (and_ok (ble_ok (by simp)) (bc_all _)) ?_
        rw [hs]
        rfl
  · cases hR
end Go.VS.Try
