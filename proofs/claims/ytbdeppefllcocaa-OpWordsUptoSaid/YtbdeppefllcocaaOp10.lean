/- The law of words: its call. No conditions. -/
import Derived.Test.YtbdeppefllcocaaOp9
namespace Go.VS.Try
set_option linter.unusedSimpArgs false
set_option linter.unusedVariables false
set_option maxRecDepth 1000000
open Go.VS

theorem decR_len : ∀ (k : Nat) (w : List UInt8), w.length ≤ k → (decR w).1.length ≤ w.length
  | _, [], _ => by rw [decR.eq_def]; simp
  | 0, x :: r, hk => by simp at hk
  | k + 1, x :: r, hk => by
    have hk : r.length ≤ k := by simpa using hk
    cases hp : neI x.toNat 92 with
    | true =>
      rw [decR_plain hp]
      have := decR_len k r hk
      simpa using this
    | false =>
      by_cases ho : r.length < 2
      · rw [decR_short hp ho]; simp
      · obtain ⟨a, r, rfl⟩ : ∃ a r', r = a :: r' := by cases r with
          | nil => simp at ho
          | cons a r' => exact ⟨_, _, rfl⟩
        obtain ⟨b, r, rfl⟩ : ∃ a r', r = a :: r' := by cases r with
          | nil => simp at ho
          | cons a r' => exact ⟨_, _, rfl⟩
        rw [decR_pair hp]
        cases digB a.toNat && digB b.toNat with
        | false => simp
        | true =>
          have := decR_len k r (by simp at hk; omega)
          simp; omega

def RrBytes : CallFn
  | [.string s] => some (.ite (Nat.ble (3 * s.size) 4194304) (.leaf (.tuple ⟨[.string ⟨⟨(bytesM s.data.toList).1⟩⟩, .int .i64 (bytesM s.data.toList).2]⟩, [])) .fail)
  | _ => none
theorem rBytes_ok : CallOkR P 24 RrBytes := by
  refine ok_of ct6_ok (n := 50) fun args t hR v bs hev => ?_
  unfold RrBytes at hR
  split at hR
  · rename_i s
    obtain rfl := Option.some.inj hR
    cases hc : Nat.ble (3 * s.size) 4194304 with
    | false => rw [hc] at hev; cases hev
    | true =>
      rw [hc] at hev
      simp only [DT.eval, Option.some.injEq, Prod.mk.injEq] at hev
      obtain ⟨rfl, rfl⟩ := hev
      have hsz := Nat.le_of_ble_eq_true hc
      have hlen := decR_len s.data.toList.length s.data.toList (Nat.le_refl _)
      have hs : s.data.toList.length = s.size := by simp
      rw [dec_rBytes, ← rbytesM_eq]
      refine need_eq ?_ ?_
      · have h1 : atB (.slice (some ⟨0, 0, none⟩) 0 18446744073709551616) 0 ([] : List Value).length = true := atB_sl 0 0
        have h9 : Nat.ble (([] : List Value).length + s.size) 4194304 = true := ble_ok (by simp; omega)
        unfold rbytesC
        rw [h1, h9]
        rfl
      unfold rbytesM
      cases hq : s.data.toList == [34, 34] with
      | true =>
        refine ite_f (by rw [neS_eq]; show (!(s.data.toList == [34, 34])) = false; rw [hq]; rfl) ?_
        refine ite_f ?_ rfl
        rw [neS_eq]
        have : s.data.toList = [34, 34] := by simpa using hq
        rw [this]
        rfl
      | false =>
        refine ite_t (by rw [neS_eq]; show (!(s.data.toList == [34, 34])) = true; rw [hq]; rfl) ?_
        simp only [List.nil_append, takeC_self, bc_text]
        generalize decR s.data.toList = q at hlen
        obtain ⟨out, bad, left⟩ := q
        cases bad with
        | true => exact ite_t rfl rfl
        | false =>
          refine ite_f rfl ?_
          simp only at hlen ⊢
          refine need_eq (and_ok (ble_ok (by simp)) (bc_all _)) ?_
          refine need_eq (ble_ok ?_) ?_
          · show 3 * (ByteArray.mk ⟨out⟩).size ≤ 4194304
            have : (ByteArray.mk ⟨out⟩).size = out.length := rfl
            rw [this]; omega
          cases hw : wordM out == s.data.toList with
          | false => exact ite_t (by rw [neS_eq]; show (!(wordM out == s.data.toList)) = true; rw [hw]; rfl) rfl
          | true =>
            refine ite_f (by rw [neS_eq]; show (!(wordM out == s.data.toList)) = false; rw [hw]; rfl) ?_
            exact need_eq (and_ok (ble_ok (by simp)) (bc_all _)) rfl
  · cases hR

noncomputable def ct7 : Ct := addCall P 24 RrBytes ct6
theorem ct7_ok : CtOk P ct7 := addCall_ok ct6_ok rBytes_ok

theorem dec_words (s w : ByteArray) : callQ P E ct7 200 7 [.string s, .string w] =
  (needB (Nat.ble (ByteArray.size w) 4194304)
   (needB (Nat.ble (HMul.hMul 3 (ByteArray.size w)) 4194304)
    (needB (Nat.ble (HMul.hMul 3 (ByteArray.size s)) 4194304)
     (needB (Nat.ble (HMul.hMul 3 (ByteArray.size s)) 4194304)
      (iteB (Go.VS.eqS (ByteArray.mk (Array.mk (Go.VS.Try.wordM (Array.toList (ByteArray.data s))))) (ByteArray.mk (Array.mk (Go.VS.Try.wordM (Array.toList (ByteArray.data s))))))
       (iteB (Go.VS.eqS (ByteArray.mk (Array.mk (Prod.fst (Go.VS.Try.bytesM (Array.toList (ByteArray.data w)))))) (ByteArray.mk (Array.mk (Prod.fst (Go.VS.Try.bytesM (Array.toList (ByteArray.data w)))))))
        (some ((Go.Value.bool (Go.VS.eqI (Prod.snd (Go.VS.Try.bytesM (Array.toList (ByteArray.data w)))) (Prod.snd (Go.VS.Try.bytesM (Array.toList (ByteArray.data w)))))), (Go.VS.mkSt [])))
        (some ((Go.Value.bool Bool.false), (Go.VS.mkSt []))))
       (some ((Go.Value.bool Bool.false), (Go.VS.mkSt [])))))))) := by kernel_rfl
end Go.VS.Try
