/- What a word's bytes are: the program's function, to its end. No conditions. -/
import Derived.Test.YtbdeppefllcocaaOp5
namespace Go.VS.Try
set_option linter.unusedSimpArgs false
set_option linter.unusedVariables false
set_option maxRecDepth 1000000
open Go.VS

theorem decL_plain {x : UInt8} {r : List UInt8} (h : plainM x.toNat = true) : decL (x :: r) = (x :: (decL r).1, (decL r).2) := by
  rw [decL.eq_def]; simp only [h]
theorem decL_pair {x h l : UInt8} {r : List UInt8} (hp : plainM x.toNat = false) (he : eqI x.toNat 92 = true) : decL (x :: h :: l :: r) = match goodH h l with
    | true => (byteH h l :: (decL r).1, (decL r).2)
    | false => ([], true, r.length + 3) := by
  rw [decL.eq_def]; simp only [hp, he]; cases goodH h l <;> rfl
theorem decL_other {x : UInt8} {r : List UInt8} (hp : plainM x.toNat = false) (ho : eqI x.toNat 92 = false ∨ r.length < 2) : decL (x :: r) = ([], true, r.length + 1) := by
  rw [decL.eq_def]
  simp only [hp]
  cases he : eqI x.toNat 92 with
  | false => cases r with
    | nil => rfl
    | cons a r => cases r <;> rfl
  | true =>
    have : r.length < 2 := ho.resolve_left (by rw [he]; decide)
    cases r with
    | nil => rfl
    | cons a r => cases r with
      | nil => rfl
      | cons b r => simp at this; omega

theorem bytes_loop (s : ByteArray) (hl : s.size < 9223372036854775800) : ∀ (k i : Nat) (c : List Value), i + k = s.size → flatL c = true → c.length + k ≤ 4194304 →
    LR P 23 0 Bbytes Hbytes [.string s, sl 0 c.length, .bool false, .int .i64 i] [.cells c 5 false] .normal
      [.string s, sl 0 (c ++ bc (decL (s.data.toList.drop i)).1).length, .bool (decL (s.data.toList.drop i)).2.1, .int .i64 ((s.size - (decL (s.data.toList.drop i)).2.2 : Nat) : Int)] [.cells (c ++ bc (decL (s.data.toList.drop i)).1) 5 false] := by
  intro k
  induction k using Nat.strongRecOn with
  | _ k ih =>
    intro i c hi hc hb
    have hsz : s.data.toList.length = s.size := by simp
    have stop : ∀ {vs1 : List Value} {bs1 : List Blk}, roundQ P E ct1 50 23 Bbytes Hbytes [.string s, sl 0 c.length, .bool false, .int .i64 i] [.cells c 5 false] = some (.tuple ⟨exV (.exit 0) :: vs1⟩, mkSt bs1) →
        LR P 23 0 Bbytes Hbytes [.string s, sl 0 c.length, .bool false, .int .i64 i] [.cells c 5 false] .normal vs1 bs1 :=
      fun h => LR.stop (engOk ct1) noNum ct1_ok Bbytes_occ (by kernel_rfl) (e := .exit 0) h (by intro h; cases h)
    by_cases hk : k = 0
    · subst hk
      have e : s.data.toList.drop i = [] := List.drop_of_length_le (by omega)
      rw [e]
      have := stop (bytes_end hc (by omega))
      simpa [decL, bc, hi] using (by simpa using (show i = s.size by omega) ▸ this)
    · have hlt : i < s.data.toList.length := by omega
      rw [List.drop_eq_getElem_cons hlt]
      cases hp : plainM (s.data.toList[i].toNat : Int) with
      | true =>
        have := ih (k - 1) (by omega) (i + 1) (c ++ bc [s.data.toList[i]]) (by omega) (by rw [flatL_append, hc, bc_flat]; rfl) (by rw [List.length_append, bc_length]; simp; omega)
        rw [decL_plain hp]
        have e : ∀ q, c ++ bc [s.data.toList[i]] ++ bc q = c ++ bc (s.data.toList[i] :: q) := by
          intro q; rw [List.append_assoc, ← bc_append]; rfl
        rw [e] at this
        exact LR.again (engOk ct1) noNum ct1_ok Bbytes_occ (by kernel_rfl) (bytes_plain hlt hc (by omega) hl hp) this
      | false =>
        have hrest : (s.data.toList.drop (i + 1)).length = k - 1 := by rw [List.length_drop]; omega
        by_cases ho : eqI (s.data.toList[i].toNat : Int) 92 = false ∨ s.data.toList.length ≤ i + 2
        · have := stop (bytes_other hlt hc hp ho hl)
          rw [decL_other hp (ho.imp id fun h => by rw [hrest]; omega)]
          have e : s.size - ((s.data.toList.drop (i + 1)).length + 1) = i := by rw [hrest]; omega
          simp only [e]
          have e2 : c ++ bc [] = c := by simp [bc]
          rw [e2]
          exact this
        · have he : eqI (s.data.toList[i].toNat : Int) 92 = true := by
            cases h : eqI (s.data.toList[i].toNat : Int) 92 with
            | true => rfl
            | false => exact absurd (Or.inl h) ho
          have h2 : i + 2 < s.data.toList.length := by
            have : ¬ s.data.toList.length ≤ i + 2 := fun h => ho (Or.inr h)
            omega
          have hr := bytes_pair h2 hc (by omega) hp he hl
          rw [List.drop_eq_getElem_cons (show i + 1 < s.data.toList.length by omega), List.drop_eq_getElem_cons h2, decL_pair hp he]
          have hrest3 : (s.data.toList.drop (i + 3)).length = k - 3 := by rw [List.length_drop]; omega
          cases hg : goodH s.data.toList[i + 1] s.data.toList[i + 2] with
          | true =>
            rw [hg] at hr
            have := ih (k - 3) (by omega) (i + 3) (c ++ bc [byteH s.data.toList[i + 1] s.data.toList[i + 2]]) (by omega) (by rw [flatL_append, hc, bc_flat]; rfl) (by rw [List.length_append, bc_length]; simp; omega)
            have e : ∀ q, c ++ bc [byteH s.data.toList[i + 1] s.data.toList[i + 2]] ++ bc q = c ++ bc (byteH s.data.toList[i + 1] s.data.toList[i + 2] :: q) := by
              intro q; rw [List.append_assoc, ← bc_append]; rfl
            rw [e] at this
            exact LR.again (engOk ct1) noNum ct1_ok Bbytes_occ (by kernel_rfl) hr this
          | false =>
            rw [hg] at hr
            have := stop hr
            have e : s.size - ((s.data.toList.drop (i + 3)).length + 3) = i := by rw [hrest3]; omega
            simp only [e]
            have e2 : c ++ bc [] = c := by simp [bc]
            rw [e2]
            exact this

def bytesC (s : ByteArray) (v1 : Value) (bad : Bool) (i : Int) (c : List Value) (e1 : TypeId) : Bool :=
  atB v1 0 c.length && !bad && i == 0 && flatL c && e1 == 5 && Nat.ble (c.length + s.size) 4194304
def RbytesL : LoopFn := fun vs bs => match vs, bs with
  | [.string s, v1, .bool bad, .int .i64 i], [.cells c e1 false] => some (.ite (bytesC s v1 bad i c e1)
      (.leaf (.normal, [.string s, sl 0 (c ++ bc (decL s.data.toList).1).length, .bool (decL s.data.toList).2.1, .int .i64 ((s.size - (decL s.data.toList).2.2 : Nat) : Int)], [.cells (c ++ bc (decL s.data.toList).1) 5 false])) .fail)
  | _, _ => none

theorem bytes_loopOk : LoopOk P 23 0 Bbytes Hbytes RbytesL where
  occ := loopAt_occ Bbytes_eq
  ok := by kernel_rfl
  run := by
    intro vs bs t hR e vs' bs' hev
    unfold RbytesL at hR
    split at hR
    · rename_i s v1 bad i c e1
      obtain rfl := Option.some.inj hR
      cases hc : bytesC s v1 bad i c e1 with
      | false => rw [hc] at hev; cases hev
      | true =>
        rw [hc] at hev
        simp only [DT.eval, Option.some.injEq, Prod.mk.injEq] at hev
        obtain ⟨rfl, rfl, rfl⟩ := hev
        simp only [bytesC, Bool.and_eq_true, beq_iff_eq, Bool.not_eq_true'] at hc
        obtain ⟨⟨⟨⟨⟨h1, h2⟩, h3⟩, h4⟩, h5⟩, h6⟩ := hc
        have h6 := Nat.le_of_ble_eq_true h6
        rw [atB_eq h1]
        subst h2 h3 h5
        have := bytes_loop s (by omega) s.size 0 c (by omega) h4 (by omega)
        rw [List.drop_zero] at this
        exact this
    · cases hR

noncomputable def ct4 : Ct := addLoop 23 0 Hbytes RbytesL (addCall P 27 RWord ct3)
theorem ct4_ok : CtOk P ct4 := addLoop_ok (addCall_ok ct3_ok rWord_ok) bytes_loopOk

theorem dec_Bytes (s : ByteArray) : callQ P E ct4 50 23 [.string s] =
  (iteB (Go.VS.eqS s (ByteArray.mk #[34, 34]))
   (some ((Go.Value.tuple (Array.mk [(Go.Value.string (ByteArray.mk #[])), (Go.Value.int Go.IntKind.i64 (0 : Int))])), (Go.VS.mkSt [])))
   (needB (Go.VS.Try.bytesC s (Go.Value.slice (Option.some (Go.Addr.mk 0 0 none)) 0 18446744073709551616) Bool.false (0 : Int) [] 5)
    (iteB (Prod.fst (Prod.snd (Go.VS.Try.decL (Array.toList (ByteArray.data s)))))
     (some ((Go.Value.tuple (Array.mk [(Go.Value.string (ByteArray.mk #[])), (Go.Value.int Go.IntKind.i64 (5 : Int))])), (Go.VS.mkSt [])))
     (iteB (Go.VS.eqI (Go.VS.lenI (List.length (HAppend.hAppend [] (Go.VS.bc (Prod.fst (Go.VS.Try.decL (Array.toList (ByteArray.data s)))))))) (0 : Int))
      (some ((Go.Value.tuple (Array.mk [(Go.Value.string (ByteArray.mk #[])), (Go.Value.int Go.IntKind.i64 (5 : Int))])), (Go.VS.mkSt [])))
      (needB (Bool.and (Nat.ble (Nat.add 0 (List.length (HAppend.hAppend [] (Go.VS.bc (Prod.fst (Go.VS.Try.decL (Array.toList (ByteArray.data s)))))))) (List.length (HAppend.hAppend [] (Go.VS.bc (Prod.fst (Go.VS.Try.decL (Array.toList (ByteArray.data s)))))))) (Go.VS.allBytes (Go.VS.takeC (List.length (HAppend.hAppend [] (Go.VS.bc (Prod.fst (Go.VS.Try.decL (Array.toList (ByteArray.data s))))))) (Go.VS.dropC 0 (HAppend.hAppend [] (Go.VS.bc (Prod.fst (Go.VS.Try.decL (Array.toList (ByteArray.data s))))))))))
       (some ((Go.Value.tuple (Array.mk [(Go.Value.string (Go.VS.bytesT (Go.VS.takeC (List.length (HAppend.hAppend [] (Go.VS.bc (Prod.fst (Go.VS.Try.decL (Array.toList (ByteArray.data s))))))) (Go.VS.dropC 0 (HAppend.hAppend [] (Go.VS.bc (Prod.fst (Go.VS.Try.decL (Array.toList (ByteArray.data s)))))))))), (Go.Value.int Go.IntKind.i64 (0 : Int))])), (Go.VS.mkSt [])))))))) := by kernel_rfl

/-- The bytes of a word, and the error. -/
def bytesM (w : List UInt8) : List UInt8 × Int := match w == [34, 34] with
  | true => ([], 0)
  | false => match (decL w).2.1, (decL w).1 with
    | true, _ => ([], 5)
    | false, [] => ([], 5)
    | false, l => (l, 0)
def RBytes : CallFn
  | [.string s] => some (.ite (Nat.ble s.size 4194304) (.leaf (.tuple ⟨[.string ⟨⟨(bytesM s.data.toList).1⟩⟩, .int .i64 (bytesM s.data.toList).2]⟩, [])) .fail)
  | _ => none
theorem Bytes_ok : CallOkR P 23 RBytes := by
  refine ok_of ct4_ok (n := 50) fun args t hR v bs hev => ?_
  unfold RBytes at hR
  split at hR
  · rename_i s
    obtain rfl := Option.some.inj hR
    cases hc : Nat.ble s.size 4194304 with
    | false => rw [hc] at hev; cases hev
    | true =>
      rw [hc] at hev
      simp only [DT.eval, Option.some.injEq, Prod.mk.injEq] at hev
      obtain ⟨rfl, rfl⟩ := hev
      have hsz := Nat.le_of_ble_eq_true hc
      rw [dec_Bytes]
      unfold bytesM
      cases hq : s.data.toList == [34, 34] with
      | true => exact ite_t (by rw [eqS_eq]; exact hq) rfl
      | false =>
        refine ite_f (by rw [eqS_eq]; exact hq) ?_
        refine need_eq ?_ ?_
        · have h1 : atB (.slice (some ⟨0, 0, none⟩) 0 18446744073709551616) 0 ([] : List Value).length = true := atB_sl 0 0
          have h9 : Nat.ble (([] : List Value).length + s.size) 4194304 = true := ble_ok (by simpa using hsz)
          unfold bytesC
          rw [h1, h9]
          rfl
        simp only [List.nil_append, takeC_self, bc_text]
        generalize decL s.data.toList = q
        obtain ⟨out, bad, left⟩ := q
        cases bad with
        | true => exact ite_t rfl rfl
        | false =>
          refine ite_f rfl ?_
          cases out with
          | nil => exact ite_t rfl rfl
          | cons b l =>
            refine ite_f ?_ ?_
            · rw [bc_length]
              show ((((b :: l).length : Nat) : Int) == 0) = false
              simp only [List.length_cons, beq_eq_false_iff_ne, ne_eq]
              omega
            refine need_eq (and_ok (ble_ok (by simp)) (bc_all _)) rfl
  · cases hR
end Go.VS.Try
