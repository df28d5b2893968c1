/- What a word's bytes are: the answer's function, to its end. No conditions. -/
import Derived.Test.YtbdeppefllcocaaOp7
namespace Go.VS.Try
set_option linter.unusedSimpArgs false
set_option linter.unusedVariables false
set_option maxRecDepth 1000000
open Go.VS

/-- How the loop ends: at a fault the call itself ends. -/
def exR (bad : Bool) : Ex := match bad with
  | true => .ret
  | false => .normal
def erR (bad : Bool) : Int := match bad with
  | true => 5
  | false => 0
theorem rbytes_loop (s : ByteArray) (hl : s.size < 9223372036854775800) (hq : neS s ⟨#[34, 34]⟩ = true) : ∀ (k i : Nat) (c : List Value), i + k = s.size → flatL c = true → c.length + k ≤ 4194304 →
    LR P 24 0 Brbytes Hrbytes (rb s 0 c.length i) [.cells c 5 false] (exR (decR (s.data.toList.drop i)).2.1)
      (rb s (erR (decR (s.data.toList.drop i)).2.1) (c ++ bc (decR (s.data.toList.drop i)).1).length ((s.size - (decR (s.data.toList.drop i)).2.2 : Nat) : Int)) [.cells (c ++ bc (decR (s.data.toList.drop i)).1) 5 false] := by
  intro k
  induction k using Nat.strongRecOn with
  | _ k ih =>
    intro i c hi hc hb
    have hsz : s.data.toList.length = s.size := by simp
    have stop : ∀ {e : Ex} {vs1 : List Value} {bs1 : List Blk}, e ≠ .normal → roundQ P E ct5 50 24 Brbytes Hrbytes (rb s 0 c.length i) [.cells c 5 false] = some (.tuple ⟨exV e :: vs1⟩, mkSt bs1) →
        LR P 24 0 Brbytes Hrbytes (rb s 0 c.length i) [.cells c 5 false] (exitE 0 e) vs1 bs1 :=
      fun he h => LR.stop (engOk ct5) noNum ct5_ok Brbytes_occ (by kernel_rfl) h he
    have e2 : c ++ bc [] = c := by simp [bc]
    by_cases hk : k = 0
    · subst hk
      have e : s.data.toList.drop i = [] := List.drop_of_length_le (by omega)
      rw [e]
      have := stop (by intro h; cases h) (rbytes_end hc (Or.inl (by omega)) (by omega))
      have e3 : decR [] = ([], false, 0) := by rw [decR.eq_def]
      rw [e3]
      simp only [e2]
      have e4 : s.size - 0 = i := by omega
      rw [e4]
      exact this
    · have hlt : i < s.data.toList.length := by omega
      rw [List.drop_eq_getElem_cons hlt]
      cases hp : neI (s.data.toList[i].toNat : Int) 92 with
      | true =>
        have := ih (k - 1) (by omega) (i + 1) (c ++ bc [s.data.toList[i]]) (by omega) (by rw [flatL_append, hc, bc_flat]; rfl) (by rw [List.length_append, bc_length]; simp; omega)
        rw [decR_plain hp]
        have e : ∀ q, c ++ bc [s.data.toList[i]] ++ bc q = c ++ bc (s.data.toList[i] :: q) := by
          intro q; rw [List.append_assoc, ← bc_append]; rfl
        rw [e] at this
        exact LR.again (engOk ct5) noNum ct5_ok Brbytes_occ (by kernel_rfl) (rbytes_plain hlt hc (by omega) hl hq hp) this
      | false =>
        have hrest : (s.data.toList.drop (i + 1)).length = k - 1 := by rw [List.length_drop]; omega
        by_cases ho : s.data.toList.length ≤ i + 2
        · have := stop (by intro h; cases h) (rbytes_short hlt hc hl hq hp ho)
          rw [decR_short hp (by rw [hrest]; omega)]
          have e : s.size - ((s.data.toList.drop (i + 1)).length + 1) = i := by rw [hrest]; omega
          simp only [e]
          rw [e2]
          exact this
        · have h2 : i + 2 < s.data.toList.length := by omega
          have hr := rbytes_pair h2 hc (by omega) hl hq hp
          rw [List.drop_eq_getElem_cons (show i + 1 < s.data.toList.length by omega), List.drop_eq_getElem_cons h2, decR_pair hp]
          have hrest3 : (s.data.toList.drop (i + 3)).length = k - 3 := by rw [List.length_drop]; omega
          cases hg : digB (s.data.toList[i + 1].toNat : Int) && digB (s.data.toList[i + 2].toNat : Int) with
          | true =>
            rw [hg] at hr
            have := ih (k - 3) (by omega) (i + 3) (c ++ bc [byteH s.data.toList[i + 1] s.data.toList[i + 2]]) (by omega) (by rw [flatL_append, hc, bc_flat]; rfl) (by rw [List.length_append, bc_length]; simp; omega)
            have e : ∀ q, c ++ bc [byteH s.data.toList[i + 1] s.data.toList[i + 2]] ++ bc q = c ++ bc (byteH s.data.toList[i + 1] s.data.toList[i + 2] :: q) := by
              intro q; rw [List.append_assoc, ← bc_append]; rfl
            rw [e] at this
            exact LR.again (engOk ct5) noNum ct5_ok Brbytes_occ (by kernel_rfl) hr this
          | false =>
            rw [hg] at hr
            have := stop (by intro h; cases h) hr
            have e : s.size - ((s.data.toList.drop (i + 3)).length + 3) = i := by rw [hrest3]; omega
            simp only [e]
            rw [e2]
            exact this

def rbytesC (s r : ByteArray) (e : Int) (v1 : Value) (i : Int) (c : List Value) (e1 : TypeId) : Bool :=
  r.data.toList == [] && e == 0 && atB v1 0 c.length && i == 0 && flatL c && e1 == 5 && Nat.ble (c.length + s.size) 4194304
def RrbytesL : LoopFn := fun vs bs => match vs, bs with
  | [.string s, .string r, .int .i64 e, v1, .int .i64 i], [.cells c e1 false] => some (.ite (rbytesC s r e v1 i c e1)
      (.ite (neS s ⟨#[34, 34]⟩)
        (.ite (decR s.data.toList).2.1
          (.leaf (.ret, rb s 5 (c ++ bc (decR s.data.toList).1).length ((s.size - (decR s.data.toList).2.2 : Nat) : Int), [.cells (c ++ bc (decR s.data.toList).1) 5 false]))
          (.leaf (.normal, rb s 0 (c ++ bc (decR s.data.toList).1).length ((s.size - (decR s.data.toList).2.2 : Nat) : Int), [.cells (c ++ bc (decR s.data.toList).1) 5 false])))
        (.leaf (.normal, rb s 0 c.length ((0 : Nat) : Int), [.cells c 5 false]))) .fail)
  | _, _ => none

theorem rbytes_loopOk : LoopOk P 24 0 Brbytes Hrbytes RrbytesL where
  occ := loopAt_occ Brbytes_eq
  ok := by kernel_rfl
  run := by
    intro vs bs t hR e vs' bs' hev
    unfold RrbytesL at hR
    split at hR
    · rename_i s r e0 v1 i c e1
      obtain rfl := Option.some.inj hR
      cases hc : rbytesC s r e0 v1 i c e1 with
      | false => rw [hc] at hev; cases hev
      | true =>
        rw [hc] at hev
        simp only [rbytesC, Bool.and_eq_true, beq_iff_eq] at hc
        obtain ⟨⟨⟨⟨⟨⟨h0, h00⟩, h1⟩, h3⟩, h4⟩, h5⟩, h6⟩ := hc
        have h6 := Nat.le_of_ble_eq_true h6
        have hr : r = ⟨#[]⟩ := Go.WideShapes.bytes_inj (by simpa using h0)
        rw [atB_eq h1]
        subst h00 h3 h5 hr
        cases hq : neS s ⟨#[34, 34]⟩ with
        | true =>
          rw [hq] at hev
          have := rbytes_loop s (by omega) hq s.size 0 c (by omega) h4 (by omega)
          rw [List.drop_zero] at this
          cases hbad : (decR s.data.toList).2.1 with
          | true =>
            rw [hbad] at hev this
            simp only [DT.eval, Option.some.injEq, Prod.mk.injEq] at hev
            obtain ⟨rfl, rfl, rfl⟩ := hev
            exact this
          | false =>
            rw [hbad] at hev this
            simp only [DT.eval, Option.some.injEq, Prod.mk.injEq] at hev
            obtain ⟨rfl, rfl, rfl⟩ := hev
            exact this
        | false =>
          rw [hq] at hev
          simp only [DT.eval, Option.some.injEq, Prod.mk.injEq] at hev
          obtain ⟨rfl, rfl, rfl⟩ := hev
          exact LR.stop (engOk ct5) noNum ct5_ok Brbytes_occ (by kernel_rfl) (e := .exit 0) (rbytes_end h4 (Or.inr hq) (Nat.zero_le _)) (by intro h; cases h)
    · cases hR

noncomputable def ct6 : Ct := addLoop 24 0 Hrbytes RrbytesL ct5
theorem ct6_ok : CtOk P ct6 := addLoop_ok ct5_ok rbytes_loopOk

theorem dec_rBytes (s : ByteArray) : callQ P E ct6 50 24 [.string s] =
  (needB (Go.VS.Try.rbytesC s (ByteArray.mk #[]) (0 : Int) (Go.Value.slice (Option.some (Go.Addr.mk 0 0 none)) 0 18446744073709551616) (0 : Int) [] 5)
   (iteB (Go.VS.neS s (ByteArray.mk #[34, 34]))
    (iteB (Prod.fst (Prod.snd (Go.VS.Try.decR (Array.toList (ByteArray.data s)))))
     (some ((Go.Value.tuple (Array.mk [(Go.Value.string (ByteArray.mk #[])), (Go.Value.int Go.IntKind.i64 (5 : Int))])), (Go.VS.mkSt [])))
     (needB (Bool.and (Nat.ble (Nat.add 0 (List.length (HAppend.hAppend [] (Go.VS.bc (Prod.fst (Go.VS.Try.decR (Array.toList (ByteArray.data s)))))))) (List.length (HAppend.hAppend [] (Go.VS.bc (Prod.fst (Go.VS.Try.decR (Array.toList (ByteArray.data s)))))))) (Go.VS.allBytes (Go.VS.takeC (List.length (HAppend.hAppend [] (Go.VS.bc (Prod.fst (Go.VS.Try.decR (Array.toList (ByteArray.data s))))))) (Go.VS.dropC 0 (HAppend.hAppend [] (Go.VS.bc (Prod.fst (Go.VS.Try.decR (Array.toList (ByteArray.data s))))))))))
      (needB (Nat.ble (HMul.hMul 3 (ByteArray.size (Go.VS.bytesT (Go.VS.takeC (List.length (HAppend.hAppend [] (Go.VS.bc (Prod.fst (Go.VS.Try.decR (Array.toList (ByteArray.data s))))))) (Go.VS.dropC 0 (HAppend.hAppend [] (Go.VS.bc (Prod.fst (Go.VS.Try.decR (Array.toList (ByteArray.data s))))))))))) 4194304)
       (iteB (Go.VS.neS (ByteArray.mk (Array.mk (Go.VS.Try.wordM (Array.toList (ByteArray.data (Go.VS.bytesT (Go.VS.takeC (List.length (HAppend.hAppend [] (Go.VS.bc (Prod.fst (Go.VS.Try.decR (Array.toList (ByteArray.data s))))))) (Go.VS.dropC 0 (HAppend.hAppend [] (Go.VS.bc (Prod.fst (Go.VS.Try.decR (Array.toList (ByteArray.data s)))))))))))))) s)
        (some ((Go.Value.tuple (Array.mk [(Go.Value.string (ByteArray.mk #[])), (Go.Value.int Go.IntKind.i64 (5 : Int))])), (Go.VS.mkSt [])))
        (needB (Bool.and (Nat.ble (Nat.add 0 (List.length (HAppend.hAppend [] (Go.VS.bc (Prod.fst (Go.VS.Try.decR (Array.toList (ByteArray.data s)))))))) (List.length (HAppend.hAppend [] (Go.VS.bc (Prod.fst (Go.VS.Try.decR (Array.toList (ByteArray.data s)))))))) (Go.VS.allBytes (Go.VS.takeC (List.length (HAppend.hAppend [] (Go.VS.bc (Prod.fst (Go.VS.Try.decR (Array.toList (ByteArray.data s))))))) (Go.VS.dropC 0 (HAppend.hAppend [] (Go.VS.bc (Prod.fst (Go.VS.Try.decR (Array.toList (ByteArray.data s))))))))))
         (some ((Go.Value.tuple (Array.mk [(Go.Value.string (Go.VS.bytesT (Go.VS.takeC (List.length (HAppend.hAppend [] (Go.VS.bc (Prod.fst (Go.VS.Try.decR (Array.toList (ByteArray.data s))))))) (Go.VS.dropC 0 (HAppend.hAppend [] (Go.VS.bc (Prod.fst (Go.VS.Try.decR (Array.toList (ByteArray.data s)))))))))), (Go.Value.int Go.IntKind.i64 (0 : Int))])), (Go.VS.mkSt []))))))))
    (iteB (Go.VS.neS (ByteArray.mk #[34, 34]) s)
     (some ((Go.Value.tuple (Array.mk [(Go.Value.string (ByteArray.mk #[])), (Go.Value.int Go.IntKind.i64 (5 : Int))])), (Go.VS.mkSt [])))
     (some ((Go.Value.tuple (Array.mk [(Go.Value.string (ByteArray.mk #[])), (Go.Value.int Go.IntKind.i64 (0 : Int))])), (Go.VS.mkSt [])))))) := by kernel_rfl
end Go.VS.Try
