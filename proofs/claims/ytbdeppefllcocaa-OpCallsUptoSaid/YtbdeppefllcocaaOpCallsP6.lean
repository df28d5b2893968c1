/- Texts of the proof, merged: Op8, Op9, Op10, Ov8, Ow1, Ow5, Oc3, Oc4, Oc5. No conditions. -/
import Derived.Test.YtbdeppefllcocaaOpCallsP5
section
namespace Go.VS.Try
set_option linter.unusedSimpArgs false
set_option linter.unusedVariables false
set_option maxRecDepth 1000000
open Go.VS

/-- How the loop ends: at a fault the call itself ends. -/
def exR (bad : Bool) : Ex := match bad with
  | true => .ret
  | false => .normal
def erR (bad : Bool) : Int := match bad with
  | true => 5
  | false => 0
theorem rbytes_loop (s : ByteArray) (hl : s.size < 9223372036854775800) (hq : neS s ⟨#[34, 34]⟩ = true) : ∀ (k i : Nat) (c : List Value), i + k = s.size → flatL c = true → c.length + k ≤ 4194304 →
    LR P 24 0 Brbytes Hrbytes (rb s 0 c.length i) [.cells c 5 false] (exR (decR (s.data.toList.drop i)).2.1)
      (rb s (erR (decR (s.data.toList.drop i)).2.1) (c ++ bc (decR (s.data.toList.drop i)).1).length ((s.size - (decR (s.data.toList.drop i)).2.2 : Nat) : Int)) [.cells (c ++ bc (decR (s.data.toList.drop i)).1) 5 false] := by
  intro k
  induction k using Nat.strongRecOn with
  | _ k ih =>
    intro i c hi hc hb
    have hsz : s.data.toList.length = s.size := by simp
    have stop : ∀ {e : Ex} {vs1 : List Value} {bs1 : List Blk}, e ≠ .normal → roundQ P E ct5 50 24 Brbytes Hrbytes (rb s 0 c.length i) [.cells c 5 false] = some (.tuple ⟨exV e :: vs1⟩, mkSt bs1) →
        LR P 24 0 Brbytes Hrbytes (rb s 0 c.length i) [.cells c 5 false] (exitE 0 e) vs1 bs1 :=
      fun he h => LR.stop (engOk ct5) noNum ct5_ok Brbytes_occ (by kernel_rfl) h he
    have e2 : c ++ bc [] = c := by simp [bc]
    by_cases hk : k = 0
    · subst hk
      have e : s.data.toList.drop i = [] := List.drop_of_length_le (by omega)
      rw [e]
      have := stop (by intro h; cases h) (rbytes_end hc (Or.inl (by omega)) (by omega))
      have e3 : decR [] = ([], false, 0) := by rw [decR.eq_def]
      rw [e3]
      simp only [e2]
      have e4 : s.size - 0 = i := by omega
      rw [e4]
      exact this
    · have hlt : i < s.data.toList.length := by omega
      rw [List.drop_eq_getElem_cons hlt]
      cases hp : neI (s.data.toList[i].toNat : Int) 92 with
      | true =>
        have := ih (k - 1) (by omega) (i + 1) (c ++ bc [s.data.toList[i]]) (by omega) (by rw [flatL_append, hc, bc_flat]; rfl) (by rw [List.length_append, bc_length]; simp; omega)
        rw [decR_plain hp]
        have e : ∀ q, c ++ bc [s.data.toList[i]] ++ bc q = c ++ bc (s.data.toList[i] :: q) := by
          intro q; rw [List.append_assoc, ← bc_append]; rfl
        rw [e] at this
        exact LR.again (engOk ct5) noNum ct5_ok Brbytes_occ (by kernel_rfl) (rbytes_plain hlt hc (by omega) hl hq hp) this
      | false =>
        have hrest : (s.data.toList.drop (i + 1)).length = k - 1 := by rw [List.length_drop]; omega
        by_cases ho : s.data.toList.length ≤ i + 2
        · have := stop (by intro h; cases h) (rbytes_short hlt hc hl hq hp ho)
          rw [decR_short hp (by rw [hrest]; omega)]
          have e : s.size - ((s.data.toList.drop (i + 1)).length + 1) = i := by rw [hrest]; omega
          simp only [e]
          rw [e2]
          exact this
        · have h2 : i + 2 < s.data.toList.length := by omega
          have hr := rbytes_pair h2 hc (by omega) hl hq hp
          rw [List.drop_eq_getElem_cons (show i + 1 < s.data.toList.length by omega), List.drop_eq_getElem_cons h2, decR_pair hp]
          have hrest3 : (s.data.toList.drop (i + 3)).length = k - 3 := by rw [List.length_drop]; omega
          cases hg : digB (s.data.toList[i + 1].toNat : Int) && digB (s.data.toList[i + 2].toNat : Int) with
          | true =>
            rw [hg] at hr
            have := ih (k - 3) (by omega) (i + 3) (c ++ bc [byteH s.data.toList[i + 1] s.data.toList[i + 2]]) (by omega) (by rw [flatL_append, hc, bc_flat]; rfl) (by rw [List.length_append, bc_length]; simp; omega)
            have e : ∀ q, c ++ bc [byteH s.data.toList[i + 1] s.data.toList[i + 2]] ++ bc q = c ++ bc (byteH s.data.toList[i + 1] s.data.toList[i + 2] :: q) := by
              intro q; rw [List.append_assoc, ← bc_append]; rfl
            rw [e] at this
            exact LR.again (engOk ct5) noNum ct5_ok Brbytes_occ (by kernel_rfl) hr this
          | false =>
            rw [hg] at hr
            have := stop (by intro h; cases h) hr
            have e : s.size - ((s.data.toList.drop (i + 3)).length + 3) = i := by rw [hrest3]; omega
            simp only [e]
            rw [e2]
            exact this

def rbytesC (s r : ByteArray) (e : Int) (v1 : Value) (i : Int) (c : List Value) (e1 : TypeId) : Bool :=
  r.data.toList == [] && e == 0 && atB v1 0 c.length && i == 0 && flatL c && e1 == 5 && Nat.ble (c.length + s.size) 4194304
def RrbytesL : LoopFn := fun vs bs => match vs, bs with
  | [.string s, .string r, .int .i64 e, v1, .int .i64 i], [.cells c e1 false] => some (.ite (rbytesC s r e v1 i c e1)
      (.ite (neS s ⟨#[34, 34]⟩)
        (.ite (decR s.data.toList).2.1
          (.leaf (.ret, rb s 5 (c ++ bc (decR s.data.toList).1).length ((s.size - (decR s.data.toList).2.2 : Nat) : Int), [.cells (c ++ bc (decR s.data.toList).1) 5 false]))
          (.leaf (.normal, rb s 0 (c ++ bc (decR s.data.toList).1).length ((s.size - (decR s.data.toList).2.2 : Nat) : Int), [.cells (c ++ bc (decR s.data.toList).1) 5 false])))
        (.leaf (.normal, rb s 0 c.length ((0 : Nat) : Int), [.cells c 5 false]))) .fail)
  | _, _ => none

theorem rbytes_loopOk : LoopOk P 24 0 Brbytes Hrbytes RrbytesL where
  occ := loopAt_occ Brbytes_eq
  ok := by kernel_rfl
  run := by
    intro vs bs t hR e vs' bs' hev
    unfold RrbytesL at hR
    split at hR
    · rename_i s r e0 v1 i c e1
      obtain rfl := Option.some.inj hR
      cases hc : rbytesC s r e0 v1 i c e1 with
      | false => rw [hc] at hev; cases hev
      | true =>
        rw [hc] at hev
        simp only [rbytesC, Bool.and_eq_true, beq_iff_eq] at hc
        obtain ⟨⟨⟨⟨⟨⟨h0, h00⟩, h1⟩, h3⟩, h4⟩, h5⟩, h6⟩ := hc
        have h6 := Nat.le_of_ble_eq_true h6
        have hr : r = ⟨#[]⟩ := Go.WideShapes.bytes_inj (by simpa using h0)
        rw [atB_eq h1]
        subst h00 h3 h5 hr
        cases hq : neS s ⟨#[34, 34]⟩ with
        | true =>
          rw [hq] at hev
          have := rbytes_loop s (by omega) hq s.size 0 c (by omega) h4 (by omega)
          rw [List.drop_zero] at this
          cases hbad : (decR s.data.toList).2.1 with
          | true =>
            rw [hbad] at hev this
            simp only [DT.eval, Option.some.injEq, Prod.mk.injEq] at hev
            obtain ⟨rfl, rfl, rfl⟩ := hev
            exact this
          | false =>
            rw [hbad] at hev this
            simp only [DT.eval, Option.some.injEq, Prod.mk.injEq] at hev
            obtain ⟨rfl, rfl, rfl⟩ := hev
            exact this
        | false =>
          rw [hq] at hev
          simp only [DT.eval, Option.some.injEq, Prod.mk.injEq] at hev
          obtain ⟨rfl, rfl, rfl⟩ := hev
          exact LR.stop (engOk ct5) noNum ct5_ok Brbytes_occ (by kernel_rfl) (e := .exit 0) (rbytes_end h4 (Or.inr hq) (Nat.zero_le _)) (by intro h; cases h)
    · cases hR

noncomputable def ct6 : Ct := addLoop 24 0 Hrbytes RrbytesL ct5
theorem ct6_ok : CtOk P ct6 := addLoop_ok ct5_ok rbytes_loopOk

theorem dec_rBytes (s : ByteArray) : callQ P E ct6 50 24 [.string s] =
  (needB (Go.VS.Try.rbytesC s (ByteArray.mk #[]) (0 : Int) (Go.Value.slice (Option.some (Go.Addr.mk 0 0 none)) 0 18446744073709551616) (0 : Int) [] 5)
   (iteB (Go.VS.neS s (ByteArray.mk #[34, 34]))
    (iteB (Prod.fst (Prod.snd (Go.VS.Try.decR (Array.toList (ByteArray.data s)))))
     (some ((Go.Value.tuple (Array.mk [(Go.Value.string (ByteArray.mk #[])), (Go.Value.int Go.IntKind.i64 (5 : Int))])), (Go.VS.mkSt [])))
     (needB (Bool.and (Nat.ble (Nat.add 0 (List.length (HAppend.hAppend [] (Go.VS.bc (Prod.fst (Go.VS.Try.decR (Array.toList (ByteArray.data s)))))))) (List.length (HAppend.hAppend [] (Go.VS.bc (Prod.fst (Go.VS.Try.decR (Array.toList (ByteArray.data s)))))))) (Go.VS.allBytes (Go.VS.takeC (List.length (HAppend.hAppend [] (Go.VS.bc (Prod.fst (Go.VS.Try.decR (Array.toList (ByteArray.data s))))))) (Go.VS.dropC 0 (HAppend.hAppend [] (Go.VS.bc (Prod.fst (Go.VS.Try.decR (Array.toList (ByteArray.data s))))))))))
      (needB (Nat.ble (HMul.hMul 3 (ByteArray.size (Go.VS.bytesT (Go.VS.takeC (List.length (HAppend.hAppend [] (Go.VS.bc (Prod.fst (Go.VS.Try.decR (Array.toList (ByteArray.data s))))))) (Go.VS.dropC 0 (HAppend.hAppend [] (Go.VS.bc (Prod.fst (Go.VS.Try.decR (Array.toList (ByteArray.data s))))))))))) 4194304)
       (iteB (Go.VS.neS (ByteArray.mk (Array.mk (Go.VS.Try.wordM (Array.toList (ByteArray.data (Go.VS.bytesT (Go.VS.takeC (List.length (HAppend.hAppend [] (Go.VS.bc (Prod.fst (Go.VS.Try.decR (Array.toList (ByteArray.data s))))))) (Go.VS.dropC 0 (HAppend.hAppend [] (Go.VS.bc (Prod.fst (Go.VS.Try.decR (Array.toList (ByteArray.data s)))))))))))))) s)
        (some ((Go.Value.tuple (Array.mk [(Go.Value.string (ByteArray.mk #[])), (Go.Value.int Go.IntKind.i64 (5 : Int))])), (Go.VS.mkSt [])))
        (needB (Bool.and (Nat.ble (Nat.add 0 (List.length (HAppend.hAppend [] (Go.VS.bc (Prod.fst (Go.VS.Try.decR (Array.toList (ByteArray.data s)))))))) (List.length (HAppend.hAppend [] (Go.VS.bc (Prod.fst (Go.VS.Try.decR (Array.toList (ByteArray.data s)))))))) (Go.VS.allBytes (Go.VS.takeC (List.length (HAppend.hAppend [] (Go.VS.bc (Prod.fst (Go.VS.Try.decR (Array.toList (ByteArray.data s))))))) (Go.VS.dropC 0 (HAppend.hAppend [] (Go.VS.bc (Prod.fst (Go.VS.Try.decR (Array.toList (ByteArray.data s))))))))))
         (some ((Go.Value.tuple (Array.mk [(Go.Value.string (Go.VS.bytesT (Go.VS.takeC (List.length (HAppend.hAppend [] (Go.VS.bc (Prod.fst (Go.VS.Try.decR (Array.toList (ByteArray.data s))))))) (Go.VS.dropC 0 (HAppend.hAppend [] (Go.VS.bc (Prod.fst (Go.VS.Try.decR (Array.toList (ByteArray.data s)))))))))), (Go.Value.int Go.IntKind.i64 (0 : Int))])), (Go.VS.mkSt []))))))))
    (iteB (Go.VS.neS (ByteArray.mk #[34, 34]) s)
     (some ((Go.Value.tuple (Array.mk [(Go.Value.string (ByteArray.mk #[])), (Go.Value.int Go.IntKind.i64 (5 : Int))])), (Go.VS.mkSt [])))
     (some ((Go.Value.tuple (Array.mk [(Go.Value.string (ByteArray.mk #[])), (Go.Value.int Go.IntKind.i64 (0 : Int))])), (Go.VS.mkSt [])))))) := by kernel_rfl
end Go.VS.Try
end

section
namespace Go.VS.Try
set_option linter.unusedSimpArgs false
set_option linter.unusedVariables false
set_option maxRecDepth 1000000
open Go.VS

theorem hx_dig : ∀ n : Fin 256, digB (n.val : Int) = true → hxU (digV (n.val : Int)) = UInt8.ofNat n.val := by decide +kernel
theorem mix_hi : ∀ a b : Fin 16, shrI .u8 (orI .u8 (shlI .u8 (a.val : Int) 4) (b.val : Int)) 4 = (a.val : Int) := by decide +kernel
theorem mix_lo : ∀ a b : Fin 16, andI .u8 (orI .u8 (shlI .u8 (a.val : Int) 4) (b.val : Int)) 15 = (b.val : Int) := by decide +kernel
theorem back_dig : ∀ n : Fin 256, digB ((hxU (shrI .u8 (n.val : Int) 4)).toNat : Int) = true ∧ digB ((hxU (andI .u8 (n.val : Int) 15)).toNat : Int) = true ∧ hv (hxU (shrI .u8 (n.val : Int) 4)) (hxU (andI .u8 (n.val : Int) 15)) = (n.val : Int) := by decide +kernel

theorem enc_pair {h l : UInt8} (hg : goodH h l = true) : enc (byteH h l) = [92, h, l] := by
  simp only [goodH, Bool.and_eq_true, Bool.not_eq_true'] at hg
  obtain ⟨⟨h1, h2⟩, h3⟩ := hg
  unfold enc
  rw [byteH_eq, h3]
  simp only
  have a := dig_lt ⟨h.toNat, h.toNat_lt⟩ h1
  have b := dig_lt ⟨l.toNat, l.toNat_lt⟩ h2
  have c := hx_dig ⟨h.toNat, h.toNat_lt⟩ h1
  have d := hx_dig ⟨l.toNat, l.toNat_lt⟩ h2
  simp only at a b c d
  unfold hv
  generalize digV (h.toNat : Int) = x at a c
  generalize digV (l.toNat : Int) = y at b d
  obtain ⟨x, rfl⟩ := Int.eq_ofNat_of_zero_le a.1
  obtain ⟨y, rfl⟩ := Int.eq_ofNat_of_zero_le b.1
  have e1 := mix_hi ⟨x, by omega⟩ ⟨y, by omega⟩
  have e2 := mix_lo ⟨x, by omega⟩ ⟨y, by omega⟩
  simp only at e1 e2
  rw [e1, e2, c, d]
  simp

theorem plain92 : plainM ((92 : UInt8).toNat : Int) = false := by decide
theorem eq92 : eqI ((92 : UInt8).toNat : Int) 92 = true := by decide
theorem eqI_92 {x : UInt8} (h : eqI x.toNat 92 = true) : x = 92 := by
  unfold eqI at h
  have : (x.toNat : Int) = 92 := by simpa using h
  have h2 : x.toNat = (92 : UInt8).toNat := by
    have : x.toNat = 92 := by omega
    rw [this]; rfl
  exact UInt8.toNat_inj.1 h2
theorem neI_plain {x : UInt8} (h : plainM x.toNat = true) : neI x.toNat 92 = true := by
  unfold plainM at h
  simp only [Bool.and_eq_true] at h
  exact h.2
theorem neI_92 {x : UInt8} (h : eqI x.toNat 92 = true) : neI x.toNat 92 = false := by
  unfold eqI at h
  unfold neI
  simp only [bne, h, Bool.not_true]

/-- What is read to its end without a fault has this word, and the answer reads it alike. -/
theorem decL_enc : ∀ (k : Nat) (w : List UInt8), w.length ≤ k → (decL w).2.1 = false → encL (decL w).1 = w ∧ (decR w).1 = (decL w).1 ∧ (decR w).2.1 = false
  | _, [], _, _ => by
    have e1 : decL [] = ([], false, 0) := by rw [decL.eq_def]
    have e2 : decR [] = ([], false, 0) := by rw [decR.eq_def]
    rw [e1, e2]; exact ⟨rfl, rfl, rfl⟩
  | 0, x :: r, hk, _ => by simp at hk
  | k + 1, x :: r, hk, h => by
    have hk : r.length ≤ k := by simpa using hk
    cases hp : plainM x.toNat with
    | true =>
      rw [decL_plain hp] at h ⊢
      rw [decR_plain (neI_plain hp)]
      obtain ⟨h1, h2, h3⟩ := decL_enc k r hk h
      refine ⟨?_, by simp only [h2], h3⟩
      rw [encL_cons, h1]
      unfold enc
      rw [hp]; rfl
    | false =>
      by_cases ho : eqI x.toNat 92 = false ∨ r.length < 2
      · rw [decL_other hp ho] at h; cases h
      · have he : eqI x.toNat 92 = true := by
          cases h : eqI x.toNat 92 with
          | true => rfl
          | false => exact absurd (Or.inl h) ho
        have h2 : ¬ r.length < 2 := fun h => ho (Or.inr h)
        obtain ⟨a, r, rfl⟩ : ∃ a r', r = a :: r' := by cases r with
          | nil => simp at h2
          | cons a r' => exact ⟨_, _, rfl⟩
        obtain ⟨b, r, rfl⟩ : ∃ a r', r = a :: r' := by cases r with
          | nil => simp at h2
          | cons a r' => exact ⟨_, _, rfl⟩
        rw [decL_pair hp he] at h ⊢
        rw [decR_pair (neI_92 he)]
        cases hg : goodH a b with
        | false => rw [hg] at h; cases h
        | true =>
          rw [hg] at h
          simp only at h ⊢
          have hd : (digB a.toNat && digB b.toNat) = true := by
            simp only [goodH, Bool.and_eq_true] at hg
            simp only [hg.1, Bool.and_self]
          rw [hd]
          simp only
          obtain ⟨h1, h2, h3⟩ := decL_enc k r (by simp at hk; omega) h
          refine ⟨?_, by rw [h2], h3⟩
          rw [encL_cons, h1, enc_pair hg, eqI_92 he]
          rfl

theorem byteH_back (b : UInt8) : byteH (hxU (shrI .u8 b.toNat 4)) (hxU (andI .u8 b.toNat 15)) = b := by
  have := (back_dig ⟨b.toNat, b.toNat_lt⟩).2.2
  simp only at this
  unfold byteH
  rw [this]
  simp
/-- A word is read without a fault. -/
theorem decL_word : ∀ (l : List UInt8), decL (encL l) = (l, false, 0)
  | [] => by show decL [] = _; rw [decL.eq_def]
  | b :: l => by
    rw [encL_cons]
    unfold enc
    cases hp : plainM b.toNat with
    | true =>
      show decL (b :: encL l) = _
      rw [decL_plain hp, decL_word l]
    | false =>
      show decL (92 :: hxU (shrI .u8 b.toNat 4) :: hxU (andI .u8 b.toNat 15) :: encL l) = _
      rw [decL_pair plain92 eq92]
      have hg : goodH (hxU (shrI .u8 b.toNat 4)) (hxU (andI .u8 b.toNat 15)) = true := by
        obtain ⟨h1, h2, h3⟩ := back_dig ⟨b.toNat, b.toNat_lt⟩
        simp only at h1 h2 h3
        unfold goodH
        rw [h1, h2, h3, hp]; rfl
      rw [hg, decL_word l, byteH_back]

def rbytesM (w : List UInt8) : List UInt8 × Int := match w == [34, 34] with
  | true => ([], 0)
  | false => match (decR w).2.1, wordM (decR w).1 == w with
    | true, _ => ([], 5)
    | false, false => ([], 5)
    | false, true => ((decR w).1, 0)

theorem rbytesM_eq (w : List UInt8) : rbytesM w = bytesM w := by
  unfold rbytesM bytesM
  cases hw : w == [34, 34] with
  | true => rfl
  | false =>
    simp only
    cases hb : (decL w).2.1 with
    | false =>
      obtain ⟨h1, h2, h3⟩ := decL_enc w.length w (Nat.le_refl _) hb
      rw [h2, h3]
      cases ho : (decL w).1 with
      | nil =>
        rw [ho] at h1
        have : w = [] := h1.symm
        subst this
        rfl
      | cons b l =>
        rw [ho] at h1
        have : (wordM (b :: l) == w) = true := by
          show (encL (b :: l) == w) = true
          rw [h1]; simp
        rw [this]
    | true =>
      cases hr : (decR w).2.1 with
      | true => rfl
      | false =>
        cases hq : wordM (decR w).1 == w with
        | false => rfl
        | true =>
          exfalso
          have hq : wordM (decR w).1 = w := by simpa using hq
          cases ho : (decR w).1 with
          | nil =>
            rw [ho] at hq
            rw [← hq] at hw
            cases hw
          | cons b l =>
            rw [ho] at hq
            have hq : encL (b :: l) = w := hq
            rw [← hq, decL_word] at hb
            cases hb
end Go.VS.Try
end

section
namespace Go.VS.Try
set_option linter.unusedSimpArgs false
set_option linter.unusedVariables false
set_option maxRecDepth 1000000
open Go.VS

theorem decR_len : ∀ (k : Nat) (w : List UInt8), w.length ≤ k → (decR w).1.length ≤ w.length
  | _, [], _ => by rw [decR.eq_def]; simp
  | 0, x :: r, hk => by simp at hk
  | k + 1, x :: r, hk => by
    have hk : r.length ≤ k := by simpa using hk
    cases hp : neI x.toNat 92 with
    | true =>
      rw [decR_plain hp]
      have := decR_len k r hk
      simpa using this
    | false =>
      by_cases ho : r.length < 2
      · rw [decR_short hp ho]; simp
      · obtain ⟨a, r, rfl⟩ : ∃ a r', r = a :: r' := by cases r with
          | nil => simp at ho
          | cons a r' => exact ⟨_, _, rfl⟩
        obtain ⟨b, r, rfl⟩ : ∃ a r', r = a :: r' := by cases r with
          | nil => simp at ho
          | cons a r' => exact ⟨_, _, rfl⟩
        rw [decR_pair hp]
        cases digB a.toNat && digB b.toNat with
        | false => simp
        | true =>
          have := decR_len k r (by simp at hk; omega)
          simp; omega

def RrBytes : CallFn
  | [.string s] => some (.ite (Nat.ble (3 * s.size) 4194304) (.leaf (.tuple ⟨[.string ⟨⟨(bytesM s.data.toList).1⟩⟩, .int .i64 (bytesM s.data.toList).2]⟩, [])) .fail)
  | _ => none
theorem rBytes_ok : CallOkR P 24 RrBytes := by
  refine ok_of ct6_ok (n := 50) fun args t hR v bs hev => ?_
  unfold RrBytes at hR
  split at hR
  · rename_i s
    obtain rfl := Option.some.inj hR
    cases hc : Nat.ble (3 * s.size) 4194304 with
    | false => rw [hc] at hev; cases hev
    | true =>
      rw [hc] at hev
      simp only [DT.eval, Option.some.injEq, Prod.mk.injEq] at hev
      obtain ⟨rfl, rfl⟩ := hev
      have hsz := Nat.le_of_ble_eq_true hc
      have hlen := decR_len s.data.toList.length s.data.toList (Nat.le_refl _)
      have hs : s.data.toList.length = s.size := by simp
      rw [dec_rBytes, ← rbytesM_eq]
      refine need_eq ?_ ?_
      · have h1 : atB (.slice (some ⟨0, 0, none⟩) 0 18446744073709551616) 0 ([] : List Value).length = true := atB_sl 0 0
        have h9 : Nat.ble (([] : List Value).length + s.size) 4194304 = true := ble_ok (by simp; omega)
        unfold rbytesC
        rw [h1, h9]
        rfl
      unfold rbytesM
      cases hq : s.data.toList == [34, 34] with
      | true =>
        refine ite_f (by rw [neS_eq]; show (!(s.data.toList == [34, 34])) = false; rw [hq]; rfl) ?_
        refine ite_f ?_ rfl
        rw [neS_eq]
        have : s.data.toList = [34, 34] := by simpa using hq
        rw [this]
        rfl
      | false =>
        refine ite_t (by rw [neS_eq]; show (!(s.data.toList == [34, 34])) = true; rw [hq]; rfl) ?_
        simp only [List.nil_append, takeC_self, bc_text]
        generalize decR s.data.toList = q at hlen
        obtain ⟨out, bad, left⟩ := q
        cases bad with
        | true => exact ite_t rfl rfl
        | false =>
          refine ite_f rfl ?_
          simp only at hlen ⊢
          refine need_eq (and_ok (ble_ok (by simp)) (bc_all _)) ?_
          refine need_eq (ble_ok ?_) ?_
          · show 3 * (ByteArray.mk ⟨out⟩).size ≤ 4194304
            have : (ByteArray.mk ⟨out⟩).size = out.length := rfl
            rw [this]; omega
          cases hw : wordM out == s.data.toList with
          | false => exact ite_t (by rw [neS_eq]; show (!(wordM out == s.data.toList)) = true; rw [hw]; rfl) rfl
          | true =>
            refine ite_f (by rw [neS_eq]; show (!(wordM out == s.data.toList)) = false; rw [hw]; rfl) ?_
            exact need_eq (and_ok (ble_ok (by simp)) (bc_all _)) rfl
  · cases hR

noncomputable def ct7 : Ct := addCall P 24 RrBytes ct6
theorem ct7_ok : CtOk P ct7 := addCall_ok ct6_ok rBytes_ok

theorem dec_words (s w : ByteArray) : callQ P E ct7 200 7 [.string s, .string w] =
  (needB (Nat.ble (ByteArray.size w) 4194304)
   (needB (Nat.ble (HMul.hMul 3 (ByteArray.size w)) 4194304)
    (needB (Nat.ble (HMul.hMul 3 (ByteArray.size s)) 4194304)
     (needB (Nat.ble (HMul.hMul 3 (ByteArray.size s)) 4194304)
      (iteB (Go.VS.eqS (ByteArray.mk (Array.mk (Go.VS.Try.wordM (Array.toList (ByteArray.data s))))) (ByteArray.mk (Array.mk (Go.VS.Try.wordM (Array.toList (ByteArray.data s))))))
       (iteB (Go.VS.eqS (ByteArray.mk (Array.mk (Prod.fst (Go.VS.Try.bytesM (Array.toList (ByteArray.data w)))))) (ByteArray.mk (Array.mk (Prod.fst (Go.VS.Try.bytesM (Array.toList (ByteArray.data w)))))))
        (some ((Go.Value.bool (Go.VS.eqI (Prod.snd (Go.VS.Try.bytesM (Array.toList (ByteArray.data w)))) (Prod.snd (Go.VS.Try.bytesM (Array.toList (ByteArray.data w)))))), (Go.VS.mkSt [])))
        (some ((Go.Value.bool Bool.false), (Go.VS.mkSt []))))
       (some ((Go.Value.bool Bool.false), (Go.VS.mkSt [])))))))) := by kernel_rfl
end Go.VS.Try
end

section
namespace Go.VS.Try
set_option linter.unusedSimpArgs false
set_option linter.unusedVariables false
set_option maxRecDepth 1000000
open Go.VS
theorem dec_opReads (Q : List UInt8 → List UInt8 → Bool) (G : List Value → List Value) (A : List UInt8 → Bool) (B C : List UInt8 → ByteArray) (N Z : List UInt8 → Int) (n b : Nat) (c : List Value) : callQ P E (ctLv Q G A B C N Z) 200 9 [mkFz 1 n b c] =
  (needB (Go.VS.Try.fzB 18446744073709551617 n c)
   (needB (Go.VS.cutI (0 : Int) (Go.VS.lenI n) (Nat.div (Nat.sub (List.length (Go.VS.renL Bool.false (Go.VS.shiftN 0) (G c))) 0) 1))
    (iteB (Nat.ble 1 (Nat.div (Nat.sub (List.length (Go.VS.renL Bool.false (Go.VS.shiftN 0) (G c))) 0) 1))
     (needB (Bool.and (Nat.ble (Nat.add 0 (Nat.mul (Go.VS.lapN (0 : Int) (Go.VS.lenI n)) 1)) (List.length (Go.VS.renL Bool.false (Go.VS.shiftN 0) (G c)))) (Nat.ble 1 1))
      (needB (Go.VS.flatL (Go.VS.takeC (Nat.mul (Go.VS.lapN (0 : Int) (Go.VS.lenI n)) 1) (Go.VS.dropC 0 (Go.VS.renL Bool.false (Go.VS.shiftN 0) (G c)))))
       (needB (Go.VS.Try.fzB 18446744073709551617 (Go.VS.lapN (0 : Int) (Go.VS.lenI n)) (Go.VS.takeC (Nat.mul (Go.VS.lapN (0 : Int) (Go.VS.lenI n)) 1) (Go.VS.dropC 0 (Go.VS.renL Bool.false (Go.VS.shiftN 0) (G c)))))
        (needB (Go.VS.Try.fzB 18446744073709551617 n c)
         (iteB (Bool.and (Go.VS.eqB (A (List.map Go.VS.byteOf (Go.VS.takeC (Nat.mul (Go.VS.lapN (0 : Int) (Go.VS.lenI n)) 1) (Go.VS.dropC 0 (Go.VS.renL Bool.false (Go.VS.shiftN 0) (G c)))))) (A (List.map Go.VS.byteOf c))) (Bool.and (Go.VS.eqS (B (List.map Go.VS.byteOf (Go.VS.takeC (Nat.mul (Go.VS.lapN (0 : Int) (Go.VS.lenI n)) 1) (Go.VS.dropC 0 (Go.VS.renL Bool.false (Go.VS.shiftN 0) (G c)))))) (B (List.map Go.VS.byteOf c))) (Bool.and (Go.VS.eqS (C (List.map Go.VS.byteOf (Go.VS.takeC (Nat.mul (Go.VS.lapN (0 : Int) (Go.VS.lenI n)) 1) (Go.VS.dropC 0 (Go.VS.renL Bool.false (Go.VS.shiftN 0) (G c)))))) (C (List.map Go.VS.byteOf c))) Bool.true)))
          (iteB (Go.VS.eqI (N (List.map Go.VS.byteOf (Go.VS.takeC (Nat.mul (Go.VS.lapN (0 : Int) (Go.VS.lenI n)) 1) (Go.VS.dropC 0 (Go.VS.renL Bool.false (Go.VS.shiftN 0) (G c)))))) (N (List.map Go.VS.byteOf c)))
           (iteB (Go.VS.eqI (Z (List.map Go.VS.byteOf (Go.VS.takeC (Nat.mul (Go.VS.lapN (0 : Int) (Go.VS.lenI n)) 1) (Go.VS.dropC 0 (Go.VS.renL Bool.false (Go.VS.shiftN 0) (G c)))))) (Z (List.map Go.VS.byteOf c)))
            (needB (Go.VS.Try.fzB 18446744073709551617 n c)
             (needB (Bool.and (Nat.ble (Nat.add 0 (Nat.mul (HAdd.hAdd n 3) 1)) (List.length (Go.VS.renL Bool.false (Go.VS.shiftN 0) (G c)))) (Nat.ble 1 1))
              (needB (Go.VS.flatL (Go.VS.takeC (Nat.mul (HAdd.hAdd n 3) 1) (Go.VS.dropC 0 (Go.VS.renL Bool.false (Go.VS.shiftN 0) (G c)))))
               (needB (Bool.and (Nat.ble (Nat.add 0 (Nat.mul (HAdd.hAdd n 3) 1)) (List.length (Go.VS.renL Bool.false (Go.VS.shiftN 3) (G c)))) (Nat.ble 1 1))
                (needB (Go.VS.flatL (Go.VS.takeC (Nat.mul (HAdd.hAdd n 3) 1) (Go.VS.dropC 0 (Go.VS.renL Bool.false (Go.VS.shiftN 3) (G c)))))
                 (needB (Bool.and (Go.VS.Try.fzB 18446744073709551617 (HAdd.hAdd n 3) (Go.VS.takeC (Nat.mul (HAdd.hAdd n 3) 1) (Go.VS.dropC 0 (Go.VS.renL Bool.false (Go.VS.shiftN 0) (G c))))) (Go.VS.Try.fzB 18446744073709551617 (HAdd.hAdd n 3) (Go.VS.takeC (Nat.mul (HAdd.hAdd n 3) 1) (Go.VS.dropC 0 (Go.VS.renL Bool.false (Go.VS.shiftN 3) (G c))))))
                  (some ((Go.Value.bool (Q (List.map Go.VS.byteOf (Go.VS.takeC (Nat.mul (HAdd.hAdd n 3) 1) (Go.VS.dropC 0 (Go.VS.renL Bool.false (Go.VS.shiftN 0) (G c))))) (List.map Go.VS.byteOf (Go.VS.takeC (Nat.mul (HAdd.hAdd n 3) 1) (Go.VS.dropC 0 (Go.VS.renL Bool.false (Go.VS.shiftN 3) (G c))))))), (Go.VS.mkSt [])))))))))
            (some ((Go.Value.bool Bool.false), (Go.VS.mkSt []))))
           (some ((Go.Value.bool Bool.false), (Go.VS.mkSt []))))
          (some ((Go.Value.bool Bool.false), (Go.VS.mkSt []))))))))
     (needB (Go.VS.Try.fzB 18446744073709551617 n c)
      (iteB (Bool.and (Go.VS.eqB (A []) (A (List.map Go.VS.byteOf c))) (Bool.and (Go.VS.eqS (B []) (B (List.map Go.VS.byteOf c))) (Bool.and (Go.VS.eqS (C []) (C (List.map Go.VS.byteOf c))) Bool.true)))
       (iteB (Go.VS.eqI (N []) (N (List.map Go.VS.byteOf c)))
        (iteB (Go.VS.eqI (Z []) (Z (List.map Go.VS.byteOf c)))
         (needB (Go.VS.Try.fzB 18446744073709551617 n c)
          (needB (Bool.and (Nat.ble (Nat.add 0 (Nat.mul (HAdd.hAdd n 3) 1)) (List.length (Go.VS.renL Bool.false (Go.VS.shiftN 0) (G c)))) (Nat.ble 1 1))
           (needB (Go.VS.flatL (Go.VS.takeC (Nat.mul (HAdd.hAdd n 3) 1) (Go.VS.dropC 0 (Go.VS.renL Bool.false (Go.VS.shiftN 0) (G c)))))
            (needB (Bool.and (Nat.ble (Nat.add 0 (Nat.mul (HAdd.hAdd n 3) 1)) (List.length (Go.VS.renL Bool.false (Go.VS.shiftN 3) (G c)))) (Nat.ble 1 1))
             (needB (Go.VS.flatL (Go.VS.takeC (Nat.mul (HAdd.hAdd n 3) 1) (Go.VS.dropC 0 (Go.VS.renL Bool.false (Go.VS.shiftN 3) (G c)))))
              (needB (Bool.and (Go.VS.Try.fzB 18446744073709551617 (HAdd.hAdd n 3) (Go.VS.takeC (Nat.mul (HAdd.hAdd n 3) 1) (Go.VS.dropC 0 (Go.VS.renL Bool.false (Go.VS.shiftN 0) (G c))))) (Go.VS.Try.fzB 18446744073709551617 (HAdd.hAdd n 3) (Go.VS.takeC (Nat.mul (HAdd.hAdd n 3) 1) (Go.VS.dropC 0 (Go.VS.renL Bool.false (Go.VS.shiftN 3) (G c))))))
               (some ((Go.Value.bool (Q (List.map Go.VS.byteOf (Go.VS.takeC (Nat.mul (HAdd.hAdd n 3) 1) (Go.VS.dropC 0 (Go.VS.renL Bool.false (Go.VS.shiftN 0) (G c))))) (List.map Go.VS.byteOf (Go.VS.takeC (Nat.mul (HAdd.hAdd n 3) 1) (Go.VS.dropC 0 (Go.VS.renL Bool.false (Go.VS.shiftN 3) (G c))))))), (Go.VS.mkSt [])))))))))
         (some ((Go.Value.bool Bool.false), (Go.VS.mkSt []))))
        (some ((Go.Value.bool Bool.false), (Go.VS.mkSt []))))
       (some ((Go.Value.bool Bool.false), (Go.VS.mkSt [])))))))) := by kernel_rfl
theorem lent_take (l : List UInt8) (n : Nat) (h : n = l.length + 3) : takeC (Nat.mul n 1) (dropC 0 (bc (l ++ tailB))) = bc (l ++ tailB) := by
  have := take_all (bc (l ++ tailB))
  rw [bc_length] at this
  rw [h]
  have e : (l ++ tailB).length = l.length + 3 := by simp [tailB]
  rw [e] at this
  exact this
theorem lent_front (l : List UInt8) : takeC (Nat.mul l.length 1) (dropC 0 (bc (l ++ tailB))) = bc l := by
  rw [cut_bc, List.drop_zero, List.take_left']
  rfl
theorem opReads_run {l : List UInt8} {b : Nat} (h : l.length ≤ 1048576) : callQ P E ctL 200 9 [mkFz 1 l.length b (bc l)] = some (.bool true, mkSt []) := by
  unfold ctL
  rw [dec_opReads]
  have hG : lentM (bc l) = bc (l ++ tailB) := by unfold lentM; rw [bc_append]
  have hL : lapN 0 (lenI l.length) = l.length := by unfold lapN lenI; simp
  have hlen : (l ++ tailB).length = l.length + 3 := by simp [tailB]
  simp only [hG, bc_ren, lent_front, lent_take l (l.length + 3) rfl, bc_back, hL, bc_length, hlen, Nat.sub_zero]
  have f1 : fzB 18446744073709551617 l.length (bc l) = true := by rw [← fz1]; exact fzB_bc rfl (by omega)
  have f2 : fzB 18446744073709551617 (l.length + 3) (bc (l ++ tailB)) = true := by rw [← fz1]; exact fzB_bc hlen.symm (by omega)
  have hd : Nat.div (l.length + 3) 1 = l.length + 3 := Nat.div_one _
  have hd' : Nat.sub (l.length + 3) 0 = l.length + 3 := Nat.sub_zero _
  rw [hd', hd]
  refine need_eq f1 (need_eq (cutI_ok (by omega) (by unfold lenI; omega) (by unfold lenI; omega)) (ite_t (ble_ok (by omega)) ?_))
  refine need_eq (and_ok (ble_ok (by show 0 + l.length * 1 ≤ _; omega)) rfl) (need_eq (bc_flat _) (need_eq f1 (need_eq f1 ?_)))
  refine ite_t (and_ok (by simp [eqB]) (and_ok (by rw [eqS_eq]; exact beq_self_eq_true _) (and_ok (by rw [eqS_eq]; exact beq_self_eq_true _) rfl))) (ite_t (by simp [eqI]) (ite_t (by simp [eqI]) ?_))
  refine need_eq f1 (need_eq (and_ok (ble_ok (by show 0 + (l.length + 3) * 1 ≤ _; omega)) rfl) (need_eq (bc_flat _) (need_eq (and_ok (ble_ok (by show 0 + (l.length + 3) * 1 ≤ _; omega)) rfl) (need_eq (bc_flat _) (need_eq (and_ok f2 f2) ?_)))))
  have : sameL (l ++ tailB) (l ++ tailB) = true := by simp [sameL]
  rw [this]
end Go.VS.Try
end

section
namespace Go.VS.Try
set_option linter.unusedSimpArgs false
set_option linter.unusedVariables false
set_option maxRecDepth 1000000
open Go.VS
noncomputable def ctS : Ct := symCt P
theorem ctS_ok : CtOk P ctS := symCt_ok noNum
noncomputable def ctAv (V : Nat → List UInt8) (C : Int → Bool) (O : Bool → ByteArray → ByteArray → Bool) : Ct := addCall P 33 (RcheckV O) (addCall P 34 (RcheckV O) (addCall P 61 (RappV V C) (addCall P 62 (RappV V C) ctS)))
noncomputable def ctA : Ct := ctAv varM u64B opOk
theorem ctA_ok : CtOk P ctA := addCall_ok (addCall_ok (addCall_ok (addCall_ok ctS_ok rapp_ok) app_ok) rCheck_ok) Check_ok
theorem dec_opApp (V : Nat → List UInt8) (C : Int → Bool) (O : Bool → ByteArray → ByteArray → Bool) (n b : Nat) (c : List Value) (p : Bool) (k v : ByteArray) : callQ P E (ctAv V C O) 50 29 [mkFz 1 n b c, .agg ⟨[.bool p, .string k, .string v]⟩] =
  (iteB (O p k v)
   (needB (List.all c Go.VS.oneCell)
    (needB (Bool.and (Nat.beq 0 0) (Bool.and (Nat.beq 0 0) (Nat.ble n 4194304)))
     (iteB p
      (needB (Nat.ble (Nat.add n 1) 4194304)
       (needB (Nat.beq (Nat.add 0 (Nat.mul n 1)) (List.length c))
        (needB (Bool.and (Nat.ble (Nat.add 0 (Nat.mul (Nat.add n 1) 1)) (List.length (List.append (Go.VS.oldC 0 c) [(Go.Value.int Go.IntKind.u8 (1 : Int))]))) (Nat.ble 1 1))
         (needB (Go.VS.flatL (Go.VS.takeC (Nat.mul (Nat.add n 1) 1) (Go.VS.dropC 0 (List.append (Go.VS.oldC 0 c) [(Go.Value.int Go.IntKind.u8 (1 : Int))]))))
          (needB (Bool.and (Go.VS.Try.fzB 18446744073709551617 (Nat.add n 1) (Go.VS.takeC (Nat.mul (Nat.add n 1) 1) (Go.VS.dropC 0 (List.append (Go.VS.oldC 0 c) [(Go.Value.int Go.IntKind.u8 (1 : Int))])))) (C (Go.VS.cvI Go.IntKind.u64 (Go.VS.lenI (ByteArray.size k)))))
           (needB (List.all (Go.byteCells k) Go.VS.oneCell)
            (needB (Nat.ble (Nat.add (List.length (HAppend.hAppend (List.map Go.VS.byteOf (Go.VS.takeC (Nat.mul (Nat.add n 1) 1) (Go.VS.dropC 0 (List.append (Go.VS.oldC 0 c) [(Go.Value.int Go.IntKind.u8 (1 : Int))])))) (V (Int.toNat (Go.VS.cvI Go.IntKind.u64 (Go.VS.lenI (ByteArray.size k))))))) (ByteArray.size k)) 4194304)
             (needB (Nat.beq (Nat.add 0 (Nat.mul (List.length (HAppend.hAppend (List.map Go.VS.byteOf (Go.VS.takeC (Nat.mul (Nat.add n 1) 1) (Go.VS.dropC 0 (List.append (Go.VS.oldC 0 c) [(Go.Value.int Go.IntKind.u8 (1 : Int))])))) (V (Int.toNat (Go.VS.cvI Go.IntKind.u64 (Go.VS.lenI (ByteArray.size k))))))) 1)) (List.length (Go.VS.renL Bool.false (Go.VS.shiftN 14) (Go.VS.bc (HAppend.hAppend (List.map Go.VS.byteOf (Go.VS.takeC (Nat.mul (Nat.add n 1) 1) (Go.VS.dropC 0 (List.append (Go.VS.oldC 0 c) [(Go.Value.int Go.IntKind.u8 (1 : Int))])))) (V (Int.toNat (Go.VS.cvI Go.IntKind.u64 (Go.VS.lenI (ByteArray.size k))))))))))
              (needB (Go.VS.beqV (Go.Value.agg (Array.mk [(Go.Value.bool p), (Go.Value.string k), (Go.Value.string v)])) (Go.Value.agg (Array.mk [(Go.Value.bool p), (Go.Value.string k), (Go.Value.string v)])))
               (needB (Go.VS.beqV (Go.Value.string k) (Go.Value.string k))
                (needB (Go.VS.beqV (Go.Value.string k) (Go.Value.string k))
                 (needB (Go.VS.beqV (Go.Value.string k) (Go.Value.string k))
                  (iteB p
                   (needB (Bool.and (Nat.ble (Nat.add 0 (Nat.mul (Nat.add (List.length (HAppend.hAppend (List.map Go.VS.byteOf (Go.VS.takeC (Nat.mul (Nat.add n 1) 1) (Go.VS.dropC 0 (List.append (Go.VS.oldC 0 c) [(Go.Value.int Go.IntKind.u8 (1 : Int))])))) (V (Int.toNat (Go.VS.cvI Go.IntKind.u64 (Go.VS.lenI (ByteArray.size k))))))) (ByteArray.size k)) 1)) (List.length (List.append (Go.VS.oldC 0 (Go.VS.renL Bool.false (Go.VS.shiftN 14) (Go.VS.bc (HAppend.hAppend (List.map Go.VS.byteOf (Go.VS.takeC (Nat.mul (Nat.add n 1) 1) (Go.VS.dropC 0 (List.append (Go.VS.oldC 0 c) [(Go.Value.int Go.IntKind.u8 (1 : Int))])))) (V (Int.toNat (Go.VS.cvI Go.IntKind.u64 (Go.VS.lenI (ByteArray.size k))))))))) (Go.byteCells k)))) (Nat.ble 1 1))
                    (needB (Go.VS.flatL (Go.VS.takeC (Nat.mul (Nat.add (List.length (HAppend.hAppend (List.map Go.VS.byteOf (Go.VS.takeC (Nat.mul (Nat.add n 1) 1) (Go.VS.dropC 0 (List.append (Go.VS.oldC 0 c) [(Go.Value.int Go.IntKind.u8 (1 : Int))])))) (V (Int.toNat (Go.VS.cvI Go.IntKind.u64 (Go.VS.lenI (ByteArray.size k))))))) (ByteArray.size k)) 1) (Go.VS.dropC 0 (List.append (Go.VS.oldC 0 (Go.VS.renL Bool.false (Go.VS.shiftN 14) (Go.VS.bc (HAppend.hAppend (List.map Go.VS.byteOf (Go.VS.takeC (Nat.mul (Nat.add n 1) 1) (Go.VS.dropC 0 (List.append (Go.VS.oldC 0 c) [(Go.Value.int Go.IntKind.u8 (1 : Int))])))) (V (Int.toNat (Go.VS.cvI Go.IntKind.u64 (Go.VS.lenI (ByteArray.size k))))))))) (Go.byteCells k)))))
                     (needB (Bool.and (Go.VS.Try.fzB 18446744073709551617 (Nat.add (List.length (HAppend.hAppend (List.map Go.VS.byteOf (Go.VS.takeC (Nat.mul (Nat.add n 1) 1) (Go.VS.dropC 0 (List.append (Go.VS.oldC 0 c) [(Go.Value.int Go.IntKind.u8 (1 : Int))])))) (V (Int.toNat (Go.VS.cvI Go.IntKind.u64 (Go.VS.lenI (ByteArray.size k))))))) (ByteArray.size k)) (Go.VS.takeC (Nat.mul (Nat.add (List.length (HAppend.hAppend (List.map Go.VS.byteOf (Go.VS.takeC (Nat.mul (Nat.add n 1) 1) (Go.VS.dropC 0 (List.append (Go.VS.oldC 0 c) [(Go.Value.int Go.IntKind.u8 (1 : Int))])))) (V (Int.toNat (Go.VS.cvI Go.IntKind.u64 (Go.VS.lenI (ByteArray.size k))))))) (ByteArray.size k)) 1) (Go.VS.dropC 0 (List.append (Go.VS.oldC 0 (Go.VS.renL Bool.false (Go.VS.shiftN 14) (Go.VS.bc (HAppend.hAppend (List.map Go.VS.byteOf (Go.VS.takeC (Nat.mul (Nat.add n 1) 1) (Go.VS.dropC 0 (List.append (Go.VS.oldC 0 c) [(Go.Value.int Go.IntKind.u8 (1 : Int))])))) (V (Int.toNat (Go.VS.cvI Go.IntKind.u64 (Go.VS.lenI (ByteArray.size k))))))))) (Go.byteCells k))))) (C (Go.VS.cvI Go.IntKind.u64 (Go.VS.lenI (ByteArray.size v)))))
                      (needB (List.all (Go.byteCells v) Go.VS.oneCell)
                       (needB (Nat.ble (Nat.add (List.length (HAppend.hAppend (List.map Go.VS.byteOf (Go.VS.takeC (Nat.mul (Nat.add (List.length (HAppend.hAppend (List.map Go.VS.byteOf (Go.VS.takeC (Nat.mul (Nat.add n 1) 1) (Go.VS.dropC 0 (List.append (Go.VS.oldC 0 c) [(Go.Value.int Go.IntKind.u8 (1 : Int))])))) (V (Int.toNat (Go.VS.cvI Go.IntKind.u64 (Go.VS.lenI (ByteArray.size k))))))) (ByteArray.size k)) 1) (Go.VS.dropC 0 (List.append (Go.VS.oldC 0 (Go.VS.renL Bool.false (Go.VS.shiftN 14) (Go.VS.bc (HAppend.hAppend (List.map Go.VS.byteOf (Go.VS.takeC (Nat.mul (Nat.add n 1) 1) (Go.VS.dropC 0 (List.append (Go.VS.oldC 0 c) [(Go.Value.int Go.IntKind.u8 (1 : Int))])))) (V (Int.toNat (Go.VS.cvI Go.IntKind.u64 (Go.VS.lenI (ByteArray.size k))))))))) (Go.byteCells k))))) (V (Int.toNat (Go.VS.cvI Go.IntKind.u64 (Go.VS.lenI (ByteArray.size v))))))) (ByteArray.size v)) 4194304)
                        (needB (Nat.beq (Nat.add 0 (Nat.mul (List.length (HAppend.hAppend (List.map Go.VS.byteOf (Go.VS.takeC (Nat.mul (Nat.add (List.length (HAppend.hAppend (List.map Go.VS.byteOf (Go.VS.takeC (Nat.mul (Nat.add n 1) 1) (Go.VS.dropC 0 (List.append (Go.VS.oldC 0 c) [(Go.Value.int Go.IntKind.u8 (1 : Int))])))) (V (Int.toNat (Go.VS.cvI Go.IntKind.u64 (Go.VS.lenI (ByteArray.size k))))))) (ByteArray.size k)) 1) (Go.VS.dropC 0 (List.append (Go.VS.oldC 0 (Go.VS.renL Bool.false (Go.VS.shiftN 14) (Go.VS.bc (HAppend.hAppend (List.map Go.VS.byteOf (Go.VS.takeC (Nat.mul (Nat.add n 1) 1) (Go.VS.dropC 0 (List.append (Go.VS.oldC 0 c) [(Go.Value.int Go.IntKind.u8 (1 : Int))])))) (V (Int.toNat (Go.VS.cvI Go.IntKind.u64 (Go.VS.lenI (ByteArray.size k))))))))) (Go.byteCells k))))) (V (Int.toNat (Go.VS.cvI Go.IntKind.u64 (Go.VS.lenI (ByteArray.size v))))))) 1)) (List.length (Go.VS.renL Bool.false (Go.VS.shiftN 16) (Go.VS.bc (HAppend.hAppend (List.map Go.VS.byteOf (Go.VS.takeC (Nat.mul (Nat.add (List.length (HAppend.hAppend (List.map Go.VS.byteOf (Go.VS.takeC (Nat.mul (Nat.add n 1) 1) (Go.VS.dropC 0 (List.append (Go.VS.oldC 0 c) [(Go.Value.int Go.IntKind.u8 (1 : Int))])))) (V (Int.toNat (Go.VS.cvI Go.IntKind.u64 (Go.VS.lenI (ByteArray.size k))))))) (ByteArray.size k)) 1) (Go.VS.dropC 0 (List.append (Go.VS.oldC 0 (Go.VS.renL Bool.false (Go.VS.shiftN 14) (Go.VS.bc (HAppend.hAppend (List.map Go.VS.byteOf (Go.VS.takeC (Nat.mul (Nat.add n 1) 1) (Go.VS.dropC 0 (List.append (Go.VS.oldC 0 c) [(Go.Value.int Go.IntKind.u8 (1 : Int))])))) (V (Int.toNat (Go.VS.cvI Go.IntKind.u64 (Go.VS.lenI (ByteArray.size k))))))))) (Go.byteCells k))))) (V (Int.toNat (Go.VS.cvI Go.IntKind.u64 (Go.VS.lenI (ByteArray.size v))))))))))
                         (some ((Go.Value.tuple (Array.mk [(Go.Value.slice (Option.some (Go.Addr.mk 0 0 none)) (Nat.add (List.length (HAppend.hAppend (List.map Go.VS.byteOf (Go.VS.takeC (Nat.mul (Nat.add (List.length (HAppend.hAppend (List.map Go.VS.byteOf (Go.VS.takeC (Nat.mul (Nat.add n 1) 1) (Go.VS.dropC 0 (List.append (Go.VS.oldC 0 c) [(Go.Value.int Go.IntKind.u8 (1 : Int))])))) (V (Int.toNat (Go.VS.cvI Go.IntKind.u64 (Go.VS.lenI (ByteArray.size k))))))) (ByteArray.size k)) 1) (Go.VS.dropC 0 (List.append (Go.VS.oldC 0 (Go.VS.renL Bool.false (Go.VS.shiftN 14) (Go.VS.bc (HAppend.hAppend (List.map Go.VS.byteOf (Go.VS.takeC (Nat.mul (Nat.add n 1) 1) (Go.VS.dropC 0 (List.append (Go.VS.oldC 0 c) [(Go.Value.int Go.IntKind.u8 (1 : Int))])))) (V (Int.toNat (Go.VS.cvI Go.IntKind.u64 (Go.VS.lenI (ByteArray.size k))))))))) (Go.byteCells k))))) (V (Int.toNat (Go.VS.cvI Go.IntKind.u64 (Go.VS.lenI (ByteArray.size v))))))) (ByteArray.size v)) 18446744073709551616), (Go.Value.int Go.IntKind.i64 (0 : Int))])), (Go.VS.mkSt [(Go.VS.Blk.cells (Go.VS.renL Bool.true (Go.VS.rhoO 0 [17]) (List.append (Go.VS.oldC 0 (Go.VS.renL Bool.false (Go.VS.shiftN 16) (Go.VS.bc (HAppend.hAppend (List.map Go.VS.byteOf (Go.VS.takeC (Nat.mul (Nat.add (List.length (HAppend.hAppend (List.map Go.VS.byteOf (Go.VS.takeC (Nat.mul (Nat.add n 1) 1) (Go.VS.dropC 0 (List.append (Go.VS.oldC 0 c) [(Go.Value.int Go.IntKind.u8 (1 : Int))])))) (V (Int.toNat (Go.VS.cvI Go.IntKind.u64 (Go.VS.lenI (ByteArray.size k))))))) (ByteArray.size k)) 1) (Go.VS.dropC 0 (List.append (Go.VS.oldC 0 (Go.VS.renL Bool.false (Go.VS.shiftN 14) (Go.VS.bc (HAppend.hAppend (List.map Go.VS.byteOf (Go.VS.takeC (Nat.mul (Nat.add n 1) 1) (Go.VS.dropC 0 (List.append (Go.VS.oldC 0 c) [(Go.Value.int Go.IntKind.u8 (1 : Int))])))) (V (Int.toNat (Go.VS.cvI Go.IntKind.u64 (Go.VS.lenI (ByteArray.size k))))))))) (Go.byteCells k))))) (V (Int.toNat (Go.VS.cvI Go.IntKind.u64 (Go.VS.lenI (ByteArray.size v))))))))) (Go.byteCells v))) 5 Bool.false)])))))))))
                   (some ((Go.Value.tuple (Array.mk [(Go.Value.slice (Option.some (Go.Addr.mk 0 0 none)) (Nat.add (List.length (HAppend.hAppend (List.map Go.VS.byteOf (Go.VS.takeC (Nat.mul (Nat.add n 1) 1) (Go.VS.dropC 0 (List.append (Go.VS.oldC 0 c) [(Go.Value.int Go.IntKind.u8 (1 : Int))])))) (V (Int.toNat (Go.VS.cvI Go.IntKind.u64 (Go.VS.lenI (ByteArray.size k))))))) (ByteArray.size k)) 18446744073709551616), (Go.Value.int Go.IntKind.i64 (0 : Int))])), (Go.VS.mkSt [(Go.VS.Blk.cells (Go.VS.renL Bool.true (Go.VS.rhoO 0 [15]) (List.append (Go.VS.oldC 0 (Go.VS.renL Bool.false (Go.VS.shiftN 14) (Go.VS.bc (HAppend.hAppend (List.map Go.VS.byteOf (Go.VS.takeC (Nat.mul (Nat.add n 1) 1) (Go.VS.dropC 0 (List.append (Go.VS.oldC 0 c) [(Go.Value.int Go.IntKind.u8 (1 : Int))])))) (V (Int.toNat (Go.VS.cvI Go.IntKind.u64 (Go.VS.lenI (ByteArray.size k))))))))) (Go.byteCells k))) 5 Bool.false)]))))))))))))))))
      (needB (Nat.ble (Nat.add n 1) 4194304)
       (needB (Nat.beq (Nat.add 0 (Nat.mul n 1)) (List.length c))
        (needB (Bool.and (Nat.ble (Nat.add 0 (Nat.mul (Nat.add n 1) 1)) (List.length (List.append (Go.VS.oldC 0 c) [(Go.Value.int Go.IntKind.u8 (0 : Int))]))) (Nat.ble 1 1))
         (needB (Go.VS.flatL (Go.VS.takeC (Nat.mul (Nat.add n 1) 1) (Go.VS.dropC 0 (List.append (Go.VS.oldC 0 c) [(Go.Value.int Go.IntKind.u8 (0 : Int))]))))
          (needB (Bool.and (Go.VS.Try.fzB 18446744073709551617 (Nat.add n 1) (Go.VS.takeC (Nat.mul (Nat.add n 1) 1) (Go.VS.dropC 0 (List.append (Go.VS.oldC 0 c) [(Go.Value.int Go.IntKind.u8 (0 : Int))])))) (C (Go.VS.cvI Go.IntKind.u64 (Go.VS.lenI (ByteArray.size k)))))
           (needB (List.all (Go.byteCells k) Go.VS.oneCell)
            (needB (Nat.ble (Nat.add (List.length (HAppend.hAppend (List.map Go.VS.byteOf (Go.VS.takeC (Nat.mul (Nat.add n 1) 1) (Go.VS.dropC 0 (List.append (Go.VS.oldC 0 c) [(Go.Value.int Go.IntKind.u8 (0 : Int))])))) (V (Int.toNat (Go.VS.cvI Go.IntKind.u64 (Go.VS.lenI (ByteArray.size k))))))) (ByteArray.size k)) 4194304)
             (needB (Nat.beq (Nat.add 0 (Nat.mul (List.length (HAppend.hAppend (List.map Go.VS.byteOf (Go.VS.takeC (Nat.mul (Nat.add n 1) 1) (Go.VS.dropC 0 (List.append (Go.VS.oldC 0 c) [(Go.Value.int Go.IntKind.u8 (0 : Int))])))) (V (Int.toNat (Go.VS.cvI Go.IntKind.u64 (Go.VS.lenI (ByteArray.size k))))))) 1)) (List.length (Go.VS.renL Bool.false (Go.VS.shiftN 14) (Go.VS.bc (HAppend.hAppend (List.map Go.VS.byteOf (Go.VS.takeC (Nat.mul (Nat.add n 1) 1) (Go.VS.dropC 0 (List.append (Go.VS.oldC 0 c) [(Go.Value.int Go.IntKind.u8 (0 : Int))])))) (V (Int.toNat (Go.VS.cvI Go.IntKind.u64 (Go.VS.lenI (ByteArray.size k))))))))))
              (needB (Go.VS.beqV (Go.Value.agg (Array.mk [(Go.Value.bool p), (Go.Value.string k), (Go.Value.string v)])) (Go.Value.agg (Array.mk [(Go.Value.bool p), (Go.Value.string k), (Go.Value.string v)])))
               (needB (Go.VS.beqV (Go.Value.string k) (Go.Value.string k))
                (needB (Go.VS.beqV (Go.Value.string k) (Go.Value.string k))
                 (needB (Go.VS.beqV (Go.Value.string k) (Go.Value.string k))
                  (iteB p
                   (needB (Bool.and (Nat.ble (Nat.add 0 (Nat.mul (Nat.add (List.length (HAppend.hAppend (List.map Go.VS.byteOf (Go.VS.takeC (Nat.mul (Nat.add n 1) 1) (Go.VS.dropC 0 (List.append (Go.VS.oldC 0 c) [(Go.Value.int Go.IntKind.u8 (0 : Int))])))) (V (Int.toNat (Go.VS.cvI Go.IntKind.u64 (Go.VS.lenI (ByteArray.size k))))))) (ByteArray.size k)) 1)) (List.length (List.append (Go.VS.oldC 0 (Go.VS.renL Bool.false (Go.VS.shiftN 14) (Go.VS.bc (HAppend.hAppend (List.map Go.VS.byteOf (Go.VS.takeC (Nat.mul (Nat.add n 1) 1) (Go.VS.dropC 0 (List.append (Go.VS.oldC 0 c) [(Go.Value.int Go.IntKind.u8 (0 : Int))])))) (V (Int.toNat (Go.VS.cvI Go.IntKind.u64 (Go.VS.lenI (ByteArray.size k))))))))) (Go.byteCells k)))) (Nat.ble 1 1))
                    (needB (Go.VS.flatL (Go.VS.takeC (Nat.mul (Nat.add (List.length (HAppend.hAppend (List.map Go.VS.byteOf (Go.VS.takeC (Nat.mul (Nat.add n 1) 1) (Go.VS.dropC 0 (List.append (Go.VS.oldC 0 c) [(Go.Value.int Go.IntKind.u8 (0 : Int))])))) (V (Int.toNat (Go.VS.cvI Go.IntKind.u64 (Go.VS.lenI (ByteArray.size k))))))) (ByteArray.size k)) 1) (Go.VS.dropC 0 (List.append (Go.VS.oldC 0 (Go.VS.renL Bool.false (Go.VS.shiftN 14) (Go.VS.bc (HAppend.hAppend (List.map Go.VS.byteOf (Go.VS.takeC (Nat.mul (Nat.add n 1) 1) (Go.VS.dropC 0 (List.append (Go.VS.oldC 0 c) [(Go.Value.int Go.IntKind.u8 (0 : Int))])))) (V (Int.toNat (Go.VS.cvI Go.IntKind.u64 (Go.VS.lenI (ByteArray.size k))))))))) (Go.byteCells k)))))
                     (needB (Bool.and (Go.VS.Try.fzB 18446744073709551617 (Nat.add (List.length (HAppend.hAppend (List.map Go.VS.byteOf (Go.VS.takeC (Nat.mul (Nat.add n 1) 1) (Go.VS.dropC 0 (List.append (Go.VS.oldC 0 c) [(Go.Value.int Go.IntKind.u8 (0 : Int))])))) (V (Int.toNat (Go.VS.cvI Go.IntKind.u64 (Go.VS.lenI (ByteArray.size k))))))) (ByteArray.size k)) (Go.VS.takeC (Nat.mul (Nat.add (List.length (HAppend.hAppend (List.map Go.VS.byteOf (Go.VS.takeC (Nat.mul (Nat.add n 1) 1) (Go.VS.dropC 0 (List.append (Go.VS.oldC 0 c) [(Go.Value.int Go.IntKind.u8 (0 : Int))])))) (V (Int.toNat (Go.VS.cvI Go.IntKind.u64 (Go.VS.lenI (ByteArray.size k))))))) (ByteArray.size k)) 1) (Go.VS.dropC 0 (List.append (Go.VS.oldC 0 (Go.VS.renL Bool.false (Go.VS.shiftN 14) (Go.VS.bc (HAppend.hAppend (List.map Go.VS.byteOf (Go.VS.takeC (Nat.mul (Nat.add n 1) 1) (Go.VS.dropC 0 (List.append (Go.VS.oldC 0 c) [(Go.Value.int Go.IntKind.u8 (0 : Int))])))) (V (Int.toNat (Go.VS.cvI Go.IntKind.u64 (Go.VS.lenI (ByteArray.size k))))))))) (Go.byteCells k))))) (C (Go.VS.cvI Go.IntKind.u64 (Go.VS.lenI (ByteArray.size v)))))
                      (needB (List.all (Go.byteCells v) Go.VS.oneCell)
                       (needB (Nat.ble (Nat.add (List.length (HAppend.hAppend (List.map Go.VS.byteOf (Go.VS.takeC (Nat.mul (Nat.add (List.length (HAppend.hAppend (List.map Go.VS.byteOf (Go.VS.takeC (Nat.mul (Nat.add n 1) 1) (Go.VS.dropC 0 (List.append (Go.VS.oldC 0 c) [(Go.Value.int Go.IntKind.u8 (0 : Int))])))) (V (Int.toNat (Go.VS.cvI Go.IntKind.u64 (Go.VS.lenI (ByteArray.size k))))))) (ByteArray.size k)) 1) (Go.VS.dropC 0 (List.append (Go.VS.oldC 0 (Go.VS.renL Bool.false (Go.VS.shiftN 14) (Go.VS.bc (HAppend.hAppend (List.map Go.VS.byteOf (Go.VS.takeC (Nat.mul (Nat.add n 1) 1) (Go.VS.dropC 0 (List.append (Go.VS.oldC 0 c) [(Go.Value.int Go.IntKind.u8 (0 : Int))])))) (V (Int.toNat (Go.VS.cvI Go.IntKind.u64 (Go.VS.lenI (ByteArray.size k))))))))) (Go.byteCells k))))) (V (Int.toNat (Go.VS.cvI Go.IntKind.u64 (Go.VS.lenI (ByteArray.size v))))))) (ByteArray.size v)) 4194304)
                        (needB (Nat.beq (Nat.add 0 (Nat.mul (List.length (HAppend.hAppend (List.map Go.VS.byteOf (Go.VS.takeC (Nat.mul (Nat.add (List.length (HAppend.hAppend (List.map Go.VS.byteOf (Go.VS.takeC (Nat.mul (Nat.add n 1) 1) (Go.VS.dropC 0 (List.append (Go.VS.oldC 0 c) [(Go.Value.int Go.IntKind.u8 (0 : Int))])))) (V (Int.toNat (Go.VS.cvI Go.IntKind.u64 (Go.VS.lenI (ByteArray.size k))))))) (ByteArray.size k)) 1) (Go.VS.dropC 0 (List.append (Go.VS.oldC 0 (Go.VS.renL Bool.false (Go.VS.shiftN 14) (Go.VS.bc (HAppend.hAppend (List.map Go.VS.byteOf (Go.VS.takeC (Nat.mul (Nat.add n 1) 1) (Go.VS.dropC 0 (List.append (Go.VS.oldC 0 c) [(Go.Value.int Go.IntKind.u8 (0 : Int))])))) (V (Int.toNat (Go.VS.cvI Go.IntKind.u64 (Go.VS.lenI (ByteArray.size k))))))))) (Go.byteCells k))))) (V (Int.toNat (Go.VS.cvI Go.IntKind.u64 (Go.VS.lenI (ByteArray.size v))))))) 1)) (List.length (Go.VS.renL Bool.false (Go.VS.shiftN 16) (Go.VS.bc (HAppend.hAppend (List.map Go.VS.byteOf (Go.VS.takeC (Nat.mul (Nat.add (List.length (HAppend.hAppend (List.map Go.VS.byteOf (Go.VS.takeC (Nat.mul (Nat.add n 1) 1) (Go.VS.dropC 0 (List.append (Go.VS.oldC 0 c) [(Go.Value.int Go.IntKind.u8 (0 : Int))])))) (V (Int.toNat (Go.VS.cvI Go.IntKind.u64 (Go.VS.lenI (ByteArray.size k))))))) (ByteArray.size k)) 1) (Go.VS.dropC 0 (List.append (Go.VS.oldC 0 (Go.VS.renL Bool.false (Go.VS.shiftN 14) (Go.VS.bc (HAppend.hAppend (List.map Go.VS.byteOf (Go.VS.takeC (Nat.mul (Nat.add n 1) 1) (Go.VS.dropC 0 (List.append (Go.VS.oldC 0 c) [(Go.Value.int Go.IntKind.u8 (0 : Int))])))) (V (Int.toNat (Go.VS.cvI Go.IntKind.u64 (Go.VS.lenI (ByteArray.size k))))))))) (Go.byteCells k))))) (V (Int.toNat (Go.VS.cvI Go.IntKind.u64 (Go.VS.lenI (ByteArray.size v))))))))))
                         (some ((Go.Value.tuple (Array.mk [(Go.Value.slice (Option.some (Go.Addr.mk 0 0 none)) (Nat.add (List.length (HAppend.hAppend (List.map Go.VS.byteOf (Go.VS.takeC (Nat.mul (Nat.add (List.length (HAppend.hAppend (List.map Go.VS.byteOf (Go.VS.takeC (Nat.mul (Nat.add n 1) 1) (Go.VS.dropC 0 (List.append (Go.VS.oldC 0 c) [(Go.Value.int Go.IntKind.u8 (0 : Int))])))) (V (Int.toNat (Go.VS.cvI Go.IntKind.u64 (Go.VS.lenI (ByteArray.size k))))))) (ByteArray.size k)) 1) (Go.VS.dropC 0 (List.append (Go.VS.oldC 0 (Go.VS.renL Bool.false (Go.VS.shiftN 14) (Go.VS.bc (HAppend.hAppend (List.map Go.VS.byteOf (Go.VS.takeC (Nat.mul (Nat.add n 1) 1) (Go.VS.dropC 0 (List.append (Go.VS.oldC 0 c) [(Go.Value.int Go.IntKind.u8 (0 : Int))])))) (V (Int.toNat (Go.VS.cvI Go.IntKind.u64 (Go.VS.lenI (ByteArray.size k))))))))) (Go.byteCells k))))) (V (Int.toNat (Go.VS.cvI Go.IntKind.u64 (Go.VS.lenI (ByteArray.size v))))))) (ByteArray.size v)) 18446744073709551616), (Go.Value.int Go.IntKind.i64 (0 : Int))])), (Go.VS.mkSt [(Go.VS.Blk.cells (Go.VS.renL Bool.true (Go.VS.rhoO 0 [17]) (List.append (Go.VS.oldC 0 (Go.VS.renL Bool.false (Go.VS.shiftN 16) (Go.VS.bc (HAppend.hAppend (List.map Go.VS.byteOf (Go.VS.takeC (Nat.mul (Nat.add (List.length (HAppend.hAppend (List.map Go.VS.byteOf (Go.VS.takeC (Nat.mul (Nat.add n 1) 1) (Go.VS.dropC 0 (List.append (Go.VS.oldC 0 c) [(Go.Value.int Go.IntKind.u8 (0 : Int))])))) (V (Int.toNat (Go.VS.cvI Go.IntKind.u64 (Go.VS.lenI (ByteArray.size k))))))) (ByteArray.size k)) 1) (Go.VS.dropC 0 (List.append (Go.VS.oldC 0 (Go.VS.renL Bool.false (Go.VS.shiftN 14) (Go.VS.bc (HAppend.hAppend (List.map Go.VS.byteOf (Go.VS.takeC (Nat.mul (Nat.add n 1) 1) (Go.VS.dropC 0 (List.append (Go.VS.oldC 0 c) [(Go.Value.int Go.IntKind.u8 (0 : Int))])))) (V (Int.toNat (Go.VS.cvI Go.IntKind.u64 (Go.VS.lenI (ByteArray.size k))))))))) (Go.byteCells k))))) (V (Int.toNat (Go.VS.cvI Go.IntKind.u64 (Go.VS.lenI (ByteArray.size v))))))))) (Go.byteCells v))) 5 Bool.false)])))))))))
                   (some ((Go.Value.tuple (Array.mk [(Go.Value.slice (Option.some (Go.Addr.mk 0 0 none)) (Nat.add (List.length (HAppend.hAppend (List.map Go.VS.byteOf (Go.VS.takeC (Nat.mul (Nat.add n 1) 1) (Go.VS.dropC 0 (List.append (Go.VS.oldC 0 c) [(Go.Value.int Go.IntKind.u8 (0 : Int))])))) (V (Int.toNat (Go.VS.cvI Go.IntKind.u64 (Go.VS.lenI (ByteArray.size k))))))) (ByteArray.size k)) 18446744073709551616), (Go.Value.int Go.IntKind.i64 (0 : Int))])), (Go.VS.mkSt [(Go.VS.Blk.cells (Go.VS.renL Bool.true (Go.VS.rhoO 0 [15]) (List.append (Go.VS.oldC 0 (Go.VS.renL Bool.false (Go.VS.shiftN 14) (Go.VS.bc (HAppend.hAppend (List.map Go.VS.byteOf (Go.VS.takeC (Nat.mul (Nat.add n 1) 1) (Go.VS.dropC 0 (List.append (Go.VS.oldC 0 c) [(Go.Value.int Go.IntKind.u8 (0 : Int))])))) (V (Int.toNat (Go.VS.cvI Go.IntKind.u64 (Go.VS.lenI (ByteArray.size k))))))))) (Go.byteCells k))) 5 Bool.false)])))))))))))))))))))
   (some ((Go.Value.tuple (Array.mk [(Go.Value.slice none 0 0), (Go.Value.int Go.IntKind.i64 (2 : Int))])), (Go.VS.mkSt [])))) := by kernel_rfl
theorem dec_rOpApp (V : Nat → List UInt8) (C : Int → Bool) (O : Bool → ByteArray → ByteArray → Bool) (n b : Nat) (c : List Value) (p : Bool) (k v : ByteArray) : callQ P E (ctAv V C O) 50 30 [mkFz 1 n b c, .agg ⟨[.bool p, .string k, .string v]⟩] =
  (iteB (O p k v)
   (needB (List.all c Go.VS.oneCell)
    (needB (Bool.and (Nat.beq 0 0) (Bool.and (Nat.beq 0 0) (Nat.ble n 4194304)))
     (iteB p
      (needB (Nat.ble (Nat.add n 1) 4194304)
       (needB (Nat.beq (Nat.add 0 (Nat.mul n 1)) (List.length c))
        (needB (Bool.and (Nat.ble (Nat.add 0 (Nat.mul (Nat.add n 1) 1)) (List.length (List.append (Go.VS.oldC 0 c) [(Go.Value.int Go.IntKind.u8 (1 : Int))]))) (Nat.ble 1 1))
         (needB (Go.VS.flatL (Go.VS.takeC (Nat.mul (Nat.add n 1) 1) (Go.VS.dropC 0 (List.append (Go.VS.oldC 0 c) [(Go.Value.int Go.IntKind.u8 (1 : Int))]))))
          (needB (Bool.and (Go.VS.Try.fzB 18446744073709551617 (Nat.add n 1) (Go.VS.takeC (Nat.mul (Nat.add n 1) 1) (Go.VS.dropC 0 (List.append (Go.VS.oldC 0 c) [(Go.Value.int Go.IntKind.u8 (1 : Int))])))) (C (Go.VS.cvI Go.IntKind.u64 (Go.VS.lenI (ByteArray.size k)))))
           (needB (List.all (Go.byteCells k) Go.VS.oneCell)
            (needB (Nat.ble (Nat.add (List.length (HAppend.hAppend (List.map Go.VS.byteOf (Go.VS.takeC (Nat.mul (Nat.add n 1) 1) (Go.VS.dropC 0 (List.append (Go.VS.oldC 0 c) [(Go.Value.int Go.IntKind.u8 (1 : Int))])))) (V (Int.toNat (Go.VS.cvI Go.IntKind.u64 (Go.VS.lenI (ByteArray.size k))))))) (ByteArray.size k)) 4194304)
             (needB (Nat.beq (Nat.add 0 (Nat.mul (List.length (HAppend.hAppend (List.map Go.VS.byteOf (Go.VS.takeC (Nat.mul (Nat.add n 1) 1) (Go.VS.dropC 0 (List.append (Go.VS.oldC 0 c) [(Go.Value.int Go.IntKind.u8 (1 : Int))])))) (V (Int.toNat (Go.VS.cvI Go.IntKind.u64 (Go.VS.lenI (ByteArray.size k))))))) 1)) (List.length (Go.VS.renL Bool.false (Go.VS.shiftN 4) (Go.VS.bc (HAppend.hAppend (List.map Go.VS.byteOf (Go.VS.takeC (Nat.mul (Nat.add n 1) 1) (Go.VS.dropC 0 (List.append (Go.VS.oldC 0 c) [(Go.Value.int Go.IntKind.u8 (1 : Int))])))) (V (Int.toNat (Go.VS.cvI Go.IntKind.u64 (Go.VS.lenI (ByteArray.size k))))))))))
              (iteB p
               (needB (Bool.and (Nat.ble (Nat.add 0 (Nat.mul (Nat.add (List.length (HAppend.hAppend (List.map Go.VS.byteOf (Go.VS.takeC (Nat.mul (Nat.add n 1) 1) (Go.VS.dropC 0 (List.append (Go.VS.oldC 0 c) [(Go.Value.int Go.IntKind.u8 (1 : Int))])))) (V (Int.toNat (Go.VS.cvI Go.IntKind.u64 (Go.VS.lenI (ByteArray.size k))))))) (ByteArray.size k)) 1)) (List.length (List.append (Go.VS.oldC 0 (Go.VS.renL Bool.false (Go.VS.shiftN 4) (Go.VS.bc (HAppend.hAppend (List.map Go.VS.byteOf (Go.VS.takeC (Nat.mul (Nat.add n 1) 1) (Go.VS.dropC 0 (List.append (Go.VS.oldC 0 c) [(Go.Value.int Go.IntKind.u8 (1 : Int))])))) (V (Int.toNat (Go.VS.cvI Go.IntKind.u64 (Go.VS.lenI (ByteArray.size k))))))))) (Go.byteCells k)))) (Nat.ble 1 1))
                (needB (Go.VS.flatL (Go.VS.takeC (Nat.mul (Nat.add (List.length (HAppend.hAppend (List.map Go.VS.byteOf (Go.VS.takeC (Nat.mul (Nat.add n 1) 1) (Go.VS.dropC 0 (List.append (Go.VS.oldC 0 c) [(Go.Value.int Go.IntKind.u8 (1 : Int))])))) (V (Int.toNat (Go.VS.cvI Go.IntKind.u64 (Go.VS.lenI (ByteArray.size k))))))) (ByteArray.size k)) 1) (Go.VS.dropC 0 (List.append (Go.VS.oldC 0 (Go.VS.renL Bool.false (Go.VS.shiftN 4) (Go.VS.bc (HAppend.hAppend (List.map Go.VS.byteOf (Go.VS.takeC (Nat.mul (Nat.add n 1) 1) (Go.VS.dropC 0 (List.append (Go.VS.oldC 0 c) [(Go.Value.int Go.IntKind.u8 (1 : Int))])))) (V (Int.toNat (Go.VS.cvI Go.IntKind.u64 (Go.VS.lenI (ByteArray.size k))))))))) (Go.byteCells k)))))
                 (needB (Bool.and (Go.VS.Try.fzB 18446744073709551617 (Nat.add (List.length (HAppend.hAppend (List.map Go.VS.byteOf (Go.VS.takeC (Nat.mul (Nat.add n 1) 1) (Go.VS.dropC 0 (List.append (Go.VS.oldC 0 c) [(Go.Value.int Go.IntKind.u8 (1 : Int))])))) (V (Int.toNat (Go.VS.cvI Go.IntKind.u64 (Go.VS.lenI (ByteArray.size k))))))) (ByteArray.size k)) (Go.VS.takeC (Nat.mul (Nat.add (List.length (HAppend.hAppend (List.map Go.VS.byteOf (Go.VS.takeC (Nat.mul (Nat.add n 1) 1) (Go.VS.dropC 0 (List.append (Go.VS.oldC 0 c) [(Go.Value.int Go.IntKind.u8 (1 : Int))])))) (V (Int.toNat (Go.VS.cvI Go.IntKind.u64 (Go.VS.lenI (ByteArray.size k))))))) (ByteArray.size k)) 1) (Go.VS.dropC 0 (List.append (Go.VS.oldC 0 (Go.VS.renL Bool.false (Go.VS.shiftN 4) (Go.VS.bc (HAppend.hAppend (List.map Go.VS.byteOf (Go.VS.takeC (Nat.mul (Nat.add n 1) 1) (Go.VS.dropC 0 (List.append (Go.VS.oldC 0 c) [(Go.Value.int Go.IntKind.u8 (1 : Int))])))) (V (Int.toNat (Go.VS.cvI Go.IntKind.u64 (Go.VS.lenI (ByteArray.size k))))))))) (Go.byteCells k))))) (C (Go.VS.cvI Go.IntKind.u64 (Go.VS.lenI (ByteArray.size v)))))
                  (needB (List.all (Go.byteCells v) Go.VS.oneCell)
                   (needB (Nat.ble (Nat.add (List.length (HAppend.hAppend (List.map Go.VS.byteOf (Go.VS.takeC (Nat.mul (Nat.add (List.length (HAppend.hAppend (List.map Go.VS.byteOf (Go.VS.takeC (Nat.mul (Nat.add n 1) 1) (Go.VS.dropC 0 (List.append (Go.VS.oldC 0 c) [(Go.Value.int Go.IntKind.u8 (1 : Int))])))) (V (Int.toNat (Go.VS.cvI Go.IntKind.u64 (Go.VS.lenI (ByteArray.size k))))))) (ByteArray.size k)) 1) (Go.VS.dropC 0 (List.append (Go.VS.oldC 0 (Go.VS.renL Bool.false (Go.VS.shiftN 4) (Go.VS.bc (HAppend.hAppend (List.map Go.VS.byteOf (Go.VS.takeC (Nat.mul (Nat.add n 1) 1) (Go.VS.dropC 0 (List.append (Go.VS.oldC 0 c) [(Go.Value.int Go.IntKind.u8 (1 : Int))])))) (V (Int.toNat (Go.VS.cvI Go.IntKind.u64 (Go.VS.lenI (ByteArray.size k))))))))) (Go.byteCells k))))) (V (Int.toNat (Go.VS.cvI Go.IntKind.u64 (Go.VS.lenI (ByteArray.size v))))))) (ByteArray.size v)) 4194304)
                    (needB (Nat.beq (Nat.add 0 (Nat.mul (List.length (HAppend.hAppend (List.map Go.VS.byteOf (Go.VS.takeC (Nat.mul (Nat.add (List.length (HAppend.hAppend (List.map Go.VS.byteOf (Go.VS.takeC (Nat.mul (Nat.add n 1) 1) (Go.VS.dropC 0 (List.append (Go.VS.oldC 0 c) [(Go.Value.int Go.IntKind.u8 (1 : Int))])))) (V (Int.toNat (Go.VS.cvI Go.IntKind.u64 (Go.VS.lenI (ByteArray.size k))))))) (ByteArray.size k)) 1) (Go.VS.dropC 0 (List.append (Go.VS.oldC 0 (Go.VS.renL Bool.false (Go.VS.shiftN 4) (Go.VS.bc (HAppend.hAppend (List.map Go.VS.byteOf (Go.VS.takeC (Nat.mul (Nat.add n 1) 1) (Go.VS.dropC 0 (List.append (Go.VS.oldC 0 c) [(Go.Value.int Go.IntKind.u8 (1 : Int))])))) (V (Int.toNat (Go.VS.cvI Go.IntKind.u64 (Go.VS.lenI (ByteArray.size k))))))))) (Go.byteCells k))))) (V (Int.toNat (Go.VS.cvI Go.IntKind.u64 (Go.VS.lenI (ByteArray.size v))))))) 1)) (List.length (Go.VS.renL Bool.false (Go.VS.shiftN 6) (Go.VS.bc (HAppend.hAppend (List.map Go.VS.byteOf (Go.VS.takeC (Nat.mul (Nat.add (List.length (HAppend.hAppend (List.map Go.VS.byteOf (Go.VS.takeC (Nat.mul (Nat.add n 1) 1) (Go.VS.dropC 0 (List.append (Go.VS.oldC 0 c) [(Go.Value.int Go.IntKind.u8 (1 : Int))])))) (V (Int.toNat (Go.VS.cvI Go.IntKind.u64 (Go.VS.lenI (ByteArray.size k))))))) (ByteArray.size k)) 1) (Go.VS.dropC 0 (List.append (Go.VS.oldC 0 (Go.VS.renL Bool.false (Go.VS.shiftN 4) (Go.VS.bc (HAppend.hAppend (List.map Go.VS.byteOf (Go.VS.takeC (Nat.mul (Nat.add n 1) 1) (Go.VS.dropC 0 (List.append (Go.VS.oldC 0 c) [(Go.Value.int Go.IntKind.u8 (1 : Int))])))) (V (Int.toNat (Go.VS.cvI Go.IntKind.u64 (Go.VS.lenI (ByteArray.size k))))))))) (Go.byteCells k))))) (V (Int.toNat (Go.VS.cvI Go.IntKind.u64 (Go.VS.lenI (ByteArray.size v))))))))))
                     (some ((Go.Value.tuple (Array.mk [(Go.Value.slice (Option.some (Go.Addr.mk 0 0 none)) (Nat.add (List.length (HAppend.hAppend (List.map Go.VS.byteOf (Go.VS.takeC (Nat.mul (Nat.add (List.length (HAppend.hAppend (List.map Go.VS.byteOf (Go.VS.takeC (Nat.mul (Nat.add n 1) 1) (Go.VS.dropC 0 (List.append (Go.VS.oldC 0 c) [(Go.Value.int Go.IntKind.u8 (1 : Int))])))) (V (Int.toNat (Go.VS.cvI Go.IntKind.u64 (Go.VS.lenI (ByteArray.size k))))))) (ByteArray.size k)) 1) (Go.VS.dropC 0 (List.append (Go.VS.oldC 0 (Go.VS.renL Bool.false (Go.VS.shiftN 4) (Go.VS.bc (HAppend.hAppend (List.map Go.VS.byteOf (Go.VS.takeC (Nat.mul (Nat.add n 1) 1) (Go.VS.dropC 0 (List.append (Go.VS.oldC 0 c) [(Go.Value.int Go.IntKind.u8 (1 : Int))])))) (V (Int.toNat (Go.VS.cvI Go.IntKind.u64 (Go.VS.lenI (ByteArray.size k))))))))) (Go.byteCells k))))) (V (Int.toNat (Go.VS.cvI Go.IntKind.u64 (Go.VS.lenI (ByteArray.size v))))))) (ByteArray.size v)) 18446744073709551616), (Go.Value.int Go.IntKind.i64 (0 : Int))])), (Go.VS.mkSt [(Go.VS.Blk.cells (Go.VS.renL Bool.true (Go.VS.rhoO 0 [7]) (List.append (Go.VS.oldC 0 (Go.VS.renL Bool.false (Go.VS.shiftN 6) (Go.VS.bc (HAppend.hAppend (List.map Go.VS.byteOf (Go.VS.takeC (Nat.mul (Nat.add (List.length (HAppend.hAppend (List.map Go.VS.byteOf (Go.VS.takeC (Nat.mul (Nat.add n 1) 1) (Go.VS.dropC 0 (List.append (Go.VS.oldC 0 c) [(Go.Value.int Go.IntKind.u8 (1 : Int))])))) (V (Int.toNat (Go.VS.cvI Go.IntKind.u64 (Go.VS.lenI (ByteArray.size k))))))) (ByteArray.size k)) 1) (Go.VS.dropC 0 (List.append (Go.VS.oldC 0 (Go.VS.renL Bool.false (Go.VS.shiftN 4) (Go.VS.bc (HAppend.hAppend (List.map Go.VS.byteOf (Go.VS.takeC (Nat.mul (Nat.add n 1) 1) (Go.VS.dropC 0 (List.append (Go.VS.oldC 0 c) [(Go.Value.int Go.IntKind.u8 (1 : Int))])))) (V (Int.toNat (Go.VS.cvI Go.IntKind.u64 (Go.VS.lenI (ByteArray.size k))))))))) (Go.byteCells k))))) (V (Int.toNat (Go.VS.cvI Go.IntKind.u64 (Go.VS.lenI (ByteArray.size v))))))))) (Go.byteCells v))) 5 Bool.false)])))))))))
               (some ((Go.Value.tuple (Array.mk [(Go.Value.slice (Option.some (Go.Addr.mk 0 0 none)) (Nat.add (List.length (HAppend.hAppend (List.map Go.VS.byteOf (Go.VS.takeC (Nat.mul (Nat.add n 1) 1) (Go.VS.dropC 0 (List.append (Go.VS.oldC 0 c) [(Go.Value.int Go.IntKind.u8 (1 : Int))])))) (V (Int.toNat (Go.VS.cvI Go.IntKind.u64 (Go.VS.lenI (ByteArray.size k))))))) (ByteArray.size k)) 18446744073709551616), (Go.Value.int Go.IntKind.i64 (0 : Int))])), (Go.VS.mkSt [(Go.VS.Blk.cells (Go.VS.renL Bool.true (Go.VS.rhoO 0 [5]) (List.append (Go.VS.oldC 0 (Go.VS.renL Bool.false (Go.VS.shiftN 4) (Go.VS.bc (HAppend.hAppend (List.map Go.VS.byteOf (Go.VS.takeC (Nat.mul (Nat.add n 1) 1) (Go.VS.dropC 0 (List.append (Go.VS.oldC 0 c) [(Go.Value.int Go.IntKind.u8 (1 : Int))])))) (V (Int.toNat (Go.VS.cvI Go.IntKind.u64 (Go.VS.lenI (ByteArray.size k))))))))) (Go.byteCells k))) 5 Bool.false)]))))))))))))
      (needB (Nat.ble (Nat.add n 1) 4194304)
       (needB (Nat.beq (Nat.add 0 (Nat.mul n 1)) (List.length c))
        (needB (Bool.and (Nat.ble (Nat.add 0 (Nat.mul (Nat.add n 1) 1)) (List.length (List.append (Go.VS.oldC 0 c) [(Go.Value.int Go.IntKind.u8 (0 : Int))]))) (Nat.ble 1 1))
         (needB (Go.VS.flatL (Go.VS.takeC (Nat.mul (Nat.add n 1) 1) (Go.VS.dropC 0 (List.append (Go.VS.oldC 0 c) [(Go.Value.int Go.IntKind.u8 (0 : Int))]))))
          (needB (Bool.and (Go.VS.Try.fzB 18446744073709551617 (Nat.add n 1) (Go.VS.takeC (Nat.mul (Nat.add n 1) 1) (Go.VS.dropC 0 (List.append (Go.VS.oldC 0 c) [(Go.Value.int Go.IntKind.u8 (0 : Int))])))) (C (Go.VS.cvI Go.IntKind.u64 (Go.VS.lenI (ByteArray.size k)))))
           (needB (List.all (Go.byteCells k) Go.VS.oneCell)
            (needB (Nat.ble (Nat.add (List.length (HAppend.hAppend (List.map Go.VS.byteOf (Go.VS.takeC (Nat.mul (Nat.add n 1) 1) (Go.VS.dropC 0 (List.append (Go.VS.oldC 0 c) [(Go.Value.int Go.IntKind.u8 (0 : Int))])))) (V (Int.toNat (Go.VS.cvI Go.IntKind.u64 (Go.VS.lenI (ByteArray.size k))))))) (ByteArray.size k)) 4194304)
             (needB (Nat.beq (Nat.add 0 (Nat.mul (List.length (HAppend.hAppend (List.map Go.VS.byteOf (Go.VS.takeC (Nat.mul (Nat.add n 1) 1) (Go.VS.dropC 0 (List.append (Go.VS.oldC 0 c) [(Go.Value.int Go.IntKind.u8 (0 : Int))])))) (V (Int.toNat (Go.VS.cvI Go.IntKind.u64 (Go.VS.lenI (ByteArray.size k))))))) 1)) (List.length (Go.VS.renL Bool.false (Go.VS.shiftN 4) (Go.VS.bc (HAppend.hAppend (List.map Go.VS.byteOf (Go.VS.takeC (Nat.mul (Nat.add n 1) 1) (Go.VS.dropC 0 (List.append (Go.VS.oldC 0 c) [(Go.Value.int Go.IntKind.u8 (0 : Int))])))) (V (Int.toNat (Go.VS.cvI Go.IntKind.u64 (Go.VS.lenI (ByteArray.size k))))))))))
              (iteB p
               (needB (Bool.and (Nat.ble (Nat.add 0 (Nat.mul (Nat.add (List.length (HAppend.hAppend (List.map Go.VS.byteOf (Go.VS.takeC (Nat.mul (Nat.add n 1) 1) (Go.VS.dropC 0 (List.append (Go.VS.oldC 0 c) [(Go.Value.int Go.IntKind.u8 (0 : Int))])))) (V (Int.toNat (Go.VS.cvI Go.IntKind.u64 (Go.VS.lenI (ByteArray.size k))))))) (ByteArray.size k)) 1)) (List.length (List.append (Go.VS.oldC 0 (Go.VS.renL Bool.false (Go.VS.shiftN 4) (Go.VS.bc (HAppend.hAppend (List.map Go.VS.byteOf (Go.VS.takeC (Nat.mul (Nat.add n 1) 1) (Go.VS.dropC 0 (List.append (Go.VS.oldC 0 c) [(Go.Value.int Go.IntKind.u8 (0 : Int))])))) (V (Int.toNat (Go.VS.cvI Go.IntKind.u64 (Go.VS.lenI (ByteArray.size k))))))))) (Go.byteCells k)))) (Nat.ble 1 1))
                (needB (Go.VS.flatL (Go.VS.takeC (Nat.mul (Nat.add (List.length (HAppend.hAppend (List.map Go.VS.byteOf (Go.VS.takeC (Nat.mul (Nat.add n 1) 1) (Go.VS.dropC 0 (List.append (Go.VS.oldC 0 c) [(Go.Value.int Go.IntKind.u8 (0 : Int))])))) (V (Int.toNat (Go.VS.cvI Go.IntKind.u64 (Go.VS.lenI (ByteArray.size k))))))) (ByteArray.size k)) 1) (Go.VS.dropC 0 (List.append (Go.VS.oldC 0 (Go.VS.renL Bool.false (Go.VS.shiftN 4) (Go.VS.bc (HAppend.hAppend (List.map Go.VS.byteOf (Go.VS.takeC (Nat.mul (Nat.add n 1) 1) (Go.VS.dropC 0 (List.append (Go.VS.oldC 0 c) [(Go.Value.int Go.IntKind.u8 (0 : Int))])))) (V (Int.toNat (Go.VS.cvI Go.IntKind.u64 (Go.VS.lenI (ByteArray.size k))))))))) (Go.byteCells k)))))
                 (needB (Bool.and (Go.VS.Try.fzB 18446744073709551617 (Nat.add (List.length (HAppend.hAppend (List.map Go.VS.byteOf (Go.VS.takeC (Nat.mul (Nat.add n 1) 1) (Go.VS.dropC 0 (List.append (Go.VS.oldC 0 c) [(Go.Value.int Go.IntKind.u8 (0 : Int))])))) (V (Int.toNat (Go.VS.cvI Go.IntKind.u64 (Go.VS.lenI (ByteArray.size k))))))) (ByteArray.size k)) (Go.VS.takeC (Nat.mul (Nat.add (List.length (HAppend.hAppend (List.map Go.VS.byteOf (Go.VS.takeC (Nat.mul (Nat.add n 1) 1) (Go.VS.dropC 0 (List.append (Go.VS.oldC 0 c) [(Go.Value.int Go.IntKind.u8 (0 : Int))])))) (V (Int.toNat (Go.VS.cvI Go.IntKind.u64 (Go.VS.lenI (ByteArray.size k))))))) (ByteArray.size k)) 1) (Go.VS.dropC 0 (List.append (Go.VS.oldC 0 (Go.VS.renL Bool.false (Go.VS.shiftN 4) (Go.VS.bc (HAppend.hAppend (List.map Go.VS.byteOf (Go.VS.takeC (Nat.mul (Nat.add n 1) 1) (Go.VS.dropC 0 (List.append (Go.VS.oldC 0 c) [(Go.Value.int Go.IntKind.u8 (0 : Int))])))) (V (Int.toNat (Go.VS.cvI Go.IntKind.u64 (Go.VS.lenI (ByteArray.size k))))))))) (Go.byteCells k))))) (C (Go.VS.cvI Go.IntKind.u64 (Go.VS.lenI (ByteArray.size v)))))
                  (needB (List.all (Go.byteCells v) Go.VS.oneCell)
                   (needB (Nat.ble (Nat.add (List.length (HAppend.hAppend (List.map Go.VS.byteOf (Go.VS.takeC (Nat.mul (Nat.add (List.length (HAppend.hAppend (List.map Go.VS.byteOf (Go.VS.takeC (Nat.mul (Nat.add n 1) 1) (Go.VS.dropC 0 (List.append (Go.VS.oldC 0 c) [(Go.Value.int Go.IntKind.u8 (0 : Int))])))) (V (Int.toNat (Go.VS.cvI Go.IntKind.u64 (Go.VS.lenI (ByteArray.size k))))))) (ByteArray.size k)) 1) (Go.VS.dropC 0 (List.append (Go.VS.oldC 0 (Go.VS.renL Bool.false (Go.VS.shiftN 4) (Go.VS.bc (HAppend.hAppend (List.map Go.VS.byteOf (Go.VS.takeC (Nat.mul (Nat.add n 1) 1) (Go.VS.dropC 0 (List.append (Go.VS.oldC 0 c) [(Go.Value.int Go.IntKind.u8 (0 : Int))])))) (V (Int.toNat (Go.VS.cvI Go.IntKind.u64 (Go.VS.lenI (ByteArray.size k))))))))) (Go.byteCells k))))) (V (Int.toNat (Go.VS.cvI Go.IntKind.u64 (Go.VS.lenI (ByteArray.size v))))))) (ByteArray.size v)) 4194304)
                    (needB (Nat.beq (Nat.add 0 (Nat.mul (List.length (HAppend.hAppend (List.map Go.VS.byteOf (Go.VS.takeC (Nat.mul (Nat.add (List.length (HAppend.hAppend (List.map Go.VS.byteOf (Go.VS.takeC (Nat.mul (Nat.add n 1) 1) (Go.VS.dropC 0 (List.append (Go.VS.oldC 0 c) [(Go.Value.int Go.IntKind.u8 (0 : Int))])))) (V (Int.toNat (Go.VS.cvI Go.IntKind.u64 (Go.VS.lenI (ByteArray.size k))))))) (ByteArray.size k)) 1) (Go.VS.dropC 0 (List.append (Go.VS.oldC 0 (Go.VS.renL Bool.false (Go.VS.shiftN 4) (Go.VS.bc (HAppend.hAppend (List.map Go.VS.byteOf (Go.VS.takeC (Nat.mul (Nat.add n 1) 1) (Go.VS.dropC 0 (List.append (Go.VS.oldC 0 c) [(Go.Value.int Go.IntKind.u8 (0 : Int))])))) (V (Int.toNat (Go.VS.cvI Go.IntKind.u64 (Go.VS.lenI (ByteArray.size k))))))))) (Go.byteCells k))))) (V (Int.toNat (Go.VS.cvI Go.IntKind.u64 (Go.VS.lenI (ByteArray.size v))))))) 1)) (List.length (Go.VS.renL Bool.false (Go.VS.shiftN 6) (Go.VS.bc (HAppend.hAppend (List.map Go.VS.byteOf (Go.VS.takeC (Nat.mul (Nat.add (List.length (HAppend.hAppend (List.map Go.VS.byteOf (Go.VS.takeC (Nat.mul (Nat.add n 1) 1) (Go.VS.dropC 0 (List.append (Go.VS.oldC 0 c) [(Go.Value.int Go.IntKind.u8 (0 : Int))])))) (V (Int.toNat (Go.VS.cvI Go.IntKind.u64 (Go.VS.lenI (ByteArray.size k))))))) (ByteArray.size k)) 1) (Go.VS.dropC 0 (List.append (Go.VS.oldC 0 (Go.VS.renL Bool.false (Go.VS.shiftN 4) (Go.VS.bc (HAppend.hAppend (List.map Go.VS.byteOf (Go.VS.takeC (Nat.mul (Nat.add n 1) 1) (Go.VS.dropC 0 (List.append (Go.VS.oldC 0 c) [(Go.Value.int Go.IntKind.u8 (0 : Int))])))) (V (Int.toNat (Go.VS.cvI Go.IntKind.u64 (Go.VS.lenI (ByteArray.size k))))))))) (Go.byteCells k))))) (V (Int.toNat (Go.VS.cvI Go.IntKind.u64 (Go.VS.lenI (ByteArray.size v))))))))))
                     (some ((Go.Value.tuple (Array.mk [(Go.Value.slice (Option.some (Go.Addr.mk 0 0 none)) (Nat.add (List.length (HAppend.hAppend (List.map Go.VS.byteOf (Go.VS.takeC (Nat.mul (Nat.add (List.length (HAppend.hAppend (List.map Go.VS.byteOf (Go.VS.takeC (Nat.mul (Nat.add n 1) 1) (Go.VS.dropC 0 (List.append (Go.VS.oldC 0 c) [(Go.Value.int Go.IntKind.u8 (0 : Int))])))) (V (Int.toNat (Go.VS.cvI Go.IntKind.u64 (Go.VS.lenI (ByteArray.size k))))))) (ByteArray.size k)) 1) (Go.VS.dropC 0 (List.append (Go.VS.oldC 0 (Go.VS.renL Bool.false (Go.VS.shiftN 4) (Go.VS.bc (HAppend.hAppend (List.map Go.VS.byteOf (Go.VS.takeC (Nat.mul (Nat.add n 1) 1) (Go.VS.dropC 0 (List.append (Go.VS.oldC 0 c) [(Go.Value.int Go.IntKind.u8 (0 : Int))])))) (V (Int.toNat (Go.VS.cvI Go.IntKind.u64 (Go.VS.lenI (ByteArray.size k))))))))) (Go.byteCells k))))) (V (Int.toNat (Go.VS.cvI Go.IntKind.u64 (Go.VS.lenI (ByteArray.size v))))))) (ByteArray.size v)) 18446744073709551616), (Go.Value.int Go.IntKind.i64 (0 : Int))])), (Go.VS.mkSt [(Go.VS.Blk.cells (Go.VS.renL Bool.true (Go.VS.rhoO 0 [7]) (List.append (Go.VS.oldC 0 (Go.VS.renL Bool.false (Go.VS.shiftN 6) (Go.VS.bc (HAppend.hAppend (List.map Go.VS.byteOf (Go.VS.takeC (Nat.mul (Nat.add (List.length (HAppend.hAppend (List.map Go.VS.byteOf (Go.VS.takeC (Nat.mul (Nat.add n 1) 1) (Go.VS.dropC 0 (List.append (Go.VS.oldC 0 c) [(Go.Value.int Go.IntKind.u8 (0 : Int))])))) (V (Int.toNat (Go.VS.cvI Go.IntKind.u64 (Go.VS.lenI (ByteArray.size k))))))) (ByteArray.size k)) 1) (Go.VS.dropC 0 (List.append (Go.VS.oldC 0 (Go.VS.renL Bool.false (Go.VS.shiftN 4) (Go.VS.bc (HAppend.hAppend (List.map Go.VS.byteOf (Go.VS.takeC (Nat.mul (Nat.add n 1) 1) (Go.VS.dropC 0 (List.append (Go.VS.oldC 0 c) [(Go.Value.int Go.IntKind.u8 (0 : Int))])))) (V (Int.toNat (Go.VS.cvI Go.IntKind.u64 (Go.VS.lenI (ByteArray.size k))))))))) (Go.byteCells k))))) (V (Int.toNat (Go.VS.cvI Go.IntKind.u64 (Go.VS.lenI (ByteArray.size v))))))))) (Go.byteCells v))) 5 Bool.false)])))))))))
               (some ((Go.Value.tuple (Array.mk [(Go.Value.slice (Option.some (Go.Addr.mk 0 0 none)) (Nat.add (List.length (HAppend.hAppend (List.map Go.VS.byteOf (Go.VS.takeC (Nat.mul (Nat.add n 1) 1) (Go.VS.dropC 0 (List.append (Go.VS.oldC 0 c) [(Go.Value.int Go.IntKind.u8 (0 : Int))])))) (V (Int.toNat (Go.VS.cvI Go.IntKind.u64 (Go.VS.lenI (ByteArray.size k))))))) (ByteArray.size k)) 18446744073709551616), (Go.Value.int Go.IntKind.i64 (0 : Int))])), (Go.VS.mkSt [(Go.VS.Blk.cells (Go.VS.renL Bool.true (Go.VS.rhoO 0 [5]) (List.append (Go.VS.oldC 0 (Go.VS.renL Bool.false (Go.VS.shiftN 4) (Go.VS.bc (HAppend.hAppend (List.map Go.VS.byteOf (Go.VS.takeC (Nat.mul (Nat.add n 1) 1) (Go.VS.dropC 0 (List.append (Go.VS.oldC 0 c) [(Go.Value.int Go.IntKind.u8 (0 : Int))])))) (V (Int.toNat (Go.VS.cvI Go.IntKind.u64 (Go.VS.lenI (ByteArray.size k))))))))) (Go.byteCells k))) 5 Bool.false)])))))))))))))))
   (some ((Go.Value.tuple (Array.mk [(Go.Value.slice none 0 0), (Go.Value.int Go.IntKind.i64 (2 : Int))])), (Go.VS.mkSt [])))) := by kernel_rfl
/-- A nil list is a list of none. -/
theorem CR.nil {F : Nat} {v : Value} {bs : List Blk} {l : List Value} (h : CR P F (mkFz 1 0 0 (bc []) :: l) v bs) : CR P F (.slice none 0 0 :: l) v bs := by
  intro w args' cs obs ha
  refine h w args' cs obs ?_
  simp only [VRL] at ha ⊢
  obtain ⟨y, ys, e, hy, hys⟩ := ha
  refine ⟨y, ys, e, ?_, hys⟩
  have hy : y = .slice none 0 0 := hy
  subst hy
  refine fz_mk (by decide) ?_
  unfold FrzR
  rw [if_neg (by decide)]
  exact ⟨rfl, Or.inl ⟨rfl, by omega, rfl⟩⟩
/-! ### lists of bytes in trees of cases -/
theorem fz_iff {n : Nat} {l : List UInt8} : fzB 18446744073709551617 n (bc l) = true ↔ n = l.length ∧ l.length + 64 ≤ 4194304 := by
  rw [← fz1]
  constructor
  · intro h
    obtain ⟨_, h2, _, h4⟩ := fzB_of h
    rw [bc_length] at h2 h4
    exact ⟨h2, h4⟩
  · rintro ⟨h1, h2⟩
    exact fzB_bc h1 h2
theorem u64_iff {x : Int} : u64B x = true ↔ 0 ≤ x ∧ x < 18446744073709551616 := by unfold u64B inI; simp
theorem beqO (p : Bool) (k v : ByteArray) : beqV (.agg ⟨[.bool p, .string k, .string v]⟩) (.agg ⟨[.bool p, .string k, .string v]⟩) = true := same_agg rfl
theorem len_u64 (s : ByteArray) (h : s.size < 4611686018427387904) : cvI .u64 (lenI s.size) = (s.size : Int) := wrapU64_nat (by omega)
/-! ### what an op's bytes are -/
def encT (s : ByteArray) : List UInt8 := varM s.size ++ s.data.toList
def encO (p : Bool) (k v : ByteArray) : List UInt8 := (bif p then 1 else 0) :: (encT k ++ (bif p then encT v else []))
theorem opOk_of {p : Bool} {k v : ByteArray} (h : opOk p k v = true) : 1 ≤ k.size ∧ k.size ≤ 16 ∧ v.size ≤ 32 ∧ (p = true ∨ v.data.toList = []) := by
  unfold opOk at h
  simp only [Bool.and_eq_true, decide_eq_true_eq, Bool.or_eq_true, beq_iff_eq] at h
  exact ⟨h.1.1.1, h.1.1.2, h.1.2, h.2⟩
theorem encO_eq (l : List UInt8) (k v : ByteArray) (p : Bool) (x : UInt8) (hx : x = bif p then 1 else 0) : l ++ [x] ++ varM k.size ++ k.data.toList ++ (bif p then encT v else []) = l ++ encO p k v := by
  subst hx
  simp [encO, encT]
theorem tup_sl {n m : Nat} (e : Value) (h : n = m) : Value.tuple ⟨[.slice (some ⟨0, 0, none⟩) n 18446744073709551616, e]⟩ = .tuple ⟨[sl 0 m, e]⟩ := by subst h; rfl
theorem size_mk (a : List UInt8) : (⟨⟨a⟩⟩ : ByteArray).size = a.length := rfl
theorem opApp_run {l : List UInt8} {b : Nat} {p : Bool} {k v : ByteArray} (hl : l.length + 128 ≤ 4194304) (ho : opOk p k v = true) : callQ P E ctA 50 29 [mkFz 1 l.length b (bc l), .agg ⟨[.bool p, .string k, .string v]⟩] =
    some (.tuple ⟨[sl 0 (l ++ encO p k v).length, .int .i64 0]⟩, mkSt [.cells (bc (l ++ encO p k v)) 5 false]) := by
  obtain ⟨h1, h2, h3, h4⟩ := opOk_of ho
  have hk := size_eq k
  have hv := size_eq v
  have vk := varM_length k.size
  have vv := varM_length v.size
  unfold ctA
  rw [dec_opApp]
  refine ite_t ho ?_
  simp (disch := (simp; try omega)) only [oldC_zero, one_bc, zero_bc, app_bc, take_bc, bc_back, byteCells_bc, bc_length, bc_ren, len_u64 k (by omega), len_u64 v (by omega), Int.toNat_natCast]
  cases p <;>
  simp (disch := first | rfl | (simp only [bool_and, ble_iff, beq_iff, fz_iff, u64_iff, bc_one, bc_flat, beqS, beqO, Nat.add_eq, Nat.mul_eq, List.length_append, List.length_cons, List.length_nil, and_true, true_and, and_self] <;> omega)) only [need_true, ite_true, ite_false]
  · refine leaf_eq ?_ ?_
    · refine tup_sl _ ?_
      rw [← encO_eq l k v false 0 rfl]
      simp only [List.length_append, Nat.add_eq, cond_false, List.length_nil] <;> omega
    · rw [← encO_eq l k v false 0 rfl]; simp
  · refine leaf_eq ?_ ?_
    · refine tup_sl _ ?_
      rw [← encO_eq l k v true 1 rfl]
      simp only [List.length_append, Nat.add_eq, cond_true, encT] <;> omega
    · rw [← encO_eq l k v true 1 rfl]; simp [encT]
theorem rOpApp_run {l : List UInt8} {b : Nat} {p : Bool} {k v : ByteArray} (hl : l.length + 128 ≤ 4194304) (ho : opOk p k v = true) : callQ P E ctA 50 30 [mkFz 1 l.length b (bc l), .agg ⟨[.bool p, .string k, .string v]⟩] =
    some (.tuple ⟨[sl 0 (l ++ encO p k v).length, .int .i64 0]⟩, mkSt [.cells (bc (l ++ encO p k v)) 5 false]) := by
  obtain ⟨h1, h2, h3, h4⟩ := opOk_of ho
  have hk := size_eq k
  have hv := size_eq v
  have vk := varM_length k.size
  have vv := varM_length v.size
  unfold ctA
  rw [dec_rOpApp]
  refine ite_t ho ?_
  simp (disch := (simp; try omega)) only [oldC_zero, one_bc, zero_bc, app_bc, take_bc, bc_back, byteCells_bc, bc_length, bc_ren, len_u64 k (by omega), len_u64 v (by omega), Int.toNat_natCast]
  cases p <;>
  simp (disch := first | rfl | (simp only [bool_and, ble_iff, beq_iff, fz_iff, u64_iff, bc_one, bc_flat, beqS, beqO, Nat.add_eq, Nat.mul_eq, List.length_append, List.length_cons, List.length_nil, and_true, true_and, and_self] <;> omega)) only [need_true, ite_true, ite_false]
  · refine leaf_eq ?_ ?_
    · refine tup_sl _ ?_
      rw [← encO_eq l k v false 0 rfl]
      simp only [List.length_append, Nat.add_eq, cond_false, List.length_nil] <;> omega
    · rw [← encO_eq l k v false 0 rfl]; simp
  · refine leaf_eq ?_ ?_
    · refine tup_sl _ ?_
      rw [← encO_eq l k v true 1 rfl]
      simp only [List.length_append, Nat.add_eq, cond_true, encT] <;> omega
    · rw [← encO_eq l k v true 1 rfl]; simp [encT]
/-! ### the contract of both -/
def fzW (t n : Nat) (c : List Value) : Bool := fzB t n c && Nat.ble (c.length + 128) 4194304
def RopAV (O : Bool → ByteArray → ByteArray → Bool) (A : List UInt8 → Bool → ByteArray → ByteArray → List UInt8) : CallFn
  | [.iface t (.agg ⟨.slice none n b :: c⟩), .agg ⟨[.bool p, .string k, .string v]⟩] => some (.ite (fzW t n c) (.ite (O p k v) (.leaf (.tuple ⟨[sl 0 (A (c.map byteOf) p k v).length, .int .i64 0]⟩, [.cells (bc (A (c.map byteOf) p k v)) 5 false])) (.leaf (.tuple ⟨[.slice none 0 0, .int .i64 2]⟩, []))) .fail)
  | [.slice none n b, .agg ⟨[.bool p, .string k, .string v]⟩] => some (.ite (Nat.beq n 0 && Nat.beq b 0) (.ite (O p k v) (.leaf (.tuple ⟨[sl 0 (A [] p k v).length, .int .i64 0]⟩, [.cells (bc (A [] p k v)) 5 false])) (.leaf (.tuple ⟨[.slice none 0 0, .int .i64 2]⟩, []))) .fail)
  | _ => none
def appO (l : List UInt8) (p : Bool) (k v : ByteArray) : List UInt8 := l ++ encO p k v
def RopA : CallFn := RopAV opOk appO
theorem opA_any {F : Nat} (h : ∀ {l : List UInt8} {b : Nat} {p : Bool} {k v : ByteArray}, l.length + 128 ≤ 4194304 → opOk p k v = true → callQ P E ctA 50 F [mkFz 1 l.length b (bc l), .agg ⟨[.bool p, .string k, .string v]⟩] =
    some (.tuple ⟨[sl 0 (l ++ encO p k v).length, .int .i64 0]⟩, mkSt [.cells (bc (l ++ encO p k v)) 5 false]))
    (h0 : ∀ {l : List UInt8} {b : Nat} {p : Bool} {k v : ByteArray}, opOk p k v = false → callQ P E ctA 50 F [mkFz 1 l.length b (bc l), .agg ⟨[.bool p, .string k, .string v]⟩] = some (.tuple ⟨[.slice none 0 0, .int .i64 2]⟩, mkSt [])) : CallOkR P F RopA := by
  have key : ∀ {l : List UInt8} {b : Nat} {p : Bool} {k v : ByteArray} (hl : l.length + 128 ≤ 4194304) {r : Value} {bs : List Blk}, (DT.ite (opOk p k v) (DT.leaf (Value.tuple ⟨[sl 0 (appO l p k v).length, .int .i64 0]⟩, [Blk.cells (bc (appO l p k v)) 5 false])) (.leaf (.tuple ⟨[.slice none 0 0, .int .i64 2]⟩, []))).eval = some (r, bs) →
      CR P F [mkFz 1 l.length b (bc l), .agg ⟨[.bool p, .string k, .string v]⟩] r bs := by
    intro l b p k v hl r bs hev
    refine CR.of (n := 50) (engOk ctA) noNum ctA_ok ?_
    cases ho : opOk p k v with
    | true =>
      rw [ho] at hev
      simp only [DT.eval, Option.some.injEq, Prod.mk.injEq] at hev
      obtain ⟨rfl, rfl⟩ := hev
      exact h hl ho
    | false =>
      rw [ho] at hev
      simp only [DT.eval, Option.some.injEq, Prod.mk.injEq] at hev
      obtain ⟨rfl, rfl⟩ := hev
      exact h0 ho
  refine ⟨fun args t hR v bs hev => ?_⟩
  unfold RopA RopAV at hR
  split at hR
  · rename_i t n b c p k w
    obtain rfl := Option.some.inj hR
    cases hc : fzW t n c with
    | false => rw [hc] at hev; cases hev
    | true =>
      rw [hc] at hev
      unfold fzW at hc
      simp only [Bool.and_eq_true] at hc
      obtain ⟨rfl, rfl, ⟨l, rfl, hl⟩, h4⟩ := fzB_of hc.1
      have h5 := Nat.le_of_ble_eq_true hc.2
      rw [← hl] at hev
      rw [bc_length] at h5 ⊢
      exact key h5 hev
  · rename_i n b p k w
    obtain rfl := Option.some.inj hR
    cases hc : Nat.beq n 0 && Nat.beq b 0 with
    | false => rw [hc] at hev; cases hev
    | true =>
      rw [hc] at hev
      simp only [Bool.and_eq_true] at hc
      obtain rfl := Nat.eq_of_beq_eq_true hc.1
      obtain rfl := Nat.eq_of_beq_eq_true hc.2
      exact CR.nil (key (l := []) (b := 0) (by simp) hev)
  · cases hR
theorem opApp_ok : CallOkR P 29 RopA := opA_any opApp_run fun {l b p k v} ho => by unfold ctA; rw [dec_opApp]; exact ite_f ho rfl
theorem rOpApp_ok : CallOkR P 30 RopA := opA_any rOpApp_run fun {l b p k v} ho => by unfold ctA; rw [dec_rOpApp]; exact ite_f ho rfl
end Go.VS.Try
end

section
namespace Go.VS.Try
set_option linter.unusedSimpArgs false
set_option linter.unusedVariables false
set_option maxRecDepth 1000000
open Go.VS
def RWordV (W : ByteArray → ByteArray) : CallFn
  | [.string s] => some (.ite (Nat.ble (3 * s.size) 4194304) (.leaf (.string (W s), [])) .fail)
  | _ => none
def RBytesV (B : ByteArray → ByteArray) (Z : ByteArray → Int) : CallFn
  | [.string s] => some (.ite (Nat.ble s.size 4194304) (.leaf (.tuple ⟨[.string (B s), .int .i64 (Z s)]⟩, [])) .fail)
  | _ => none
def wordT (s : ByteArray) : ByteArray := ⟨⟨wordM s.data.toList⟩⟩
def unT (s : ByteArray) : ByteArray := ⟨⟨(bytesM s.data.toList).1⟩⟩
def unE (s : ByteArray) : Int := (bytesM s.data.toList).2
theorem RWord_eq : RWord = RWordV wordT := rfl
theorem RBytes_eq : RBytes = RBytesV unT unE := rfl
end Go.VS.Try
end

section
namespace Go.VS.Try
set_option linter.unusedSimpArgs false
set_option linter.unusedVariables false
set_option maxRecDepth 1000000
open Go.VS
noncomputable def ctTv (O : Bool → ByteArray → ByteArray → Bool) (W : ByteArray → ByteArray) : Ct := addCall P 26 (RWordV W) (addCall P 33 (RcheckV O) (addCall P 27 (RWordV W) (addCall P 34 (RcheckV O) ctS)))
noncomputable def ctT : Ct := ctTv opOk wordT
theorem ctT_ok : CtOk P ctT := addCall_ok (addCall_ok (addCall_ok (addCall_ok ctS_ok rCheck_ok) rWord_ok) Check_ok) word_ok
theorem dec_Text (O : Bool → ByteArray → ByteArray → Bool) (W : ByteArray → ByteArray) (p : Bool) (k v : ByteArray) : callQ P E (ctTv O W) 50 31 [.agg ⟨[.bool p, .string k, .string v]⟩] =
  (iteB (O p k v)
   (iteB (Go.VS.notB p)
    (needB (Nat.ble (HMul.hMul 3 (ByteArray.size k)) 4194304)
     (needB (Go.VS.fitS (ByteArray.mk #[100, 101, 108, 32]) (W k))
      (some ((Go.Value.tuple (Array.mk [(Go.Value.string (Go.VS.catS (ByteArray.mk #[100, 101, 108, 32]) (W k))), (Go.Value.int Go.IntKind.i64 (0 : Int))])), (Go.VS.mkSt [])))))
    (needB (Nat.ble (HMul.hMul 3 (ByteArray.size k)) 4194304)
     (needB (Go.VS.fitS (ByteArray.mk #[112, 117, 116, 32]) (W k))
      (needB (Go.VS.fitS (Go.VS.catS (ByteArray.mk #[112, 117, 116, 32]) (W k)) (ByteArray.mk #[32]))
       (needB (Nat.ble (HMul.hMul 3 (ByteArray.size v)) 4194304)
        (needB (Go.VS.fitS (Go.VS.catS (Go.VS.catS (ByteArray.mk #[112, 117, 116, 32]) (W k)) (ByteArray.mk #[32])) (W v))
         (needB (Go.VS.beqV (Go.Value.string v) (Go.Value.string v))
          (some ((Go.Value.tuple (Array.mk [(Go.Value.string (Go.VS.catS (Go.VS.catS (Go.VS.catS (ByteArray.mk #[112, 117, 116, 32]) (W k)) (ByteArray.mk #[32])) (W v))), (Go.Value.int Go.IntKind.i64 (0 : Int))])), (Go.VS.mkSt []))))))))))
   (some ((Go.Value.tuple (Array.mk [(Go.Value.string (ByteArray.mk #[])), (Go.Value.int Go.IntKind.i64 (2 : Int))])), (Go.VS.mkSt [])))) := by kernel_rfl
theorem dec_rText (O : Bool → ByteArray → ByteArray → Bool) (W : ByteArray → ByteArray) (p : Bool) (k v : ByteArray) : callQ P E (ctTv O W) 50 32 [.agg ⟨[.bool p, .string k, .string v]⟩] =
  (iteB (O p k v)
   (iteB p
    (needB (Nat.ble (HMul.hMul 3 (ByteArray.size k)) 4194304)
     (needB (Go.VS.fitS (ByteArray.mk #[112, 117, 116, 32]) (W k))
      (needB (Go.VS.fitS (Go.VS.catS (ByteArray.mk #[112, 117, 116, 32]) (W k)) (ByteArray.mk #[32]))
       (needB (Nat.ble (HMul.hMul 3 (ByteArray.size v)) 4194304)
        (needB (Go.VS.fitS (Go.VS.catS (Go.VS.catS (ByteArray.mk #[112, 117, 116, 32]) (W k)) (ByteArray.mk #[32])) (W v))
         (needB (Go.VS.beqV (Go.Value.string v) (Go.Value.string v))
          (some ((Go.Value.tuple (Array.mk [(Go.Value.string (Go.VS.catS (Go.VS.catS (Go.VS.catS (ByteArray.mk #[112, 117, 116, 32]) (W k)) (ByteArray.mk #[32])) (W v))), (Go.Value.int Go.IntKind.i64 (0 : Int))])), (Go.VS.mkSt [])))))))))
    (needB (Nat.ble (HMul.hMul 3 (ByteArray.size k)) 4194304)
     (needB (Go.VS.fitS (ByteArray.mk #[100, 101, 108, 32]) (W k))
      (some ((Go.Value.tuple (Array.mk [(Go.Value.string (Go.VS.catS (ByteArray.mk #[100, 101, 108, 32]) (W k))), (Go.Value.int Go.IntKind.i64 (0 : Int))])), (Go.VS.mkSt []))))))
   (some ((Go.Value.tuple (Array.mk [(Go.Value.string (ByteArray.mk #[])), (Go.Value.int Go.IntKind.i64 (2 : Int))])), (Go.VS.mkSt [])))) := by kernel_rfl
def wordL (s : ByteArray) : List UInt8 := wordM s.data.toList
def textL (p : Bool) (k v : ByteArray) : List UInt8 := bif p then [112, 117, 116] ++ 32 :: (wordL k ++ 32 :: wordL v) else [100, 101, 108] ++ 32 :: wordL k
def textT (p : Bool) (k v : ByteArray) : ByteArray := ⟨⟨textL p k v⟩⟩
theorem catS_eq (a b : List UInt8) : catS ⟨⟨a⟩⟩ ⟨⟨b⟩⟩ = ⟨⟨a ++ b⟩⟩ := by
  unfold catS
  apply ByteArray.ext
  rw [ByteArray.data_append]
  simp
theorem encL_len : ∀ l : List UInt8, (encL l).length ≤ 3 * l.length
  | [] => Nat.le_refl _
  | b :: l => by
    have := encL_len l
    have := enc_length b
    rw [encL_cons, List.length_append, List.length_cons]; omega
theorem word_size (s : ByteArray) : (wordT s).size ≤ 3 * s.size + 2 := by
  show (wordM s.data.toList).length ≤ _
  rw [size_eq s]
  cases s.data.toList with
  | nil => show ([34, 34] : List UInt8).length ≤ _; simp
  | cons x l => have := encL_len (x :: l); show (encL (x :: l)).length ≤ _; omega
def RTextV (O : Bool → ByteArray → ByteArray → Bool) (T : Bool → ByteArray → ByteArray → ByteArray) : CallFn
  | [.agg ⟨[.bool p, .string k, .string v]⟩] => some (.ite (O p k v) (.leaf (.tuple ⟨[.string (T p k v), .int .i64 0]⟩, [])) (.leaf (.tuple ⟨[.string ⟨#[]⟩, .int .i64 2]⟩, [])))
  | _ => none
theorem Text_run (p : Bool) (k v : ByteArray) : callQ P E ctT 50 31 [.agg ⟨[.bool p, .string k, .string v]⟩] = some (match opOk p k v with | true => .tuple ⟨[.string (textT p k v), .int .i64 0]⟩ | false => .tuple ⟨[.string ⟨#[]⟩, .int .i64 2]⟩, mkSt []) := by
  unfold ctT
  rw [dec_Text]
  cases ho : opOk p k v with
  | false => exact ite_f rfl rfl
  | true =>
    refine ite_t rfl ?_
    obtain ⟨h1, h2, h3, h4⟩ := opOk_of ho
    have wk := word_size k
    have wv := word_size v
    have ek : wordT k = ⟨⟨wordL k⟩⟩ := rfl
    have ev : wordT v = ⟨⟨wordL v⟩⟩ := rfl
    have sk : (wordL k).length = (wordT k).size := rfl
    have sv : (wordL v).length = (wordT v).size := rfl
    have fit : ∀ a b : List UInt8, a.length + b.length ≤ 1000 → fitS ⟨⟨a⟩⟩ ⟨⟨b⟩⟩ = true := fun a b h => ble_ok (by show a.length + b.length ≤ _; omega)
    rw [ek, ev]
    simp only [catS_eq, show (ByteArray.mk #[112, 117, 116, 32]) = ⟨⟨[112, 117, 116, 32]⟩⟩ from rfl, show (ByteArray.mk #[100, 101, 108, 32]) = ⟨⟨[100, 101, 108, 32]⟩⟩ from rfl, show (ByteArray.mk #[32]) = ⟨⟨[32]⟩⟩ from rfl]
    cases p <;> simp only [ite_tt, ite_ff, not_tt, not_ff, beqS]
    · simp (disch := first | rfl | (refine fit _ _ ?_; simp only [List.length_append, List.length_cons, List.length_nil] <;> omega) | (refine ble_ok ?_; omega)) only [need_true]
      rfl
    · simp (disch := first | rfl | (refine fit _ _ ?_; simp only [List.length_append, List.length_cons, List.length_nil] <;> omega) | (refine ble_ok ?_; omega)) only [need_true]
      refine leaf_eq ?_ rfl
      simp [textT, textL]
theorem Text_ok : CallOkR P 31 (RTextV opOk textT) := by
  refine ok_of ctT_ok (n := 50) fun args t hR v bs hev => ?_
  unfold RTextV at hR
  split at hR
  · rename_i p k w
    obtain rfl := Option.some.inj hR
    rw [Text_run]
    cases ho : opOk p k w with
    | true =>
      rw [ho] at hev
      simp only [DT.eval, Option.some.injEq, Prod.mk.injEq] at hev
      obtain ⟨rfl, rfl⟩ := hev; rfl
    | false =>
      rw [ho] at hev
      simp only [DT.eval, Option.some.injEq, Prod.mk.injEq] at hev
      obtain ⟨rfl, rfl⟩ := hev; rfl
  · cases hR
theorem rText_run (p : Bool) (k v : ByteArray) : callQ P E ctT 50 32 [.agg ⟨[.bool p, .string k, .string v]⟩] = some (match opOk p k v with | true => .tuple ⟨[.string (textT p k v), .int .i64 0]⟩ | false => .tuple ⟨[.string ⟨#[]⟩, .int .i64 2]⟩, mkSt []) := by
  unfold ctT
  rw [dec_rText]
  cases ho : opOk p k v with
  | false => exact ite_f rfl rfl
  | true =>
    refine ite_t rfl ?_
    obtain ⟨h1, h2, h3, h4⟩ := opOk_of ho
    have wk := word_size k
    have wv := word_size v
    have ek : wordT k = ⟨⟨wordL k⟩⟩ := rfl
    have ev : wordT v = ⟨⟨wordL v⟩⟩ := rfl
    have sk : (wordL k).length = (wordT k).size := rfl
    have sv : (wordL v).length = (wordT v).size := rfl
    have fit : ∀ a b : List UInt8, a.length + b.length ≤ 1000 → fitS ⟨⟨a⟩⟩ ⟨⟨b⟩⟩ = true := fun a b h => ble_ok (by show a.length + b.length ≤ _; omega)
    rw [ek, ev]
    simp only [catS_eq, show (ByteArray.mk #[112, 117, 116, 32]) = ⟨⟨[112, 117, 116, 32]⟩⟩ from rfl, show (ByteArray.mk #[100, 101, 108, 32]) = ⟨⟨[100, 101, 108, 32]⟩⟩ from rfl, show (ByteArray.mk #[32]) = ⟨⟨[32]⟩⟩ from rfl]
    cases p <;> simp only [ite_tt, ite_ff, not_tt, not_ff, beqS]
    · simp (disch := first | rfl | (refine fit _ _ ?_; simp only [List.length_append, List.length_cons, List.length_nil] <;> omega) | (refine ble_ok ?_; omega)) only [need_true]
      rfl
    · simp (disch := first | rfl | (refine fit _ _ ?_; simp only [List.length_append, List.length_cons, List.length_nil] <;> omega) | (refine ble_ok ?_; omega)) only [need_true]
      refine leaf_eq ?_ rfl
      simp [textT, textL]
theorem rText_ok : CallOkR P 32 (RTextV opOk textT) := by
  refine ok_of ctT_ok (n := 50) fun args t hR v bs hev => ?_
  unfold RTextV at hR
  split at hR
  · rename_i p k w
    obtain rfl := Option.some.inj hR
    rw [rText_run]
    cases ho : opOk p k w with
    | true =>
      rw [ho] at hev
      simp only [DT.eval, Option.some.injEq, Prod.mk.injEq] at hev
      obtain ⟨rfl, rfl⟩ := hev; rfl
    | false =>
      rw [ho] at hev
      simp only [DT.eval, Option.some.injEq, Prod.mk.injEq] at hev
      obtain ⟨rfl, rfl⟩ := hev; rfl
  · cases hR
end Go.VS.Try
end

section
namespace Go.VS.Try
set_option linter.unusedSimpArgs false
set_option linter.unusedVariables false
set_option maxRecDepth 1000000
open Go.VS
noncomputable def Hap : Head := ⟨8, 77, [0, 3, 6, 7], []⟩
noncomputable def Haq : Head := ⟨6, 77, [0, 3, 6, 7], []⟩
noncomputable def Bap : Code := (loopAt P 37 6).getD .skip
theorem Bap_eq : loopAt P 37 6 = some Bap := by kernel_rfl
theorem Bap_occ : Occ P 37 (.block 6 (.loop Bap)) := loopAt_has Bap_eq
def apB (y0 y1 y2 : List UInt8) : List Blk := [.cells [sl 1 y0.length, sl 2 y1.length, sl 3 y2.length] 37 true, .cells (bc (comL y0)) 5 false, .cells (bc (comL y1)) 5 false, .cells (bc (comL y2)) 5 false, .cells [sl 5 y0.length, sl 6 y1.length, sl 7 y2.length] 37 true, .cells (bc y0) 5 false, .cells (bc y1) 5 false, .cells (bc y2) 5 false]
def apV (i k : Int) : List Value := [.slice (some ⟨0, 0, none⟩) 3 3, .slice (some ⟨4, 0, none⟩) 3 3, .int .i64 i, .int .i64 k]
def aqB (y2 : List UInt8) : List Blk := [.cells [.slice none 0 0, .slice none 0 0, sl 1 y2.length] 37 true, .cells (bc (comL y2)) 5 false, .cells [.slice (some ⟨3, 0, none⟩) 0 0, .slice (some ⟨4, 0, none⟩) 0 0, sl 5 y2.length] 37 true, .cells [] 5 true, .cells [] 5 true, .cells (bc y2) 5 false]
def aqV (i k : Int) : List Value := [.slice (some ⟨0, 0, none⟩) 3 3, .slice (some ⟨2, 0, none⟩) 3 3, .int .i64 i, .int .i64 k]
theorem com_ne (b : UInt8) : neI ((~~~b).toNat : Int) (comI .u8 (b.toNat : Int)) = false := by rw [com_byte]; simp [neI]
theorem nth_com {l : List UInt8} {k : Nat} (h : k < l.length) : nthD (bc (comL l)) k = .int .u8 ((~~~l[k]).toNat : Int) := bc_nthD (by unfold comL; rw [List.getElem?_map, List.getElem?_eq_getElem h]; rfl)
theorem nth_bc {l : List UInt8} {k : Nat} (h : k < l.length) : nthD (bc l) k = .int .u8 (l[k].toNat : Int) := bc_nthD (List.getElem?_eq_getElem h)
theorem dec_ap0 (n0 n1 n2 m0 m1 m2 : Nat) (c0 c1 c2 d0 d1 d2 : List Value) (k : Int) : roundQ P E noCt 50 37 Bap Hap [.slice (some ⟨0, 0, none⟩) 3 3, .slice (some ⟨4, 0, none⟩) 3 3, .int .i64 0, .int .i64 k] [.cells [.slice (some ⟨1, 0, none⟩) n0 unk, .slice (some ⟨2, 0, none⟩) n1 unk, .slice (some ⟨3, 0, none⟩) n2 unk] 37 true, .cells c0 5 false, .cells c1 5 false, .cells c2 5 false, .cells [.slice (some ⟨5, 0, none⟩) m0 unk, .slice (some ⟨6, 0, none⟩) m1 unk, .slice (some ⟨7, 0, none⟩) m2 unk] 37 true, .cells d0 5 false, .cells d1 5 false, .cells d2 5 false] =
  (iteB (Go.VS.ltI k (Go.VS.lenI n0))
   (needB (Go.VS.inI k n0)
    (needB (Bool.and (Nat.ble (Nat.add (Nat.add 0 (Go.VS.atN k 1)) 1) (List.length c0)) (Go.VS.etaB (Go.VS.Eta.int Go.IntKind.u8) (Go.VS.nthD c0 (Nat.add 0 (Go.VS.atN k 1)))))
     (needB (Go.VS.inI k m0)
      (needB (Bool.and (Nat.ble (Nat.add (Nat.add 0 (Go.VS.atN k 1)) 1) (List.length d0)) (Go.VS.etaB (Go.VS.Eta.int Go.IntKind.u8) (Go.VS.nthD d0 (Nat.add 0 (Go.VS.atN k 1)))))
       (iteB (Go.VS.neI (Go.VS.asI (Go.VS.nthD c0 (Nat.add 0 (Go.VS.atN k 1)))) (Go.VS.comI Go.IntKind.u8 (Go.VS.asI (Go.VS.nthD d0 (Nat.add 0 (Go.VS.atN k 1))))))
        (some ((Go.Value.tuple (Array.mk [(Go.Value.int Go.IntKind.i64 (-1 : Int)), (Go.Value.slice (Option.some (Go.Addr.mk 0 0 none)) 3 3), (Go.Value.slice (Option.some (Go.Addr.mk 4 0 none)) 3 3), (Go.Value.int Go.IntKind.i64 (0 : Int)), (Go.Value.int Go.IntKind.i64 k)])), (Go.VS.mkSt [(Go.VS.Blk.cells [(Go.Value.slice (Option.some (Go.Addr.mk 1 0 none)) n0 18446744073709551616), (Go.Value.slice (Option.some (Go.Addr.mk 2 0 none)) n1 18446744073709551616), (Go.Value.slice (Option.some (Go.Addr.mk 3 0 none)) n2 18446744073709551616)] 37 Bool.true), (Go.VS.Blk.cells (Go.VS.renL Bool.true (Go.VS.rhoO 8 []) c0) 5 Bool.false), (Go.VS.Blk.cells (Go.VS.renL Bool.true (Go.VS.rhoO 8 []) c1) 5 Bool.false), (Go.VS.Blk.cells (Go.VS.renL Bool.true (Go.VS.rhoO 8 []) c2) 5 Bool.false), (Go.VS.Blk.cells [(Go.Value.slice (Option.some (Go.Addr.mk 5 0 none)) m0 18446744073709551616), (Go.Value.slice (Option.some (Go.Addr.mk 6 0 none)) m1 18446744073709551616), (Go.Value.slice (Option.some (Go.Addr.mk 7 0 none)) m2 18446744073709551616)] 37 Bool.true), (Go.VS.Blk.cells (Go.VS.renL Bool.true (Go.VS.rhoO 8 []) d0) 5 Bool.false), (Go.VS.Blk.cells (Go.VS.renL Bool.true (Go.VS.rhoO 8 []) d1) 5 Bool.false), (Go.VS.Blk.cells (Go.VS.renL Bool.true (Go.VS.rhoO 8 []) d2) 5 Bool.false)])))
        (some ((Go.Value.tuple (Array.mk [(Go.Value.int Go.IntKind.i64 (0 : Int)), (Go.Value.slice (Option.some (Go.Addr.mk 0 0 none)) 3 3), (Go.Value.slice (Option.some (Go.Addr.mk 4 0 none)) 3 3), (Go.Value.int Go.IntKind.i64 (0 : Int)), (Go.Value.int Go.IntKind.i64 (Go.VS.addI Go.IntKind.i64 k (1 : Int)))])), (Go.VS.mkSt [(Go.VS.Blk.cells [(Go.Value.slice (Option.some (Go.Addr.mk 1 0 none)) n0 18446744073709551616), (Go.Value.slice (Option.some (Go.Addr.mk 2 0 none)) n1 18446744073709551616), (Go.Value.slice (Option.some (Go.Addr.mk 3 0 none)) n2 18446744073709551616)] 37 Bool.true), (Go.VS.Blk.cells (Go.VS.renL Bool.true (Go.VS.rhoO 8 []) c0) 5 Bool.false), (Go.VS.Blk.cells (Go.VS.renL Bool.true (Go.VS.rhoO 8 []) c1) 5 Bool.false), (Go.VS.Blk.cells (Go.VS.renL Bool.true (Go.VS.rhoO 8 []) c2) 5 Bool.false), (Go.VS.Blk.cells [(Go.Value.slice (Option.some (Go.Addr.mk 5 0 none)) m0 18446744073709551616), (Go.Value.slice (Option.some (Go.Addr.mk 6 0 none)) m1 18446744073709551616), (Go.Value.slice (Option.some (Go.Addr.mk 7 0 none)) m2 18446744073709551616)] 37 Bool.true), (Go.VS.Blk.cells (Go.VS.renL Bool.true (Go.VS.rhoO 8 []) d0) 5 Bool.false), (Go.VS.Blk.cells (Go.VS.renL Bool.true (Go.VS.rhoO 8 []) d1) 5 Bool.false), (Go.VS.Blk.cells (Go.VS.renL Bool.true (Go.VS.rhoO 8 []) d2) 5 Bool.false)]))))))))
   (some ((Go.Value.tuple (Array.mk [(Go.Value.int Go.IntKind.i64 (7 : Int)), (Go.Value.slice (Option.some (Go.Addr.mk 0 0 none)) 3 3), (Go.Value.slice (Option.some (Go.Addr.mk 4 0 none)) 3 3), (Go.Value.int Go.IntKind.i64 (0 : Int)), (Go.Value.int Go.IntKind.i64 k)])), (Go.VS.mkSt [(Go.VS.Blk.cells [(Go.Value.slice (Option.some (Go.Addr.mk 1 0 none)) n0 18446744073709551616), (Go.Value.slice (Option.some (Go.Addr.mk 2 0 none)) n1 18446744073709551616), (Go.Value.slice (Option.some (Go.Addr.mk 3 0 none)) n2 18446744073709551616)] 37 Bool.true), (Go.VS.Blk.cells (Go.VS.renL Bool.true (Go.VS.rhoO 8 []) c0) 5 Bool.false), (Go.VS.Blk.cells (Go.VS.renL Bool.true (Go.VS.rhoO 8 []) c1) 5 Bool.false), (Go.VS.Blk.cells (Go.VS.renL Bool.true (Go.VS.rhoO 8 []) c2) 5 Bool.false), (Go.VS.Blk.cells [(Go.Value.slice (Option.some (Go.Addr.mk 5 0 none)) m0 18446744073709551616), (Go.Value.slice (Option.some (Go.Addr.mk 6 0 none)) m1 18446744073709551616), (Go.Value.slice (Option.some (Go.Addr.mk 7 0 none)) m2 18446744073709551616)] 37 Bool.true), (Go.VS.Blk.cells (Go.VS.renL Bool.true (Go.VS.rhoO 8 []) d0) 5 Bool.false), (Go.VS.Blk.cells (Go.VS.renL Bool.true (Go.VS.rhoO 8 []) d1) 5 Bool.false), (Go.VS.Blk.cells (Go.VS.renL Bool.true (Go.VS.rhoO 8 []) d2) 5 Bool.false)])))) := by kernel_rfl
theorem dec_ap1 (n0 n1 n2 m0 m1 m2 : Nat) (c0 c1 c2 d0 d1 d2 : List Value) (k : Int) : roundQ P E noCt 50 37 Bap Hap [.slice (some ⟨0, 0, none⟩) 3 3, .slice (some ⟨4, 0, none⟩) 3 3, .int .i64 1, .int .i64 k] [.cells [.slice (some ⟨1, 0, none⟩) n0 unk, .slice (some ⟨2, 0, none⟩) n1 unk, .slice (some ⟨3, 0, none⟩) n2 unk] 37 true, .cells c0 5 false, .cells c1 5 false, .cells c2 5 false, .cells [.slice (some ⟨5, 0, none⟩) m0 unk, .slice (some ⟨6, 0, none⟩) m1 unk, .slice (some ⟨7, 0, none⟩) m2 unk] 37 true, .cells d0 5 false, .cells d1 5 false, .cells d2 5 false] =
  (iteB (Go.VS.ltI k (Go.VS.lenI n1))
   (needB (Go.VS.inI k n1)
    (needB (Bool.and (Nat.ble (Nat.add (Nat.add 0 (Go.VS.atN k 1)) 1) (List.length c1)) (Go.VS.etaB (Go.VS.Eta.int Go.IntKind.u8) (Go.VS.nthD c1 (Nat.add 0 (Go.VS.atN k 1)))))
     (needB (Go.VS.inI k m1)
      (needB (Bool.and (Nat.ble (Nat.add (Nat.add 0 (Go.VS.atN k 1)) 1) (List.length d1)) (Go.VS.etaB (Go.VS.Eta.int Go.IntKind.u8) (Go.VS.nthD d1 (Nat.add 0 (Go.VS.atN k 1)))))
       (iteB (Go.VS.neI (Go.VS.asI (Go.VS.nthD c1 (Nat.add 0 (Go.VS.atN k 1)))) (Go.VS.comI Go.IntKind.u8 (Go.VS.asI (Go.VS.nthD d1 (Nat.add 0 (Go.VS.atN k 1))))))
        (some ((Go.Value.tuple (Array.mk [(Go.Value.int Go.IntKind.i64 (-1 : Int)), (Go.Value.slice (Option.some (Go.Addr.mk 0 0 none)) 3 3), (Go.Value.slice (Option.some (Go.Addr.mk 4 0 none)) 3 3), (Go.Value.int Go.IntKind.i64 (1 : Int)), (Go.Value.int Go.IntKind.i64 k)])), (Go.VS.mkSt [(Go.VS.Blk.cells [(Go.Value.slice (Option.some (Go.Addr.mk 1 0 none)) n0 18446744073709551616), (Go.Value.slice (Option.some (Go.Addr.mk 2 0 none)) n1 18446744073709551616), (Go.Value.slice (Option.some (Go.Addr.mk 3 0 none)) n2 18446744073709551616)] 37 Bool.true), (Go.VS.Blk.cells (Go.VS.renL Bool.true (Go.VS.rhoO 8 []) c0) 5 Bool.false), (Go.VS.Blk.cells (Go.VS.renL Bool.true (Go.VS.rhoO 8 []) c1) 5 Bool.false), (Go.VS.Blk.cells (Go.VS.renL Bool.true (Go.VS.rhoO 8 []) c2) 5 Bool.false), (Go.VS.Blk.cells [(Go.Value.slice (Option.some (Go.Addr.mk 5 0 none)) m0 18446744073709551616), (Go.Value.slice (Option.some (Go.Addr.mk 6 0 none)) m1 18446744073709551616), (Go.Value.slice (Option.some (Go.Addr.mk 7 0 none)) m2 18446744073709551616)] 37 Bool.true), (Go.VS.Blk.cells (Go.VS.renL Bool.true (Go.VS.rhoO 8 []) d0) 5 Bool.false), (Go.VS.Blk.cells (Go.VS.renL Bool.true (Go.VS.rhoO 8 []) d1) 5 Bool.false), (Go.VS.Blk.cells (Go.VS.renL Bool.true (Go.VS.rhoO 8 []) d2) 5 Bool.false)])))
        (some ((Go.Value.tuple (Array.mk [(Go.Value.int Go.IntKind.i64 (0 : Int)), (Go.Value.slice (Option.some (Go.Addr.mk 0 0 none)) 3 3), (Go.Value.slice (Option.some (Go.Addr.mk 4 0 none)) 3 3), (Go.Value.int Go.IntKind.i64 (1 : Int)), (Go.Value.int Go.IntKind.i64 (Go.VS.addI Go.IntKind.i64 k (1 : Int)))])), (Go.VS.mkSt [(Go.VS.Blk.cells [(Go.Value.slice (Option.some (Go.Addr.mk 1 0 none)) n0 18446744073709551616), (Go.Value.slice (Option.some (Go.Addr.mk 2 0 none)) n1 18446744073709551616), (Go.Value.slice (Option.some (Go.Addr.mk 3 0 none)) n2 18446744073709551616)] 37 Bool.true), (Go.VS.Blk.cells (Go.VS.renL Bool.true (Go.VS.rhoO 8 []) c0) 5 Bool.false), (Go.VS.Blk.cells (Go.VS.renL Bool.true (Go.VS.rhoO 8 []) c1) 5 Bool.false), (Go.VS.Blk.cells (Go.VS.renL Bool.true (Go.VS.rhoO 8 []) c2) 5 Bool.false), (Go.VS.Blk.cells [(Go.Value.slice (Option.some (Go.Addr.mk 5 0 none)) m0 18446744073709551616), (Go.Value.slice (Option.some (Go.Addr.mk 6 0 none)) m1 18446744073709551616), (Go.Value.slice (Option.some (Go.Addr.mk 7 0 none)) m2 18446744073709551616)] 37 Bool.true), (Go.VS.Blk.cells (Go.VS.renL Bool.true (Go.VS.rhoO 8 []) d0) 5 Bool.false), (Go.VS.Blk.cells (Go.VS.renL Bool.true (Go.VS.rhoO 8 []) d1) 5 Bool.false), (Go.VS.Blk.cells (Go.VS.renL Bool.true (Go.VS.rhoO 8 []) d2) 5 Bool.false)]))))))))
   (some ((Go.Value.tuple (Array.mk [(Go.Value.int Go.IntKind.i64 (7 : Int)), (Go.Value.slice (Option.some (Go.Addr.mk 0 0 none)) 3 3), (Go.Value.slice (Option.some (Go.Addr.mk 4 0 none)) 3 3), (Go.Value.int Go.IntKind.i64 (1 : Int)), (Go.Value.int Go.IntKind.i64 k)])), (Go.VS.mkSt [(Go.VS.Blk.cells [(Go.Value.slice (Option.some (Go.Addr.mk 1 0 none)) n0 18446744073709551616), (Go.Value.slice (Option.some (Go.Addr.mk 2 0 none)) n1 18446744073709551616), (Go.Value.slice (Option.some (Go.Addr.mk 3 0 none)) n2 18446744073709551616)] 37 Bool.true), (Go.VS.Blk.cells (Go.VS.renL Bool.true (Go.VS.rhoO 8 []) c0) 5 Bool.false), (Go.VS.Blk.cells (Go.VS.renL Bool.true (Go.VS.rhoO 8 []) c1) 5 Bool.false), (Go.VS.Blk.cells (Go.VS.renL Bool.true (Go.VS.rhoO 8 []) c2) 5 Bool.false), (Go.VS.Blk.cells [(Go.Value.slice (Option.some (Go.Addr.mk 5 0 none)) m0 18446744073709551616), (Go.Value.slice (Option.some (Go.Addr.mk 6 0 none)) m1 18446744073709551616), (Go.Value.slice (Option.some (Go.Addr.mk 7 0 none)) m2 18446744073709551616)] 37 Bool.true), (Go.VS.Blk.cells (Go.VS.renL Bool.true (Go.VS.rhoO 8 []) d0) 5 Bool.false), (Go.VS.Blk.cells (Go.VS.renL Bool.true (Go.VS.rhoO 8 []) d1) 5 Bool.false), (Go.VS.Blk.cells (Go.VS.renL Bool.true (Go.VS.rhoO 8 []) d2) 5 Bool.false)])))) := by kernel_rfl
theorem dec_ap2 (n0 n1 n2 m0 m1 m2 : Nat) (c0 c1 c2 d0 d1 d2 : List Value) (k : Int) : roundQ P E noCt 50 37 Bap Hap [.slice (some ⟨0, 0, none⟩) 3 3, .slice (some ⟨4, 0, none⟩) 3 3, .int .i64 2, .int .i64 k] [.cells [.slice (some ⟨1, 0, none⟩) n0 unk, .slice (some ⟨2, 0, none⟩) n1 unk, .slice (some ⟨3, 0, none⟩) n2 unk] 37 true, .cells c0 5 false, .cells c1 5 false, .cells c2 5 false, .cells [.slice (some ⟨5, 0, none⟩) m0 unk, .slice (some ⟨6, 0, none⟩) m1 unk, .slice (some ⟨7, 0, none⟩) m2 unk] 37 true, .cells d0 5 false, .cells d1 5 false, .cells d2 5 false] =
  (iteB (Go.VS.ltI k (Go.VS.lenI n2))
   (needB (Go.VS.inI k n2)
    (needB (Bool.and (Nat.ble (Nat.add (Nat.add 0 (Go.VS.atN k 1)) 1) (List.length c2)) (Go.VS.etaB (Go.VS.Eta.int Go.IntKind.u8) (Go.VS.nthD c2 (Nat.add 0 (Go.VS.atN k 1)))))
     (needB (Go.VS.inI k m2)
      (needB (Bool.and (Nat.ble (Nat.add (Nat.add 0 (Go.VS.atN k 1)) 1) (List.length d2)) (Go.VS.etaB (Go.VS.Eta.int Go.IntKind.u8) (Go.VS.nthD d2 (Nat.add 0 (Go.VS.atN k 1)))))
       (iteB (Go.VS.neI (Go.VS.asI (Go.VS.nthD c2 (Nat.add 0 (Go.VS.atN k 1)))) (Go.VS.comI Go.IntKind.u8 (Go.VS.asI (Go.VS.nthD d2 (Nat.add 0 (Go.VS.atN k 1))))))
        (some ((Go.Value.tuple (Array.mk [(Go.Value.int Go.IntKind.i64 (-1 : Int)), (Go.Value.slice (Option.some (Go.Addr.mk 0 0 none)) 3 3), (Go.Value.slice (Option.some (Go.Addr.mk 4 0 none)) 3 3), (Go.Value.int Go.IntKind.i64 (2 : Int)), (Go.Value.int Go.IntKind.i64 k)])), (Go.VS.mkSt [(Go.VS.Blk.cells [(Go.Value.slice (Option.some (Go.Addr.mk 1 0 none)) n0 18446744073709551616), (Go.Value.slice (Option.some (Go.Addr.mk 2 0 none)) n1 18446744073709551616), (Go.Value.slice (Option.some (Go.Addr.mk 3 0 none)) n2 18446744073709551616)] 37 Bool.true), (Go.VS.Blk.cells (Go.VS.renL Bool.true (Go.VS.rhoO 8 []) c0) 5 Bool.false), (Go.VS.Blk.cells (Go.VS.renL Bool.true (Go.VS.rhoO 8 []) c1) 5 Bool.false), (Go.VS.Blk.cells (Go.VS.renL Bool.true (Go.VS.rhoO 8 []) c2) 5 Bool.false), (Go.VS.Blk.cells [(Go.Value.slice (Option.some (Go.Addr.mk 5 0 none)) m0 18446744073709551616), (Go.Value.slice (Option.some (Go.Addr.mk 6 0 none)) m1 18446744073709551616), (Go.Value.slice (Option.some (Go.Addr.mk 7 0 none)) m2 18446744073709551616)] 37 Bool.true), (Go.VS.Blk.cells (Go.VS.renL Bool.true (Go.VS.rhoO 8 []) d0) 5 Bool.false), (Go.VS.Blk.cells (Go.VS.renL Bool.true (Go.VS.rhoO 8 []) d1) 5 Bool.false), (Go.VS.Blk.cells (Go.VS.renL Bool.true (Go.VS.rhoO 8 []) d2) 5 Bool.false)])))
        (some ((Go.Value.tuple (Array.mk [(Go.Value.int Go.IntKind.i64 (0 : Int)), (Go.Value.slice (Option.some (Go.Addr.mk 0 0 none)) 3 3), (Go.Value.slice (Option.some (Go.Addr.mk 4 0 none)) 3 3), (Go.Value.int Go.IntKind.i64 (2 : Int)), (Go.Value.int Go.IntKind.i64 (Go.VS.addI Go.IntKind.i64 k (1 : Int)))])), (Go.VS.mkSt [(Go.VS.Blk.cells [(Go.Value.slice (Option.some (Go.Addr.mk 1 0 none)) n0 18446744073709551616), (Go.Value.slice (Option.some (Go.Addr.mk 2 0 none)) n1 18446744073709551616), (Go.Value.slice (Option.some (Go.Addr.mk 3 0 none)) n2 18446744073709551616)] 37 Bool.true), (Go.VS.Blk.cells (Go.VS.renL Bool.true (Go.VS.rhoO 8 []) c0) 5 Bool.false), (Go.VS.Blk.cells (Go.VS.renL Bool.true (Go.VS.rhoO 8 []) c1) 5 Bool.false), (Go.VS.Blk.cells (Go.VS.renL Bool.true (Go.VS.rhoO 8 []) c2) 5 Bool.false), (Go.VS.Blk.cells [(Go.Value.slice (Option.some (Go.Addr.mk 5 0 none)) m0 18446744073709551616), (Go.Value.slice (Option.some (Go.Addr.mk 6 0 none)) m1 18446744073709551616), (Go.Value.slice (Option.some (Go.Addr.mk 7 0 none)) m2 18446744073709551616)] 37 Bool.true), (Go.VS.Blk.cells (Go.VS.renL Bool.true (Go.VS.rhoO 8 []) d0) 5 Bool.false), (Go.VS.Blk.cells (Go.VS.renL Bool.true (Go.VS.rhoO 8 []) d1) 5 Bool.false), (Go.VS.Blk.cells (Go.VS.renL Bool.true (Go.VS.rhoO 8 []) d2) 5 Bool.false)]))))))))
   (some ((Go.Value.tuple (Array.mk [(Go.Value.int Go.IntKind.i64 (7 : Int)), (Go.Value.slice (Option.some (Go.Addr.mk 0 0 none)) 3 3), (Go.Value.slice (Option.some (Go.Addr.mk 4 0 none)) 3 3), (Go.Value.int Go.IntKind.i64 (2 : Int)), (Go.Value.int Go.IntKind.i64 k)])), (Go.VS.mkSt [(Go.VS.Blk.cells [(Go.Value.slice (Option.some (Go.Addr.mk 1 0 none)) n0 18446744073709551616), (Go.Value.slice (Option.some (Go.Addr.mk 2 0 none)) n1 18446744073709551616), (Go.Value.slice (Option.some (Go.Addr.mk 3 0 none)) n2 18446744073709551616)] 37 Bool.true), (Go.VS.Blk.cells (Go.VS.renL Bool.true (Go.VS.rhoO 8 []) c0) 5 Bool.false), (Go.VS.Blk.cells (Go.VS.renL Bool.true (Go.VS.rhoO 8 []) c1) 5 Bool.false), (Go.VS.Blk.cells (Go.VS.renL Bool.true (Go.VS.rhoO 8 []) c2) 5 Bool.false), (Go.VS.Blk.cells [(Go.Value.slice (Option.some (Go.Addr.mk 5 0 none)) m0 18446744073709551616), (Go.Value.slice (Option.some (Go.Addr.mk 6 0 none)) m1 18446744073709551616), (Go.Value.slice (Option.some (Go.Addr.mk 7 0 none)) m2 18446744073709551616)] 37 Bool.true), (Go.VS.Blk.cells (Go.VS.renL Bool.true (Go.VS.rhoO 8 []) d0) 5 Bool.false), (Go.VS.Blk.cells (Go.VS.renL Bool.true (Go.VS.rhoO 8 []) d1) 5 Bool.false), (Go.VS.Blk.cells (Go.VS.renL Bool.true (Go.VS.rhoO 8 []) d2) 5 Bool.false)])))) := by kernel_rfl
theorem dec_aq (n2 m2 : Nat) (c2 d2 : List Value) (k : Int) : roundQ P E noCt 50 37 Bap Haq [.slice (some ⟨0, 0, none⟩) 3 3, .slice (some ⟨2, 0, none⟩) 3 3, .int .i64 2, .int .i64 k] [.cells [.slice none 0 0, .slice none 0 0, .slice (some ⟨1, 0, none⟩) n2 unk] 37 true, .cells c2 5 false, .cells [.slice (some ⟨3, 0, none⟩) 0 0, .slice (some ⟨4, 0, none⟩) 0 0, .slice (some ⟨5, 0, none⟩) m2 unk] 37 true, .cells [] 5 true, .cells [] 5 true, .cells d2 5 false] =
  (iteB (Go.VS.ltI k (Go.VS.lenI n2))
   (needB (Go.VS.inI k n2)
    (needB (Bool.and (Nat.ble (Nat.add (Nat.add 0 (Go.VS.atN k 1)) 1) (List.length c2)) (Go.VS.etaB (Go.VS.Eta.int Go.IntKind.u8) (Go.VS.nthD c2 (Nat.add 0 (Go.VS.atN k 1)))))
     (needB (Go.VS.inI k m2)
      (needB (Bool.and (Nat.ble (Nat.add (Nat.add 0 (Go.VS.atN k 1)) 1) (List.length d2)) (Go.VS.etaB (Go.VS.Eta.int Go.IntKind.u8) (Go.VS.nthD d2 (Nat.add 0 (Go.VS.atN k 1)))))
       (iteB (Go.VS.neI (Go.VS.asI (Go.VS.nthD c2 (Nat.add 0 (Go.VS.atN k 1)))) (Go.VS.comI Go.IntKind.u8 (Go.VS.asI (Go.VS.nthD d2 (Nat.add 0 (Go.VS.atN k 1))))))
        (some ((Go.Value.tuple (Array.mk [(Go.Value.int Go.IntKind.i64 (-1 : Int)), (Go.Value.slice (Option.some (Go.Addr.mk 0 0 none)) 3 3), (Go.Value.slice (Option.some (Go.Addr.mk 2 0 none)) 3 3), (Go.Value.int Go.IntKind.i64 (2 : Int)), (Go.Value.int Go.IntKind.i64 k)])), (Go.VS.mkSt [(Go.VS.Blk.cells [(Go.Value.slice none 0 0), (Go.Value.slice none 0 0), (Go.Value.slice (Option.some (Go.Addr.mk 1 0 none)) n2 18446744073709551616)] 37 Bool.true), (Go.VS.Blk.cells (Go.VS.renL Bool.true (Go.VS.rhoO 6 []) c2) 5 Bool.false), (Go.VS.Blk.cells [(Go.Value.slice (Option.some (Go.Addr.mk 3 0 none)) 0 0), (Go.Value.slice (Option.some (Go.Addr.mk 4 0 none)) 0 0), (Go.Value.slice (Option.some (Go.Addr.mk 5 0 none)) m2 18446744073709551616)] 37 Bool.true), (Go.VS.Blk.cells [] 5 Bool.true), (Go.VS.Blk.cells [] 5 Bool.true), (Go.VS.Blk.cells (Go.VS.renL Bool.true (Go.VS.rhoO 6 []) d2) 5 Bool.false)])))
        (some ((Go.Value.tuple (Array.mk [(Go.Value.int Go.IntKind.i64 (0 : Int)), (Go.Value.slice (Option.some (Go.Addr.mk 0 0 none)) 3 3), (Go.Value.slice (Option.some (Go.Addr.mk 2 0 none)) 3 3), (Go.Value.int Go.IntKind.i64 (2 : Int)), (Go.Value.int Go.IntKind.i64 (Go.VS.addI Go.IntKind.i64 k (1 : Int)))])), (Go.VS.mkSt [(Go.VS.Blk.cells [(Go.Value.slice none 0 0), (Go.Value.slice none 0 0), (Go.Value.slice (Option.some (Go.Addr.mk 1 0 none)) n2 18446744073709551616)] 37 Bool.true), (Go.VS.Blk.cells (Go.VS.renL Bool.true (Go.VS.rhoO 6 []) c2) 5 Bool.false), (Go.VS.Blk.cells [(Go.Value.slice (Option.some (Go.Addr.mk 3 0 none)) 0 0), (Go.Value.slice (Option.some (Go.Addr.mk 4 0 none)) 0 0), (Go.Value.slice (Option.some (Go.Addr.mk 5 0 none)) m2 18446744073709551616)] 37 Bool.true), (Go.VS.Blk.cells [] 5 Bool.true), (Go.VS.Blk.cells [] 5 Bool.true), (Go.VS.Blk.cells (Go.VS.renL Bool.true (Go.VS.rhoO 6 []) d2) 5 Bool.false)]))))))))
   (some ((Go.Value.tuple (Array.mk [(Go.Value.int Go.IntKind.i64 (7 : Int)), (Go.Value.slice (Option.some (Go.Addr.mk 0 0 none)) 3 3), (Go.Value.slice (Option.some (Go.Addr.mk 2 0 none)) 3 3), (Go.Value.int Go.IntKind.i64 (2 : Int)), (Go.Value.int Go.IntKind.i64 k)])), (Go.VS.mkSt [(Go.VS.Blk.cells [(Go.Value.slice none 0 0), (Go.Value.slice none 0 0), (Go.Value.slice (Option.some (Go.Addr.mk 1 0 none)) n2 18446744073709551616)] 37 Bool.true), (Go.VS.Blk.cells (Go.VS.renL Bool.true (Go.VS.rhoO 6 []) c2) 5 Bool.false), (Go.VS.Blk.cells [(Go.Value.slice (Option.some (Go.Addr.mk 3 0 none)) 0 0), (Go.Value.slice (Option.some (Go.Addr.mk 4 0 none)) 0 0), (Go.Value.slice (Option.some (Go.Addr.mk 5 0 none)) m2 18446744073709551616)] 37 Bool.true), (Go.VS.Blk.cells [] 5 Bool.true), (Go.VS.Blk.cells [] 5 Bool.true), (Go.VS.Blk.cells (Go.VS.renL Bool.true (Go.VS.rhoO 6 []) d2) 5 Bool.false)])))) := by kernel_rfl

theorem ap0_again {y0 y1 y2 : List UInt8} {k : Nat} (h : k < y0.length) (hl : y0.length < 9223372036854775807) :
    roundQ P E noCt 50 37 Bap Hap (apV 0 k) (apB y0 y1 y2) = some (.tuple ⟨exV .normal :: apV 0 ((k + 1 : Nat) : Int)⟩, mkSt (apB y0 y1 y2)) := by
  unfold apV apB sl
  rw [dec_ap0]
  have hw : addI .i64 (k : Int) 1 = ((k + 1 : Nat) : Int) := by
    unfold addI
    rw [wrap64 (by omega) (by omega)]; omega
  have hat : Nat.add 0 (atN (k : Int) 1) = k := by simp [atN]
  simp only [hat, nth_com h, nth_bc h, bc_length, comL_length, asI, bc_ren]
  refine ite_t (by simp [ltI, lenI, h]) (need_eq (inI_ok (by omega) (by omega)) (need_eq (and_ok (ble_ok (by show k + 1 ≤ _; omega)) rfl) (need_eq (inI_ok (by omega) (by omega)) (need_eq (and_ok (ble_ok (by show k + 1 ≤ _; omega)) rfl) (ite_f (com_ne _) (leaf_eq ?_ rfl))))))
  rw [hw]; rfl
theorem ap0_stop {y0 y1 y2 : List UInt8} :
    roundQ P E noCt 50 37 Bap Hap (apV 0 y0.length) (apB y0 y1 y2) = some (.tuple ⟨exV (.exit 6) :: apV 0 y0.length⟩, mkSt (apB y0 y1 y2)) := by
  unfold apV apB sl
  rw [dec_ap0]
  simp only [bc_ren]
  exact ite_f (by simp [ltI, lenI]) (leaf_eq rfl rfl)
theorem ap0_loop (y0 y1 y2 : List UInt8) (hl : y0.length < 9223372036854775807) : ∀ (j k : Nat), k + j = y0.length →
    LR P 37 6 Bap Hap (apV 0 k) (apB y0 y1 y2) .normal (apV 0 y0.length) (apB y0 y1 y2)
  | 0, k, h => by
    have : k = y0.length := by omega
    subst this
    exact LR.stop (n := 50) (engOk noCt) noNum (noCt_ok P) Bap_occ (by kernel_rfl) (e := .exit 6) ap0_stop (by intro h; cases h)
  | j + 1, k, h => LR.again (n := 50) (engOk noCt) noNum (noCt_ok P) Bap_occ (by kernel_rfl) (ap0_again (by omega) hl) (ap0_loop y0 y1 y2 hl j (k + 1) (by omega))

theorem ap1_again {y0 y1 y2 : List UInt8} {k : Nat} (h : k < y1.length) (hl : y1.length < 9223372036854775807) :
    roundQ P E noCt 50 37 Bap Hap (apV 1 k) (apB y0 y1 y2) = some (.tuple ⟨exV .normal :: apV 1 ((k + 1 : Nat) : Int)⟩, mkSt (apB y0 y1 y2)) := by
  unfold apV apB sl
  rw [dec_ap1]
  have hw : addI .i64 (k : Int) 1 = ((k + 1 : Nat) : Int) := by
    unfold addI
    rw [wrap64 (by omega) (by omega)]; omega
  have hat : Nat.add 0 (atN (k : Int) 1) = k := by simp [atN]
  simp only [hat, nth_com h, nth_bc h, bc_length, comL_length, asI, bc_ren]
  refine ite_t (by simp [ltI, lenI, h]) (need_eq (inI_ok (by omega) (by omega)) (need_eq (and_ok (ble_ok (by show k + 1 ≤ _; omega)) rfl) (need_eq (inI_ok (by omega) (by omega)) (need_eq (and_ok (ble_ok (by show k + 1 ≤ _; omega)) rfl) (ite_f (com_ne _) (leaf_eq ?_ rfl))))))
  rw [hw]; rfl
theorem ap1_stop {y0 y1 y2 : List UInt8} :
    roundQ P E noCt 50 37 Bap Hap (apV 1 y1.length) (apB y0 y1 y2) = some (.tuple ⟨exV (.exit 6) :: apV 1 y1.length⟩, mkSt (apB y0 y1 y2)) := by
  unfold apV apB sl
  rw [dec_ap1]
  simp only [bc_ren]
  exact ite_f (by simp [ltI, lenI]) (leaf_eq rfl rfl)
theorem ap1_loop (y0 y1 y2 : List UInt8) (hl : y1.length < 9223372036854775807) : ∀ (j k : Nat), k + j = y1.length →
    LR P 37 6 Bap Hap (apV 1 k) (apB y0 y1 y2) .normal (apV 1 y1.length) (apB y0 y1 y2)
  | 0, k, h => by
    have : k = y1.length := by omega
    subst this
    exact LR.stop (n := 50) (engOk noCt) noNum (noCt_ok P) Bap_occ (by kernel_rfl) (e := .exit 6) ap1_stop (by intro h; cases h)
  | j + 1, k, h => LR.again (n := 50) (engOk noCt) noNum (noCt_ok P) Bap_occ (by kernel_rfl) (ap1_again (by omega) hl) (ap1_loop y0 y1 y2 hl j (k + 1) (by omega))

theorem ap2_again {y0 y1 y2 : List UInt8} {k : Nat} (h : k < y2.length) (hl : y2.length < 9223372036854775807) :
    roundQ P E noCt 50 37 Bap Hap (apV 2 k) (apB y0 y1 y2) = some (.tuple ⟨exV .normal :: apV 2 ((k + 1 : Nat) : Int)⟩, mkSt (apB y0 y1 y2)) := by
  unfold apV apB sl
  rw [dec_ap2]
  have hw : addI .i64 (k : Int) 1 = ((k + 1 : Nat) : Int) := by
    unfold addI
    rw [wrap64 (by omega) (by omega)]; omega
  have hat : Nat.add 0 (atN (k : Int) 1) = k := by simp [atN]
  simp only [hat, nth_com h, nth_bc h, bc_length, comL_length, asI, bc_ren]
  refine ite_t (by simp [ltI, lenI, h]) (need_eq (inI_ok (by omega) (by omega)) (need_eq (and_ok (ble_ok (by show k + 1 ≤ _; omega)) rfl) (need_eq (inI_ok (by omega) (by omega)) (need_eq (and_ok (ble_ok (by show k + 1 ≤ _; omega)) rfl) (ite_f (com_ne _) (leaf_eq ?_ rfl))))))
  rw [hw]; rfl
theorem ap2_stop {y0 y1 y2 : List UInt8} :
    roundQ P E noCt 50 37 Bap Hap (apV 2 y2.length) (apB y0 y1 y2) = some (.tuple ⟨exV (.exit 6) :: apV 2 y2.length⟩, mkSt (apB y0 y1 y2)) := by
  unfold apV apB sl
  rw [dec_ap2]
  simp only [bc_ren]
  exact ite_f (by simp [ltI, lenI]) (leaf_eq rfl rfl)
theorem ap2_loop (y0 y1 y2 : List UInt8) (hl : y2.length < 9223372036854775807) : ∀ (j k : Nat), k + j = y2.length →
    LR P 37 6 Bap Hap (apV 2 k) (apB y0 y1 y2) .normal (apV 2 y2.length) (apB y0 y1 y2)
  | 0, k, h => by
    have : k = y2.length := by omega
    subst this
    exact LR.stop (n := 50) (engOk noCt) noNum (noCt_ok P) Bap_occ (by kernel_rfl) (e := .exit 6) ap2_stop (by intro h; cases h)
  | j + 1, k, h => LR.again (n := 50) (engOk noCt) noNum (noCt_ok P) Bap_occ (by kernel_rfl) (ap2_again (by omega) hl) (ap2_loop y0 y1 y2 hl j (k + 1) (by omega))

theorem aq_again {y2 : List UInt8} {k : Nat} (h : k < y2.length) (hl : y2.length < 9223372036854775807) :
    roundQ P E noCt 50 37 Bap Haq (aqV 2 k) (aqB y2) = some (.tuple ⟨exV .normal :: aqV 2 ((k + 1 : Nat) : Int)⟩, mkSt (aqB y2)) := by
  unfold aqV aqB sl
  rw [dec_aq]
  have hw : addI .i64 (k : Int) 1 = ((k + 1 : Nat) : Int) := by
    unfold addI
    rw [wrap64 (by omega) (by omega)]; omega
  have hat : Nat.add 0 (atN (k : Int) 1) = k := by simp [atN]
  simp only [hat, nth_com h, nth_bc h, bc_length, comL_length, asI, bc_ren]
  refine ite_t (by simp [ltI, lenI, h]) (need_eq (inI_ok (by omega) (by omega)) (need_eq (and_ok (ble_ok (by show k + 1 ≤ _; omega)) rfl) (need_eq (inI_ok (by omega) (by omega)) (need_eq (and_ok (ble_ok (by show k + 1 ≤ _; omega)) rfl) (ite_f (com_ne _) (leaf_eq ?_ rfl))))))
  rw [hw]; rfl
theorem aq_stop {y2 : List UInt8} :
    roundQ P E noCt 50 37 Bap Haq (aqV 2 y2.length) (aqB y2) = some (.tuple ⟨exV (.exit 6) :: aqV 2 y2.length⟩, mkSt (aqB y2)) := by
  unfold aqV aqB sl
  rw [dec_aq]
  simp only [bc_ren]
  exact ite_f (by simp [ltI, lenI]) (leaf_eq rfl rfl)
theorem aq_loop (y2 : List UInt8) (hl : y2.length < 9223372036854775807) : ∀ (j k : Nat), k + j = y2.length →
    LR P 37 6 Bap Haq (aqV 2 k) (aqB y2) .normal (aqV 2 y2.length) (aqB y2)
  | 0, k, h => by
    have : k = y2.length := by omega
    subst this
    exact LR.stop (n := 50) (engOk noCt) noNum (noCt_ok P) Bap_occ (by kernel_rfl) (e := .exit 6) aq_stop (by intro h; cases h)
  | j + 1, k, h => LR.again (n := 50) (engOk noCt) noNum (noCt_ok P) Bap_occ (by kernel_rfl) (aq_again (by omega) hl) (aq_loop y2 hl j (k + 1) (by omega))

open Classical in
noncomputable def apC (vs : List Value) (bs : List Blk) : Bool := decide (∃ (y0 y1 y2 : List UInt8) (i : Int), bs = apB y0 y1 y2 ∧ vs = apV i 0 ∧ (i = 0 ∨ i = 1 ∨ i = 2) ∧ y0.length < 9223372036854775807 ∧ y1.length < 9223372036854775807 ∧ y2.length < 9223372036854775807)
open Classical in
noncomputable def aqC (vs : List Value) (bs : List Blk) : Bool := decide (∃ (y2 : List UInt8), bs = aqB y2 ∧ vs = aqV 2 0 ∧ y2.length < 9223372036854775807)
open Classical in
theorem apC_of {vs : List Value} {bs : List Blk} (h : apC vs bs = true) : ∃ (y0 y1 y2 : List UInt8) (i : Int), bs = apB y0 y1 y2 ∧ vs = apV i 0 ∧ (i = 0 ∨ i = 1 ∨ i = 2) ∧ y0.length < 9223372036854775807 ∧ y1.length < 9223372036854775807 ∧ y2.length < 9223372036854775807 := by
  unfold apC at h; exact of_decide_eq_true h
open Classical in
theorem aqC_of {vs : List Value} {bs : List Blk} (h : aqC vs bs = true) : ∃ (y2 : List UInt8), bs = aqB y2 ∧ vs = aqV 2 0 ∧ y2.length < 9223372036854775807 := by
  unfold aqC at h; exact of_decide_eq_true h
open Classical in
theorem apC_mk {y0 y1 y2 : List UInt8} {i : Int} (hi : i = 0 ∨ i = 1 ∨ i = 2) (h0 : y0.length < 9223372036854775807) (h1 : y1.length < 9223372036854775807) (h2 : y2.length < 9223372036854775807) : apC (apV i 0) (apB y0 y1 y2) = true := by
  unfold apC; exact decide_eq_true ⟨y0, y1, y2, i, rfl, rfl, hi, h0, h1, h2⟩
open Classical in
theorem aqC_mk {y2 : List UInt8} (h2 : y2.length < 9223372036854775807) : aqC (aqV 2 0) (aqB y2) = true := by
  unfold aqC; exact decide_eq_true ⟨y2, rfl, rfl, h2⟩
/-- How far the last look goes. -/
def apK (vs : List Value) (bs : List Blk) : Int := match vs, bs with
  | [_, _, .int _ i, _], [_, .cells c0 _ _, .cells c1 _ _, .cells c2 _ _, _, _, _, _] => if i = 0 then c0.length else if i = 1 then c1.length else c2.length
  | _, [_, .cells c _ _, _, _, _, _] => c.length
  | _, _ => 0
def RapV (C : List Value → List Blk → Bool) (Z : List Value → List Blk → Int) : LoopFn := fun vs bs => match vs with
  | [_, _, .int .i64 i, _] => some (.ite (C vs bs) (.leaf (.normal, apV i (Z vs bs), bs)) .fail)
  | _ => none
noncomputable def RaqV (C : List Value → List Blk → Bool) (Z : List Value → List Blk → Int) : LoopFn := fun vs bs => match vs with
  | [_, _, .int .i64 i, _] => @Bool.rec (fun _ => Option (DT (Ex × List Value × List Blk))) none (some (.ite (C vs bs) (.leaf (.normal, aqV 2 (Z vs bs), bs)) .fail)) (eqI i 2)
  | _ => none
theorem ap_loopOk : LoopOk P 37 6 Bap Hap (RapV apC apK) where
  occ := loopAt_occ Bap_eq
  ok := by kernel_rfl
  run := by
    intro vs bs t hR e vs' bs' hev
    unfold RapV at hR
    split at hR
    · rename_i v0 v1 i v2
      obtain rfl := Option.some.inj hR
      cases hc : apC [v0, v1, .int .i64 i, v2] bs with
      | false => rw [hc] at hev; cases hev
      | true =>
        rw [hc] at hev
        simp only [DT.eval, Option.some.injEq, Prod.mk.injEq] at hev
        obtain ⟨rfl, rfl, rfl⟩ := hev
        obtain ⟨y0, y1, y2, i', rfl, e1, hi, l0, l1, l2⟩ := apC_of hc
        rw [e1]
        have hi' : i = i' := by unfold apV at e1; simp at e1; exact e1.2.2.1
        subst hi'
        rcases hi with rfl | rfl | rfl
        · have := ap0_loop y0 y1 y2 l0 y0.length 0 (by omega)
          rw [show apK (apV 0 0) (apB y0 y1 y2) = (y0.length : Int) by simp [apK, apV, apB, bc_length, comL_length]]
          exact this
        · have := ap1_loop y0 y1 y2 l1 y1.length 0 (by omega)
          rw [show apK (apV 1 0) (apB y0 y1 y2) = (y1.length : Int) by simp [apK, apV, apB, bc_length, comL_length]]
          exact this
        · have := ap2_loop y0 y1 y2 l2 y2.length 0 (by omega)
          rw [show apK (apV 2 0) (apB y0 y1 y2) = (y2.length : Int) by simp [apK, apV, apB, bc_length, comL_length]]
          exact this
    · cases hR
theorem ap_len : ∀ vs bs t, RapV apC apK vs bs = some t → ∀ e vs' bs', t.eval = some (e, vs', bs') → Hap.N ≤ bs'.length := by
  intro vs bs t hR e vs' bs' hev
  unfold RapV at hR
  split at hR
  · rename_i v0 v1 i v2
    obtain rfl := Option.some.inj hR
    cases hc : apC [v0, v1, .int .i64 i, v2] bs with
    | false => rw [hc] at hev; cases hev
    | true =>
      rw [hc] at hev
      simp only [DT.eval, Option.some.injEq, Prod.mk.injEq] at hev
      obtain ⟨rfl, rfl, rfl⟩ := hev
      obtain ⟨y0, y1, y2, i', rfl, e1, hi, l0, l1, l2⟩ := apC_of hc
      exact Nat.le_refl _
  · cases hR
theorem aq_of {vs : List Value} {bs : List Blk} {t : DT (Ex × List Value × List Blk)} (hR : RaqV aqC apK vs bs = some t) {e : Ex} {vs' : List Value} {bs' : List Blk} (hev : t.eval = some (e, vs', bs')) :
    ∃ y2 : List UInt8, y2.length < 9223372036854775807 ∧ vs = aqV 2 0 ∧ bs = aqB y2 ∧ e = .normal ∧ vs' = aqV 2 y2.length ∧ bs' = aqB y2 := by
  unfold RaqV at hR
  split at hR
  · rename_i v0 v1 i v2
    cases hb : eqI i 2 with
    | false => rw [hb] at hR; cases hR
    | true =>
      rw [hb] at hR
      obtain rfl := Option.some.inj hR
      cases hc : aqC [v0, v1, .int .i64 i, v2] bs with
      | false => rw [hc] at hev; cases hev
      | true =>
        rw [hc] at hev
        simp only [DT.eval, Option.some.injEq, Prod.mk.injEq] at hev
        obtain ⟨rfl, rfl, rfl⟩ := hev
        obtain ⟨y2, rfl, e1, l2⟩ := aqC_of hc
        rw [e1]
        exact ⟨y2, l2, rfl, rfl, rfl, by rw [show apK (aqV 2 0) (aqB y2) = (y2.length : Int) by simp [apK, aqV, aqB, bc_length, comL_length]], rfl⟩
  · cases hR
theorem aq_loopOk : LoopOk P 37 6 Bap Haq (RaqV aqC apK) where
  occ := loopAt_occ Bap_eq
  ok := by kernel_rfl
  run := by
    intro vs bs t hR e vs' bs' hev
    obtain ⟨y2, l2, rfl, rfl, rfl, rfl, rfl⟩ := aq_of hR hev
    exact aq_loop y2 l2 y2.length 0 (by omega)
theorem aq_len : ∀ vs bs t, RaqV aqC apK vs bs = some t → ∀ e vs' bs', t.eval = some (e, vs', bs') → Haq.N ≤ bs'.length := by
  intro vs bs t hR e vs' bs' hev
  obtain ⟨y2, l2, rfl, rfl, rfl, rfl, rfl⟩ := aq_of hR hev
  exact Nat.le_refl _
end Go.VS.Try
end

section
namespace Go.VS.Try
set_option linter.unusedSimpArgs false
set_option linter.unusedVariables false
set_option maxRecDepth 1000000
open Go.VS
theorem CallOkR.weak {g : FuncId} {R R' : CallFn} (h : CallOkR P g R) (k : ∀ args t', R' args = some t' → ∀ v bs, t'.eval = some (v, bs) → ∃ t, R args = some t ∧ t.eval = some (v, bs)) : CallOkR P g R' :=
  ⟨fun args t' hR v bs hev => by
    obtain ⟨t, h1, h2⟩ := k args t' hR v bs hev
    exact h.run args t h1 v bs h2⟩
theorem dec_copy (n b : Nat) (c : List Value) : callQ P E noCt 50 40 [mkFz 1 n b c] =
 (needB (List.all c oneCell)
 (iteB (Nat.beq n 0)
 (some ((Value.slice (Option.some (Addr.mk 0 0 none)) 0 0), (mkSt [(Blk.cells [] 5 Bool.true)])))
 (needB (Nat.ble (Nat.add 0 n) 4194304)
 (some ((Value.slice (Option.some (Addr.mk 0 0 none)) (Nat.add 0 n) 18446744073709551616), (mkSt [(Blk.cells (renL Bool.true (rhoO 0 [1]) (List.append [] c)) 5 Bool.false)])))))) := by kernel_rfl
def copC (t n : Nat) (c : List Value) : Bool := fzB t n c && Nat.ble 1 n
def RcopyV (C : Nat → Nat → List Value → Bool) : CallFn
  | [.iface t (.agg ⟨.slice none n b :: c⟩)] => some (.ite (C t n c) (.leaf (sl 0 n, [.cells c 5 false])) .fail)
  | _ => none
theorem copy_ok : CallOkR P 40 (RcopyV copC) := by
  refine ok_of (noCt_ok P) (n := 50) fun args t hR v bs hev => ?_
  unfold RcopyV at hR
  split at hR
  · rename_i t n b c
    obtain rfl := Option.some.inj hR
    cases hc : copC t n c with
    | false => rw [hc] at hev; cases hev
    | true =>
      rw [hc] at hev
      simp only [DT.eval, Option.some.injEq, Prod.mk.injEq] at hev
      obtain ⟨rfl, rfl⟩ := hev
      simp only [copC, Bool.and_eq_true] at hc
      obtain ⟨rfl, rfl, ⟨l, rfl, hl⟩, h4⟩ := fzB_of hc.1
      have h1 := Nat.le_of_ble_eq_true hc.2
      rw [bc_length] at h4 h1 ⊢
      show callQ P E noCt 50 _ [mkFz 1 l.length b (bc l)] = _
      rw [dec_copy]
      try simp only [oldC_zero, bc_ren]
      refine need_eq (bc_one _) (ite_f ?_ (need_eq (ble_ok (by show 0 + l.length ≤ _; omega)) ?_))
      · exact Bool.eq_false_iff.2 fun h => by have := Nat.eq_of_beq_eq_true h; omega
      · refine leaf_eq ?_ ?_
        · show Value.slice _ (0 + l.length) _ = sl 0 l.length
          rw [Nat.zero_add]; rfl
        · rw [show List.append [] (bc l) = bc l from rfl, bc_ren]
  · cases hR
/-- Two lists that are the same. -/
def RsameTV (Q : List UInt8 → List UInt8 → Bool) : CallFn
  | [.iface t (.agg ⟨.slice none n b :: c⟩), .iface t' (.agg ⟨.slice none n' b' :: c'⟩)] => some (.ite (fzB t n c && fzB t' n' c' && Q (c.map byteOf) (c'.map byteOf)) (.leaf (.bool true, [])) .fail)
  | _ => none
theorem sameT_ok : CallOkR P 35 (RsameTV sameL) := by
  refine CallOkR.weak same_ok fun args t' hR v bs hev => ?_
  unfold RsameTV at hR
  split at hR
  · rename_i t n b c t' n' b' c'
    refine ⟨_, rfl, ?_⟩
    obtain rfl := Option.some.inj hR
    cases hc : fzB t n c && fzB t' n' c' with
    | false => rw [hc] at hev; cases hev
    | true =>
      rw [hc] at hev
      cases hq : sameL (c.map byteOf) (c'.map byteOf) with
      | false => rw [hq] at hev; cases hev
      | true =>
        rw [hq] at hev
        simp only [Bool.and_self, DT.eval, Option.some.injEq, Prod.mk.injEq] at hev
        obtain ⟨rfl, rfl⟩ := hev
        rfl
  · cases hR
/-! ### where the op may be -/
def RopTV (O : Bool → ByteArray → ByteArray → Bool) (A : List UInt8 → Bool → ByteArray → ByteArray → List UInt8) (z : Bool) : CallFn
  | [.iface t (.agg ⟨.slice none n b :: c⟩), .agg ⟨[.bool p, .string k, .string v]⟩] => match z with
    | true => some (.ite (fzW t n c && O p k v) (.leaf (.tuple ⟨[sl 0 (A (c.map byteOf) p k v).length, .int .i64 0]⟩, [.cells (bc (A (c.map byteOf) p k v)) 5 false])) .fail)
    | false => some (.ite (fzW t n c && O p k v) (.leaf (.tuple ⟨[.slice none 0 0, .int .i64 2]⟩, [])) .fail)
  | _ => none
def RtxTV (O : Bool → ByteArray → ByteArray → Bool) (T : Bool → ByteArray → ByteArray → ByteArray) (z : Bool) : CallFn
  | [.agg ⟨[.bool p, .string k, .string v]⟩] => match z with
    | true => some (.ite (O p k v) (.leaf (.tuple ⟨[.string (T p k v), .int .i64 0]⟩, [])) .fail)
    | false => some (.ite (O p k v) (.leaf (.tuple ⟨[.string ⟨#[]⟩, .int .i64 2]⟩, [])) .fail)
  | _ => none
def RckTV (O : Bool → ByteArray → ByteArray → Bool) (z : Bool) : CallFn
  | [.agg ⟨[.bool p, .string k, .string v]⟩] => match z with
    | true => some (.ite (O p k v) (.leaf (.int .i64 0, [])) .fail)
    | false => some (.ite (O p k v) (.leaf (.int .i64 2, [])) .fail)
  | _ => none
/-- May it be (z), or not? -/
def opZ (z p : Bool) (k v : ByteArray) : Bool := match z with
  | true => opOk p k v
  | false => !opOk p k v
theorem opT_ok {F : Nat} (z : Bool) (h : CallOkR P F RopA) : CallOkR P F (RopTV (opZ z) appO z) := by
  refine CallOkR.weak h fun args t' hR v bs hev => ?_
  unfold RopTV at hR
  split at hR
  · rename_i t n b c p k u
    refine ⟨_, rfl, ?_⟩
    cases z <;>
    · obtain rfl := Option.some.inj hR
      cases hc : fzW t n c
      · rw [hc] at hev; cases hev
      · rw [hc] at hev
        cases ho : opOk p k u <;> simp only [opZ, ho, Bool.and_true, Bool.and_false, Bool.not_true, Bool.not_false] at hev <;>
          first
          | (cases hev; done)
          | (simp only [DT.eval, Option.some.injEq, Prod.mk.injEq] at hev; obtain ⟨rfl, rfl⟩ := hev; rfl)
  · cases hR
theorem txT_ok {F : Nat} (z : Bool) (h : CallOkR P F (RTextV opOk textT)) : CallOkR P F (RtxTV (opZ z) textT z) := by
  refine CallOkR.weak h fun args t' hR v bs hev => ?_
  unfold RtxTV at hR
  split at hR
  · rename_i p k u
    refine ⟨_, rfl, ?_⟩
    cases z <;>
    · obtain rfl := Option.some.inj hR
      cases ho : opOk p k u <;> simp only [opZ, ho, Bool.not_true, Bool.not_false] at hev <;>
        first
        | (cases hev; done)
        | (simp only [DT.eval, Option.some.injEq, Prod.mk.injEq] at hev; obtain ⟨rfl, rfl⟩ := hev; rfl)
  · cases hR
theorem ckT_ok {F : Nat} (z : Bool) (h : CallOkR P F Rcheck) : CallOkR P F (RckTV (opZ z) z) := by
  refine CallOkR.weak h fun args t' hR v bs hev => ?_
  unfold RckTV at hR
  split at hR
  · rename_i p k u
    refine ⟨_, rfl, ?_⟩
    cases z <;>
    · obtain rfl := Option.some.inj hR
      cases ho : opOk p k u <;> simp only [opZ, ho, Bool.not_true, Bool.not_false] at hev <;>
        first
        | (cases hev; done)
        | (simp only [DT.eval, Option.some.injEq, Prod.mk.injEq] at hev; obtain ⟨rfl, rfl⟩ := hev; rfl)
  · cases hR
noncomputable def ctCv (z : Bool) (O : Bool → ByteArray → ByteArray → Bool) (A : List UInt8 → Bool → ByteArray → ByteArray → List UInt8) (T : Bool → ByteArray → ByteArray → ByteArray) (Q : List UInt8 → List UInt8 → Bool) (G : List Value → List Value) (K : Nat → Nat → List Value → Bool)
    (C : Addr → Nat → Nat → List Value → TypeId → Bool) (M : List UInt8 → List UInt8) (L1 L2 : List Value → List Blk → Bool) (Z : List Value → List Blk → Int) : Ct :=
  addCall P 29 (RopTV O A z) (addCall P 30 (RopTV O A z) (addCall P 31 (RtxTV O T z) (addCall P 32 (RtxTV O T z)
    (addCall P 33 (RckTV O z) (addCall P 34 (RckTV O z) (addCall P 25 RlivesB (addCall P 35 (RsameTV Q) (addCall P 28 (RlentV G)
    (addCall P 40 (RcopyV K) (addCallD 51 (RoverV C M) (addLoopM 37 6 Hap (RapV L1 Z) (addLoopM 37 6 Haq (RaqV L2 Z) noCt))))))))))))
noncomputable def ctC (z : Bool) : Ct := ctCv z (opZ z) appO textT sameL lentM copC ovrC comL apC aqC apK
theorem ctC_ok (z : Bool) : CtOk P (ctC z) :=
  addCall_ok (addCall_ok (addCall_ok (addCall_ok (addCall_ok (addCall_ok (addCall_ok (addCall_ok (addCall_ok (addCall_ok (addCallD_ok (addLoopM_ok (addLoopM_ok (noCt_ok P) aq_loopOk aq_len) ap_loopOk ap_len) over_ok) copy_ok) lent_ok) sameT_ok) lives_ok) (ckT_ok z rCheck_ok)) (ckT_ok z Check_ok)) (txT_ok z rText_ok)) (txT_ok z Text_ok)) (opT_ok z rOpApp_ok)) (opT_ok z opApp_ok)
theorem dec_opCallsT (O : Bool → ByteArray → ByteArray → Bool) (A : List UInt8 → Bool → ByteArray → ByteArray → List UInt8) (T : Bool → ByteArray → ByteArray → ByteArray) (Q : List UInt8 → List UInt8 → Bool) (G : List Value → List Value) (K : Nat → Nat → List Value → Bool) (C : Addr → Nat → Nat → List Value → TypeId → Bool) (M : List UInt8 → List UInt8) (L1 L2 : List Value → List Blk → Bool) (Z : List Value → List Blk → Int) (n b : Nat) (c : List Value) (p : Bool) (k v : ByteArray) : callQ P E (ctCv true O A T Q G K C M L1 L2 Z) 200 8 [mkFz 1 n b c, .agg ⟨[.bool p, .string k, .string v]⟩] =
 (needB (fzB 18446744073709551617 n c)
 (needB (cutI (0 : Int) (lenI n) (Nat.div (Nat.sub (List.length (renL Bool.false (shiftN 1) (G c))) 0) 1))
 (iteB (Nat.ble 1 (Nat.div (Nat.sub (List.length (renL Bool.false (shiftN 1) (G c))) 0) 1))
 (needB (Bool.and (Nat.ble (Nat.add 0 (Nat.mul (lapN (0 : Int) (lenI n)) 1)) (List.length (renL Bool.false (shiftN 1) (G c)))) (Nat.ble 1 1))
 (needB (flatL (takeC (Nat.mul (lapN (0 : Int) (lenI n)) 1) (dropC 0 (renL Bool.false (shiftN 1) (G c)))))
 (needB (Bool.and (fzW 18446744073709551617 (lapN (0 : Int) (lenI n)) (takeC (Nat.mul (lapN (0 : Int) (lenI n)) 1) (dropC 0 (renL Bool.false (shiftN 1) (G c))))) (O p k v))
 (needB (cutI (0 : Int) (lenI n) (Nat.div (Nat.sub (List.length (renL Bool.false (shiftN 1) (G c))) 0) 1))
 (iteB (Nat.ble 1 (Nat.div (Nat.sub (List.length (renL Bool.false (shiftN 1) (G c))) 0) 1))
 (needB (Bool.and (Nat.ble (Nat.add 0 (Nat.mul (lapN (0 : Int) (lenI n)) 1)) (List.length (renL Bool.false (shiftN 1) (G c)))) (Nat.ble 1 1))
 (needB (flatL (takeC (Nat.mul (lapN (0 : Int) (lenI n)) 1) (dropC 0 (renL Bool.false (shiftN 1) (G c)))))
 (needB (Bool.and (fzW 18446744073709551617 (lapN (0 : Int) (lenI n)) (takeC (Nat.mul (lapN (0 : Int) (lenI n)) 1) (dropC 0 (renL Bool.false (shiftN 1) (G c))))) (O p k v))
 (needB (Bool.and (fzW 18446744073709551617 n c) (O p k v))
 (needB (O p k v)
 (needB (O p k v)
 (needB (O p k v)
 (needB (O p k v)
 (iteB (eqS (T p k v) (T p k v))
 (needB (Bool.and (Nat.ble (Nat.add 0 (Nat.mul (List.length (A (List.map byteOf (takeC (Nat.mul (lapN (0 : Int) (lenI n)) 1) (dropC 0 (renL Bool.false (shiftN 1) (G c))))) p k v)) 1)) (List.length (renL Bool.false (shiftN 13) (bc (A (List.map byteOf (takeC (Nat.mul (lapN (0 : Int) (lenI n)) 1) (dropC 0 (renL Bool.false (shiftN 1) (G c))))) p k v))))) (Nat.ble 1 1))
 (needB (flatL (takeC (Nat.mul (List.length (A (List.map byteOf (takeC (Nat.mul (lapN (0 : Int) (lenI n)) 1) (dropC 0 (renL Bool.false (shiftN 1) (G c))))) p k v)) 1) (dropC 0 (renL Bool.false (shiftN 13) (bc (A (List.map byteOf (takeC (Nat.mul (lapN (0 : Int) (lenI n)) 1) (dropC 0 (renL Bool.false (shiftN 1) (G c))))) p k v))))))
 (needB (Bool.and (Nat.ble (Nat.add 0 (Nat.mul (List.length (A (List.map byteOf c) p k v)) 1)) (List.length (renL Bool.false (shiftN 26) (bc (A (List.map byteOf c) p k v))))) (Nat.ble 1 1))
 (needB (flatL (takeC (Nat.mul (List.length (A (List.map byteOf c) p k v)) 1) (dropC 0 (renL Bool.false (shiftN 26) (bc (A (List.map byteOf c) p k v))))))
 (needB (Bool.and (Bool.and (fzB 18446744073709551617 (List.length (A (List.map byteOf (takeC (Nat.mul (lapN (0 : Int) (lenI n)) 1) (dropC 0 (renL Bool.false (shiftN 1) (G c))))) p k v)) (takeC (Nat.mul (List.length (A (List.map byteOf (takeC (Nat.mul (lapN (0 : Int) (lenI n)) 1) (dropC 0 (renL Bool.false (shiftN 1) (G c))))) p k v)) 1) (dropC 0 (renL Bool.false (shiftN 13) (bc (A (List.map byteOf (takeC (Nat.mul (lapN (0 : Int) (lenI n)) 1) (dropC 0 (renL Bool.false (shiftN 1) (G c))))) p k v)))))) (fzB 18446744073709551617 (List.length (A (List.map byteOf c) p k v)) (takeC (Nat.mul (List.length (A (List.map byteOf c) p k v)) 1) (dropC 0 (renL Bool.false (shiftN 26) (bc (A (List.map byteOf c) p k v))))))) (Q (List.map byteOf (takeC (Nat.mul (List.length (A (List.map byteOf (takeC (Nat.mul (lapN (0 : Int) (lenI n)) 1) (dropC 0 (renL Bool.false (shiftN 1) (G c))))) p k v)) 1) (dropC 0 (renL Bool.false (shiftN 13) (bc (A (List.map byteOf (takeC (Nat.mul (lapN (0 : Int) (lenI n)) 1) (dropC 0 (renL Bool.false (shiftN 1) (G c))))) p k v)))))) (List.map byteOf (takeC (Nat.mul (List.length (A (List.map byteOf c) p k v)) 1) (dropC 0 (renL Bool.false (shiftN 26) (bc (A (List.map byteOf c) p k v))))))))
 (needB (fzB 18446744073709551617 n c)
 (needB (Bool.and (Nat.ble (Nat.add 0 (Nat.mul (HAdd.hAdd n 3) 1)) (List.length (renL Bool.false (shiftN 1) (G c)))) (Nat.ble 1 1))
 (needB (flatL (takeC (Nat.mul (HAdd.hAdd n 3) 1) (dropC 0 (renL Bool.false (shiftN 1) (G c)))))
 (needB (Bool.and (Nat.ble (Nat.add 0 (Nat.mul (HAdd.hAdd n 3) 1)) (List.length (renL Bool.false (shiftN 68) (G c)))) (Nat.ble 1 1))
 (needB (flatL (takeC (Nat.mul (HAdd.hAdd n 3) 1) (dropC 0 (renL Bool.false (shiftN 68) (G c)))))
 (needB (Bool.and (Bool.and (fzB 18446744073709551617 (HAdd.hAdd n 3) (takeC (Nat.mul (HAdd.hAdd n 3) 1) (dropC 0 (renL Bool.false (shiftN 1) (G c))))) (fzB 18446744073709551617 (HAdd.hAdd n 3) (takeC (Nat.mul (HAdd.hAdd n 3) 1) (dropC 0 (renL Bool.false (shiftN 68) (G c)))))) (Q (List.map byteOf (takeC (Nat.mul (HAdd.hAdd n 3) 1) (dropC 0 (renL Bool.false (shiftN 1) (G c))))) (List.map byteOf (takeC (Nat.mul (HAdd.hAdd n 3) 1) (dropC 0 (renL Bool.false (shiftN 68) (G c)))))))
 (needB (Bool.and (Nat.ble (Nat.add 0 (Nat.mul (List.length (A (List.map byteOf (takeC (Nat.mul (lapN (0 : Int) (lenI n)) 1) (dropC 0 (renL Bool.false (shiftN 1) (G c))))) p k v)) 1)) (List.length (renL Bool.false (shiftN 13) (bc (A (List.map byteOf (takeC (Nat.mul (lapN (0 : Int) (lenI n)) 1) (dropC 0 (renL Bool.false (shiftN 1) (G c))))) p k v))))) (Nat.ble 1 1))
 (needB (flatL (takeC (Nat.mul (List.length (A (List.map byteOf (takeC (Nat.mul (lapN (0 : Int) (lenI n)) 1) (dropC 0 (renL Bool.false (shiftN 1) (G c))))) p k v)) 1) (dropC 0 (renL Bool.false (shiftN 13) (bc (A (List.map byteOf (takeC (Nat.mul (lapN (0 : Int) (lenI n)) 1) (dropC 0 (renL Bool.false (shiftN 1) (G c))))) p k v))))))
 (needB (K 18446744073709551617 (List.length (A (List.map byteOf (takeC (Nat.mul (lapN (0 : Int) (lenI n)) 1) (dropC 0 (renL Bool.false (shiftN 1) (G c))))) p k v)) (takeC (Nat.mul (List.length (A (List.map byteOf (takeC (Nat.mul (lapN (0 : Int) (lenI n)) 1) (dropC 0 (renL Bool.false (shiftN 1) (G c))))) p k v)) 1) (dropC 0 (renL Bool.false (shiftN 13) (bc (A (List.map byteOf (takeC (Nat.mul (lapN (0 : Int) (lenI n)) 1) (dropC 0 (renL Bool.false (shiftN 1) (G c))))) p k v))))))
 (needB (Bool.and (Nat.ble (Nat.add 0 (Nat.mul (List.length (A (List.map byteOf (takeC (Nat.mul (lapN (0 : Int) (lenI n)) 1) (dropC 0 (renL Bool.false (shiftN 1) (G c))))) p k v)) 1)) (List.length (renL Bool.false (shiftN 25) (bc (A (List.map byteOf (takeC (Nat.mul (lapN (0 : Int) (lenI n)) 1) (dropC 0 (renL Bool.false (shiftN 1) (G c))))) p k v))))) (Nat.ble 1 1))
 (needB (flatL (takeC (Nat.mul (List.length (A (List.map byteOf (takeC (Nat.mul (lapN (0 : Int) (lenI n)) 1) (dropC 0 (renL Bool.false (shiftN 1) (G c))))) p k v)) 1) (dropC 0 (renL Bool.false (shiftN 25) (bc (A (List.map byteOf (takeC (Nat.mul (lapN (0 : Int) (lenI n)) 1) (dropC 0 (renL Bool.false (shiftN 1) (G c))))) p k v))))))
 (needB (K 18446744073709551617 (List.length (A (List.map byteOf (takeC (Nat.mul (lapN (0 : Int) (lenI n)) 1) (dropC 0 (renL Bool.false (shiftN 1) (G c))))) p k v)) (takeC (Nat.mul (List.length (A (List.map byteOf (takeC (Nat.mul (lapN (0 : Int) (lenI n)) 1) (dropC 0 (renL Bool.false (shiftN 1) (G c))))) p k v)) 1) (dropC 0 (renL Bool.false (shiftN 25) (bc (A (List.map byteOf (takeC (Nat.mul (lapN (0 : Int) (lenI n)) 1) (dropC 0 (renL Bool.false (shiftN 1) (G c))))) p k v))))))
 (needB (Bool.and (Nat.ble (Nat.add 0 (Nat.mul (HAdd.hAdd n 3) 1)) (List.length (renL Bool.false (shiftN 1) (G c)))) (Nat.ble 1 1))
 (needB (flatL (takeC (Nat.mul (HAdd.hAdd n 3) 1) (dropC 0 (renL Bool.false (shiftN 1) (G c)))))
 (needB (K 18446744073709551617 (HAdd.hAdd n 3) (takeC (Nat.mul (HAdd.hAdd n 3) 1) (dropC 0 (renL Bool.false (shiftN 1) (G c)))))
 (needB (Bool.and (Nat.ble (Nat.add 0 (Nat.mul (List.length (A (List.map byteOf (takeC (Nat.mul (lapN (0 : Int) (lenI n)) 1) (dropC 0 (renL Bool.false (shiftN 1) (G c))))) p k v)) 1)) (List.length (renL Bool.false (shiftN 13) (bc (A (List.map byteOf (takeC (Nat.mul (lapN (0 : Int) (lenI n)) 1) (dropC 0 (renL Bool.false (shiftN 1) (G c))))) p k v))))) (Nat.ble 1 1))
 (needB (flatL (takeC (Nat.mul (List.length (A (List.map byteOf (takeC (Nat.mul (lapN (0 : Int) (lenI n)) 1) (dropC 0 (renL Bool.false (shiftN 1) (G c))))) p k v)) 1) (dropC 0 (renL Bool.false (shiftN 13) (bc (A (List.map byteOf (takeC (Nat.mul (lapN (0 : Int) (lenI n)) 1) (dropC 0 (renL Bool.false (shiftN 1) (G c))))) p k v))))))
 (needB (Bool.and (Nat.ble (Nat.add 0 (Nat.mul (List.length (A (List.map byteOf (takeC (Nat.mul (lapN (0 : Int) (lenI n)) 1) (dropC 0 (renL Bool.false (shiftN 1) (G c))))) p k v)) 1)) (List.length (renL Bool.false (shiftN 70) (takeC (Nat.mul (List.length (A (List.map byteOf (takeC (Nat.mul (lapN (0 : Int) (lenI n)) 1) (dropC 0 (renL Bool.false (shiftN 1) (G c))))) p k v)) 1) (dropC 0 (renL Bool.false (shiftN 13) (bc (A (List.map byteOf (takeC (Nat.mul (lapN (0 : Int) (lenI n)) 1) (dropC 0 (renL Bool.false (shiftN 1) (G c))))) p k v)))))))) (Nat.ble 1 1))
 (needB (flatL (takeC (Nat.mul (List.length (A (List.map byteOf (takeC (Nat.mul (lapN (0 : Int) (lenI n)) 1) (dropC 0 (renL Bool.false (shiftN 1) (G c))))) p k v)) 1) (dropC 0 (renL Bool.false (shiftN 70) (takeC (Nat.mul (List.length (A (List.map byteOf (takeC (Nat.mul (lapN (0 : Int) (lenI n)) 1) (dropC 0 (renL Bool.false (shiftN 1) (G c))))) p k v)) 1) (dropC 0 (renL Bool.false (shiftN 13) (bc (A (List.map byteOf (takeC (Nat.mul (lapN (0 : Int) (lenI n)) 1) (dropC 0 (renL Bool.false (shiftN 1) (G c))))) p k v)))))))))
 (needB (Bool.and (Bool.and (fzB 18446744073709551617 (List.length (A (List.map byteOf (takeC (Nat.mul (lapN (0 : Int) (lenI n)) 1) (dropC 0 (renL Bool.false (shiftN 1) (G c))))) p k v)) (takeC (Nat.mul (List.length (A (List.map byteOf (takeC (Nat.mul (lapN (0 : Int) (lenI n)) 1) (dropC 0 (renL Bool.false (shiftN 1) (G c))))) p k v)) 1) (dropC 0 (renL Bool.false (shiftN 13) (bc (A (List.map byteOf (takeC (Nat.mul (lapN (0 : Int) (lenI n)) 1) (dropC 0 (renL Bool.false (shiftN 1) (G c))))) p k v)))))) (fzB 18446744073709551617 (List.length (A (List.map byteOf (takeC (Nat.mul (lapN (0 : Int) (lenI n)) 1) (dropC 0 (renL Bool.false (shiftN 1) (G c))))) p k v)) (takeC (Nat.mul (List.length (A (List.map byteOf (takeC (Nat.mul (lapN (0 : Int) (lenI n)) 1) (dropC 0 (renL Bool.false (shiftN 1) (G c))))) p k v)) 1) (dropC 0 (renL Bool.false (shiftN 70) (takeC (Nat.mul (List.length (A (List.map byteOf (takeC (Nat.mul (lapN (0 : Int) (lenI n)) 1) (dropC 0 (renL Bool.false (shiftN 1) (G c))))) p k v)) 1) (dropC 0 (renL Bool.false (shiftN 13) (bc (A (List.map byteOf (takeC (Nat.mul (lapN (0 : Int) (lenI n)) 1) (dropC 0 (renL Bool.false (shiftN 1) (G c))))) p k v)))))))))) (Q (List.map byteOf (takeC (Nat.mul (List.length (A (List.map byteOf (takeC (Nat.mul (lapN (0 : Int) (lenI n)) 1) (dropC 0 (renL Bool.false (shiftN 1) (G c))))) p k v)) 1) (dropC 0 (renL Bool.false (shiftN 13) (bc (A (List.map byteOf (takeC (Nat.mul (lapN (0 : Int) (lenI n)) 1) (dropC 0 (renL Bool.false (shiftN 1) (G c))))) p k v)))))) (List.map byteOf (takeC (Nat.mul (List.length (A (List.map byteOf (takeC (Nat.mul (lapN (0 : Int) (lenI n)) 1) (dropC 0 (renL Bool.false (shiftN 1) (G c))))) p k v)) 1) (dropC 0 (renL Bool.false (shiftN 70) (takeC (Nat.mul (List.length (A (List.map byteOf (takeC (Nat.mul (lapN (0 : Int) (lenI n)) 1) (dropC 0 (renL Bool.false (shiftN 1) (G c))))) p k v)) 1) (dropC 0 (renL Bool.false (shiftN 13) (bc (A (List.map byteOf (takeC (Nat.mul (lapN (0 : Int) (lenI n)) 1) (dropC 0 (renL Bool.false (shiftN 1) (G c))))) p k v)))))))))))
 (needB (C (Addr.mk 0 0 (Addr.spot (Addr.mk 13 0 (Addr.spot (Addr.mk 0 0 none))))) (List.length (A (List.map byteOf (takeC (Nat.mul (lapN (0 : Int) (lenI n)) 1) (dropC 0 (renL Bool.false (shiftN 1) (G c))))) p k v)) 18446744073709551616 (renL Bool.true (rhoO 0 [13]) (renL Bool.false (shiftN 13) (bc (A (List.map byteOf (takeC (Nat.mul (lapN (0 : Int) (lenI n)) 1) (dropC 0 (renL Bool.false (shiftN 1) (G c))))) p k v)))) 5)
 (needB (Bool.and (Nat.ble (Nat.add 0 (Nat.mul (List.length (A (List.map byteOf (takeC (Nat.mul (lapN (0 : Int) (lenI n)) 1) (dropC 0 (renL Bool.false (shiftN 1) (G c))))) p k v)) 1)) (List.length (renL Bool.false (shiftN 25) (bc (A (List.map byteOf (takeC (Nat.mul (lapN (0 : Int) (lenI n)) 1) (dropC 0 (renL Bool.false (shiftN 1) (G c))))) p k v))))) (Nat.ble 1 1))
 (needB (flatL (takeC (Nat.mul (List.length (A (List.map byteOf (takeC (Nat.mul (lapN (0 : Int) (lenI n)) 1) (dropC 0 (renL Bool.false (shiftN 1) (G c))))) p k v)) 1) (dropC 0 (renL Bool.false (shiftN 25) (bc (A (List.map byteOf (takeC (Nat.mul (lapN (0 : Int) (lenI n)) 1) (dropC 0 (renL Bool.false (shiftN 1) (G c))))) p k v))))))
 (needB (Bool.and (Nat.ble (Nat.add 0 (Nat.mul (List.length (A (List.map byteOf (takeC (Nat.mul (lapN (0 : Int) (lenI n)) 1) (dropC 0 (renL Bool.false (shiftN 1) (G c))))) p k v)) 1)) (List.length (renL Bool.false (shiftN 71) (takeC (Nat.mul (List.length (A (List.map byteOf (takeC (Nat.mul (lapN (0 : Int) (lenI n)) 1) (dropC 0 (renL Bool.false (shiftN 1) (G c))))) p k v)) 1) (dropC 0 (renL Bool.false (shiftN 25) (bc (A (List.map byteOf (takeC (Nat.mul (lapN (0 : Int) (lenI n)) 1) (dropC 0 (renL Bool.false (shiftN 1) (G c))))) p k v)))))))) (Nat.ble 1 1))
 (needB (flatL (takeC (Nat.mul (List.length (A (List.map byteOf (takeC (Nat.mul (lapN (0 : Int) (lenI n)) 1) (dropC 0 (renL Bool.false (shiftN 1) (G c))))) p k v)) 1) (dropC 0 (renL Bool.false (shiftN 71) (takeC (Nat.mul (List.length (A (List.map byteOf (takeC (Nat.mul (lapN (0 : Int) (lenI n)) 1) (dropC 0 (renL Bool.false (shiftN 1) (G c))))) p k v)) 1) (dropC 0 (renL Bool.false (shiftN 25) (bc (A (List.map byteOf (takeC (Nat.mul (lapN (0 : Int) (lenI n)) 1) (dropC 0 (renL Bool.false (shiftN 1) (G c))))) p k v)))))))))
 (needB (Bool.and (Bool.and (fzB 18446744073709551617 (List.length (A (List.map byteOf (takeC (Nat.mul (lapN (0 : Int) (lenI n)) 1) (dropC 0 (renL Bool.false (shiftN 1) (G c))))) p k v)) (takeC (Nat.mul (List.length (A (List.map byteOf (takeC (Nat.mul (lapN (0 : Int) (lenI n)) 1) (dropC 0 (renL Bool.false (shiftN 1) (G c))))) p k v)) 1) (dropC 0 (renL Bool.false (shiftN 25) (bc (A (List.map byteOf (takeC (Nat.mul (lapN (0 : Int) (lenI n)) 1) (dropC 0 (renL Bool.false (shiftN 1) (G c))))) p k v)))))) (fzB 18446744073709551617 (List.length (A (List.map byteOf (takeC (Nat.mul (lapN (0 : Int) (lenI n)) 1) (dropC 0 (renL Bool.false (shiftN 1) (G c))))) p k v)) (takeC (Nat.mul (List.length (A (List.map byteOf (takeC (Nat.mul (lapN (0 : Int) (lenI n)) 1) (dropC 0 (renL Bool.false (shiftN 1) (G c))))) p k v)) 1) (dropC 0 (renL Bool.false (shiftN 71) (takeC (Nat.mul (List.length (A (List.map byteOf (takeC (Nat.mul (lapN (0 : Int) (lenI n)) 1) (dropC 0 (renL Bool.false (shiftN 1) (G c))))) p k v)) 1) (dropC 0 (renL Bool.false (shiftN 25) (bc (A (List.map byteOf (takeC (Nat.mul (lapN (0 : Int) (lenI n)) 1) (dropC 0 (renL Bool.false (shiftN 1) (G c))))) p k v)))))))))) (Q (List.map byteOf (takeC (Nat.mul (List.length (A (List.map byteOf (takeC (Nat.mul (lapN (0 : Int) (lenI n)) 1) (dropC 0 (renL Bool.false (shiftN 1) (G c))))) p k v)) 1) (dropC 0 (renL Bool.false (shiftN 25) (bc (A (List.map byteOf (takeC (Nat.mul (lapN (0 : Int) (lenI n)) 1) (dropC 0 (renL Bool.false (shiftN 1) (G c))))) p k v)))))) (List.map byteOf (takeC (Nat.mul (List.length (A (List.map byteOf (takeC (Nat.mul (lapN (0 : Int) (lenI n)) 1) (dropC 0 (renL Bool.false (shiftN 1) (G c))))) p k v)) 1) (dropC 0 (renL Bool.false (shiftN 71) (takeC (Nat.mul (List.length (A (List.map byteOf (takeC (Nat.mul (lapN (0 : Int) (lenI n)) 1) (dropC 0 (renL Bool.false (shiftN 1) (G c))))) p k v)) 1) (dropC 0 (renL Bool.false (shiftN 25) (bc (A (List.map byteOf (takeC (Nat.mul (lapN (0 : Int) (lenI n)) 1) (dropC 0 (renL Bool.false (shiftN 1) (G c))))) p k v)))))))))))
 (needB (C (Addr.mk 0 0 (Addr.spot (Addr.mk 25 0 (Addr.spot (Addr.mk 0 0 none))))) (List.length (A (List.map byteOf (takeC (Nat.mul (lapN (0 : Int) (lenI n)) 1) (dropC 0 (renL Bool.false (shiftN 1) (G c))))) p k v)) 18446744073709551616 (renL Bool.true (rhoO 0 [25]) (renL Bool.false (shiftN 25) (bc (A (List.map byteOf (takeC (Nat.mul (lapN (0 : Int) (lenI n)) 1) (dropC 0 (renL Bool.false (shiftN 1) (G c))))) p k v)))) 5)
 (needB (Bool.and (Nat.ble (Nat.add 0 (Nat.mul (HAdd.hAdd n 3) 1)) (List.length (renL Bool.false (shiftN 1) (G c)))) (Nat.ble 1 1))
 (needB (flatL (takeC (Nat.mul (HAdd.hAdd n 3) 1) (dropC 0 (renL Bool.false (shiftN 1) (G c)))))
 (needB (Bool.and (Nat.ble (Nat.add 0 (Nat.mul (HAdd.hAdd n 3) 1)) (List.length (renL Bool.false (shiftN 72) (takeC (Nat.mul (HAdd.hAdd n 3) 1) (dropC 0 (renL Bool.false (shiftN 1) (G c))))))) (Nat.ble 1 1))
 (needB (flatL (takeC (Nat.mul (HAdd.hAdd n 3) 1) (dropC 0 (renL Bool.false (shiftN 72) (takeC (Nat.mul (HAdd.hAdd n 3) 1) (dropC 0 (renL Bool.false (shiftN 1) (G c))))))))
 (needB (Bool.and (Bool.and (fzB 18446744073709551617 (HAdd.hAdd n 3) (takeC (Nat.mul (HAdd.hAdd n 3) 1) (dropC 0 (renL Bool.false (shiftN 1) (G c))))) (fzB 18446744073709551617 (HAdd.hAdd n 3) (takeC (Nat.mul (HAdd.hAdd n 3) 1) (dropC 0 (renL Bool.false (shiftN 72) (takeC (Nat.mul (HAdd.hAdd n 3) 1) (dropC 0 (renL Bool.false (shiftN 1) (G c))))))))) (Q (List.map byteOf (takeC (Nat.mul (HAdd.hAdd n 3) 1) (dropC 0 (renL Bool.false (shiftN 1) (G c))))) (List.map byteOf (takeC (Nat.mul (HAdd.hAdd n 3) 1) (dropC 0 (renL Bool.false (shiftN 72) (takeC (Nat.mul (HAdd.hAdd n 3) 1) (dropC 0 (renL Bool.false (shiftN 1) (G c))))))))))
 (needB (C (Addr.mk 0 0 (Addr.spot (Addr.mk 1 0 (Addr.spot (Addr.mk 0 0 none))))) (HAdd.hAdd n 3) 18446744073709551616 (renL Bool.true (rhoO 0 [1]) (renL Bool.false (shiftN 1) (G c))) 5)
 (needB (L1 [(Value.slice (Option.some (Addr.mk 0 0 none)) 3 3), (Value.slice (Option.some (Addr.mk 4 0 none)) 3 3), (Value.int IntKind.i64 (0 : Int)), (Value.int IntKind.i64 (0 : Int))] [(Blk.cells [(Value.slice (Option.some (Addr.mk 1 0 none)) (List.length (A (List.map byteOf (takeC (Nat.mul (lapN (0 : Int) (lenI n)) 1) (dropC 0 (renL Bool.false (shiftN 1) (G c))))) p k v)) 18446744073709551616), (Value.slice (Option.some (Addr.mk 2 0 none)) (List.length (A (List.map byteOf (takeC (Nat.mul (lapN (0 : Int) (lenI n)) 1) (dropC 0 (renL Bool.false (shiftN 1) (G c))))) p k v)) 18446744073709551616), (Value.slice (Option.some (Addr.mk 3 0 none)) (HAdd.hAdd n 3) 18446744073709551616)] 37 Bool.true), (Blk.cells (renL Bool.true (rhoO 0 [64, 13, 25, 1, 69, 70, 71, 72]) (renL Bool.true (backN [13] 83) (bc (M (List.map byteOf (renL Bool.true (rhoO 0 [13]) (renL Bool.false (shiftN 13) (bc (A (List.map byteOf (takeC (Nat.mul (lapN (0 : Int) (lenI n)) 1) (dropC 0 (renL Bool.false (shiftN 1) (G c))))) p k v))))))))) 5 Bool.false), (Blk.cells (renL Bool.true (rhoO 0 [64, 13, 25, 1, 69, 70, 71, 72]) (renL Bool.true (backN [25] 93) (bc (M (List.map byteOf (renL Bool.true (rhoO 0 [25]) (renL Bool.false (shiftN 25) (bc (A (List.map byteOf (takeC (Nat.mul (lapN (0 : Int) (lenI n)) 1) (dropC 0 (renL Bool.false (shiftN 1) (G c))))) p k v))))))))) 5 Bool.false), (Blk.cells (renL Bool.true (rhoO 0 [64, 13, 25, 1, 69, 70, 71, 72]) (renL Bool.true (backN [1] 103) (bc (M (List.map byteOf (renL Bool.true (rhoO 0 [1]) (renL Bool.false (shiftN 1) (G c)))))))) 5 Bool.false), (Blk.cells [(Value.slice (Option.some (Addr.mk 5 0 none)) (List.length (A (List.map byteOf (takeC (Nat.mul (lapN (0 : Int) (lenI n)) 1) (dropC 0 (renL Bool.false (shiftN 1) (G c))))) p k v)) 18446744073709551616), (Value.slice (Option.some (Addr.mk 6 0 none)) (List.length (A (List.map byteOf (takeC (Nat.mul (lapN (0 : Int) (lenI n)) 1) (dropC 0 (renL Bool.false (shiftN 1) (G c))))) p k v)) 18446744073709551616), (Value.slice (Option.some (Addr.mk 7 0 none)) (HAdd.hAdd n 3) 18446744073709551616)] 37 Bool.true), (Blk.cells (renL Bool.true (rhoO 0 [64, 13, 25, 1, 69, 70, 71, 72]) (renL Bool.false (shiftN 70) (takeC (Nat.mul (List.length (A (List.map byteOf (takeC (Nat.mul (lapN (0 : Int) (lenI n)) 1) (dropC 0 (renL Bool.false (shiftN 1) (G c))))) p k v)) 1) (dropC 0 (renL Bool.false (shiftN 13) (bc (A (List.map byteOf (takeC (Nat.mul (lapN (0 : Int) (lenI n)) 1) (dropC 0 (renL Bool.false (shiftN 1) (G c))))) p k v))))))) 5 Bool.false), (Blk.cells (renL Bool.true (rhoO 0 [64, 13, 25, 1, 69, 70, 71, 72]) (renL Bool.false (shiftN 71) (takeC (Nat.mul (List.length (A (List.map byteOf (takeC (Nat.mul (lapN (0 : Int) (lenI n)) 1) (dropC 0 (renL Bool.false (shiftN 1) (G c))))) p k v)) 1) (dropC 0 (renL Bool.false (shiftN 25) (bc (A (List.map byteOf (takeC (Nat.mul (lapN (0 : Int) (lenI n)) 1) (dropC 0 (renL Bool.false (shiftN 1) (G c))))) p k v))))))) 5 Bool.false), (Blk.cells (renL Bool.true (rhoO 0 [64, 13, 25, 1, 69, 70, 71, 72]) (renL Bool.false (shiftN 72) (takeC (Nat.mul (HAdd.hAdd n 3) 1) (dropC 0 (renL Bool.false (shiftN 1) (G c)))))) 5 Bool.false)])
 (needB (L1 [(Value.slice (Option.some (Addr.mk 0 0 none)) 3 3), (Value.slice (Option.some (Addr.mk 4 0 none)) 3 3), (Value.int IntKind.i64 (1 : Int)), (Value.int IntKind.i64 (0 : Int))] [(Blk.cells [(Value.slice (Option.some (Addr.mk 1 0 none)) (List.length (A (List.map byteOf (takeC (Nat.mul (lapN (0 : Int) (lenI n)) 1) (dropC 0 (renL Bool.false (shiftN 1) (G c))))) p k v)) 18446744073709551616), (Value.slice (Option.some (Addr.mk 2 0 none)) (List.length (A (List.map byteOf (takeC (Nat.mul (lapN (0 : Int) (lenI n)) 1) (dropC 0 (renL Bool.false (shiftN 1) (G c))))) p k v)) 18446744073709551616), (Value.slice (Option.some (Addr.mk 3 0 none)) (HAdd.hAdd n 3) 18446744073709551616)] 37 Bool.true), (Blk.cells (renL Bool.true (rhoO 0 [64, 13, 25, 1, 69, 70, 71, 72]) (renL Bool.true (backN [64, 13, 25, 1, 69, 70, 71, 72] 103) (renL Bool.true (rhoO 0 [64, 13, 25, 1, 69, 70, 71, 72]) (renL Bool.true (backN [13] 83) (bc (M (List.map byteOf (renL Bool.true (rhoO 0 [13]) (renL Bool.false (shiftN 13) (bc (A (List.map byteOf (takeC (Nat.mul (lapN (0 : Int) (lenI n)) 1) (dropC 0 (renL Bool.false (shiftN 1) (G c))))) p k v))))))))))) 5 Bool.false), (Blk.cells (renL Bool.true (rhoO 0 [64, 13, 25, 1, 69, 70, 71, 72]) (renL Bool.true (backN [64, 13, 25, 1, 69, 70, 71, 72] 103) (renL Bool.true (rhoO 0 [64, 13, 25, 1, 69, 70, 71, 72]) (renL Bool.true (backN [25] 93) (bc (M (List.map byteOf (renL Bool.true (rhoO 0 [25]) (renL Bool.false (shiftN 25) (bc (A (List.map byteOf (takeC (Nat.mul (lapN (0 : Int) (lenI n)) 1) (dropC 0 (renL Bool.false (shiftN 1) (G c))))) p k v))))))))))) 5 Bool.false), (Blk.cells (renL Bool.true (rhoO 0 [64, 13, 25, 1, 69, 70, 71, 72]) (renL Bool.true (backN [64, 13, 25, 1, 69, 70, 71, 72] 103) (renL Bool.true (rhoO 0 [64, 13, 25, 1, 69, 70, 71, 72]) (renL Bool.true (backN [1] 103) (bc (M (List.map byteOf (renL Bool.true (rhoO 0 [1]) (renL Bool.false (shiftN 1) (G c)))))))))) 5 Bool.false), (Blk.cells [(Value.slice (Option.some (Addr.mk 5 0 none)) (List.length (A (List.map byteOf (takeC (Nat.mul (lapN (0 : Int) (lenI n)) 1) (dropC 0 (renL Bool.false (shiftN 1) (G c))))) p k v)) 18446744073709551616), (Value.slice (Option.some (Addr.mk 6 0 none)) (List.length (A (List.map byteOf (takeC (Nat.mul (lapN (0 : Int) (lenI n)) 1) (dropC 0 (renL Bool.false (shiftN 1) (G c))))) p k v)) 18446744073709551616), (Value.slice (Option.some (Addr.mk 7 0 none)) (HAdd.hAdd n 3) 18446744073709551616)] 37 Bool.true), (Blk.cells (renL Bool.true (rhoO 0 [64, 13, 25, 1, 69, 70, 71, 72]) (renL Bool.true (backN [64, 13, 25, 1, 69, 70, 71, 72] 103) (renL Bool.true (rhoO 0 [64, 13, 25, 1, 69, 70, 71, 72]) (renL Bool.false (shiftN 70) (takeC (Nat.mul (List.length (A (List.map byteOf (takeC (Nat.mul (lapN (0 : Int) (lenI n)) 1) (dropC 0 (renL Bool.false (shiftN 1) (G c))))) p k v)) 1) (dropC 0 (renL Bool.false (shiftN 13) (bc (A (List.map byteOf (takeC (Nat.mul (lapN (0 : Int) (lenI n)) 1) (dropC 0 (renL Bool.false (shiftN 1) (G c))))) p k v))))))))) 5 Bool.false), (Blk.cells (renL Bool.true (rhoO 0 [64, 13, 25, 1, 69, 70, 71, 72]) (renL Bool.true (backN [64, 13, 25, 1, 69, 70, 71, 72] 103) (renL Bool.true (rhoO 0 [64, 13, 25, 1, 69, 70, 71, 72]) (renL Bool.false (shiftN 71) (takeC (Nat.mul (List.length (A (List.map byteOf (takeC (Nat.mul (lapN (0 : Int) (lenI n)) 1) (dropC 0 (renL Bool.false (shiftN 1) (G c))))) p k v)) 1) (dropC 0 (renL Bool.false (shiftN 25) (bc (A (List.map byteOf (takeC (Nat.mul (lapN (0 : Int) (lenI n)) 1) (dropC 0 (renL Bool.false (shiftN 1) (G c))))) p k v))))))))) 5 Bool.false), (Blk.cells (renL Bool.true (rhoO 0 [64, 13, 25, 1, 69, 70, 71, 72]) (renL Bool.true (backN [64, 13, 25, 1, 69, 70, 71, 72] 103) (renL Bool.true (rhoO 0 [64, 13, 25, 1, 69, 70, 71, 72]) (renL Bool.false (shiftN 72) (takeC (Nat.mul (HAdd.hAdd n 3) 1) (dropC 0 (renL Bool.false (shiftN 1) (G c)))))))) 5 Bool.false)])
 (needB (L1 [(Value.slice (Option.some (Addr.mk 0 0 none)) 3 3), (Value.slice (Option.some (Addr.mk 4 0 none)) 3 3), (Value.int IntKind.i64 (2 : Int)), (Value.int IntKind.i64 (0 : Int))] [(Blk.cells [(Value.slice (Option.some (Addr.mk 1 0 none)) (List.length (A (List.map byteOf (takeC (Nat.mul (lapN (0 : Int) (lenI n)) 1) (dropC 0 (renL Bool.false (shiftN 1) (G c))))) p k v)) 18446744073709551616), (Value.slice (Option.some (Addr.mk 2 0 none)) (List.length (A (List.map byteOf (takeC (Nat.mul (lapN (0 : Int) (lenI n)) 1) (dropC 0 (renL Bool.false (shiftN 1) (G c))))) p k v)) 18446744073709551616), (Value.slice (Option.some (Addr.mk 3 0 none)) (HAdd.hAdd n 3) 18446744073709551616)] 37 Bool.true), (Blk.cells (renL Bool.true (rhoO 0 [64, 13, 25, 1, 69, 70, 71, 72]) (renL Bool.true (backN [64, 13, 25, 1, 69, 70, 71, 72] 103) (renL Bool.true (rhoO 0 [64, 13, 25, 1, 69, 70, 71, 72]) (renL Bool.true (backN [64, 13, 25, 1, 69, 70, 71, 72] 103) (renL Bool.true (rhoO 0 [64, 13, 25, 1, 69, 70, 71, 72]) (renL Bool.true (backN [13] 83) (bc (M (List.map byteOf (renL Bool.true (rhoO 0 [13]) (renL Bool.false (shiftN 13) (bc (A (List.map byteOf (takeC (Nat.mul (lapN (0 : Int) (lenI n)) 1) (dropC 0 (renL Bool.false (shiftN 1) (G c))))) p k v))))))))))))) 5 Bool.false), (Blk.cells (renL Bool.true (rhoO 0 [64, 13, 25, 1, 69, 70, 71, 72]) (renL Bool.true (backN [64, 13, 25, 1, 69, 70, 71, 72] 103) (renL Bool.true (rhoO 0 [64, 13, 25, 1, 69, 70, 71, 72]) (renL Bool.true (backN [64, 13, 25, 1, 69, 70, 71, 72] 103) (renL Bool.true (rhoO 0 [64, 13, 25, 1, 69, 70, 71, 72]) (renL Bool.true (backN [25] 93) (bc (M (List.map byteOf (renL Bool.true (rhoO 0 [25]) (renL Bool.false (shiftN 25) (bc (A (List.map byteOf (takeC (Nat.mul (lapN (0 : Int) (lenI n)) 1) (dropC 0 (renL Bool.false (shiftN 1) (G c))))) p k v))))))))))))) 5 Bool.false), (Blk.cells (renL Bool.true (rhoO 0 [64, 13, 25, 1, 69, 70, 71, 72]) (renL Bool.true (backN [64, 13, 25, 1, 69, 70, 71, 72] 103) (renL Bool.true (rhoO 0 [64, 13, 25, 1, 69, 70, 71, 72]) (renL Bool.true (backN [64, 13, 25, 1, 69, 70, 71, 72] 103) (renL Bool.true (rhoO 0 [64, 13, 25, 1, 69, 70, 71, 72]) (renL Bool.true (backN [1] 103) (bc (M (List.map byteOf (renL Bool.true (rhoO 0 [1]) (renL Bool.false (shiftN 1) (G c)))))))))))) 5 Bool.false), (Blk.cells [(Value.slice (Option.some (Addr.mk 5 0 none)) (List.length (A (List.map byteOf (takeC (Nat.mul (lapN (0 : Int) (lenI n)) 1) (dropC 0 (renL Bool.false (shiftN 1) (G c))))) p k v)) 18446744073709551616), (Value.slice (Option.some (Addr.mk 6 0 none)) (List.length (A (List.map byteOf (takeC (Nat.mul (lapN (0 : Int) (lenI n)) 1) (dropC 0 (renL Bool.false (shiftN 1) (G c))))) p k v)) 18446744073709551616), (Value.slice (Option.some (Addr.mk 7 0 none)) (HAdd.hAdd n 3) 18446744073709551616)] 37 Bool.true), (Blk.cells (renL Bool.true (rhoO 0 [64, 13, 25, 1, 69, 70, 71, 72]) (renL Bool.true (backN [64, 13, 25, 1, 69, 70, 71, 72] 103) (renL Bool.true (rhoO 0 [64, 13, 25, 1, 69, 70, 71, 72]) (renL Bool.true (backN [64, 13, 25, 1, 69, 70, 71, 72] 103) (renL Bool.true (rhoO 0 [64, 13, 25, 1, 69, 70, 71, 72]) (renL Bool.false (shiftN 70) (takeC (Nat.mul (List.length (A (List.map byteOf (takeC (Nat.mul (lapN (0 : Int) (lenI n)) 1) (dropC 0 (renL Bool.false (shiftN 1) (G c))))) p k v)) 1) (dropC 0 (renL Bool.false (shiftN 13) (bc (A (List.map byteOf (takeC (Nat.mul (lapN (0 : Int) (lenI n)) 1) (dropC 0 (renL Bool.false (shiftN 1) (G c))))) p k v))))))))))) 5 Bool.false), (Blk.cells (renL Bool.true (rhoO 0 [64, 13, 25, 1, 69, 70, 71, 72]) (renL Bool.true (backN [64, 13, 25, 1, 69, 70, 71, 72] 103) (renL Bool.true (rhoO 0 [64, 13, 25, 1, 69, 70, 71, 72]) (renL Bool.true (backN [64, 13, 25, 1, 69, 70, 71, 72] 103) (renL Bool.true (rhoO 0 [64, 13, 25, 1, 69, 70, 71, 72]) (renL Bool.false (shiftN 71) (takeC (Nat.mul (List.length (A (List.map byteOf (takeC (Nat.mul (lapN (0 : Int) (lenI n)) 1) (dropC 0 (renL Bool.false (shiftN 1) (G c))))) p k v)) 1) (dropC 0 (renL Bool.false (shiftN 25) (bc (A (List.map byteOf (takeC (Nat.mul (lapN (0 : Int) (lenI n)) 1) (dropC 0 (renL Bool.false (shiftN 1) (G c))))) p k v))))))))))) 5 Bool.false), (Blk.cells (renL Bool.true (rhoO 0 [64, 13, 25, 1, 69, 70, 71, 72]) (renL Bool.true (backN [64, 13, 25, 1, 69, 70, 71, 72] 103) (renL Bool.true (rhoO 0 [64, 13, 25, 1, 69, 70, 71, 72]) (renL Bool.true (backN [64, 13, 25, 1, 69, 70, 71, 72] 103) (renL Bool.true (rhoO 0 [64, 13, 25, 1, 69, 70, 71, 72]) (renL Bool.false (shiftN 72) (takeC (Nat.mul (HAdd.hAdd n 3) 1) (dropC 0 (renL Bool.false (shiftN 1) (G c)))))))))) 5 Bool.false)])
 (needB (beqV (Value.agg (Array.mk [(Value.bool p), (Value.string k), (Value.string v)])) (Value.agg (Array.mk [(Value.bool p), (Value.string k), (Value.string v)])))
 (some ((Value.bool Bool.true), (mkSt [])))))))))))))))))))))))))))))))))))))))))))))
 (needB (beqV (Value.agg (Array.mk [(Value.bool p), (Value.string k), (Value.string v)])) (Value.agg (Array.mk [(Value.bool p), (Value.string k), (Value.string v)])))
 (some ((Value.bool Bool.false), (mkSt [])))))))))))))
 (needB (Bool.and (fzW 18446744073709551617 0 []) (O p k v))
 (needB (Bool.and (fzW 18446744073709551617 n c) (O p k v))
 (needB (O p k v)
 (needB (O p k v)
 (needB (O p k v)
 (needB (O p k v)
 (iteB (eqS (T p k v) (T p k v))
 (needB (Bool.and (Nat.ble (Nat.add 0 (Nat.mul (List.length (A (List.map byteOf (takeC (Nat.mul (lapN (0 : Int) (lenI n)) 1) (dropC 0 (renL Bool.false (shiftN 1) (G c))))) p k v)) 1)) (List.length (renL Bool.false (shiftN 13) (bc (A (List.map byteOf (takeC (Nat.mul (lapN (0 : Int) (lenI n)) 1) (dropC 0 (renL Bool.false (shiftN 1) (G c))))) p k v))))) (Nat.ble 1 1))
 (needB (flatL (takeC (Nat.mul (List.length (A (List.map byteOf (takeC (Nat.mul (lapN (0 : Int) (lenI n)) 1) (dropC 0 (renL Bool.false (shiftN 1) (G c))))) p k v)) 1) (dropC 0 (renL Bool.false (shiftN 13) (bc (A (List.map byteOf (takeC (Nat.mul (lapN (0 : Int) (lenI n)) 1) (dropC 0 (renL Bool.false (shiftN 1) (G c))))) p k v))))))
 (needB (Bool.and (Nat.ble (Nat.add 0 (Nat.mul (List.length (A (List.map byteOf c) p k v)) 1)) (List.length (renL Bool.false (shiftN 26) (bc (A (List.map byteOf c) p k v))))) (Nat.ble 1 1))
 (needB (flatL (takeC (Nat.mul (List.length (A (List.map byteOf c) p k v)) 1) (dropC 0 (renL Bool.false (shiftN 26) (bc (A (List.map byteOf c) p k v))))))
 (needB (Bool.and (Bool.and (fzB 18446744073709551617 (List.length (A (List.map byteOf (takeC (Nat.mul (lapN (0 : Int) (lenI n)) 1) (dropC 0 (renL Bool.false (shiftN 1) (G c))))) p k v)) (takeC (Nat.mul (List.length (A (List.map byteOf (takeC (Nat.mul (lapN (0 : Int) (lenI n)) 1) (dropC 0 (renL Bool.false (shiftN 1) (G c))))) p k v)) 1) (dropC 0 (renL Bool.false (shiftN 13) (bc (A (List.map byteOf (takeC (Nat.mul (lapN (0 : Int) (lenI n)) 1) (dropC 0 (renL Bool.false (shiftN 1) (G c))))) p k v)))))) (fzB 18446744073709551617 (List.length (A (List.map byteOf c) p k v)) (takeC (Nat.mul (List.length (A (List.map byteOf c) p k v)) 1) (dropC 0 (renL Bool.false (shiftN 26) (bc (A (List.map byteOf c) p k v))))))) (Q (List.map byteOf (takeC (Nat.mul (List.length (A (List.map byteOf (takeC (Nat.mul (lapN (0 : Int) (lenI n)) 1) (dropC 0 (renL Bool.false (shiftN 1) (G c))))) p k v)) 1) (dropC 0 (renL Bool.false (shiftN 13) (bc (A (List.map byteOf (takeC (Nat.mul (lapN (0 : Int) (lenI n)) 1) (dropC 0 (renL Bool.false (shiftN 1) (G c))))) p k v)))))) (List.map byteOf (takeC (Nat.mul (List.length (A (List.map byteOf c) p k v)) 1) (dropC 0 (renL Bool.false (shiftN 26) (bc (A (List.map byteOf c) p k v))))))))
 (needB (fzB 18446744073709551617 n c)
 (needB (Bool.and (Nat.ble (Nat.add 0 (Nat.mul (HAdd.hAdd n 3) 1)) (List.length (renL Bool.false (shiftN 1) (G c)))) (Nat.ble 1 1))
 (needB (flatL (takeC (Nat.mul (HAdd.hAdd n 3) 1) (dropC 0 (renL Bool.false (shiftN 1) (G c)))))
 (needB (Bool.and (Nat.ble (Nat.add 0 (Nat.mul (HAdd.hAdd n 3) 1)) (List.length (renL Bool.false (shiftN 68) (G c)))) (Nat.ble 1 1))
 (needB (flatL (takeC (Nat.mul (HAdd.hAdd n 3) 1) (dropC 0 (renL Bool.false (shiftN 68) (G c)))))
 (needB (Bool.and (Bool.and (fzB 18446744073709551617 (HAdd.hAdd n 3) (takeC (Nat.mul (HAdd.hAdd n 3) 1) (dropC 0 (renL Bool.false (shiftN 1) (G c))))) (fzB 18446744073709551617 (HAdd.hAdd n 3) (takeC (Nat.mul (HAdd.hAdd n 3) 1) (dropC 0 (renL Bool.false (shiftN 68) (G c)))))) (Q (List.map byteOf (takeC (Nat.mul (HAdd.hAdd n 3) 1) (dropC 0 (renL Bool.false (shiftN 1) (G c))))) (List.map byteOf (takeC (Nat.mul (HAdd.hAdd n 3) 1) (dropC 0 (renL Bool.false (shiftN 68) (G c)))))))
 (needB (Bool.and (Nat.ble (Nat.add 0 (Nat.mul (List.length (A (List.map byteOf (takeC (Nat.mul (lapN (0 : Int) (lenI n)) 1) (dropC 0 (renL Bool.false (shiftN 1) (G c))))) p k v)) 1)) (List.length (renL Bool.false (shiftN 13) (bc (A (List.map byteOf (takeC (Nat.mul (lapN (0 : Int) (lenI n)) 1) (dropC 0 (renL Bool.false (shiftN 1) (G c))))) p k v))))) (Nat.ble 1 1))
 (needB (flatL (takeC (Nat.mul (List.length (A (List.map byteOf (takeC (Nat.mul (lapN (0 : Int) (lenI n)) 1) (dropC 0 (renL Bool.false (shiftN 1) (G c))))) p k v)) 1) (dropC 0 (renL Bool.false (shiftN 13) (bc (A (List.map byteOf (takeC (Nat.mul (lapN (0 : Int) (lenI n)) 1) (dropC 0 (renL Bool.false (shiftN 1) (G c))))) p k v))))))
 (needB (K 18446744073709551617 (List.length (A (List.map byteOf (takeC (Nat.mul (lapN (0 : Int) (lenI n)) 1) (dropC 0 (renL Bool.false (shiftN 1) (G c))))) p k v)) (takeC (Nat.mul (List.length (A (List.map byteOf (takeC (Nat.mul (lapN (0 : Int) (lenI n)) 1) (dropC 0 (renL Bool.false (shiftN 1) (G c))))) p k v)) 1) (dropC 0 (renL Bool.false (shiftN 13) (bc (A (List.map byteOf (takeC (Nat.mul (lapN (0 : Int) (lenI n)) 1) (dropC 0 (renL Bool.false (shiftN 1) (G c))))) p k v))))))
 (needB (Bool.and (Nat.ble (Nat.add 0 (Nat.mul (List.length (A [] p k v)) 1)) (List.length (renL Bool.false (shiftN 25) (bc (A [] p k v))))) (Nat.ble 1 1))
 (needB (flatL (takeC (Nat.mul (List.length (A [] p k v)) 1) (dropC 0 (renL Bool.false (shiftN 25) (bc (A [] p k v))))))
 (needB (K 18446744073709551617 (List.length (A [] p k v)) (takeC (Nat.mul (List.length (A [] p k v)) 1) (dropC 0 (renL Bool.false (shiftN 25) (bc (A [] p k v))))))
 (needB (Bool.and (Nat.ble (Nat.add 0 (Nat.mul (HAdd.hAdd n 3) 1)) (List.length (renL Bool.false (shiftN 1) (G c)))) (Nat.ble 1 1))
 (needB (flatL (takeC (Nat.mul (HAdd.hAdd n 3) 1) (dropC 0 (renL Bool.false (shiftN 1) (G c)))))
 (needB (K 18446744073709551617 (HAdd.hAdd n 3) (takeC (Nat.mul (HAdd.hAdd n 3) 1) (dropC 0 (renL Bool.false (shiftN 1) (G c)))))
 (needB (Bool.and (Nat.ble (Nat.add 0 (Nat.mul (List.length (A (List.map byteOf (takeC (Nat.mul (lapN (0 : Int) (lenI n)) 1) (dropC 0 (renL Bool.false (shiftN 1) (G c))))) p k v)) 1)) (List.length (renL Bool.false (shiftN 13) (bc (A (List.map byteOf (takeC (Nat.mul (lapN (0 : Int) (lenI n)) 1) (dropC 0 (renL Bool.false (shiftN 1) (G c))))) p k v))))) (Nat.ble 1 1))
 (needB (flatL (takeC (Nat.mul (List.length (A (List.map byteOf (takeC (Nat.mul (lapN (0 : Int) (lenI n)) 1) (dropC 0 (renL Bool.false (shiftN 1) (G c))))) p k v)) 1) (dropC 0 (renL Bool.false (shiftN 13) (bc (A (List.map byteOf (takeC (Nat.mul (lapN (0 : Int) (lenI n)) 1) (dropC 0 (renL Bool.false (shiftN 1) (G c))))) p k v))))))
 (needB (Bool.and (Nat.ble (Nat.add 0 (Nat.mul (List.length (A (List.map byteOf (takeC (Nat.mul (lapN (0 : Int) (lenI n)) 1) (dropC 0 (renL Bool.false (shiftN 1) (G c))))) p k v)) 1)) (List.length (renL Bool.false (shiftN 70) (takeC (Nat.mul (List.length (A (List.map byteOf (takeC (Nat.mul (lapN (0 : Int) (lenI n)) 1) (dropC 0 (renL Bool.false (shiftN 1) (G c))))) p k v)) 1) (dropC 0 (renL Bool.false (shiftN 13) (bc (A (List.map byteOf (takeC (Nat.mul (lapN (0 : Int) (lenI n)) 1) (dropC 0 (renL Bool.false (shiftN 1) (G c))))) p k v)))))))) (Nat.ble 1 1))
 (needB (flatL (takeC (Nat.mul (List.length (A (List.map byteOf (takeC (Nat.mul (lapN (0 : Int) (lenI n)) 1) (dropC 0 (renL Bool.false (shiftN 1) (G c))))) p k v)) 1) (dropC 0 (renL Bool.false (shiftN 70) (takeC (Nat.mul (List.length (A (List.map byteOf (takeC (Nat.mul (lapN (0 : Int) (lenI n)) 1) (dropC 0 (renL Bool.false (shiftN 1) (G c))))) p k v)) 1) (dropC 0 (renL Bool.false (shiftN 13) (bc (A (List.map byteOf (takeC (Nat.mul (lapN (0 : Int) (lenI n)) 1) (dropC 0 (renL Bool.false (shiftN 1) (G c))))) p k v)))))))))
 (needB (Bool.and (Bool.and (fzB 18446744073709551617 (List.length (A (List.map byteOf (takeC (Nat.mul (lapN (0 : Int) (lenI n)) 1) (dropC 0 (renL Bool.false (shiftN 1) (G c))))) p k v)) (takeC (Nat.mul (List.length (A (List.map byteOf (takeC (Nat.mul (lapN (0 : Int) (lenI n)) 1) (dropC 0 (renL Bool.false (shiftN 1) (G c))))) p k v)) 1) (dropC 0 (renL Bool.false (shiftN 13) (bc (A (List.map byteOf (takeC (Nat.mul (lapN (0 : Int) (lenI n)) 1) (dropC 0 (renL Bool.false (shiftN 1) (G c))))) p k v)))))) (fzB 18446744073709551617 (List.length (A (List.map byteOf (takeC (Nat.mul (lapN (0 : Int) (lenI n)) 1) (dropC 0 (renL Bool.false (shiftN 1) (G c))))) p k v)) (takeC (Nat.mul (List.length (A (List.map byteOf (takeC (Nat.mul (lapN (0 : Int) (lenI n)) 1) (dropC 0 (renL Bool.false (shiftN 1) (G c))))) p k v)) 1) (dropC 0 (renL Bool.false (shiftN 70) (takeC (Nat.mul (List.length (A (List.map byteOf (takeC (Nat.mul (lapN (0 : Int) (lenI n)) 1) (dropC 0 (renL Bool.false (shiftN 1) (G c))))) p k v)) 1) (dropC 0 (renL Bool.false (shiftN 13) (bc (A (List.map byteOf (takeC (Nat.mul (lapN (0 : Int) (lenI n)) 1) (dropC 0 (renL Bool.false (shiftN 1) (G c))))) p k v)))))))))) (Q (List.map byteOf (takeC (Nat.mul (List.length (A (List.map byteOf (takeC (Nat.mul (lapN (0 : Int) (lenI n)) 1) (dropC 0 (renL Bool.false (shiftN 1) (G c))))) p k v)) 1) (dropC 0 (renL Bool.false (shiftN 13) (bc (A (List.map byteOf (takeC (Nat.mul (lapN (0 : Int) (lenI n)) 1) (dropC 0 (renL Bool.false (shiftN 1) (G c))))) p k v)))))) (List.map byteOf (takeC (Nat.mul (List.length (A (List.map byteOf (takeC (Nat.mul (lapN (0 : Int) (lenI n)) 1) (dropC 0 (renL Bool.false (shiftN 1) (G c))))) p k v)) 1) (dropC 0 (renL Bool.false (shiftN 70) (takeC (Nat.mul (List.length (A (List.map byteOf (takeC (Nat.mul (lapN (0 : Int) (lenI n)) 1) (dropC 0 (renL Bool.false (shiftN 1) (G c))))) p k v)) 1) (dropC 0 (renL Bool.false (shiftN 13) (bc (A (List.map byteOf (takeC (Nat.mul (lapN (0 : Int) (lenI n)) 1) (dropC 0 (renL Bool.false (shiftN 1) (G c))))) p k v)))))))))))
 (needB (C (Addr.mk 0 0 (Addr.spot (Addr.mk 13 0 (Addr.spot (Addr.mk 0 0 none))))) (List.length (A (List.map byteOf (takeC (Nat.mul (lapN (0 : Int) (lenI n)) 1) (dropC 0 (renL Bool.false (shiftN 1) (G c))))) p k v)) 18446744073709551616 (renL Bool.true (rhoO 0 [13]) (renL Bool.false (shiftN 13) (bc (A (List.map byteOf (takeC (Nat.mul (lapN (0 : Int) (lenI n)) 1) (dropC 0 (renL Bool.false (shiftN 1) (G c))))) p k v)))) 5)
 (needB (Bool.and (Nat.ble (Nat.add 0 (Nat.mul (List.length (A [] p k v)) 1)) (List.length (renL Bool.false (shiftN 25) (bc (A [] p k v))))) (Nat.ble 1 1))
 (needB (flatL (takeC (Nat.mul (List.length (A [] p k v)) 1) (dropC 0 (renL Bool.false (shiftN 25) (bc (A [] p k v))))))
 (needB (Bool.and (Nat.ble (Nat.add 0 (Nat.mul (List.length (A [] p k v)) 1)) (List.length (renL Bool.false (shiftN 71) (takeC (Nat.mul (List.length (A [] p k v)) 1) (dropC 0 (renL Bool.false (shiftN 25) (bc (A [] p k v)))))))) (Nat.ble 1 1))
 (needB (flatL (takeC (Nat.mul (List.length (A [] p k v)) 1) (dropC 0 (renL Bool.false (shiftN 71) (takeC (Nat.mul (List.length (A [] p k v)) 1) (dropC 0 (renL Bool.false (shiftN 25) (bc (A [] p k v)))))))))
 (needB (Bool.and (Bool.and (fzB 18446744073709551617 (List.length (A [] p k v)) (takeC (Nat.mul (List.length (A [] p k v)) 1) (dropC 0 (renL Bool.false (shiftN 25) (bc (A [] p k v)))))) (fzB 18446744073709551617 (List.length (A [] p k v)) (takeC (Nat.mul (List.length (A [] p k v)) 1) (dropC 0 (renL Bool.false (shiftN 71) (takeC (Nat.mul (List.length (A [] p k v)) 1) (dropC 0 (renL Bool.false (shiftN 25) (bc (A [] p k v)))))))))) (Q (List.map byteOf (takeC (Nat.mul (List.length (A [] p k v)) 1) (dropC 0 (renL Bool.false (shiftN 25) (bc (A [] p k v)))))) (List.map byteOf (takeC (Nat.mul (List.length (A [] p k v)) 1) (dropC 0 (renL Bool.false (shiftN 71) (takeC (Nat.mul (List.length (A [] p k v)) 1) (dropC 0 (renL Bool.false (shiftN 25) (bc (A [] p k v)))))))))))
 (needB (C (Addr.mk 0 0 (Addr.spot (Addr.mk 25 0 (Addr.spot (Addr.mk 0 0 none))))) (List.length (A [] p k v)) 18446744073709551616 (renL Bool.true (rhoO 0 [25]) (renL Bool.false (shiftN 25) (bc (A [] p k v)))) 5)
 (needB (Bool.and (Nat.ble (Nat.add 0 (Nat.mul (HAdd.hAdd n 3) 1)) (List.length (renL Bool.false (shiftN 1) (G c)))) (Nat.ble 1 1))
 (needB (flatL (takeC (Nat.mul (HAdd.hAdd n 3) 1) (dropC 0 (renL Bool.false (shiftN 1) (G c)))))
 (needB (Bool.and (Nat.ble (Nat.add 0 (Nat.mul (HAdd.hAdd n 3) 1)) (List.length (renL Bool.false (shiftN 72) (takeC (Nat.mul (HAdd.hAdd n 3) 1) (dropC 0 (renL Bool.false (shiftN 1) (G c))))))) (Nat.ble 1 1))
 (needB (flatL (takeC (Nat.mul (HAdd.hAdd n 3) 1) (dropC 0 (renL Bool.false (shiftN 72) (takeC (Nat.mul (HAdd.hAdd n 3) 1) (dropC 0 (renL Bool.false (shiftN 1) (G c))))))))
 (needB (Bool.and (Bool.and (fzB 18446744073709551617 (HAdd.hAdd n 3) (takeC (Nat.mul (HAdd.hAdd n 3) 1) (dropC 0 (renL Bool.false (shiftN 1) (G c))))) (fzB 18446744073709551617 (HAdd.hAdd n 3) (takeC (Nat.mul (HAdd.hAdd n 3) 1) (dropC 0 (renL Bool.false (shiftN 72) (takeC (Nat.mul (HAdd.hAdd n 3) 1) (dropC 0 (renL Bool.false (shiftN 1) (G c))))))))) (Q (List.map byteOf (takeC (Nat.mul (HAdd.hAdd n 3) 1) (dropC 0 (renL Bool.false (shiftN 1) (G c))))) (List.map byteOf (takeC (Nat.mul (HAdd.hAdd n 3) 1) (dropC 0 (renL Bool.false (shiftN 72) (takeC (Nat.mul (HAdd.hAdd n 3) 1) (dropC 0 (renL Bool.false (shiftN 1) (G c))))))))))
 (needB (C (Addr.mk 0 0 (Addr.spot (Addr.mk 1 0 (Addr.spot (Addr.mk 0 0 none))))) (HAdd.hAdd n 3) 18446744073709551616 (renL Bool.true (rhoO 0 [1]) (renL Bool.false (shiftN 1) (G c))) 5)
 (needB (L1 [(Value.slice (Option.some (Addr.mk 0 0 none)) 3 3), (Value.slice (Option.some (Addr.mk 4 0 none)) 3 3), (Value.int IntKind.i64 (0 : Int)), (Value.int IntKind.i64 (0 : Int))] [(Blk.cells [(Value.slice (Option.some (Addr.mk 1 0 none)) (List.length (A (List.map byteOf (takeC (Nat.mul (lapN (0 : Int) (lenI n)) 1) (dropC 0 (renL Bool.false (shiftN 1) (G c))))) p k v)) 18446744073709551616), (Value.slice (Option.some (Addr.mk 2 0 none)) (List.length (A [] p k v)) 18446744073709551616), (Value.slice (Option.some (Addr.mk 3 0 none)) (HAdd.hAdd n 3) 18446744073709551616)] 37 Bool.true), (Blk.cells (renL Bool.true (rhoO 0 [64, 13, 25, 1, 69, 70, 71, 72]) (renL Bool.true (backN [13] 83) (bc (M (List.map byteOf (renL Bool.true (rhoO 0 [13]) (renL Bool.false (shiftN 13) (bc (A (List.map byteOf (takeC (Nat.mul (lapN (0 : Int) (lenI n)) 1) (dropC 0 (renL Bool.false (shiftN 1) (G c))))) p k v))))))))) 5 Bool.false), (Blk.cells (renL Bool.true (rhoO 0 [64, 13, 25, 1, 69, 70, 71, 72]) (renL Bool.true (backN [25] 93) (bc (M (List.map byteOf (renL Bool.true (rhoO 0 [25]) (renL Bool.false (shiftN 25) (bc (A [] p k v))))))))) 5 Bool.false), (Blk.cells (renL Bool.true (rhoO 0 [64, 13, 25, 1, 69, 70, 71, 72]) (renL Bool.true (backN [1] 103) (bc (M (List.map byteOf (renL Bool.true (rhoO 0 [1]) (renL Bool.false (shiftN 1) (G c)))))))) 5 Bool.false), (Blk.cells [(Value.slice (Option.some (Addr.mk 5 0 none)) (List.length (A (List.map byteOf (takeC (Nat.mul (lapN (0 : Int) (lenI n)) 1) (dropC 0 (renL Bool.false (shiftN 1) (G c))))) p k v)) 18446744073709551616), (Value.slice (Option.some (Addr.mk 6 0 none)) (List.length (A [] p k v)) 18446744073709551616), (Value.slice (Option.some (Addr.mk 7 0 none)) (HAdd.hAdd n 3) 18446744073709551616)] 37 Bool.true), (Blk.cells (renL Bool.true (rhoO 0 [64, 13, 25, 1, 69, 70, 71, 72]) (renL Bool.false (shiftN 70) (takeC (Nat.mul (List.length (A (List.map byteOf (takeC (Nat.mul (lapN (0 : Int) (lenI n)) 1) (dropC 0 (renL Bool.false (shiftN 1) (G c))))) p k v)) 1) (dropC 0 (renL Bool.false (shiftN 13) (bc (A (List.map byteOf (takeC (Nat.mul (lapN (0 : Int) (lenI n)) 1) (dropC 0 (renL Bool.false (shiftN 1) (G c))))) p k v))))))) 5 Bool.false), (Blk.cells (renL Bool.true (rhoO 0 [64, 13, 25, 1, 69, 70, 71, 72]) (renL Bool.false (shiftN 71) (takeC (Nat.mul (List.length (A [] p k v)) 1) (dropC 0 (renL Bool.false (shiftN 25) (bc (A [] p k v))))))) 5 Bool.false), (Blk.cells (renL Bool.true (rhoO 0 [64, 13, 25, 1, 69, 70, 71, 72]) (renL Bool.false (shiftN 72) (takeC (Nat.mul (HAdd.hAdd n 3) 1) (dropC 0 (renL Bool.false (shiftN 1) (G c)))))) 5 Bool.false)])
 (needB (L1 [(Value.slice (Option.some (Addr.mk 0 0 none)) 3 3), (Value.slice (Option.some (Addr.mk 4 0 none)) 3 3), (Value.int IntKind.i64 (1 : Int)), (Value.int IntKind.i64 (0 : Int))] [(Blk.cells [(Value.slice (Option.some (Addr.mk 1 0 none)) (List.length (A (List.map byteOf (takeC (Nat.mul (lapN (0 : Int) (lenI n)) 1) (dropC 0 (renL Bool.false (shiftN 1) (G c))))) p k v)) 18446744073709551616), (Value.slice (Option.some (Addr.mk 2 0 none)) (List.length (A [] p k v)) 18446744073709551616), (Value.slice (Option.some (Addr.mk 3 0 none)) (HAdd.hAdd n 3) 18446744073709551616)] 37 Bool.true), (Blk.cells (renL Bool.true (rhoO 0 [64, 13, 25, 1, 69, 70, 71, 72]) (renL Bool.true (backN [64, 13, 25, 1, 69, 70, 71, 72] 103) (renL Bool.true (rhoO 0 [64, 13, 25, 1, 69, 70, 71, 72]) (renL Bool.true (backN [13] 83) (bc (M (List.map byteOf (renL Bool.true (rhoO 0 [13]) (renL Bool.false (shiftN 13) (bc (A (List.map byteOf (takeC (Nat.mul (lapN (0 : Int) (lenI n)) 1) (dropC 0 (renL Bool.false (shiftN 1) (G c))))) p k v))))))))))) 5 Bool.false), (Blk.cells (renL Bool.true (rhoO 0 [64, 13, 25, 1, 69, 70, 71, 72]) (renL Bool.true (backN [64, 13, 25, 1, 69, 70, 71, 72] 103) (renL Bool.true (rhoO 0 [64, 13, 25, 1, 69, 70, 71, 72]) (renL Bool.true (backN [25] 93) (bc (M (List.map byteOf (renL Bool.true (rhoO 0 [25]) (renL Bool.false (shiftN 25) (bc (A [] p k v))))))))))) 5 Bool.false), (Blk.cells (renL Bool.true (rhoO 0 [64, 13, 25, 1, 69, 70, 71, 72]) (renL Bool.true (backN [64, 13, 25, 1, 69, 70, 71, 72] 103) (renL Bool.true (rhoO 0 [64, 13, 25, 1, 69, 70, 71, 72]) (renL Bool.true (backN [1] 103) (bc (M (List.map byteOf (renL Bool.true (rhoO 0 [1]) (renL Bool.false (shiftN 1) (G c)))))))))) 5 Bool.false), (Blk.cells [(Value.slice (Option.some (Addr.mk 5 0 none)) (List.length (A (List.map byteOf (takeC (Nat.mul (lapN (0 : Int) (lenI n)) 1) (dropC 0 (renL Bool.false (shiftN 1) (G c))))) p k v)) 18446744073709551616), (Value.slice (Option.some (Addr.mk 6 0 none)) (List.length (A [] p k v)) 18446744073709551616), (Value.slice (Option.some (Addr.mk 7 0 none)) (HAdd.hAdd n 3) 18446744073709551616)] 37 Bool.true), (Blk.cells (renL Bool.true (rhoO 0 [64, 13, 25, 1, 69, 70, 71, 72]) (renL Bool.true (backN [64, 13, 25, 1, 69, 70, 71, 72] 103) (renL Bool.true (rhoO 0 [64, 13, 25, 1, 69, 70, 71, 72]) (renL Bool.false (shiftN 70) (takeC (Nat.mul (List.length (A (List.map byteOf (takeC (Nat.mul (lapN (0 : Int) (lenI n)) 1) (dropC 0 (renL Bool.false (shiftN 1) (G c))))) p k v)) 1) (dropC 0 (renL Bool.false (shiftN 13) (bc (A (List.map byteOf (takeC (Nat.mul (lapN (0 : Int) (lenI n)) 1) (dropC 0 (renL Bool.false (shiftN 1) (G c))))) p k v))))))))) 5 Bool.false), (Blk.cells (renL Bool.true (rhoO 0 [64, 13, 25, 1, 69, 70, 71, 72]) (renL Bool.true (backN [64, 13, 25, 1, 69, 70, 71, 72] 103) (renL Bool.true (rhoO 0 [64, 13, 25, 1, 69, 70, 71, 72]) (renL Bool.false (shiftN 71) (takeC (Nat.mul (List.length (A [] p k v)) 1) (dropC 0 (renL Bool.false (shiftN 25) (bc (A [] p k v))))))))) 5 Bool.false), (Blk.cells (renL Bool.true (rhoO 0 [64, 13, 25, 1, 69, 70, 71, 72]) (renL Bool.true (backN [64, 13, 25, 1, 69, 70, 71, 72] 103) (renL Bool.true (rhoO 0 [64, 13, 25, 1, 69, 70, 71, 72]) (renL Bool.false (shiftN 72) (takeC (Nat.mul (HAdd.hAdd n 3) 1) (dropC 0 (renL Bool.false (shiftN 1) (G c)))))))) 5 Bool.false)])
 (needB (L1 [(Value.slice (Option.some (Addr.mk 0 0 none)) 3 3), (Value.slice (Option.some (Addr.mk 4 0 none)) 3 3), (Value.int IntKind.i64 (2 : Int)), (Value.int IntKind.i64 (0 : Int))] [(Blk.cells [(Value.slice (Option.some (Addr.mk 1 0 none)) (List.length (A (List.map byteOf (takeC (Nat.mul (lapN (0 : Int) (lenI n)) 1) (dropC 0 (renL Bool.false (shiftN 1) (G c))))) p k v)) 18446744073709551616), (Value.slice (Option.some (Addr.mk 2 0 none)) (List.length (A [] p k v)) 18446744073709551616), (Value.slice (Option.some (Addr.mk 3 0 none)) (HAdd.hAdd n 3) 18446744073709551616)] 37 Bool.true), (Blk.cells (renL Bool.true (rhoO 0 [64, 13, 25, 1, 69, 70, 71, 72]) (renL Bool.true (backN [64, 13, 25, 1, 69, 70, 71, 72] 103) (renL Bool.true (rhoO 0 [64, 13, 25, 1, 69, 70, 71, 72]) (renL Bool.true (backN [64, 13, 25, 1, 69, 70, 71, 72] 103) (renL Bool.true (rhoO 0 [64, 13, 25, 1, 69, 70, 71, 72]) (renL Bool.true (backN [13] 83) (bc (M (List.map byteOf (renL Bool.true (rhoO 0 [13]) (renL Bool.false (shiftN 13) (bc (A (List.map byteOf (takeC (Nat.mul (lapN (0 : Int) (lenI n)) 1) (dropC 0 (renL Bool.false (shiftN 1) (G c))))) p k v))))))))))))) 5 Bool.false), (Blk.cells (renL Bool.true (rhoO 0 [64, 13, 25, 1, 69, 70, 71, 72]) (renL Bool.true (backN [64, 13, 25, 1, 69, 70, 71, 72] 103) (renL Bool.true (rhoO 0 [64, 13, 25, 1, 69, 70, 71, 72]) (renL Bool.true (backN [64, 13, 25, 1, 69, 70, 71, 72] 103) (renL Bool.true (rhoO 0 [64, 13, 25, 1, 69, 70, 71, 72]) (renL Bool.true (backN [25] 93) (bc (M (List.map byteOf (renL Bool.true (rhoO 0 [25]) (renL Bool.false (shiftN 25) (bc (A [] p k v))))))))))))) 5 Bool.false), (Blk.cells (renL Bool.true (rhoO 0 [64, 13, 25, 1, 69, 70, 71, 72]) (renL Bool.true (backN [64, 13, 25, 1, 69, 70, 71, 72] 103) (renL Bool.true (rhoO 0 [64, 13, 25, 1, 69, 70, 71, 72]) (renL Bool.true (backN [64, 13, 25, 1, 69, 70, 71, 72] 103) (renL Bool.true (rhoO 0 [64, 13, 25, 1, 69, 70, 71, 72]) (renL Bool.true (backN [1] 103) (bc (M (List.map byteOf (renL Bool.true (rhoO 0 [1]) (renL Bool.false (shiftN 1) (G c)))))))))))) 5 Bool.false), (Blk.cells [(Value.slice (Option.some (Addr.mk 5 0 none)) (List.length (A (List.map byteOf (takeC (Nat.mul (lapN (0 : Int) (lenI n)) 1) (dropC 0 (renL Bool.false (shiftN 1) (G c))))) p k v)) 18446744073709551616), (Value.slice (Option.some (Addr.mk 6 0 none)) (List.length (A [] p k v)) 18446744073709551616), (Value.slice (Option.some (Addr.mk 7 0 none)) (HAdd.hAdd n 3) 18446744073709551616)] 37 Bool.true), (Blk.cells (renL Bool.true (rhoO 0 [64, 13, 25, 1, 69, 70, 71, 72]) (renL Bool.true (backN [64, 13, 25, 1, 69, 70, 71, 72] 103) (renL Bool.true (rhoO 0 [64, 13, 25, 1, 69, 70, 71, 72]) (renL Bool.true (backN [64, 13, 25, 1, 69, 70, 71, 72] 103) (renL Bool.true (rhoO 0 [64, 13, 25, 1, 69, 70, 71, 72]) (renL Bool.false (shiftN 70) (takeC (Nat.mul (List.length (A (List.map byteOf (takeC (Nat.mul (lapN (0 : Int) (lenI n)) 1) (dropC 0 (renL Bool.false (shiftN 1) (G c))))) p k v)) 1) (dropC 0 (renL Bool.false (shiftN 13) (bc (A (List.map byteOf (takeC (Nat.mul (lapN (0 : Int) (lenI n)) 1) (dropC 0 (renL Bool.false (shiftN 1) (G c))))) p k v))))))))))) 5 Bool.false), (Blk.cells (renL Bool.true (rhoO 0 [64, 13, 25, 1, 69, 70, 71, 72]) (renL Bool.true (backN [64, 13, 25, 1, 69, 70, 71, 72] 103) (renL Bool.true (rhoO 0 [64, 13, 25, 1, 69, 70, 71, 72]) (renL Bool.true (backN [64, 13, 25, 1, 69, 70, 71, 72] 103) (renL Bool.true (rhoO 0 [64, 13, 25, 1, 69, 70, 71, 72]) (renL Bool.false (shiftN 71) (takeC (Nat.mul (List.length (A [] p k v)) 1) (dropC 0 (renL Bool.false (shiftN 25) (bc (A [] p k v))))))))))) 5 Bool.false), (Blk.cells (renL Bool.true (rhoO 0 [64, 13, 25, 1, 69, 70, 71, 72]) (renL Bool.true (backN [64, 13, 25, 1, 69, 70, 71, 72] 103) (renL Bool.true (rhoO 0 [64, 13, 25, 1, 69, 70, 71, 72]) (renL Bool.true (backN [64, 13, 25, 1, 69, 70, 71, 72] 103) (renL Bool.true (rhoO 0 [64, 13, 25, 1, 69, 70, 71, 72]) (renL Bool.false (shiftN 72) (takeC (Nat.mul (HAdd.hAdd n 3) 1) (dropC 0 (renL Bool.false (shiftN 1) (G c)))))))))) 5 Bool.false)])
 (needB (beqV (Value.agg (Array.mk [(Value.bool p), (Value.string k), (Value.string v)])) (Value.agg (Array.mk [(Value.bool p), (Value.string k), (Value.string v)])))
 (some ((Value.bool Bool.true), (mkSt [])))))))))))))))))))))))))))))))))))))))))))))
 (needB (beqV (Value.agg (Array.mk [(Value.bool p), (Value.string k), (Value.string v)])) (Value.agg (Array.mk [(Value.bool p), (Value.string k), (Value.string v)])))
 (some ((Value.bool Bool.false), (mkSt []))))))))))))))))
 (needB (Bool.and (fzW 18446744073709551617 0 []) (O p k v))
 (needB (cutI (0 : Int) (lenI n) (Nat.div (Nat.sub (List.length (renL Bool.false (shiftN 1) (G c))) 0) 1))
 (iteB (Nat.ble 1 (Nat.div (Nat.sub (List.length (renL Bool.false (shiftN 1) (G c))) 0) 1))
 (needB (Bool.and (Nat.ble (Nat.add 0 (Nat.mul (lapN (0 : Int) (lenI n)) 1)) (List.length (renL Bool.false (shiftN 1) (G c)))) (Nat.ble 1 1))
 (needB (flatL (takeC (Nat.mul (lapN (0 : Int) (lenI n)) 1) (dropC 0 (renL Bool.false (shiftN 1) (G c)))))
 (needB (Bool.and (fzW 18446744073709551617 (lapN (0 : Int) (lenI n)) (takeC (Nat.mul (lapN (0 : Int) (lenI n)) 1) (dropC 0 (renL Bool.false (shiftN 1) (G c))))) (O p k v))
 (needB (Bool.and (fzW 18446744073709551617 n c) (O p k v))
 (needB (O p k v)
 (needB (O p k v)
 (needB (O p k v)
 (needB (O p k v)
 (iteB (eqS (T p k v) (T p k v))
 (needB (Bool.and (Nat.ble (Nat.add 0 (Nat.mul (List.length (A [] p k v)) 1)) (List.length (renL Bool.false (shiftN 13) (bc (A [] p k v))))) (Nat.ble 1 1))
 (needB (flatL (takeC (Nat.mul (List.length (A [] p k v)) 1) (dropC 0 (renL Bool.false (shiftN 13) (bc (A [] p k v))))))
 (needB (Bool.and (Nat.ble (Nat.add 0 (Nat.mul (List.length (A (List.map byteOf c) p k v)) 1)) (List.length (renL Bool.false (shiftN 26) (bc (A (List.map byteOf c) p k v))))) (Nat.ble 1 1))
 (needB (flatL (takeC (Nat.mul (List.length (A (List.map byteOf c) p k v)) 1) (dropC 0 (renL Bool.false (shiftN 26) (bc (A (List.map byteOf c) p k v))))))
 (needB (Bool.and (Bool.and (fzB 18446744073709551617 (List.length (A [] p k v)) (takeC (Nat.mul (List.length (A [] p k v)) 1) (dropC 0 (renL Bool.false (shiftN 13) (bc (A [] p k v)))))) (fzB 18446744073709551617 (List.length (A (List.map byteOf c) p k v)) (takeC (Nat.mul (List.length (A (List.map byteOf c) p k v)) 1) (dropC 0 (renL Bool.false (shiftN 26) (bc (A (List.map byteOf c) p k v))))))) (Q (List.map byteOf (takeC (Nat.mul (List.length (A [] p k v)) 1) (dropC 0 (renL Bool.false (shiftN 13) (bc (A [] p k v)))))) (List.map byteOf (takeC (Nat.mul (List.length (A (List.map byteOf c) p k v)) 1) (dropC 0 (renL Bool.false (shiftN 26) (bc (A (List.map byteOf c) p k v))))))))
 (needB (fzB 18446744073709551617 n c)
 (needB (Bool.and (Nat.ble (Nat.add 0 (Nat.mul (HAdd.hAdd n 3) 1)) (List.length (renL Bool.false (shiftN 1) (G c)))) (Nat.ble 1 1))
 (needB (flatL (takeC (Nat.mul (HAdd.hAdd n 3) 1) (dropC 0 (renL Bool.false (shiftN 1) (G c)))))
 (needB (Bool.and (Nat.ble (Nat.add 0 (Nat.mul (HAdd.hAdd n 3) 1)) (List.length (renL Bool.false (shiftN 68) (G c)))) (Nat.ble 1 1))
 (needB (flatL (takeC (Nat.mul (HAdd.hAdd n 3) 1) (dropC 0 (renL Bool.false (shiftN 68) (G c)))))
 (needB (Bool.and (Bool.and (fzB 18446744073709551617 (HAdd.hAdd n 3) (takeC (Nat.mul (HAdd.hAdd n 3) 1) (dropC 0 (renL Bool.false (shiftN 1) (G c))))) (fzB 18446744073709551617 (HAdd.hAdd n 3) (takeC (Nat.mul (HAdd.hAdd n 3) 1) (dropC 0 (renL Bool.false (shiftN 68) (G c)))))) (Q (List.map byteOf (takeC (Nat.mul (HAdd.hAdd n 3) 1) (dropC 0 (renL Bool.false (shiftN 1) (G c))))) (List.map byteOf (takeC (Nat.mul (HAdd.hAdd n 3) 1) (dropC 0 (renL Bool.false (shiftN 68) (G c)))))))
 (needB (Bool.and (Nat.ble (Nat.add 0 (Nat.mul (List.length (A [] p k v)) 1)) (List.length (renL Bool.false (shiftN 13) (bc (A [] p k v))))) (Nat.ble 1 1))
 (needB (flatL (takeC (Nat.mul (List.length (A [] p k v)) 1) (dropC 0 (renL Bool.false (shiftN 13) (bc (A [] p k v))))))
 (needB (K 18446744073709551617 (List.length (A [] p k v)) (takeC (Nat.mul (List.length (A [] p k v)) 1) (dropC 0 (renL Bool.false (shiftN 13) (bc (A [] p k v))))))
 (needB (Bool.and (Nat.ble (Nat.add 0 (Nat.mul (List.length (A (List.map byteOf (takeC (Nat.mul (lapN (0 : Int) (lenI n)) 1) (dropC 0 (renL Bool.false (shiftN 1) (G c))))) p k v)) 1)) (List.length (renL Bool.false (shiftN 25) (bc (A (List.map byteOf (takeC (Nat.mul (lapN (0 : Int) (lenI n)) 1) (dropC 0 (renL Bool.false (shiftN 1) (G c))))) p k v))))) (Nat.ble 1 1))
 (needB (flatL (takeC (Nat.mul (List.length (A (List.map byteOf (takeC (Nat.mul (lapN (0 : Int) (lenI n)) 1) (dropC 0 (renL Bool.false (shiftN 1) (G c))))) p k v)) 1) (dropC 0 (renL Bool.false (shiftN 25) (bc (A (List.map byteOf (takeC (Nat.mul (lapN (0 : Int) (lenI n)) 1) (dropC 0 (renL Bool.false (shiftN 1) (G c))))) p k v))))))
 (needB (K 18446744073709551617 (List.length (A (List.map byteOf (takeC (Nat.mul (lapN (0 : Int) (lenI n)) 1) (dropC 0 (renL Bool.false (shiftN 1) (G c))))) p k v)) (takeC (Nat.mul (List.length (A (List.map byteOf (takeC (Nat.mul (lapN (0 : Int) (lenI n)) 1) (dropC 0 (renL Bool.false (shiftN 1) (G c))))) p k v)) 1) (dropC 0 (renL Bool.false (shiftN 25) (bc (A (List.map byteOf (takeC (Nat.mul (lapN (0 : Int) (lenI n)) 1) (dropC 0 (renL Bool.false (shiftN 1) (G c))))) p k v))))))
 (needB (Bool.and (Nat.ble (Nat.add 0 (Nat.mul (HAdd.hAdd n 3) 1)) (List.length (renL Bool.false (shiftN 1) (G c)))) (Nat.ble 1 1))
 (needB (flatL (takeC (Nat.mul (HAdd.hAdd n 3) 1) (dropC 0 (renL Bool.false (shiftN 1) (G c)))))
 (needB (K 18446744073709551617 (HAdd.hAdd n 3) (takeC (Nat.mul (HAdd.hAdd n 3) 1) (dropC 0 (renL Bool.false (shiftN 1) (G c)))))
 (needB (Bool.and (Nat.ble (Nat.add 0 (Nat.mul (List.length (A [] p k v)) 1)) (List.length (renL Bool.false (shiftN 13) (bc (A [] p k v))))) (Nat.ble 1 1))
 (needB (flatL (takeC (Nat.mul (List.length (A [] p k v)) 1) (dropC 0 (renL Bool.false (shiftN 13) (bc (A [] p k v))))))
 (needB (Bool.and (Nat.ble (Nat.add 0 (Nat.mul (List.length (A [] p k v)) 1)) (List.length (renL Bool.false (shiftN 70) (takeC (Nat.mul (List.length (A [] p k v)) 1) (dropC 0 (renL Bool.false (shiftN 13) (bc (A [] p k v)))))))) (Nat.ble 1 1))
 (needB (flatL (takeC (Nat.mul (List.length (A [] p k v)) 1) (dropC 0 (renL Bool.false (shiftN 70) (takeC (Nat.mul (List.length (A [] p k v)) 1) (dropC 0 (renL Bool.false (shiftN 13) (bc (A [] p k v)))))))))
 (needB (Bool.and (Bool.and (fzB 18446744073709551617 (List.length (A [] p k v)) (takeC (Nat.mul (List.length (A [] p k v)) 1) (dropC 0 (renL Bool.false (shiftN 13) (bc (A [] p k v)))))) (fzB 18446744073709551617 (List.length (A [] p k v)) (takeC (Nat.mul (List.length (A [] p k v)) 1) (dropC 0 (renL Bool.false (shiftN 70) (takeC (Nat.mul (List.length (A [] p k v)) 1) (dropC 0 (renL Bool.false (shiftN 13) (bc (A [] p k v)))))))))) (Q (List.map byteOf (takeC (Nat.mul (List.length (A [] p k v)) 1) (dropC 0 (renL Bool.false (shiftN 13) (bc (A [] p k v)))))) (List.map byteOf (takeC (Nat.mul (List.length (A [] p k v)) 1) (dropC 0 (renL Bool.false (shiftN 70) (takeC (Nat.mul (List.length (A [] p k v)) 1) (dropC 0 (renL Bool.false (shiftN 13) (bc (A [] p k v)))))))))))
 (needB (C (Addr.mk 0 0 (Addr.spot (Addr.mk 13 0 (Addr.spot (Addr.mk 0 0 none))))) (List.length (A [] p k v)) 18446744073709551616 (renL Bool.true (rhoO 0 [13]) (renL Bool.false (shiftN 13) (bc (A [] p k v)))) 5)
 (needB (Bool.and (Nat.ble (Nat.add 0 (Nat.mul (List.length (A (List.map byteOf (takeC (Nat.mul (lapN (0 : Int) (lenI n)) 1) (dropC 0 (renL Bool.false (shiftN 1) (G c))))) p k v)) 1)) (List.length (renL Bool.false (shiftN 25) (bc (A (List.map byteOf (takeC (Nat.mul (lapN (0 : Int) (lenI n)) 1) (dropC 0 (renL Bool.false (shiftN 1) (G c))))) p k v))))) (Nat.ble 1 1))
 (needB (flatL (takeC (Nat.mul (List.length (A (List.map byteOf (takeC (Nat.mul (lapN (0 : Int) (lenI n)) 1) (dropC 0 (renL Bool.false (shiftN 1) (G c))))) p k v)) 1) (dropC 0 (renL Bool.false (shiftN 25) (bc (A (List.map byteOf (takeC (Nat.mul (lapN (0 : Int) (lenI n)) 1) (dropC 0 (renL Bool.false (shiftN 1) (G c))))) p k v))))))
 (needB (Bool.and (Nat.ble (Nat.add 0 (Nat.mul (List.length (A (List.map byteOf (takeC (Nat.mul (lapN (0 : Int) (lenI n)) 1) (dropC 0 (renL Bool.false (shiftN 1) (G c))))) p k v)) 1)) (List.length (renL Bool.false (shiftN 71) (takeC (Nat.mul (List.length (A (List.map byteOf (takeC (Nat.mul (lapN (0 : Int) (lenI n)) 1) (dropC 0 (renL Bool.false (shiftN 1) (G c))))) p k v)) 1) (dropC 0 (renL Bool.false (shiftN 25) (bc (A (List.map byteOf (takeC (Nat.mul (lapN (0 : Int) (lenI n)) 1) (dropC 0 (renL Bool.false (shiftN 1) (G c))))) p k v)))))))) (Nat.ble 1 1))
 (needB (flatL (takeC (Nat.mul (List.length (A (List.map byteOf (takeC (Nat.mul (lapN (0 : Int) (lenI n)) 1) (dropC 0 (renL Bool.false (shiftN 1) (G c))))) p k v)) 1) (dropC 0 (renL Bool.false (shiftN 71) (takeC (Nat.mul (List.length (A (List.map byteOf (takeC (Nat.mul (lapN (0 : Int) (lenI n)) 1) (dropC 0 (renL Bool.false (shiftN 1) (G c))))) p k v)) 1) (dropC 0 (renL Bool.false (shiftN 25) (bc (A (List.map byteOf (takeC (Nat.mul (lapN (0 : Int) (lenI n)) 1) (dropC 0 (renL Bool.false (shiftN 1) (G c))))) p k v)))))))))
 (needB (Bool.and (Bool.and (fzB 18446744073709551617 (List.length (A (List.map byteOf (takeC (Nat.mul (lapN (0 : Int) (lenI n)) 1) (dropC 0 (renL Bool.false (shiftN 1) (G c))))) p k v)) (takeC (Nat.mul (List.length (A (List.map byteOf (takeC (Nat.mul (lapN (0 : Int) (lenI n)) 1) (dropC 0 (renL Bool.false (shiftN 1) (G c))))) p k v)) 1) (dropC 0 (renL Bool.false (shiftN 25) (bc (A (List.map byteOf (takeC (Nat.mul (lapN (0 : Int) (lenI n)) 1) (dropC 0 (renL Bool.false (shiftN 1) (G c))))) p k v)))))) (fzB 18446744073709551617 (List.length (A (List.map byteOf (takeC (Nat.mul (lapN (0 : Int) (lenI n)) 1) (dropC 0 (renL Bool.false (shiftN 1) (G c))))) p k v)) (takeC (Nat.mul (List.length (A (List.map byteOf (takeC (Nat.mul (lapN (0 : Int) (lenI n)) 1) (dropC 0 (renL Bool.false (shiftN 1) (G c))))) p k v)) 1) (dropC 0 (renL Bool.false (shiftN 71) (takeC (Nat.mul (List.length (A (List.map byteOf (takeC (Nat.mul (lapN (0 : Int) (lenI n)) 1) (dropC 0 (renL Bool.false (shiftN 1) (G c))))) p k v)) 1) (dropC 0 (renL Bool.false (shiftN 25) (bc (A (List.map byteOf (takeC (Nat.mul (lapN (0 : Int) (lenI n)) 1) (dropC 0 (renL Bool.false (shiftN 1) (G c))))) p k v)))))))))) (Q (List.map byteOf (takeC (Nat.mul (List.length (A (List.map byteOf (takeC (Nat.mul (lapN (0 : Int) (lenI n)) 1) (dropC 0 (renL Bool.false (shiftN 1) (G c))))) p k v)) 1) (dropC 0 (renL Bool.false (shiftN 25) (bc (A (List.map byteOf (takeC (Nat.mul (lapN (0 : Int) (lenI n)) 1) (dropC 0 (renL Bool.false (shiftN 1) (G c))))) p k v)))))) (List.map byteOf (takeC (Nat.mul (List.length (A (List.map byteOf (takeC (Nat.mul (lapN (0 : Int) (lenI n)) 1) (dropC 0 (renL Bool.false (shiftN 1) (G c))))) p k v)) 1) (dropC 0 (renL Bool.false (shiftN 71) (takeC (Nat.mul (List.length (A (List.map byteOf (takeC (Nat.mul (lapN (0 : Int) (lenI n)) 1) (dropC 0 (renL Bool.false (shiftN 1) (G c))))) p k v)) 1) (dropC 0 (renL Bool.false (shiftN 25) (bc (A (List.map byteOf (takeC (Nat.mul (lapN (0 : Int) (lenI n)) 1) (dropC 0 (renL Bool.false (shiftN 1) (G c))))) p k v)))))))))))
 (needB (C (Addr.mk 0 0 (Addr.spot (Addr.mk 25 0 (Addr.spot (Addr.mk 0 0 none))))) (List.length (A (List.map byteOf (takeC (Nat.mul (lapN (0 : Int) (lenI n)) 1) (dropC 0 (renL Bool.false (shiftN 1) (G c))))) p k v)) 18446744073709551616 (renL Bool.true (rhoO 0 [25]) (renL Bool.false (shiftN 25) (bc (A (List.map byteOf (takeC (Nat.mul (lapN (0 : Int) (lenI n)) 1) (dropC 0 (renL Bool.false (shiftN 1) (G c))))) p k v)))) 5)
 (needB (Bool.and (Nat.ble (Nat.add 0 (Nat.mul (HAdd.hAdd n 3) 1)) (List.length (renL Bool.false (shiftN 1) (G c)))) (Nat.ble 1 1))
 (needB (flatL (takeC (Nat.mul (HAdd.hAdd n 3) 1) (dropC 0 (renL Bool.false (shiftN 1) (G c)))))
 (needB (Bool.and (Nat.ble (Nat.add 0 (Nat.mul (HAdd.hAdd n 3) 1)) (List.length (renL Bool.false (shiftN 72) (takeC (Nat.mul (HAdd.hAdd n 3) 1) (dropC 0 (renL Bool.false (shiftN 1) (G c))))))) (Nat.ble 1 1))
 (needB (flatL (takeC (Nat.mul (HAdd.hAdd n 3) 1) (dropC 0 (renL Bool.false (shiftN 72) (takeC (Nat.mul (HAdd.hAdd n 3) 1) (dropC 0 (renL Bool.false (shiftN 1) (G c))))))))
 (needB (Bool.and (Bool.and (fzB 18446744073709551617 (HAdd.hAdd n 3) (takeC (Nat.mul (HAdd.hAdd n 3) 1) (dropC 0 (renL Bool.false (shiftN 1) (G c))))) (fzB 18446744073709551617 (HAdd.hAdd n 3) (takeC (Nat.mul (HAdd.hAdd n 3) 1) (dropC 0 (renL Bool.false (shiftN 72) (takeC (Nat.mul (HAdd.hAdd n 3) 1) (dropC 0 (renL Bool.false (shiftN 1) (G c))))))))) (Q (List.map byteOf (takeC (Nat.mul (HAdd.hAdd n 3) 1) (dropC 0 (renL Bool.false (shiftN 1) (G c))))) (List.map byteOf (takeC (Nat.mul (HAdd.hAdd n 3) 1) (dropC 0 (renL Bool.false (shiftN 72) (takeC (Nat.mul (HAdd.hAdd n 3) 1) (dropC 0 (renL Bool.false (shiftN 1) (G c))))))))))
 (needB (C (Addr.mk 0 0 (Addr.spot (Addr.mk 1 0 (Addr.spot (Addr.mk 0 0 none))))) (HAdd.hAdd n 3) 18446744073709551616 (renL Bool.true (rhoO 0 [1]) (renL Bool.false (shiftN 1) (G c))) 5)
 (needB (L1 [(Value.slice (Option.some (Addr.mk 0 0 none)) 3 3), (Value.slice (Option.some (Addr.mk 4 0 none)) 3 3), (Value.int IntKind.i64 (0 : Int)), (Value.int IntKind.i64 (0 : Int))] [(Blk.cells [(Value.slice (Option.some (Addr.mk 1 0 none)) (List.length (A [] p k v)) 18446744073709551616), (Value.slice (Option.some (Addr.mk 2 0 none)) (List.length (A (List.map byteOf (takeC (Nat.mul (lapN (0 : Int) (lenI n)) 1) (dropC 0 (renL Bool.false (shiftN 1) (G c))))) p k v)) 18446744073709551616), (Value.slice (Option.some (Addr.mk 3 0 none)) (HAdd.hAdd n 3) 18446744073709551616)] 37 Bool.true), (Blk.cells (renL Bool.true (rhoO 0 [64, 13, 25, 1, 69, 70, 71, 72]) (renL Bool.true (backN [13] 83) (bc (M (List.map byteOf (renL Bool.true (rhoO 0 [13]) (renL Bool.false (shiftN 13) (bc (A [] p k v))))))))) 5 Bool.false), (Blk.cells (renL Bool.true (rhoO 0 [64, 13, 25, 1, 69, 70, 71, 72]) (renL Bool.true (backN [25] 93) (bc (M (List.map byteOf (renL Bool.true (rhoO 0 [25]) (renL Bool.false (shiftN 25) (bc (A (List.map byteOf (takeC (Nat.mul (lapN (0 : Int) (lenI n)) 1) (dropC 0 (renL Bool.false (shiftN 1) (G c))))) p k v))))))))) 5 Bool.false), (Blk.cells (renL Bool.true (rhoO 0 [64, 13, 25, 1, 69, 70, 71, 72]) (renL Bool.true (backN [1] 103) (bc (M (List.map byteOf (renL Bool.true (rhoO 0 [1]) (renL Bool.false (shiftN 1) (G c)))))))) 5 Bool.false), (Blk.cells [(Value.slice (Option.some (Addr.mk 5 0 none)) (List.length (A [] p k v)) 18446744073709551616), (Value.slice (Option.some (Addr.mk 6 0 none)) (List.length (A (List.map byteOf (takeC (Nat.mul (lapN (0 : Int) (lenI n)) 1) (dropC 0 (renL Bool.false (shiftN 1) (G c))))) p k v)) 18446744073709551616), (Value.slice (Option.some (Addr.mk 7 0 none)) (HAdd.hAdd n 3) 18446744073709551616)] 37 Bool.true), (Blk.cells (renL Bool.true (rhoO 0 [64, 13, 25, 1, 69, 70, 71, 72]) (renL Bool.false (shiftN 70) (takeC (Nat.mul (List.length (A [] p k v)) 1) (dropC 0 (renL Bool.false (shiftN 13) (bc (A [] p k v))))))) 5 Bool.false), (Blk.cells (renL Bool.true (rhoO 0 [64, 13, 25, 1, 69, 70, 71, 72]) (renL Bool.false (shiftN 71) (takeC (Nat.mul (List.length (A (List.map byteOf (takeC (Nat.mul (lapN (0 : Int) (lenI n)) 1) (dropC 0 (renL Bool.false (shiftN 1) (G c))))) p k v)) 1) (dropC 0 (renL Bool.false (shiftN 25) (bc (A (List.map byteOf (takeC (Nat.mul (lapN (0 : Int) (lenI n)) 1) (dropC 0 (renL Bool.false (shiftN 1) (G c))))) p k v))))))) 5 Bool.false), (Blk.cells (renL Bool.true (rhoO 0 [64, 13, 25, 1, 69, 70, 71, 72]) (renL Bool.false (shiftN 72) (takeC (Nat.mul (HAdd.hAdd n 3) 1) (dropC 0 (renL Bool.false (shiftN 1) (G c)))))) 5 Bool.false)])
 (needB (L1 [(Value.slice (Option.some (Addr.mk 0 0 none)) 3 3), (Value.slice (Option.some (Addr.mk 4 0 none)) 3 3), (Value.int IntKind.i64 (1 : Int)), (Value.int IntKind.i64 (0 : Int))] [(Blk.cells [(Value.slice (Option.some (Addr.mk 1 0 none)) (List.length (A [] p k v)) 18446744073709551616), (Value.slice (Option.some (Addr.mk 2 0 none)) (List.length (A (List.map byteOf (takeC (Nat.mul (lapN (0 : Int) (lenI n)) 1) (dropC 0 (renL Bool.false (shiftN 1) (G c))))) p k v)) 18446744073709551616), (Value.slice (Option.some (Addr.mk 3 0 none)) (HAdd.hAdd n 3) 18446744073709551616)] 37 Bool.true), (Blk.cells (renL Bool.true (rhoO 0 [64, 13, 25, 1, 69, 70, 71, 72]) (renL Bool.true (backN [64, 13, 25, 1, 69, 70, 71, 72] 103) (renL Bool.true (rhoO 0 [64, 13, 25, 1, 69, 70, 71, 72]) (renL Bool.true (backN [13] 83) (bc (M (List.map byteOf (renL Bool.true (rhoO 0 [13]) (renL Bool.false (shiftN 13) (bc (A [] p k v))))))))))) 5 Bool.false), (Blk.cells (renL Bool.true (rhoO 0 [64, 13, 25, 1, 69, 70, 71, 72]) (renL Bool.true (backN [64, 13, 25, 1, 69, 70, 71, 72] 103) (renL Bool.true (rhoO 0 [64, 13, 25, 1, 69, 70, 71, 72]) (renL Bool.true (backN [25] 93) (bc (M (List.map byteOf (renL Bool.true (rhoO 0 [25]) (renL Bool.false (shiftN 25) (bc (A (List.map byteOf (takeC (Nat.mul (lapN (0 : Int) (lenI n)) 1) (dropC 0 (renL Bool.false (shiftN 1) (G c))))) p k v))))))))))) 5 Bool.false), (Blk.cells (renL Bool.true (rhoO 0 [64, 13, 25, 1, 69, 70, 71, 72]) (renL Bool.true (backN [64, 13, 25, 1, 69, 70, 71, 72] 103) (renL Bool.true (rhoO 0 [64, 13, 25, 1, 69, 70, 71, 72]) (renL Bool.true (backN [1] 103) (bc (M (List.map byteOf (renL Bool.true (rhoO 0 [1]) (renL Bool.false (shiftN 1) (G c)))))))))) 5 Bool.false), (Blk.cells [(Value.slice (Option.some (Addr.mk 5 0 none)) (List.length (A [] p k v)) 18446744073709551616), (Value.slice (Option.some (Addr.mk 6 0 none)) (List.length (A (List.map byteOf (takeC (Nat.mul (lapN (0 : Int) (lenI n)) 1) (dropC 0 (renL Bool.false (shiftN 1) (G c))))) p k v)) 18446744073709551616), (Value.slice (Option.some (Addr.mk 7 0 none)) (HAdd.hAdd n 3) 18446744073709551616)] 37 Bool.true), (Blk.cells (renL Bool.true (rhoO 0 [64, 13, 25, 1, 69, 70, 71, 72]) (renL Bool.true (backN [64, 13, 25, 1, 69, 70, 71, 72] 103) (renL Bool.true (rhoO 0 [64, 13, 25, 1, 69, 70, 71, 72]) (renL Bool.false (shiftN 70) (takeC (Nat.mul (List.length (A [] p k v)) 1) (dropC 0 (renL Bool.false (shiftN 13) (bc (A [] p k v))))))))) 5 Bool.false), (Blk.cells (renL Bool.true (rhoO 0 [64, 13, 25, 1, 69, 70, 71, 72]) (renL Bool.true (backN [64, 13, 25, 1, 69, 70, 71, 72] 103) (renL Bool.true (rhoO 0 [64, 13, 25, 1, 69, 70, 71, 72]) (renL Bool.false (shiftN 71) (takeC (Nat.mul (List.length (A (List.map byteOf (takeC (Nat.mul (lapN (0 : Int) (lenI n)) 1) (dropC 0 (renL Bool.false (shiftN 1) (G c))))) p k v)) 1) (dropC 0 (renL Bool.false (shiftN 25) (bc (A (List.map byteOf (takeC (Nat.mul (lapN (0 : Int) (lenI n)) 1) (dropC 0 (renL Bool.false (shiftN 1) (G c))))) p k v))))))))) 5 Bool.false), (Blk.cells (renL Bool.true (rhoO 0 [64, 13, 25, 1, 69, 70, 71, 72]) (renL Bool.true (backN [64, 13, 25, 1, 69, 70, 71, 72] 103) (renL Bool.true (rhoO 0 [64, 13, 25, 1, 69, 70, 71, 72]) (renL Bool.false (shiftN 72) (takeC (Nat.mul (HAdd.hAdd n 3) 1) (dropC 0 (renL Bool.false (shiftN 1) (G c)))))))) 5 Bool.false)])
 (needB (L1 [(Value.slice (Option.some (Addr.mk 0 0 none)) 3 3), (Value.slice (Option.some (Addr.mk 4 0 none)) 3 3), (Value.int IntKind.i64 (2 : Int)), (Value.int IntKind.i64 (0 : Int))] [(Blk.cells [(Value.slice (Option.some (Addr.mk 1 0 none)) (List.length (A [] p k v)) 18446744073709551616), (Value.slice (Option.some (Addr.mk 2 0 none)) (List.length (A (List.map byteOf (takeC (Nat.mul (lapN (0 : Int) (lenI n)) 1) (dropC 0 (renL Bool.false (shiftN 1) (G c))))) p k v)) 18446744073709551616), (Value.slice (Option.some (Addr.mk 3 0 none)) (HAdd.hAdd n 3) 18446744073709551616)] 37 Bool.true), (Blk.cells (renL Bool.true (rhoO 0 [64, 13, 25, 1, 69, 70, 71, 72]) (renL Bool.true (backN [64, 13, 25, 1, 69, 70, 71, 72] 103) (renL Bool.true (rhoO 0 [64, 13, 25, 1, 69, 70, 71, 72]) (renL Bool.true (backN [64, 13, 25, 1, 69, 70, 71, 72] 103) (renL Bool.true (rhoO 0 [64, 13, 25, 1, 69, 70, 71, 72]) (renL Bool.true (backN [13] 83) (bc (M (List.map byteOf (renL Bool.true (rhoO 0 [13]) (renL Bool.false (shiftN 13) (bc (A [] p k v))))))))))))) 5 Bool.false), (Blk.cells (renL Bool.true (rhoO 0 [64, 13, 25, 1, 69, 70, 71, 72]) (renL Bool.true (backN [64, 13, 25, 1, 69, 70, 71, 72] 103) (renL Bool.true (rhoO 0 [64, 13, 25, 1, 69, 70, 71, 72]) (renL Bool.true (backN [64, 13, 25, 1, 69, 70, 71, 72] 103) (renL Bool.true (rhoO 0 [64, 13, 25, 1, 69, 70, 71, 72]) (renL Bool.true (backN [25] 93) (bc (M (List.map byteOf (renL Bool.true (rhoO 0 [25]) (renL Bool.false (shiftN 25) (bc (A (List.map byteOf (takeC (Nat.mul (lapN (0 : Int) (lenI n)) 1) (dropC 0 (renL Bool.false (shiftN 1) (G c))))) p k v))))))))))))) 5 Bool.false), (Blk.cells (renL Bool.true (rhoO 0 [64, 13, 25, 1, 69, 70, 71, 72]) (renL Bool.true (backN [64, 13, 25, 1, 69, 70, 71, 72] 103) (renL Bool.true (rhoO 0 [64, 13, 25, 1, 69, 70, 71, 72]) (renL Bool.true (backN [64, 13, 25, 1, 69, 70, 71, 72] 103) (renL Bool.true (rhoO 0 [64, 13, 25, 1, 69, 70, 71, 72]) (renL Bool.true (backN [1] 103) (bc (M (List.map byteOf (renL Bool.true (rhoO 0 [1]) (renL Bool.false (shiftN 1) (G c)))))))))))) 5 Bool.false), (Blk.cells [(Value.slice (Option.some (Addr.mk 5 0 none)) (List.length (A [] p k v)) 18446744073709551616), (Value.slice (Option.some (Addr.mk 6 0 none)) (List.length (A (List.map byteOf (takeC (Nat.mul (lapN (0 : Int) (lenI n)) 1) (dropC 0 (renL Bool.false (shiftN 1) (G c))))) p k v)) 18446744073709551616), (Value.slice (Option.some (Addr.mk 7 0 none)) (HAdd.hAdd n 3) 18446744073709551616)] 37 Bool.true), (Blk.cells (renL Bool.true (rhoO 0 [64, 13, 25, 1, 69, 70, 71, 72]) (renL Bool.true (backN [64, 13, 25, 1, 69, 70, 71, 72] 103) (renL Bool.true (rhoO 0 [64, 13, 25, 1, 69, 70, 71, 72]) (renL Bool.true (backN [64, 13, 25, 1, 69, 70, 71, 72] 103) (renL Bool.true (rhoO 0 [64, 13, 25, 1, 69, 70, 71, 72]) (renL Bool.false (shiftN 70) (takeC (Nat.mul (List.length (A [] p k v)) 1) (dropC 0 (renL Bool.false (shiftN 13) (bc (A [] p k v))))))))))) 5 Bool.false), (Blk.cells (renL Bool.true (rhoO 0 [64, 13, 25, 1, 69, 70, 71, 72]) (renL Bool.true (backN [64, 13, 25, 1, 69, 70, 71, 72] 103) (renL Bool.true (rhoO 0 [64, 13, 25, 1, 69, 70, 71, 72]) (renL Bool.true (backN [64, 13, 25, 1, 69, 70, 71, 72] 103) (renL Bool.true (rhoO 0 [64, 13, 25, 1, 69, 70, 71, 72]) (renL Bool.false (shiftN 71) (takeC (Nat.mul (List.length (A (List.map byteOf (takeC (Nat.mul (lapN (0 : Int) (lenI n)) 1) (dropC 0 (renL Bool.false (shiftN 1) (G c))))) p k v)) 1) (dropC 0 (renL Bool.false (shiftN 25) (bc (A (List.map byteOf (takeC (Nat.mul (lapN (0 : Int) (lenI n)) 1) (dropC 0 (renL Bool.false (shiftN 1) (G c))))) p k v))))))))))) 5 Bool.false), (Blk.cells (renL Bool.true (rhoO 0 [64, 13, 25, 1, 69, 70, 71, 72]) (renL Bool.true (backN [64, 13, 25, 1, 69, 70, 71, 72] 103) (renL Bool.true (rhoO 0 [64, 13, 25, 1, 69, 70, 71, 72]) (renL Bool.true (backN [64, 13, 25, 1, 69, 70, 71, 72] 103) (renL Bool.true (rhoO 0 [64, 13, 25, 1, 69, 70, 71, 72]) (renL Bool.false (shiftN 72) (takeC (Nat.mul (HAdd.hAdd n 3) 1) (dropC 0 (renL Bool.false (shiftN 1) (G c)))))))))) 5 Bool.false)])
 (needB (beqV (Value.agg (Array.mk [(Value.bool p), (Value.string k), (Value.string v)])) (Value.agg (Array.mk [(Value.bool p), (Value.string k), (Value.string v)])))
 (some ((Value.bool Bool.true), (mkSt [])))))))))))))))))))))))))))))))))))))))))))))
 (needB (beqV (Value.agg (Array.mk [(Value.bool p), (Value.string k), (Value.string v)])) (Value.agg (Array.mk [(Value.bool p), (Value.string k), (Value.string v)])))
 (some ((Value.bool Bool.false), (mkSt [])))))))))))))
 (needB (Bool.and (fzW 18446744073709551617 0 []) (O p k v))
 (needB (Bool.and (fzW 18446744073709551617 n c) (O p k v))
 (needB (O p k v)
 (needB (O p k v)
 (needB (O p k v)
 (needB (O p k v)
 (iteB (eqS (T p k v) (T p k v))
 (needB (Bool.and (Nat.ble (Nat.add 0 (Nat.mul (List.length (A [] p k v)) 1)) (List.length (renL Bool.false (shiftN 13) (bc (A [] p k v))))) (Nat.ble 1 1))
 (needB (flatL (takeC (Nat.mul (List.length (A [] p k v)) 1) (dropC 0 (renL Bool.false (shiftN 13) (bc (A [] p k v))))))
 (needB (Bool.and (Nat.ble (Nat.add 0 (Nat.mul (List.length (A (List.map byteOf c) p k v)) 1)) (List.length (renL Bool.false (shiftN 26) (bc (A (List.map byteOf c) p k v))))) (Nat.ble 1 1))
 (needB (flatL (takeC (Nat.mul (List.length (A (List.map byteOf c) p k v)) 1) (dropC 0 (renL Bool.false (shiftN 26) (bc (A (List.map byteOf c) p k v))))))
 (needB (Bool.and (Bool.and (fzB 18446744073709551617 (List.length (A [] p k v)) (takeC (Nat.mul (List.length (A [] p k v)) 1) (dropC 0 (renL Bool.false (shiftN 13) (bc (A [] p k v)))))) (fzB 18446744073709551617 (List.length (A (List.map byteOf c) p k v)) (takeC (Nat.mul (List.length (A (List.map byteOf c) p k v)) 1) (dropC 0 (renL Bool.false (shiftN 26) (bc (A (List.map byteOf c) p k v))))))) (Q (List.map byteOf (takeC (Nat.mul (List.length (A [] p k v)) 1) (dropC 0 (renL Bool.false (shiftN 13) (bc (A [] p k v)))))) (List.map byteOf (takeC (Nat.mul (List.length (A (List.map byteOf c) p k v)) 1) (dropC 0 (renL Bool.false (shiftN 26) (bc (A (List.map byteOf c) p k v))))))))
 (needB (fzB 18446744073709551617 n c)
 (needB (Bool.and (Nat.ble (Nat.add 0 (Nat.mul (HAdd.hAdd n 3) 1)) (List.length (renL Bool.false (shiftN 1) (G c)))) (Nat.ble 1 1))
 (needB (flatL (takeC (Nat.mul (HAdd.hAdd n 3) 1) (dropC 0 (renL Bool.false (shiftN 1) (G c)))))
 (needB (Bool.and (Nat.ble (Nat.add 0 (Nat.mul (HAdd.hAdd n 3) 1)) (List.length (renL Bool.false (shiftN 68) (G c)))) (Nat.ble 1 1))
 (needB (flatL (takeC (Nat.mul (HAdd.hAdd n 3) 1) (dropC 0 (renL Bool.false (shiftN 68) (G c)))))
 (needB (Bool.and (Bool.and (fzB 18446744073709551617 (HAdd.hAdd n 3) (takeC (Nat.mul (HAdd.hAdd n 3) 1) (dropC 0 (renL Bool.false (shiftN 1) (G c))))) (fzB 18446744073709551617 (HAdd.hAdd n 3) (takeC (Nat.mul (HAdd.hAdd n 3) 1) (dropC 0 (renL Bool.false (shiftN 68) (G c)))))) (Q (List.map byteOf (takeC (Nat.mul (HAdd.hAdd n 3) 1) (dropC 0 (renL Bool.false (shiftN 1) (G c))))) (List.map byteOf (takeC (Nat.mul (HAdd.hAdd n 3) 1) (dropC 0 (renL Bool.false (shiftN 68) (G c)))))))
 (needB (Bool.and (Nat.ble (Nat.add 0 (Nat.mul (List.length (A [] p k v)) 1)) (List.length (renL Bool.false (shiftN 13) (bc (A [] p k v))))) (Nat.ble 1 1))
 (needB (flatL (takeC (Nat.mul (List.length (A [] p k v)) 1) (dropC 0 (renL Bool.false (shiftN 13) (bc (A [] p k v))))))
 (needB (K 18446744073709551617 (List.length (A [] p k v)) (takeC (Nat.mul (List.length (A [] p k v)) 1) (dropC 0 (renL Bool.false (shiftN 13) (bc (A [] p k v))))))
 (needB (Bool.and (Nat.ble (Nat.add 0 (Nat.mul (List.length (A [] p k v)) 1)) (List.length (renL Bool.false (shiftN 25) (bc (A [] p k v))))) (Nat.ble 1 1))
 (needB (flatL (takeC (Nat.mul (List.length (A [] p k v)) 1) (dropC 0 (renL Bool.false (shiftN 25) (bc (A [] p k v))))))
 (needB (K 18446744073709551617 (List.length (A [] p k v)) (takeC (Nat.mul (List.length (A [] p k v)) 1) (dropC 0 (renL Bool.false (shiftN 25) (bc (A [] p k v))))))
 (needB (Bool.and (Nat.ble (Nat.add 0 (Nat.mul (HAdd.hAdd n 3) 1)) (List.length (renL Bool.false (shiftN 1) (G c)))) (Nat.ble 1 1))
 (needB (flatL (takeC (Nat.mul (HAdd.hAdd n 3) 1) (dropC 0 (renL Bool.false (shiftN 1) (G c)))))
 (needB (K 18446744073709551617 (HAdd.hAdd n 3) (takeC (Nat.mul (HAdd.hAdd n 3) 1) (dropC 0 (renL Bool.false (shiftN 1) (G c)))))
 (needB (Bool.and (Nat.ble (Nat.add 0 (Nat.mul (List.length (A [] p k v)) 1)) (List.length (renL Bool.false (shiftN 13) (bc (A [] p k v))))) (Nat.ble 1 1))
 (needB (flatL (takeC (Nat.mul (List.length (A [] p k v)) 1) (dropC 0 (renL Bool.false (shiftN 13) (bc (A [] p k v))))))
 (needB (Bool.and (Nat.ble (Nat.add 0 (Nat.mul (List.length (A [] p k v)) 1)) (List.length (renL Bool.false (shiftN 70) (takeC (Nat.mul (List.length (A [] p k v)) 1) (dropC 0 (renL Bool.false (shiftN 13) (bc (A [] p k v)))))))) (Nat.ble 1 1))
 (needB (flatL (takeC (Nat.mul (List.length (A [] p k v)) 1) (dropC 0 (renL Bool.false (shiftN 70) (takeC (Nat.mul (List.length (A [] p k v)) 1) (dropC 0 (renL Bool.false (shiftN 13) (bc (A [] p k v)))))))))
 (needB (Bool.and (Bool.and (fzB 18446744073709551617 (List.length (A [] p k v)) (takeC (Nat.mul (List.length (A [] p k v)) 1) (dropC 0 (renL Bool.false (shiftN 13) (bc (A [] p k v)))))) (fzB 18446744073709551617 (List.length (A [] p k v)) (takeC (Nat.mul (List.length (A [] p k v)) 1) (dropC 0 (renL Bool.false (shiftN 70) (takeC (Nat.mul (List.length (A [] p k v)) 1) (dropC 0 (renL Bool.false (shiftN 13) (bc (A [] p k v)))))))))) (Q (List.map byteOf (takeC (Nat.mul (List.length (A [] p k v)) 1) (dropC 0 (renL Bool.false (shiftN 13) (bc (A [] p k v)))))) (List.map byteOf (takeC (Nat.mul (List.length (A [] p k v)) 1) (dropC 0 (renL Bool.false (shiftN 70) (takeC (Nat.mul (List.length (A [] p k v)) 1) (dropC 0 (renL Bool.false (shiftN 13) (bc (A [] p k v)))))))))))
 (needB (C (Addr.mk 0 0 (Addr.spot (Addr.mk 13 0 (Addr.spot (Addr.mk 0 0 none))))) (List.length (A [] p k v)) 18446744073709551616 (renL Bool.true (rhoO 0 [13]) (renL Bool.false (shiftN 13) (bc (A [] p k v)))) 5)
 (needB (Bool.and (Nat.ble (Nat.add 0 (Nat.mul (List.length (A [] p k v)) 1)) (List.length (renL Bool.false (shiftN 25) (bc (A [] p k v))))) (Nat.ble 1 1))
 (needB (flatL (takeC (Nat.mul (List.length (A [] p k v)) 1) (dropC 0 (renL Bool.false (shiftN 25) (bc (A [] p k v))))))
 (needB (Bool.and (Nat.ble (Nat.add 0 (Nat.mul (List.length (A [] p k v)) 1)) (List.length (renL Bool.false (shiftN 71) (takeC (Nat.mul (List.length (A [] p k v)) 1) (dropC 0 (renL Bool.false (shiftN 25) (bc (A [] p k v)))))))) (Nat.ble 1 1))
 (needB (flatL (takeC (Nat.mul (List.length (A [] p k v)) 1) (dropC 0 (renL Bool.false (shiftN 71) (takeC (Nat.mul (List.length (A [] p k v)) 1) (dropC 0 (renL Bool.false (shiftN 25) (bc (A [] p k v)))))))))
 (needB (Bool.and (Bool.and (fzB 18446744073709551617 (List.length (A [] p k v)) (takeC (Nat.mul (List.length (A [] p k v)) 1) (dropC 0 (renL Bool.false (shiftN 25) (bc (A [] p k v)))))) (fzB 18446744073709551617 (List.length (A [] p k v)) (takeC (Nat.mul (List.length (A [] p k v)) 1) (dropC 0 (renL Bool.false (shiftN 71) (takeC (Nat.mul (List.length (A [] p k v)) 1) (dropC 0 (renL Bool.false (shiftN 25) (bc (A [] p k v)))))))))) (Q (List.map byteOf (takeC (Nat.mul (List.length (A [] p k v)) 1) (dropC 0 (renL Bool.false (shiftN 25) (bc (A [] p k v)))))) (List.map byteOf (takeC (Nat.mul (List.length (A [] p k v)) 1) (dropC 0 (renL Bool.false (shiftN 71) (takeC (Nat.mul (List.length (A [] p k v)) 1) (dropC 0 (renL Bool.false (shiftN 25) (bc (A [] p k v)))))))))))
 (needB (C (Addr.mk 0 0 (Addr.spot (Addr.mk 25 0 (Addr.spot (Addr.mk 0 0 none))))) (List.length (A [] p k v)) 18446744073709551616 (renL Bool.true (rhoO 0 [25]) (renL Bool.false (shiftN 25) (bc (A [] p k v)))) 5)
 (needB (Bool.and (Nat.ble (Nat.add 0 (Nat.mul (HAdd.hAdd n 3) 1)) (List.length (renL Bool.false (shiftN 1) (G c)))) (Nat.ble 1 1))
 (needB (flatL (takeC (Nat.mul (HAdd.hAdd n 3) 1) (dropC 0 (renL Bool.false (shiftN 1) (G c)))))
 (needB (Bool.and (Nat.ble (Nat.add 0 (Nat.mul (HAdd.hAdd n 3) 1)) (List.length (renL Bool.false (shiftN 72) (takeC (Nat.mul (HAdd.hAdd n 3) 1) (dropC 0 (renL Bool.false (shiftN 1) (G c))))))) (Nat.ble 1 1))
 (needB (flatL (takeC (Nat.mul (HAdd.hAdd n 3) 1) (dropC 0 (renL Bool.false (shiftN 72) (takeC (Nat.mul (HAdd.hAdd n 3) 1) (dropC 0 (renL Bool.false (shiftN 1) (G c))))))))
 (needB (Bool.and (Bool.and (fzB 18446744073709551617 (HAdd.hAdd n 3) (takeC (Nat.mul (HAdd.hAdd n 3) 1) (dropC 0 (renL Bool.false (shiftN 1) (G c))))) (fzB 18446744073709551617 (HAdd.hAdd n 3) (takeC (Nat.mul (HAdd.hAdd n 3) 1) (dropC 0 (renL Bool.false (shiftN 72) (takeC (Nat.mul (HAdd.hAdd n 3) 1) (dropC 0 (renL Bool.false (shiftN 1) (G c))))))))) (Q (List.map byteOf (takeC (Nat.mul (HAdd.hAdd n 3) 1) (dropC 0 (renL Bool.false (shiftN 1) (G c))))) (List.map byteOf (takeC (Nat.mul (HAdd.hAdd n 3) 1) (dropC 0 (renL Bool.false (shiftN 72) (takeC (Nat.mul (HAdd.hAdd n 3) 1) (dropC 0 (renL Bool.false (shiftN 1) (G c))))))))))
 (needB (C (Addr.mk 0 0 (Addr.spot (Addr.mk 1 0 (Addr.spot (Addr.mk 0 0 none))))) (HAdd.hAdd n 3) 18446744073709551616 (renL Bool.true (rhoO 0 [1]) (renL Bool.false (shiftN 1) (G c))) 5)
 (needB (L1 [(Value.slice (Option.some (Addr.mk 0 0 none)) 3 3), (Value.slice (Option.some (Addr.mk 4 0 none)) 3 3), (Value.int IntKind.i64 (0 : Int)), (Value.int IntKind.i64 (0 : Int))] [(Blk.cells [(Value.slice (Option.some (Addr.mk 1 0 none)) (List.length (A [] p k v)) 18446744073709551616), (Value.slice (Option.some (Addr.mk 2 0 none)) (List.length (A [] p k v)) 18446744073709551616), (Value.slice (Option.some (Addr.mk 3 0 none)) (HAdd.hAdd n 3) 18446744073709551616)] 37 Bool.true), (Blk.cells (renL Bool.true (rhoO 0 [64, 13, 25, 1, 69, 70, 71, 72]) (renL Bool.true (backN [13] 83) (bc (M (List.map byteOf (renL Bool.true (rhoO 0 [13]) (renL Bool.false (shiftN 13) (bc (A [] p k v))))))))) 5 Bool.false), (Blk.cells (renL Bool.true (rhoO 0 [64, 13, 25, 1, 69, 70, 71, 72]) (renL Bool.true (backN [25] 93) (bc (M (List.map byteOf (renL Bool.true (rhoO 0 [25]) (renL Bool.false (shiftN 25) (bc (A [] p k v))))))))) 5 Bool.false), (Blk.cells (renL Bool.true (rhoO 0 [64, 13, 25, 1, 69, 70, 71, 72]) (renL Bool.true (backN [1] 103) (bc (M (List.map byteOf (renL Bool.true (rhoO 0 [1]) (renL Bool.false (shiftN 1) (G c)))))))) 5 Bool.false), (Blk.cells [(Value.slice (Option.some (Addr.mk 5 0 none)) (List.length (A [] p k v)) 18446744073709551616), (Value.slice (Option.some (Addr.mk 6 0 none)) (List.length (A [] p k v)) 18446744073709551616), (Value.slice (Option.some (Addr.mk 7 0 none)) (HAdd.hAdd n 3) 18446744073709551616)] 37 Bool.true), (Blk.cells (renL Bool.true (rhoO 0 [64, 13, 25, 1, 69, 70, 71, 72]) (renL Bool.false (shiftN 70) (takeC (Nat.mul (List.length (A [] p k v)) 1) (dropC 0 (renL Bool.false (shiftN 13) (bc (A [] p k v))))))) 5 Bool.false), (Blk.cells (renL Bool.true (rhoO 0 [64, 13, 25, 1, 69, 70, 71, 72]) (renL Bool.false (shiftN 71) (takeC (Nat.mul (List.length (A [] p k v)) 1) (dropC 0 (renL Bool.false (shiftN 25) (bc (A [] p k v))))))) 5 Bool.false), (Blk.cells (renL Bool.true (rhoO 0 [64, 13, 25, 1, 69, 70, 71, 72]) (renL Bool.false (shiftN 72) (takeC (Nat.mul (HAdd.hAdd n 3) 1) (dropC 0 (renL Bool.false (shiftN 1) (G c)))))) 5 Bool.false)])
 (needB (L1 [(Value.slice (Option.some (Addr.mk 0 0 none)) 3 3), (Value.slice (Option.some (Addr.mk 4 0 none)) 3 3), (Value.int IntKind.i64 (1 : Int)), (Value.int IntKind.i64 (0 : Int))] [(Blk.cells [(Value.slice (Option.some (Addr.mk 1 0 none)) (List.length (A [] p k v)) 18446744073709551616), (Value.slice (Option.some (Addr.mk 2 0 none)) (List.length (A [] p k v)) 18446744073709551616), (Value.slice (Option.some (Addr.mk 3 0 none)) (HAdd.hAdd n 3) 18446744073709551616)] 37 Bool.true), (Blk.cells (renL Bool.true (rhoO 0 [64, 13, 25, 1, 69, 70, 71, 72]) (renL Bool.true (backN [64, 13, 25, 1, 69, 70, 71, 72] 103) (renL Bool.true (rhoO 0 [64, 13, 25, 1, 69, 70, 71, 72]) (renL Bool.true (backN [13] 83) (bc (M (List.map byteOf (renL Bool.true (rhoO 0 [13]) (renL Bool.false (shiftN 13) (bc (A [] p k v))))))))))) 5 Bool.false), (Blk.cells (renL Bool.true (rhoO 0 [64, 13, 25, 1, 69, 70, 71, 72]) (renL Bool.true (backN [64, 13, 25, 1, 69, 70, 71, 72] 103) (renL Bool.true (rhoO 0 [64, 13, 25, 1, 69, 70, 71, 72]) (renL Bool.true (backN [25] 93) (bc (M (List.map byteOf (renL Bool.true (rhoO 0 [25]) (renL Bool.false (shiftN 25) (bc (A [] p k v))))))))))) 5 Bool.false), (Blk.cells (renL Bool.true (rhoO 0 [64, 13, 25, 1, 69, 70, 71, 72]) (renL Bool.true (backN [64, 13, 25, 1, 69, 70, 71, 72] 103) (renL Bool.true (rhoO 0 [64, 13, 25, 1, 69, 70, 71, 72]) (renL Bool.true (backN [1] 103) (bc (M (List.map byteOf (renL Bool.true (rhoO 0 [1]) (renL Bool.false (shiftN 1) (G c)))))))))) 5 Bool.false), (Blk.cells [(Value.slice (Option.some (Addr.mk 5 0 none)) (List.length (A [] p k v)) 18446744073709551616), (Value.slice (Option.some (Addr.mk 6 0 none)) (List.length (A [] p k v)) 18446744073709551616), (Value.slice (Option.some (Addr.mk 7 0 none)) (HAdd.hAdd n 3) 18446744073709551616)] 37 Bool.true), (Blk.cells (renL Bool.true (rhoO 0 [64, 13, 25, 1, 69, 70, 71, 72]) (renL Bool.true (backN [64, 13, 25, 1, 69, 70, 71, 72] 103) (renL Bool.true (rhoO 0 [64, 13, 25, 1, 69, 70, 71, 72]) (renL Bool.false (shiftN 70) (takeC (Nat.mul (List.length (A [] p k v)) 1) (dropC 0 (renL Bool.false (shiftN 13) (bc (A [] p k v))))))))) 5 Bool.false), (Blk.cells (renL Bool.true (rhoO 0 [64, 13, 25, 1, 69, 70, 71, 72]) (renL Bool.true (backN [64, 13, 25, 1, 69, 70, 71, 72] 103) (renL Bool.true (rhoO 0 [64, 13, 25, 1, 69, 70, 71, 72]) (renL Bool.false (shiftN 71) (takeC (Nat.mul (List.length (A [] p k v)) 1) (dropC 0 (renL Bool.false (shiftN 25) (bc (A [] p k v))))))))) 5 Bool.false), (Blk.cells (renL Bool.true (rhoO 0 [64, 13, 25, 1, 69, 70, 71, 72]) (renL Bool.true (backN [64, 13, 25, 1, 69, 70, 71, 72] 103) (renL Bool.true (rhoO 0 [64, 13, 25, 1, 69, 70, 71, 72]) (renL Bool.false (shiftN 72) (takeC (Nat.mul (HAdd.hAdd n 3) 1) (dropC 0 (renL Bool.false (shiftN 1) (G c)))))))) 5 Bool.false)])
 (needB (L1 [(Value.slice (Option.some (Addr.mk 0 0 none)) 3 3), (Value.slice (Option.some (Addr.mk 4 0 none)) 3 3), (Value.int IntKind.i64 (2 : Int)), (Value.int IntKind.i64 (0 : Int))] [(Blk.cells [(Value.slice (Option.some (Addr.mk 1 0 none)) (List.length (A [] p k v)) 18446744073709551616), (Value.slice (Option.some (Addr.mk 2 0 none)) (List.length (A [] p k v)) 18446744073709551616), (Value.slice (Option.some (Addr.mk 3 0 none)) (HAdd.hAdd n 3) 18446744073709551616)] 37 Bool.true), (Blk.cells (renL Bool.true (rhoO 0 [64, 13, 25, 1, 69, 70, 71, 72]) (renL Bool.true (backN [64, 13, 25, 1, 69, 70, 71, 72] 103) (renL Bool.true (rhoO 0 [64, 13, 25, 1, 69, 70, 71, 72]) (renL Bool.true (backN [64, 13, 25, 1, 69, 70, 71, 72] 103) (renL Bool.true (rhoO 0 [64, 13, 25, 1, 69, 70, 71, 72]) (renL Bool.true (backN [13] 83) (bc (M (List.map byteOf (renL Bool.true (rhoO 0 [13]) (renL Bool.false (shiftN 13) (bc (A [] p k v))))))))))))) 5 Bool.false), (Blk.cells (renL Bool.true (rhoO 0 [64, 13, 25, 1, 69, 70, 71, 72]) (renL Bool.true (backN [64, 13, 25, 1, 69, 70, 71, 72] 103) (renL Bool.true (rhoO 0 [64, 13, 25, 1, 69, 70, 71, 72]) (renL Bool.true (backN [64, 13, 25, 1, 69, 70, 71, 72] 103) (renL Bool.true (rhoO 0 [64, 13, 25, 1, 69, 70, 71, 72]) (renL Bool.true (backN [25] 93) (bc (M (List.map byteOf (renL Bool.true (rhoO 0 [25]) (renL Bool.false (shiftN 25) (bc (A [] p k v))))))))))))) 5 Bool.false), (Blk.cells (renL Bool.true (rhoO 0 [64, 13, 25, 1, 69, 70, 71, 72]) (renL Bool.true (backN [64, 13, 25, 1, 69, 70, 71, 72] 103) (renL Bool.true (rhoO 0 [64, 13, 25, 1, 69, 70, 71, 72]) (renL Bool.true (backN [64, 13, 25, 1, 69, 70, 71, 72] 103) (renL Bool.true (rhoO 0 [64, 13, 25, 1, 69, 70, 71, 72]) (renL Bool.true (backN [1] 103) (bc (M (List.map byteOf (renL Bool.true (rhoO 0 [1]) (renL Bool.false (shiftN 1) (G c)))))))))))) 5 Bool.false), (Blk.cells [(Value.slice (Option.some (Addr.mk 5 0 none)) (List.length (A [] p k v)) 18446744073709551616), (Value.slice (Option.some (Addr.mk 6 0 none)) (List.length (A [] p k v)) 18446744073709551616), (Value.slice (Option.some (Addr.mk 7 0 none)) (HAdd.hAdd n 3) 18446744073709551616)] 37 Bool.true), (Blk.cells (renL Bool.true (rhoO 0 [64, 13, 25, 1, 69, 70, 71, 72]) (renL Bool.true (backN [64, 13, 25, 1, 69, 70, 71, 72] 103) (renL Bool.true (rhoO 0 [64, 13, 25, 1, 69, 70, 71, 72]) (renL Bool.true (backN [64, 13, 25, 1, 69, 70, 71, 72] 103) (renL Bool.true (rhoO 0 [64, 13, 25, 1, 69, 70, 71, 72]) (renL Bool.false (shiftN 70) (takeC (Nat.mul (List.length (A [] p k v)) 1) (dropC 0 (renL Bool.false (shiftN 13) (bc (A [] p k v))))))))))) 5 Bool.false), (Blk.cells (renL Bool.true (rhoO 0 [64, 13, 25, 1, 69, 70, 71, 72]) (renL Bool.true (backN [64, 13, 25, 1, 69, 70, 71, 72] 103) (renL Bool.true (rhoO 0 [64, 13, 25, 1, 69, 70, 71, 72]) (renL Bool.true (backN [64, 13, 25, 1, 69, 70, 71, 72] 103) (renL Bool.true (rhoO 0 [64, 13, 25, 1, 69, 70, 71, 72]) (renL Bool.false (shiftN 71) (takeC (Nat.mul (List.length (A [] p k v)) 1) (dropC 0 (renL Bool.false (shiftN 25) (bc (A [] p k v))))))))))) 5 Bool.false), (Blk.cells (renL Bool.true (rhoO 0 [64, 13, 25, 1, 69, 70, 71, 72]) (renL Bool.true (backN [64, 13, 25, 1, 69, 70, 71, 72] 103) (renL Bool.true (rhoO 0 [64, 13, 25, 1, 69, 70, 71, 72]) (renL Bool.true (backN [64, 13, 25, 1, 69, 70, 71, 72] 103) (renL Bool.true (rhoO 0 [64, 13, 25, 1, 69, 70, 71, 72]) (renL Bool.false (shiftN 72) (takeC (Nat.mul (HAdd.hAdd n 3) 1) (dropC 0 (renL Bool.false (shiftN 1) (G c)))))))))) 5 Bool.false)])
 (needB (beqV (Value.agg (Array.mk [(Value.bool p), (Value.string k), (Value.string v)])) (Value.agg (Array.mk [(Value.bool p), (Value.string k), (Value.string v)])))
 (some ((Value.bool Bool.true), (mkSt [])))))))))))))))))))))))))))))))))))))))))))))
 (needB (beqV (Value.agg (Array.mk [(Value.bool p), (Value.string k), (Value.string v)])) (Value.agg (Array.mk [(Value.bool p), (Value.string k), (Value.string v)])))
 (some ((Value.bool Bool.false), (mkSt []))))))))))))))))) := by kernel_rfl
theorem dec_opCallsF (O : Bool → ByteArray → ByteArray → Bool) (A : List UInt8 → Bool → ByteArray → ByteArray → List UInt8) (T : Bool → ByteArray → ByteArray → ByteArray) (Q : List UInt8 → List UInt8 → Bool) (G : List Value → List Value) (K : Nat → Nat → List Value → Bool) (C : Addr → Nat → Nat → List Value → TypeId → Bool) (M : List UInt8 → List UInt8) (L1 L2 : List Value → List Blk → Bool) (Z : List Value → List Blk → Int) (n b : Nat) (c : List Value) (p : Bool) (k v : ByteArray) : callQ P E (ctCv false O A T Q G K C M L1 L2 Z) 200 8 [mkFz 1 n b c, .agg ⟨[.bool p, .string k, .string v]⟩] =
 (needB (fzB 18446744073709551617 n c)
 (needB (cutI (0 : Int) (lenI n) (Nat.div (Nat.sub (List.length (renL Bool.false (shiftN 1) (G c))) 0) 1))
 (iteB (Nat.ble 1 (Nat.div (Nat.sub (List.length (renL Bool.false (shiftN 1) (G c))) 0) 1))
 (needB (Bool.and (Nat.ble (Nat.add 0 (Nat.mul (lapN (0 : Int) (lenI n)) 1)) (List.length (renL Bool.false (shiftN 1) (G c)))) (Nat.ble 1 1))
 (needB (flatL (takeC (Nat.mul (lapN (0 : Int) (lenI n)) 1) (dropC 0 (renL Bool.false (shiftN 1) (G c)))))
 (needB (Bool.and (fzW 18446744073709551617 (lapN (0 : Int) (lenI n)) (takeC (Nat.mul (lapN (0 : Int) (lenI n)) 1) (dropC 0 (renL Bool.false (shiftN 1) (G c))))) (O p k v))
 (needB (cutI (0 : Int) (lenI n) (Nat.div (Nat.sub (List.length (renL Bool.false (shiftN 1) (G c))) 0) 1))
 (iteB (Nat.ble 1 (Nat.div (Nat.sub (List.length (renL Bool.false (shiftN 1) (G c))) 0) 1))
 (needB (Bool.and (Nat.ble (Nat.add 0 (Nat.mul (lapN (0 : Int) (lenI n)) 1)) (List.length (renL Bool.false (shiftN 1) (G c)))) (Nat.ble 1 1))
 (needB (flatL (takeC (Nat.mul (lapN (0 : Int) (lenI n)) 1) (dropC 0 (renL Bool.false (shiftN 1) (G c)))))
 (needB (Bool.and (fzW 18446744073709551617 (lapN (0 : Int) (lenI n)) (takeC (Nat.mul (lapN (0 : Int) (lenI n)) 1) (dropC 0 (renL Bool.false (shiftN 1) (G c))))) (O p k v))
 (needB (Bool.and (fzW 18446744073709551617 n c) (O p k v))
 (needB (O p k v)
 (needB (O p k v)
 (needB (O p k v)
 (needB (O p k v)
 (needB (fzB 18446744073709551617 n c)
 (needB (Bool.and (Nat.ble (Nat.add 0 (Nat.mul (HAdd.hAdd n 3) 1)) (List.length (renL Bool.false (shiftN 1) (G c)))) (Nat.ble 1 1))
 (needB (flatL (takeC (Nat.mul (HAdd.hAdd n 3) 1) (dropC 0 (renL Bool.false (shiftN 1) (G c)))))
 (needB (Bool.and (Nat.ble (Nat.add 0 (Nat.mul (HAdd.hAdd n 3) 1)) (List.length (renL Bool.false (shiftN 65) (G c)))) (Nat.ble 1 1))
 (needB (flatL (takeC (Nat.mul (HAdd.hAdd n 3) 1) (dropC 0 (renL Bool.false (shiftN 65) (G c)))))
 (needB (Bool.and (Bool.and (fzB 18446744073709551617 (HAdd.hAdd n 3) (takeC (Nat.mul (HAdd.hAdd n 3) 1) (dropC 0 (renL Bool.false (shiftN 1) (G c))))) (fzB 18446744073709551617 (HAdd.hAdd n 3) (takeC (Nat.mul (HAdd.hAdd n 3) 1) (dropC 0 (renL Bool.false (shiftN 65) (G c)))))) (Q (List.map byteOf (takeC (Nat.mul (HAdd.hAdd n 3) 1) (dropC 0 (renL Bool.false (shiftN 1) (G c))))) (List.map byteOf (takeC (Nat.mul (HAdd.hAdd n 3) 1) (dropC 0 (renL Bool.false (shiftN 65) (G c)))))))
 (needB (Bool.and (Nat.ble (Nat.add 0 (Nat.mul (HAdd.hAdd n 3) 1)) (List.length (renL Bool.false (shiftN 1) (G c)))) (Nat.ble 1 1))
 (needB (flatL (takeC (Nat.mul (HAdd.hAdd n 3) 1) (dropC 0 (renL Bool.false (shiftN 1) (G c)))))
 (needB (K 18446744073709551617 (HAdd.hAdd n 3) (takeC (Nat.mul (HAdd.hAdd n 3) 1) (dropC 0 (renL Bool.false (shiftN 1) (G c)))))
 (needB (Bool.and (Nat.ble (Nat.add 0 (Nat.mul (HAdd.hAdd n 3) 1)) (List.length (renL Bool.false (shiftN 1) (G c)))) (Nat.ble 1 1))
 (needB (flatL (takeC (Nat.mul (HAdd.hAdd n 3) 1) (dropC 0 (renL Bool.false (shiftN 1) (G c)))))
 (needB (Bool.and (Nat.ble (Nat.add 0 (Nat.mul (HAdd.hAdd n 3) 1)) (List.length (renL Bool.false (shiftN 69) (takeC (Nat.mul (HAdd.hAdd n 3) 1) (dropC 0 (renL Bool.false (shiftN 1) (G c))))))) (Nat.ble 1 1))
 (needB (flatL (takeC (Nat.mul (HAdd.hAdd n 3) 1) (dropC 0 (renL Bool.false (shiftN 69) (takeC (Nat.mul (HAdd.hAdd n 3) 1) (dropC 0 (renL Bool.false (shiftN 1) (G c))))))))
 (needB (Bool.and (Bool.and (fzB 18446744073709551617 (HAdd.hAdd n 3) (takeC (Nat.mul (HAdd.hAdd n 3) 1) (dropC 0 (renL Bool.false (shiftN 1) (G c))))) (fzB 18446744073709551617 (HAdd.hAdd n 3) (takeC (Nat.mul (HAdd.hAdd n 3) 1) (dropC 0 (renL Bool.false (shiftN 69) (takeC (Nat.mul (HAdd.hAdd n 3) 1) (dropC 0 (renL Bool.false (shiftN 1) (G c))))))))) (Q (List.map byteOf (takeC (Nat.mul (HAdd.hAdd n 3) 1) (dropC 0 (renL Bool.false (shiftN 1) (G c))))) (List.map byteOf (takeC (Nat.mul (HAdd.hAdd n 3) 1) (dropC 0 (renL Bool.false (shiftN 69) (takeC (Nat.mul (HAdd.hAdd n 3) 1) (dropC 0 (renL Bool.false (shiftN 1) (G c))))))))))
 (needB (C (Addr.mk 0 0 (Addr.spot (Addr.mk 1 0 (Addr.spot (Addr.mk 0 0 none))))) (HAdd.hAdd n 3) 18446744073709551616 (renL Bool.true (rhoO 0 [1]) (renL Bool.false (shiftN 1) (G c))) 5)
 (needB (L2 [(Value.slice (Option.some (Addr.mk 0 0 none)) 3 3), (Value.slice (Option.some (Addr.mk 2 0 none)) 3 3), (Value.int IntKind.i64 (2 : Int)), (Value.int IntKind.i64 (0 : Int))] [(Blk.cells [(Value.slice none 0 0), (Value.slice none 0 0), (Value.slice (Option.some (Addr.mk 1 0 none)) (HAdd.hAdd n 3) 18446744073709551616)] 37 Bool.true), (Blk.cells (renL Bool.true (rhoO 0 [61, 1, 66, 67, 68, 69]) (renL Bool.true (backN [1] 100) (bc (M (List.map byteOf (renL Bool.true (rhoO 0 [1]) (renL Bool.false (shiftN 1) (G c)))))))) 5 Bool.false), (Blk.cells [(Value.slice (Option.some (Addr.mk 3 0 none)) 0 0), (Value.slice (Option.some (Addr.mk 4 0 none)) 0 0), (Value.slice (Option.some (Addr.mk 5 0 none)) (HAdd.hAdd n 3) 18446744073709551616)] 37 Bool.true), (Blk.cells [] 5 Bool.true), (Blk.cells [] 5 Bool.true), (Blk.cells (renL Bool.true (rhoO 0 [61, 1, 66, 67, 68, 69]) (renL Bool.false (shiftN 69) (takeC (Nat.mul (HAdd.hAdd n 3) 1) (dropC 0 (renL Bool.false (shiftN 1) (G c)))))) 5 Bool.false)])
 (needB (beqV (Value.agg (Array.mk [(Value.bool p), (Value.string k), (Value.string v)])) (Value.agg (Array.mk [(Value.bool p), (Value.string k), (Value.string v)])))
 (some ((Value.bool Bool.true), (mkSt []))))))))))))))))))))))))))))
 (needB (Bool.and (fzW 18446744073709551617 0 []) (O p k v))
 (needB (Bool.and (fzW 18446744073709551617 n c) (O p k v))
 (needB (O p k v)
 (needB (O p k v)
 (needB (O p k v)
 (needB (O p k v)
 (needB (fzB 18446744073709551617 n c)
 (needB (Bool.and (Nat.ble (Nat.add 0 (Nat.mul (HAdd.hAdd n 3) 1)) (List.length (renL Bool.false (shiftN 1) (G c)))) (Nat.ble 1 1))
 (needB (flatL (takeC (Nat.mul (HAdd.hAdd n 3) 1) (dropC 0 (renL Bool.false (shiftN 1) (G c)))))
 (needB (Bool.and (Nat.ble (Nat.add 0 (Nat.mul (HAdd.hAdd n 3) 1)) (List.length (renL Bool.false (shiftN 65) (G c)))) (Nat.ble 1 1))
 (needB (flatL (takeC (Nat.mul (HAdd.hAdd n 3) 1) (dropC 0 (renL Bool.false (shiftN 65) (G c)))))
 (needB (Bool.and (Bool.and (fzB 18446744073709551617 (HAdd.hAdd n 3) (takeC (Nat.mul (HAdd.hAdd n 3) 1) (dropC 0 (renL Bool.false (shiftN 1) (G c))))) (fzB 18446744073709551617 (HAdd.hAdd n 3) (takeC (Nat.mul (HAdd.hAdd n 3) 1) (dropC 0 (renL Bool.false (shiftN 65) (G c)))))) (Q (List.map byteOf (takeC (Nat.mul (HAdd.hAdd n 3) 1) (dropC 0 (renL Bool.false (shiftN 1) (G c))))) (List.map byteOf (takeC (Nat.mul (HAdd.hAdd n 3) 1) (dropC 0 (renL Bool.false (shiftN 65) (G c)))))))
 (needB (Bool.and (Nat.ble (Nat.add 0 (Nat.mul (HAdd.hAdd n 3) 1)) (List.length (renL Bool.false (shiftN 1) (G c)))) (Nat.ble 1 1))
 (needB (flatL (takeC (Nat.mul (HAdd.hAdd n 3) 1) (dropC 0 (renL Bool.false (shiftN 1) (G c)))))
 (needB (K 18446744073709551617 (HAdd.hAdd n 3) (takeC (Nat.mul (HAdd.hAdd n 3) 1) (dropC 0 (renL Bool.false (shiftN 1) (G c)))))
 (needB (Bool.and (Nat.ble (Nat.add 0 (Nat.mul (HAdd.hAdd n 3) 1)) (List.length (renL Bool.false (shiftN 1) (G c)))) (Nat.ble 1 1))
 (needB (flatL (takeC (Nat.mul (HAdd.hAdd n 3) 1) (dropC 0 (renL Bool.false (shiftN 1) (G c)))))
 (needB (Bool.and (Nat.ble (Nat.add 0 (Nat.mul (HAdd.hAdd n 3) 1)) (List.length (renL Bool.false (shiftN 69) (takeC (Nat.mul (HAdd.hAdd n 3) 1) (dropC 0 (renL Bool.false (shiftN 1) (G c))))))) (Nat.ble 1 1))
 (needB (flatL (takeC (Nat.mul (HAdd.hAdd n 3) 1) (dropC 0 (renL Bool.false (shiftN 69) (takeC (Nat.mul (HAdd.hAdd n 3) 1) (dropC 0 (renL Bool.false (shiftN 1) (G c))))))))
 (needB (Bool.and (Bool.and (fzB 18446744073709551617 (HAdd.hAdd n 3) (takeC (Nat.mul (HAdd.hAdd n 3) 1) (dropC 0 (renL Bool.false (shiftN 1) (G c))))) (fzB 18446744073709551617 (HAdd.hAdd n 3) (takeC (Nat.mul (HAdd.hAdd n 3) 1) (dropC 0 (renL Bool.false (shiftN 69) (takeC (Nat.mul (HAdd.hAdd n 3) 1) (dropC 0 (renL Bool.false (shiftN 1) (G c))))))))) (Q (List.map byteOf (takeC (Nat.mul (HAdd.hAdd n 3) 1) (dropC 0 (renL Bool.false (shiftN 1) (G c))))) (List.map byteOf (takeC (Nat.mul (HAdd.hAdd n 3) 1) (dropC 0 (renL Bool.false (shiftN 69) (takeC (Nat.mul (HAdd.hAdd n 3) 1) (dropC 0 (renL Bool.false (shiftN 1) (G c))))))))))
 (needB (C (Addr.mk 0 0 (Addr.spot (Addr.mk 1 0 (Addr.spot (Addr.mk 0 0 none))))) (HAdd.hAdd n 3) 18446744073709551616 (renL Bool.true (rhoO 0 [1]) (renL Bool.false (shiftN 1) (G c))) 5)
 (needB (L2 [(Value.slice (Option.some (Addr.mk 0 0 none)) 3 3), (Value.slice (Option.some (Addr.mk 2 0 none)) 3 3), (Value.int IntKind.i64 (2 : Int)), (Value.int IntKind.i64 (0 : Int))] [(Blk.cells [(Value.slice none 0 0), (Value.slice none 0 0), (Value.slice (Option.some (Addr.mk 1 0 none)) (HAdd.hAdd n 3) 18446744073709551616)] 37 Bool.true), (Blk.cells (renL Bool.true (rhoO 0 [61, 1, 66, 67, 68, 69]) (renL Bool.true (backN [1] 100) (bc (M (List.map byteOf (renL Bool.true (rhoO 0 [1]) (renL Bool.false (shiftN 1) (G c)))))))) 5 Bool.false), (Blk.cells [(Value.slice (Option.some (Addr.mk 3 0 none)) 0 0), (Value.slice (Option.some (Addr.mk 4 0 none)) 0 0), (Value.slice (Option.some (Addr.mk 5 0 none)) (HAdd.hAdd n 3) 18446744073709551616)] 37 Bool.true), (Blk.cells [] 5 Bool.true), (Blk.cells [] 5 Bool.true), (Blk.cells (renL Bool.true (rhoO 0 [61, 1, 66, 67, 68, 69]) (renL Bool.false (shiftN 69) (takeC (Nat.mul (HAdd.hAdd n 3) 1) (dropC 0 (renL Bool.false (shiftN 1) (G c)))))) 5 Bool.false)])
 (needB (beqV (Value.agg (Array.mk [(Value.bool p), (Value.string k), (Value.string v)])) (Value.agg (Array.mk [(Value.bool p), (Value.string k), (Value.string v)])))
 (some ((Value.bool Bool.true), (mkSt [])))))))))))))))))))))))))))))))
 (needB (Bool.and (fzW 18446744073709551617 0 []) (O p k v))
 (needB (cutI (0 : Int) (lenI n) (Nat.div (Nat.sub (List.length (renL Bool.false (shiftN 1) (G c))) 0) 1))
 (iteB (Nat.ble 1 (Nat.div (Nat.sub (List.length (renL Bool.false (shiftN 1) (G c))) 0) 1))
 (needB (Bool.and (Nat.ble (Nat.add 0 (Nat.mul (lapN (0 : Int) (lenI n)) 1)) (List.length (renL Bool.false (shiftN 1) (G c)))) (Nat.ble 1 1))
 (needB (flatL (takeC (Nat.mul (lapN (0 : Int) (lenI n)) 1) (dropC 0 (renL Bool.false (shiftN 1) (G c)))))
 (needB (Bool.and (fzW 18446744073709551617 (lapN (0 : Int) (lenI n)) (takeC (Nat.mul (lapN (0 : Int) (lenI n)) 1) (dropC 0 (renL Bool.false (shiftN 1) (G c))))) (O p k v))
 (needB (Bool.and (fzW 18446744073709551617 n c) (O p k v))
 (needB (O p k v)
 (needB (O p k v)
 (needB (O p k v)
 (needB (O p k v)
 (needB (fzB 18446744073709551617 n c)
 (needB (Bool.and (Nat.ble (Nat.add 0 (Nat.mul (HAdd.hAdd n 3) 1)) (List.length (renL Bool.false (shiftN 1) (G c)))) (Nat.ble 1 1))
 (needB (flatL (takeC (Nat.mul (HAdd.hAdd n 3) 1) (dropC 0 (renL Bool.false (shiftN 1) (G c)))))
 (needB (Bool.and (Nat.ble (Nat.add 0 (Nat.mul (HAdd.hAdd n 3) 1)) (List.length (renL Bool.false (shiftN 65) (G c)))) (Nat.ble 1 1))
 (needB (flatL (takeC (Nat.mul (HAdd.hAdd n 3) 1) (dropC 0 (renL Bool.false (shiftN 65) (G c)))))
 (needB (Bool.and (Bool.and (fzB 18446744073709551617 (HAdd.hAdd n 3) (takeC (Nat.mul (HAdd.hAdd n 3) 1) (dropC 0 (renL Bool.false (shiftN 1) (G c))))) (fzB 18446744073709551617 (HAdd.hAdd n 3) (takeC (Nat.mul (HAdd.hAdd n 3) 1) (dropC 0 (renL Bool.false (shiftN 65) (G c)))))) (Q (List.map byteOf (takeC (Nat.mul (HAdd.hAdd n 3) 1) (dropC 0 (renL Bool.false (shiftN 1) (G c))))) (List.map byteOf (takeC (Nat.mul (HAdd.hAdd n 3) 1) (dropC 0 (renL Bool.false (shiftN 65) (G c)))))))
 (needB (Bool.and (Nat.ble (Nat.add 0 (Nat.mul (HAdd.hAdd n 3) 1)) (List.length (renL Bool.false (shiftN 1) (G c)))) (Nat.ble 1 1))
 (needB (flatL (takeC (Nat.mul (HAdd.hAdd n 3) 1) (dropC 0 (renL Bool.false (shiftN 1) (G c)))))
 (needB (K 18446744073709551617 (HAdd.hAdd n 3) (takeC (Nat.mul (HAdd.hAdd n 3) 1) (dropC 0 (renL Bool.false (shiftN 1) (G c)))))
 (needB (Bool.and (Nat.ble (Nat.add 0 (Nat.mul (HAdd.hAdd n 3) 1)) (List.length (renL Bool.false (shiftN 1) (G c)))) (Nat.ble 1 1))
 (needB (flatL (takeC (Nat.mul (HAdd.hAdd n 3) 1) (dropC 0 (renL Bool.false (shiftN 1) (G c)))))
 (needB (Bool.and (Nat.ble (Nat.add 0 (Nat.mul (HAdd.hAdd n 3) 1)) (List.length (renL Bool.false (shiftN 69) (takeC (Nat.mul (HAdd.hAdd n 3) 1) (dropC 0 (renL Bool.false (shiftN 1) (G c))))))) (Nat.ble 1 1))
 (needB (flatL (takeC (Nat.mul (HAdd.hAdd n 3) 1) (dropC 0 (renL Bool.false (shiftN 69) (takeC (Nat.mul (HAdd.hAdd n 3) 1) (dropC 0 (renL Bool.false (shiftN 1) (G c))))))))
 (needB (Bool.and (Bool.and (fzB 18446744073709551617 (HAdd.hAdd n 3) (takeC (Nat.mul (HAdd.hAdd n 3) 1) (dropC 0 (renL Bool.false (shiftN 1) (G c))))) (fzB 18446744073709551617 (HAdd.hAdd n 3) (takeC (Nat.mul (HAdd.hAdd n 3) 1) (dropC 0 (renL Bool.false (shiftN 69) (takeC (Nat.mul (HAdd.hAdd n 3) 1) (dropC 0 (renL Bool.false (shiftN 1) (G c))))))))) (Q (List.map byteOf (takeC (Nat.mul (HAdd.hAdd n 3) 1) (dropC 0 (renL Bool.false (shiftN 1) (G c))))) (List.map byteOf (takeC (Nat.mul (HAdd.hAdd n 3) 1) (dropC 0 (renL Bool.false (shiftN 69) (takeC (Nat.mul (HAdd.hAdd n 3) 1) (dropC 0 (renL Bool.false (shiftN 1) (G c))))))))))
 (needB (C (Addr.mk 0 0 (Addr.spot (Addr.mk 1 0 (Addr.spot (Addr.mk 0 0 none))))) (HAdd.hAdd n 3) 18446744073709551616 (renL Bool.true (rhoO 0 [1]) (renL Bool.false (shiftN 1) (G c))) 5)
 (needB (L2 [(Value.slice (Option.some (Addr.mk 0 0 none)) 3 3), (Value.slice (Option.some (Addr.mk 2 0 none)) 3 3), (Value.int IntKind.i64 (2 : Int)), (Value.int IntKind.i64 (0 : Int))] [(Blk.cells [(Value.slice none 0 0), (Value.slice none 0 0), (Value.slice (Option.some (Addr.mk 1 0 none)) (HAdd.hAdd n 3) 18446744073709551616)] 37 Bool.true), (Blk.cells (renL Bool.true (rhoO 0 [61, 1, 66, 67, 68, 69]) (renL Bool.true (backN [1] 100) (bc (M (List.map byteOf (renL Bool.true (rhoO 0 [1]) (renL Bool.false (shiftN 1) (G c)))))))) 5 Bool.false), (Blk.cells [(Value.slice (Option.some (Addr.mk 3 0 none)) 0 0), (Value.slice (Option.some (Addr.mk 4 0 none)) 0 0), (Value.slice (Option.some (Addr.mk 5 0 none)) (HAdd.hAdd n 3) 18446744073709551616)] 37 Bool.true), (Blk.cells [] 5 Bool.true), (Blk.cells [] 5 Bool.true), (Blk.cells (renL Bool.true (rhoO 0 [61, 1, 66, 67, 68, 69]) (renL Bool.false (shiftN 69) (takeC (Nat.mul (HAdd.hAdd n 3) 1) (dropC 0 (renL Bool.false (shiftN 1) (G c)))))) 5 Bool.false)])
 (needB (beqV (Value.agg (Array.mk [(Value.bool p), (Value.string k), (Value.string v)])) (Value.agg (Array.mk [(Value.bool p), (Value.string k), (Value.string v)])))
 (some ((Value.bool Bool.true), (mkSt []))))))))))))))))))))))))))))
 (needB (Bool.and (fzW 18446744073709551617 0 []) (O p k v))
 (needB (Bool.and (fzW 18446744073709551617 n c) (O p k v))
 (needB (O p k v)
 (needB (O p k v)
 (needB (O p k v)
 (needB (O p k v)
 (needB (fzB 18446744073709551617 n c)
 (needB (Bool.and (Nat.ble (Nat.add 0 (Nat.mul (HAdd.hAdd n 3) 1)) (List.length (renL Bool.false (shiftN 1) (G c)))) (Nat.ble 1 1))
 (needB (flatL (takeC (Nat.mul (HAdd.hAdd n 3) 1) (dropC 0 (renL Bool.false (shiftN 1) (G c)))))
 (needB (Bool.and (Nat.ble (Nat.add 0 (Nat.mul (HAdd.hAdd n 3) 1)) (List.length (renL Bool.false (shiftN 65) (G c)))) (Nat.ble 1 1))
 (needB (flatL (takeC (Nat.mul (HAdd.hAdd n 3) 1) (dropC 0 (renL Bool.false (shiftN 65) (G c)))))
 (needB (Bool.and (Bool.and (fzB 18446744073709551617 (HAdd.hAdd n 3) (takeC (Nat.mul (HAdd.hAdd n 3) 1) (dropC 0 (renL Bool.false (shiftN 1) (G c))))) (fzB 18446744073709551617 (HAdd.hAdd n 3) (takeC (Nat.mul (HAdd.hAdd n 3) 1) (dropC 0 (renL Bool.false (shiftN 65) (G c)))))) (Q (List.map byteOf (takeC (Nat.mul (HAdd.hAdd n 3) 1) (dropC 0 (renL Bool.false (shiftN 1) (G c))))) (List.map byteOf (takeC (Nat.mul (HAdd.hAdd n 3) 1) (dropC 0 (renL Bool.false (shiftN 65) (G c)))))))
 (needB (Bool.and (Nat.ble (Nat.add 0 (Nat.mul (HAdd.hAdd n 3) 1)) (List.length (renL Bool.false (shiftN 1) (G c)))) (Nat.ble 1 1))
 (needB (flatL (takeC (Nat.mul (HAdd.hAdd n 3) 1) (dropC 0 (renL Bool.false (shiftN 1) (G c)))))
 (needB (K 18446744073709551617 (HAdd.hAdd n 3) (takeC (Nat.mul (HAdd.hAdd n 3) 1) (dropC 0 (renL Bool.false (shiftN 1) (G c)))))
 (needB (Bool.and (Nat.ble (Nat.add 0 (Nat.mul (HAdd.hAdd n 3) 1)) (List.length (renL Bool.false (shiftN 1) (G c)))) (Nat.ble 1 1))
 (needB (flatL (takeC (Nat.mul (HAdd.hAdd n 3) 1) (dropC 0 (renL Bool.false (shiftN 1) (G c)))))
 (needB (Bool.and (Nat.ble (Nat.add 0 (Nat.mul (HAdd.hAdd n 3) 1)) (List.length (renL Bool.false (shiftN 69) (takeC (Nat.mul (HAdd.hAdd n 3) 1) (dropC 0 (renL Bool.false (shiftN 1) (G c))))))) (Nat.ble 1 1))
 (needB (flatL (takeC (Nat.mul (HAdd.hAdd n 3) 1) (dropC 0 (renL Bool.false (shiftN 69) (takeC (Nat.mul (HAdd.hAdd n 3) 1) (dropC 0 (renL Bool.false (shiftN 1) (G c))))))))
 (needB (Bool.and (Bool.and (fzB 18446744073709551617 (HAdd.hAdd n 3) (takeC (Nat.mul (HAdd.hAdd n 3) 1) (dropC 0 (renL Bool.false (shiftN 1) (G c))))) (fzB 18446744073709551617 (HAdd.hAdd n 3) (takeC (Nat.mul (HAdd.hAdd n 3) 1) (dropC 0 (renL Bool.false (shiftN 69) (takeC (Nat.mul (HAdd.hAdd n 3) 1) (dropC 0 (renL Bool.false (shiftN 1) (G c))))))))) (Q (List.map byteOf (takeC (Nat.mul (HAdd.hAdd n 3) 1) (dropC 0 (renL Bool.false (shiftN 1) (G c))))) (List.map byteOf (takeC (Nat.mul (HAdd.hAdd n 3) 1) (dropC 0 (renL Bool.false (shiftN 69) (takeC (Nat.mul (HAdd.hAdd n 3) 1) (dropC 0 (renL Bool.false (shiftN 1) (G c))))))))))
 (needB (C (Addr.mk 0 0 (Addr.spot (Addr.mk 1 0 (Addr.spot (Addr.mk 0 0 none))))) (HAdd.hAdd n 3) 18446744073709551616 (renL Bool.true (rhoO 0 [1]) (renL Bool.false (shiftN 1) (G c))) 5)
 (needB (L2 [(Value.slice (Option.some (Addr.mk 0 0 none)) 3 3), (Value.slice (Option.some (Addr.mk 2 0 none)) 3 3), (Value.int IntKind.i64 (2 : Int)), (Value.int IntKind.i64 (0 : Int))] [(Blk.cells [(Value.slice none 0 0), (Value.slice none 0 0), (Value.slice (Option.some (Addr.mk 1 0 none)) (HAdd.hAdd n 3) 18446744073709551616)] 37 Bool.true), (Blk.cells (renL Bool.true (rhoO 0 [61, 1, 66, 67, 68, 69]) (renL Bool.true (backN [1] 100) (bc (M (List.map byteOf (renL Bool.true (rhoO 0 [1]) (renL Bool.false (shiftN 1) (G c)))))))) 5 Bool.false), (Blk.cells [(Value.slice (Option.some (Addr.mk 3 0 none)) 0 0), (Value.slice (Option.some (Addr.mk 4 0 none)) 0 0), (Value.slice (Option.some (Addr.mk 5 0 none)) (HAdd.hAdd n 3) 18446744073709551616)] 37 Bool.true), (Blk.cells [] 5 Bool.true), (Blk.cells [] 5 Bool.true), (Blk.cells (renL Bool.true (rhoO 0 [61, 1, 66, 67, 68, 69]) (renL Bool.false (shiftN 69) (takeC (Nat.mul (HAdd.hAdd n 3) 1) (dropC 0 (renL Bool.false (shiftN 1) (G c)))))) 5 Bool.false)])
 (needB (beqV (Value.agg (Array.mk [(Value.bool p), (Value.string k), (Value.string v)])) (Value.agg (Array.mk [(Value.bool p), (Value.string k), (Value.string v)])))
 (some ((Value.bool Bool.true), (mkSt [])))))))))))))))))))))))))))))))) := by kernel_rfl
end Go.VS.Try
end
