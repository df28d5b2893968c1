/- Both functions that read a word answer the same: plain lists. No conditions. -/
import Derived.Test.YtbdeppefllcocaaOp8
namespace Go.VS.Try
set_option linter.unusedSimpArgs false
set_option linter.unusedVariables false
set_option maxRecDepth 1000000
open Go.VS

theorem hx_dig : ∀ n : Fin 256, digB (n.val : Int) = true → hxU (digV (n.val : Int)) = UInt8.ofNat n.val := by decide +kernel
theorem mix_hi : ∀ a b : Fin 16, shrI .u8 (orI .u8 (shlI .u8 (a.val : Int) 4) (b.val : Int)) 4 = (a.val : Int) := by decide +kernel
theorem mix_lo : ∀ a b : Fin 16, andI .u8 (orI .u8 (shlI .u8 (a.val : Int) 4) (b.val : Int)) 15 = (b.val : Int) := by decide +kernel
theorem back_dig : ∀ n : Fin 256, digB ((hxU (shrI .u8 (n.val : Int) 4)).toNat : Int) = true ∧ digB ((hxU (andI .u8 (n.val : Int) 15)).toNat : Int) = true ∧ hv (hxU (shrI .u8 (n.val : Int) 4)) (hxU (andI .u8 (n.val : Int) 15)) = (n.val : Int) := by decide +kernel

theorem enc_pair {h l : UInt8} (hg : goodH h l = true) : enc (byteH h l) = [92, h, l] := by
  simp only [goodH, Bool.and_eq_true, Bool.not_eq_true'] at hg
  obtain ⟨⟨h1, h2⟩, h3⟩ := hg
  unfold enc
  rw [byteH_eq, h3]
  simp only
  have a := dig_lt ⟨h.toNat, h.toNat_lt⟩ h1
  have b := dig_lt ⟨l.toNat, l.toNat_lt⟩ h2
  have c := hx_dig ⟨h.toNat, h.toNat_lt⟩ h1
  have d := hx_dig ⟨l.toNat, l.toNat_lt⟩ h2
  simp only at a b c d
  unfold hv
  generalize digV (h.toNat : Int) = x at a c
  generalize digV (l.toNat : Int) = y at b d
  obtain ⟨x, rfl⟩ := Int.eq_ofNat_of_zero_le a.1
  obtain ⟨y, rfl⟩ := Int.eq_ofNat_of_zero_le b.1
  have e1 := mix_hi ⟨x, by omega⟩ ⟨y, by omega⟩
  have e2 := mix_lo ⟨x, by omega⟩ ⟨y, by omega⟩
  simp only at e1 e2
  rw [e1, e2, c, d]
  simp

theorem plain92 : plainM ((92 : UInt8).toNat : Int) = false := by decide
theorem eq92 : eqI ((92 : UInt8).toNat : Int) 92 = true := by decide
theorem eqI_92 {x : UInt8} (h : eqI x.toNat 92 = true) : x = 92 := by
  unfold eqI at h
  have : (x.toNat : Int) = 92 := by simpa using h
  have h2 : x.toNat = (92 : UInt8).toNat := by
    have : x.toNat = 92 := by omega
    rw [this]; rfl
  exact UInt8.toNat_inj.1 h2
theorem neI_plain {x : UInt8} (h : plainM x.toNat = true) : neI x.toNat 92 = true := by
  unfold plainM at h
  simp only [Bool.and_eq_true] at h
  exact h.2
theorem neI_92 {x : UInt8} (h : eqI x.toNat 92 = true) : neI x.toNat 92 = false := by
  unfold eqI at h
  unfold neI
  simp only [bne, h, Bool.not_true]

/-- What is read to its end without a fault has this word, and the answer reads it alike. -/
theorem decL_enc : ∀ (k : Nat) (w : List UInt8), w.length ≤ k → (decL w).2.1 = false → encL (decL w).1 = w ∧ (decR w).1 = (decL w).1 ∧ (decR w).2.1 = false
  | _, [], _, _ => by
    have e1 : decL [] = ([], false, 0) := by rw [decL.eq_def]
    have e2 : decR [] = ([], false, 0) := by rw [decR.eq_def]
    rw [e1, e2]; exact ⟨rfl, rfl, rfl⟩
  | 0, x :: r, hk, _ => by simp at hk
  | k + 1, x :: r, hk, h => by
    have hk : r.length ≤ k := by simpa using hk
    cases hp : plainM x.toNat with
    | true =>
      rw [decL_plain hp] at h ⊢
      rw [decR_plain (neI_plain hp)]
      obtain ⟨h1, h2, h3⟩ := decL_enc k r hk h
      refine ⟨?_, by simp only [h2], h3⟩
      rw [encL_cons, h1]
      unfold enc
      rw [hp]; rfl
    | false =>
      by_cases ho : eqI x.toNat 92 = false ∨ r.length < 2
      · rw [decL_other hp ho] at h; cases h
      · have he : eqI x.toNat 92 = true := by
          cases h : eqI x.toNat 92 with
          | true => rfl
          | false => exact absurd (Or.inl h) ho
        have h2 : ¬ r.length < 2 := fun h => ho (Or.inr h)
        obtain ⟨a, r, rfl⟩ : ∃ a r', r = a :: r' := by cases r with
          | nil => simp at h2
          | cons a r' => exact ⟨_, _, rfl⟩
        obtain ⟨b, r, rfl⟩ : ∃ a r', r = a :: r' := by cases r with
          | nil => simp at h2
          | cons a r' => exact ⟨_, _, rfl⟩
        rw [decL_pair hp he] at h ⊢
        rw [decR_pair (neI_92 he)]
        cases hg : goodH a b with
        | false => rw [hg] at h; cases h
        | true =>
          rw [hg] at h
          simp only at h ⊢
          have hd : (digB a.toNat && digB b.toNat) = true := by
            simp only [goodH, Bool.and_eq_true] at hg
            simp only [hg.1, Bool.and_self]
          rw [hd]
          simp only
          obtain ⟨h1, h2, h3⟩ := decL_enc k r (by simp at hk; omega) h
          refine ⟨?_, by rw [h2], h3⟩
          rw [encL_cons, h1, enc_pair hg, eqI_92 he]
          rfl

theorem byteH_back (b : UInt8) : byteH (hxU (shrI .u8 b.toNat 4)) (hxU (andI .u8 b.toNat 15)) = b := by
  have := (back_dig ⟨b.toNat, b.toNat_lt⟩).2.2
  simp only at this
  unfold byteH
  rw [this]
  simp
/-- A word is read without a fault. -/
theorem decL_word : ∀ (l : List UInt8), decL (encL l) = (l, false, 0)
  | [] => by show decL [] = _; rw [decL.eq_def]
  | b :: l => by
    rw [encL_cons]
    unfold enc
    cases hp : plainM b.toNat with
    | true =>
      show decL (b :: encL l) = _
      rw [decL_plain hp, decL_word l]
    | false =>
      show decL (92 :: hxU (shrI .u8 b.toNat 4) :: hxU (andI .u8 b.toNat 15) :: encL l) = _
      rw [decL_pair plain92 eq92]
      have hg : goodH (hxU (shrI .u8 b.toNat 4)) (hxU (andI .u8 b.toNat 15)) = true := by
        obtain ⟨h1, h2, h3⟩ := back_dig ⟨b.toNat, b.toNat_lt⟩
        simp only at h1 h2 h3
        unfold goodH
        rw [h1, h2, h3, hp]; rfl
      rw [hg, decL_word l, byteH_back]

def rbytesM (w : List UInt8) : List UInt8 × Int := match w == [34, 34] with
  | true => ([], 0)
  | false => match (decR w).2.1, wordM (decR w).1 == w with
    | true, _ => ([], 5)
    | false, false => ([], 5)
    | false, true => ((decR w).1, 0)

theorem rbytesM_eq (w : List UInt8) : rbytesM w = bytesM w := by
  unfold rbytesM bytesM
  cases hw : w == [34, 34] with
  | true => rfl
  | false =>
    simp only
    cases hb : (decL w).2.1 with
    | false =>
      obtain ⟨h1, h2, h3⟩ := decL_enc w.length w (Nat.le_refl _) hb
      rw [h2, h3]
      cases ho : (decL w).1 with
      | nil =>
        rw [ho] at h1
        have : w = [] := h1.symm
        subst this
        rfl
      | cons b l =>
        rw [ho] at h1
        have : (wordM (b :: l) == w) = true := by
          show (encL (b :: l) == w) = true
          rw [h1]; simp
        rw [this]
    | true =>
      cases hr : (decR w).2.1 with
      | true => rfl
      | false =>
        cases hq : wordM (decR w).1 == w with
        | false => rfl
        | true =>
          exfalso
          have hq : wordM (decR w).1 = w := by simpa using hq
          cases ho : (decR w).1 with
          | nil =>
            rw [ho] at hq
            rw [← hq] at hw
            cases hw
          | cons b l =>
            rw [ho] at hq
            have hq : encL (b :: l) = w := hq
            rw [← hq, decL_word] at hb
            cases hb
end Go.VS.Try
