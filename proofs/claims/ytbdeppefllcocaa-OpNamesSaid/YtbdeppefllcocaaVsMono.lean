/- More fuel does no harm. No conditions. -/
import Derived.Test.YtbdeppefllcocaaVsFast
namespace Go.VS
set_option linter.unusedSimpArgs false
set_option linter.unusedVariables false
section
variable {P : Program} {ct : Ct}

structure Mono (P : Program) (ct : Ct) (n m : Nat) : Prop where
  code : ∀ fid c f st r, evCode P ct n fid c f st = some r → evCode P ct m fid c f st = some r
  ops : ∀ ops l f st r, evOps P ct n ops l f st = some r → evOps P ct m ops l f st = some r
  out : ∀ x r, evOut P ct n x = some r → evOut P ct m x = some r
  call : ∀ g args st r, evCall P ct n g args st = some r → evCall P ct m g args st = some r
  defers : ∀ ds st r, evDefers P ct n ds st = some r → evDefers P ct m ds st = some r
  round : ∀ l args st r, evRound P ct n l args st = some r → evRound P ct m l args st = some r

theorem drawPass_mono {out out' : Out → Option (Value × St)} (ho : ∀ x r, out x = some r → out' x = some r) {ops : Array Oper} {bs : List Nat} {base : Nat} :
    ∀ (os : List Oper) (i : Nat) (f : Fr) (st : St) (m : Nat) (pend : List (Nat × Blk)) (rep : Nat) (l : List Rec), drawPass P (evOp P) Fr.eval out ops bs base os i f st m pend rep = some l → drawPass P (evOp P) Fr.eval out' ops bs base os i f st m pend rep = some l
  | [], i, f, st, m, pend, rep, l, h => h
  | o :: os, i, f, st, m, pend, rep, l, h => by
    have key : ∀ {v : Value} {b : Option Blk} {f' : Fr} {st' : St} {m' : Nat} {pend' : List (Nat × Blk)} {rep' : Nat}, (match drawPass P (evOp P) Fr.eval out ops bs base os (i + 1) f' st' m' pend' rep' with
          | none => none
          | some l => some ((⟨f, st, m, pend, rep, v, b⟩ : Rec) :: l)) = some l → (match drawPass P (evOp P) Fr.eval out' ops bs base os (i + 1) f' st' m' pend' rep' with
          | none => none
          | some l => some ((⟨f, st, m, pend, rep, v, b⟩ : Rec) :: l)) = some l := by
      intro v b f' st' m' pend' rep' h
      cases hr : drawPass P (evOp P) Fr.eval out ops bs base os (i + 1) f' st' m' pend' rep' with
      | none => rw [hr] at h; cases h
      | some l' => rw [drawPass_mono ho os _ _ _ _ _ _ _ hr]; rw [hr] at h; exact h
    simp only [drawPass] at h ⊢
    split at h
    · cases h
    · rename_i wd hw
      split at h
      · rename_i hk
        split at h
        · cases h
        · rename_i v hv
          split at h
          · cases h
          · rename_i f' hp
            exact key h
      · rename_i hk
        split at h
        · cases h
        · rename_i v b hv
          split at h
          · cases h
          · rename_i f' hp
            exact key h
      · rename_i hk
        split at h
        · cases h
        · rename_i v st' hv
          cases wd with
          | false =>
            simp only [Bool.false_eq_true, if_false, Option.some.injEq, Prod.mk.injEq] at hv ⊢
            obtain ⟨rfl, rfl⟩ := hv
            split at h
            · cases h
            · rename_i f' hp
              exact key h
          | true =>
            simp only [if_true] at hv ⊢
            split at hv
            · rename_i x hx
              simp only [ho _ _ hv]
              split at h
              · cases h
              · rename_i f' hp
                exact key h
            · cases hv

theorem drawRegion_mono {out out' : Out → Option (Value × St)} (ho : ∀ x r, out x = some r → out' x = some r) {ops : Array Oper} {f : Fr} {st : St} {r : Fr × St} (h : drawRegion P out ops f st = some r) : drawRegion P out' ops f st = some r := by
  simp only [drawRegion] at h ⊢
  split at h
  · cases h
  · rename_i c1
    rw [if_neg c1]
    split at h
    · cases h
    · rename_i c2
      rw [if_neg c2]
      split at h
      · cases h
      · rename_i recs hrec
        rw [drawPass_mono ho _ _ _ _ _ _ _ _ hrec]
        exact h

theorem mono_code {n m : Nat} (ih : Mono P ct n m) : ∀ fid c f st r, evCode P ct (n + 1) fid c f st = some r → evCode P ct (m + 1) fid c f st = some r := by
  intro fid c f st r h
  cases c with
  | seq a b =>
    simp only [evCode] at h ⊢
    cases ha : evCode P ct n fid a f st with
    | none => rw [ha] at h; cases h
    | some x =>
      rw [ih.code _ _ _ _ _ ha]
      rw [ha] at h
      obtain ⟨e, f1, st1⟩ := x
      cases e with
      | normal => exact ih.code _ _ _ _ _ h
      | exit id => exact h
      | ret => exact h
  | cond c a b =>
    simp only [evCode] at h ⊢
    split at h
    · exact ih.code _ _ _ _ _ h
    · exact ih.code _ _ _ _ _ h
    · cases h
  | block id c =>
    simp only [evCode] at h ⊢
    split at h
    · exact h
    cases ha : evCode P ct n fid c f st with
    | none => rw [ha] at h; cases h
    | some x => rw [ih.code _ _ _ _ _ ha]; rw [ha] at h; exact h
  | loop c =>
    simp only [evCode] at h ⊢
    cases ha : evCode P ct n fid c f st with
    | none => rw [ha] at h; cases h
    | some x =>
      rw [ih.code _ _ _ _ _ ha]
      rw [ha] at h
      obtain ⟨e, f1, st1⟩ := x
      cases e with
      | normal => exact ih.code _ _ _ _ _ h
      | exit id => exact h
      | ret => exact h
  | scope c => simp only [evCode] at h ⊢; exact ih.code _ _ _ _ _ h
  | region id ops draw =>
    cases draw with
    | true =>
      simp only [evCode] at h ⊢
      cases hd : drawRegion P (evOut P ct n) ops f st with
      | none => rw [hd] at h; cases h
      | some x => rw [drawRegion_mono ih.out hd]; rw [hd] at h; exact h
    | false =>
      simp only [evCode] at h ⊢
      cases hd : evOps P ct n ops (List.range ops.size) f st with
      | none => rw [hd] at h; cases h
      | some x => rw [ih.ops _ _ _ _ _ hd]; rw [hd] at h; exact h
  | rangeFunc g params assign body =>
    simp only [evCode] at h ⊢
    split at h
    · cases h
    · rename_i l f1 st2 hent
      split at h
      · rename_i fn first captured hg
        split at h
        · rename_i f' args st3 hinv
          cases hc : evCall P ct n f' args st3 with
          | none => rw [hc] at h; cases h
          | some x => simp only [ih.call _ _ _ _ hc]; rw [hc] at h; exact h
        · cases h
      · cases h
  | _ => simpa only [evCode] using h

theorem mono_ops {n m : Nat} (ih : Mono P ct n m) : ∀ ops l f st r, evOps P ct (n + 1) ops l f st = some r → evOps P ct (m + 1) ops l f st = some r := by
  intro ops l f st r h
  cases l with
  | nil => simpa only [evOps] using h
  | cons i rest =>
    simp only [evOps] at h ⊢
    split at h
    · cases h
    · rename_i o ho
      split at h
      · cases h
      · split at h
        · exact ih.ops _ _ _ _ _ h
        · cases h
      · split at h
        · cases h
        · rename_i hnd
          rw [if_neg hnd]
          split at h
          · split at h
            · exact ih.ops _ _ _ _ _ h
            · cases h
          · split at h
            · exact ih.ops _ _ _ _ _ h
            · cases h
          · split at h
            · exact ih.ops _ _ _ _ _ h
            · cases h
          · rename_i g args st1 hop
            cases hc : evCall P ct n g args st1 with
            | none => rw [hc] at h; cases h
            | some x =>
              simp only [ih.call _ _ _ _ hc]; rw [hc] at h
              obtain ⟨v, st2⟩ := x
              simp only at h ⊢
              split at h
              · exact ih.ops _ _ _ _ _ h
              · cases h
          · rename_i l' args st1 hop
            cases hc : evRound P ct n l' args st1 with
            | none => rw [hc] at h; cases h
            | some x =>
              simp only [ih.round _ _ _ _ hc]; rw [hc] at h
              obtain ⟨v, st2⟩ := x
              simp only at h ⊢
              split at h
              · exact ih.ops _ _ _ _ _ h
              · cases h
          · cases h

theorem mono_out {n m : Nat} (ih : Mono P ct n m) : ∀ x r, evOut P ct (n + 1) x = some r → evOut P ct (m + 1) x = some r := by
  intro x r h
  cases x with
  | enter g args st => simp only [evOut] at h ⊢; exact ih.call _ _ _ _ h
  | round l args st => simp only [evOut] at h ⊢; exact ih.round _ _ _ _ h
  | _ => simpa only [evOut] using h

theorem mono_defers {n m : Nat} (ih : Mono P ct n m) : ∀ ds st r, evDefers P ct (n + 1) ds st = some r → evDefers P ct (m + 1) ds st = some r := by
  intro ds st r h
  cases ds with
  | nil => simpa only [evDefers] using h
  | cons d ds =>
    simp only [evDefers] at h ⊢
    split at h
    · split at h
      · exact ih.defers _ _ _ h
      · cases h
    · split at h
      · rename_i g args st1 hinv
        cases hx : ct.call g args st1 with
        | some x => rw [hx] at h; cases h
        | none =>
          simp only [hx] at h ⊢
          cases hc : evCall P ct n g args st1 with
          | none => rw [hc] at h; cases h
          | some x => simp only [ih.call _ _ _ _ hc]; rw [hc] at h; exact ih.defers _ _ _ h
      · cases h

theorem mono_call {n m : Nat} (ih : Mono P ct n m) : ∀ g args st r, evCall P ct (n + 1) g args st = some r → evCall P ct (m + 1) g args st = some r := by
  intro g args st r h
  simp only [evCall] at h ⊢
  split at h
  · exact h
  · split at h
    · cases h
    · rename_i fn hfn
      split at h
      · cases h
      · rename_i c hc
        cases ha : evCode P ct n g c { slots := argSlots args 0 .leaf, ntmps := max fn.ntmps args.length, defers := [] } st with
        | none => rw [ha] at h; cases h
        | some x =>
          simp only [ih.code _ _ _ _ _ ha]; rw [ha] at h
          obtain ⟨e, f, st1⟩ := x
          have fin : (match evDefers P ct n f.defers st1 with
              | some st => match resultsV P fn f st with
                | some vs => some (resultOf vs, st)
                | none => none
              | none => none) = some r → (match evDefers P ct m f.defers st1 with
              | some st => match resultsV P fn f st with
                | some vs => some (resultOf vs, st)
                | none => none
              | none => none) = some r := by
            intro h
            cases hd : evDefers P ct n f.defers st1 with
            | none => rw [hd] at h; cases h
            | some st => rw [ih.defers _ _ _ hd]; rw [hd] at h; exact h
          cases e with
          | normal => exact fin h
          | ret => exact fin h
          | exit id => cases h

theorem mono_round {n m : Nat} (ih : Mono P ct n m) : ∀ l args st r, evRound P ct (n + 1) l args st = some r → evRound P ct (m + 1) l args st = some r := by
  intro l args st r h
  simp only [evRound] at h ⊢
  split at h
  · rename_i R hg
    split at h
    · cases h
    · rename_i hc
      rw [if_neg hc]
      split at h
      · cases h
      · rename_i slots hput
        cases ha : evCode P ct n R.fn R.assign { slots, ntmps := R.ntmps, defers := [], roundOf := some l } st with
        | none => rw [ha] at h; cases h
        | some x =>
          simp only [ih.code _ _ _ _ _ ha]; rw [ha] at h
          obtain ⟨e, f, st1⟩ := x
          cases e with
          | normal =>
            simp only at h ⊢
            split at h
            · cases h
            · rename_i st2 hb
              cases hd : evCode P ct n R.fn R.body f st2 with
              | none => rw [hd] at h; cases h
              | some y => rw [ih.code _ _ _ _ _ hd]; rw [hd] at h; exact h
          | exit id => cases h
          | ret => cases h
  · cases h

theorem mono_all : ∀ n m, n ≤ m → Mono P ct n m
  | 0, _, _ => ⟨fun _ _ _ _ _ h => by simp [evCode] at h, fun _ _ _ _ _ h => by simp [evOps] at h, fun _ _ h => by simp [evOut] at h, fun _ _ _ _ h => by simp [evCall] at h, fun _ _ _ h => by simp [evDefers] at h, fun _ _ _ _ h => by simp [evRound] at h⟩
  | n + 1, 0, h => absurd h (by omega)
  | n + 1, m + 1, h =>
    have ih := mono_all n m (by omega)
    ⟨mono_code ih, mono_ops ih, mono_out ih, mono_call ih, mono_defers ih, mono_round ih⟩

theorem mono_le {n m : Nat} (h : n ≤ m) : (∀ fid c f st r, evCode P ct n fid c f st = some r → evCode P ct m fid c f st = some r) ∧ (∀ ops l f st r, evOps P ct n ops l f st = some r → evOps P ct m ops l f st = some r) ∧
    (∀ x r, evOut P ct n x = some r → evOut P ct m x = some r) ∧ (∀ g args st r, evCall P ct n g args st = some r → evCall P ct m g args st = some r) ∧ (∀ ds st r, evDefers P ct n ds st = some r → evDefers P ct m ds st = some r) ∧ (∀ l args st r, evRound P ct n l args st = some r → evRound P ct m l args st = some r) :=
  have ih := mono_all (P := P) (ct := ct) n m h
  ⟨ih.code, ih.ops, ih.out, ih.call, ih.defers, ih.round⟩
end
end Go.VS
