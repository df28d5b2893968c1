/- Regions whose order is drawn: any order comes to what the order of the text comes to. No conditions. -/
import Derived.Test.YtbdeppefllcocaaVsSnd
namespace Go.VS
set_option linter.unusedSimpArgs false
set_option linter.unusedVariables false
open Go.RowKit

/-- Where the chain of a region can stand. -/
def IsRep (P : Program) (ops : Array Oper) (m : Nat) : Prop := m = 0 ∨ ∃ c o, ops[c]? = some o ∧ isChain P o = true ∧ m = c + 1

structure Plan (P : Program) (out : Out → Option (Value × St)) (ops : Array Oper) (bs cs : List Nat) (base : Nat) (R : Nat → Rec) : Prop where
  edges : ∀ i o, ops[i]? = some o → ∀ e ∈ o.after, Region.binds .any e = true → e.on < i
  bits : ∀ i o j, ops[i]? = some o → bitOf bs i j = true → ∃ e ∈ o.after, Region.binds .any e = true ∧ (e.on = j ∨ bitOf bs e.on j = true)
  tmps : ∀ i o t j oj, ops[i]? = some o → t ∈ tmpsOf ops o → ops[j]? = some oj → oj.dst = some t → j ≠ i → if j < i then bitOf bs i j = true else bitOf bs j i = true
  chain : ∀ c d oc od, ops[c]? = some oc → isChain P oc = true → ops[d]? = some od → isChain P od = true → c < d → bitOf bs d c = true
  csm : ∀ c ∈ cs, ∃ o, ops[c]? = some o ∧ isChain P o = true
  m0 : (R 0).m = 0
  pend0 : (R 0).pend = []
  rep0 : (R 0).rep = 0
  step : ∀ i o, ops[i]? = some o → StepOk P out ops bs base i o (R i) (R (i + 1))
  quiet : ∀ i o, ops[i]? = some o → kindOf P o = .quiet → wantedF ops (R i).f o = some true → noHeap o = true ∨ ∀ m, IsRep P ops m → m = (R i).rep ∨ admits bs cs i m = false ∨ ∃ st', evOp P (R i).f.eval o (R m).st = some (.val (R i).v st')

theorem get_ops {ops : Array Oper} {j : Nat} {o : Oper} : ops.toList[j]? = some o ↔ ops[j]? = some o := by simp

theorem drawRegion_spec {P : Program} {out : Out → Option (Value × St)} {ops : Array Oper} {f f' : Fr} {st st' : St} (h : drawRegion P out ops f st = some (f', st')) :
    P.follows .mixedOrders = true ∧ ∃ bs cs R, Plan P out ops bs cs st.next R ∧ (R 0).f = f ∧ (R 0).st = { st with next := st.next + ops.size } ∧ f' = (R ops.size).f ∧ st' = wake st.next (fun j => !(R ops.size).m.testBit j) (R ops.size).pend (R ops.size).st := by
  simp only [drawRegion] at h
  split at h
  · cases h
  · rename_i hm
    refine ⟨by simpa using hm, ?_⟩
    split at h
    · cases h
    · rename_i hc
      simp only [Bool.not_eq_true', Bool.not_eq_false, Bool.and_eq_true] at hc
      obtain ⟨⟨hc1, hc2⟩, hc3⟩ := hc
      split at h
      · cases h
      · rename_i recs hrec
        split at h
        · cases h
        · rename_i r hr
          split at h
          · rename_i hq
            simp only [Option.some.injEq, Prod.mk.injEq] at h
            obtain ⟨rfl, rfl⟩ := h
            obtain ⟨g1, ⟨r0, g2, g3, g4, g5, g6, g7⟩, g8⟩ := drawPass_spec _ _ _ _ _ _ _ _ hrec
            have hlast : recs[ops.size]? = some r := by
              rw [List.getLast?_eq_getElem?, g1] at hr
              simpa using hr
            have e0 : (recs[0]?).getD r = r0 := by rw [g2]; rfl
            have hedges : ∀ i o, ops[i]? = some o → ∀ e ∈ o.after, Region.binds .any e = true → e.on < i := by
              intro i o ho e he hb
              have := edgesOk_spec _ _ hc1 i o (get_ops.2 ho) e he hb
              omega
            refine ⟨bitsL ops.toList [], chainsL P ops.toList 0, fun j => (recs[j]?).getD r, ⟨hedges, ?_, ?_, ?_, ?_, ?_, ?_, ?_, ?_, ?_⟩, ?_, ?_, ?_, ?_⟩
            · intro i o j ho hb
              have := (bitsL_spec ops.toList []).2.2 i o (get_ops.2 ho) (fun e he hb => by simpa using hedges i o ho e he hb) j (by simpa using hb)
              exact this
            · intro i o t j oj ho ht hoj hd hne
              have := tmpsOk_spec _ _ hc2 i o (get_ops.2 ho) t ht j (writersL_mem (p := (j, t)) _ _ ⟨j, oj, get_ops.2 hoj, hd, by simp⟩) (by omega)
              simpa using this
            · intro c d oc od h1 h2 h3 h4 hlt
              exact pairwise_lt (chainOk_spec _ hc3) (chainsL_sorted ops.toList 0).1 (fun a b h => Nat.lt_asymm h) (fun a => Nat.lt_irrefl a)
                ((chainsL_mem _ _).2 ⟨c, oc, get_ops.2 h1, h2, by simp⟩) ((chainsL_mem _ _).2 ⟨d, od, get_ops.2 h3, h4, by simp⟩) hlt
            · intro c hcm
              obtain ⟨j, o, h1, h2, h3⟩ := (chainsL_mem _ _).1 hcm
              have : c = j := by omega
              subst this
              exact ⟨o, get_ops.1 h1, h2⟩
            · show ((recs[0]?).getD r).m = 0; rw [e0, g5]
            · show ((recs[0]?).getD r).pend = []; rw [e0, g6]
            · show ((recs[0]?).getD r).rep = 0; rw [e0, g7]
            · intro i o ho
              obtain ⟨a, b, h1, h2, h3⟩ := g8 i o (get_ops.2 ho)
              simp only [h1, h2, Option.getD_some]
              simpa using h3
            · intro i o ho hk hw
              obtain ⟨a, b, h1, h2, h3⟩ := g8 i o (get_ops.2 ho)
              simp only [h1, Option.getD_some] at hw ⊢
              rcases quietOk_spec _ _ _ hq i o a (get_ops.2 ho) h1 hk hw with hnh | hqs
              · exact Or.inl hnh
              right
              intro m hmr
              have hin : (m, ((recs[m]?).getD r).st) ∈ ((0, { st with next := st.next + ops.size }) :: repsL P ops.toList recs 0 : List (Nat × St)) := by
                rcases hmr with rfl | ⟨c, oc, k1, k2, rfl⟩
                · rw [e0, g4]; exact List.mem_cons_self
                · obtain ⟨a', b', q1, q2, q3⟩ := g8 c oc (get_ops.2 k1)
                  have := repsL_mem ops.toList recs 0 g1 c oc b' (get_ops.2 k1) k2 q2
                  rw [q2]
                  exact List.mem_cons_of_mem _ (by simpa using this)
              have := hqs _ hin
              simpa using this
            · show ((recs[0]?).getD r).f = f; rw [e0, g3]
            · show ((recs[0]?).getD r).st = _; rw [e0, g4]
            · show r.f = ((recs[ops.size]?).getD r).f; rw [hlast]; rfl
            · show wake st.next (fun j => !r.m.testBit j) r.pend r.st = _
              simp only [hlast, Option.getD_some]
          · cases h
end Go.VS
