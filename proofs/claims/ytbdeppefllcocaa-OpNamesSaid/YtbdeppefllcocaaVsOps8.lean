/- One operation of the evaluator is one of the model: iterators over maps, assertions. No conditions. -/
import Derived.Test.YtbdeppefllcocaaVsOps7
namespace Go.VS
set_option linter.unusedSimpArgs false
set_option linter.unusedVariables false
open Go.RowKit
section
variable {P : Program} {K : Prot} {β : Env} {st : St} {w : World}

theorem sound_next_map (hr : Rel P K β st w) {ρ ρ' : Operand → Value} (hρ : ∀ x, VR β (ρ x) (ρ' x)) {o : Oper} {out : Out} {it : Operand} (ho : o.op = .next it false) (h : evOp P ρ o st = some out) :
    OutR P K β st w ((execOp ρ' o).run P w) out := by
  simp only [evOp, ho] at h
  have hx := hρ it
  have over : VR β (.tuple #[.bool false]) (.tuple #[.bool false]) := ⟨_, rfl, VRL.cons rfl VRL.nil⟩
  split at h
  · rename_i r sp hv
    rw [hv] at hx
    obtain ⟨hs, l, hl, hx⟩ := hx.ptr'
    have hs : sp = none := hs
    subst hs
    split at h
    · rename_i a b c hg
      obtain ⟨l', g1, g2, g3⟩ := hr.blk _ _ hg rfl
      obtain rfl : l' = l := by rw [g1] at hl; exact Option.some.inj hl
      obtain ⟨hvt, hbase, m', hm, g3⟩ := g3
      have hm : m' = none := by have : Value.map m' = .map none := hm; simpa using this
      subst hm
      obtain rfl := Option.some.inj h
      refine OutR.same hr (v' := .tuple #[.bool false]) ?_ over
      simp only [execOp, ho]
      refine run_v ?_
      simp [hx, hbase, Instr.next, run_getObj_of g3 (by intros; simp)]
    · rename_i m since seen last hg
      obtain ⟨l', g1, g2, g3⟩ := hr.blk _ _ hg rfl
      obtain rfl : l' = l := by rw [g1] at hl; exact Option.some.inj hl
      obtain ⟨hvt, hbase, m', hm, g3⟩ := g3
      obtain ⟨lm, hlm, hm⟩ := hm
      have hm : m' = some lm.blk := by simpa using hm
      subst hm
      split at h
      · rename_i es clock hgm
        obtain ⟨lm', es', k1, k2, k3, k4⟩ := hr.get_map hgm
        obtain rfl : lm' = lm := by rw [k1] at hlm; exact Option.some.inj hlm
        split at h
        · cases h
        · rename_i hguard
          have hguard' : (!seen.isEmpty && !es'.isEmpty && es'.all (fun e => decide (e.born ≥ last))) = false := by
            have e1 := k4.isEmpty
            have e2 := all_rel (fun b => decide (b ≥ last)) k4
            have e3 : es'.isEmpty = es'.toList.isEmpty := by simp
            have e4 : es'.all (fun e => decide (e.born ≥ last)) = es'.toList.all (fun e => decide (e.born ≥ last)) := by simp
            rw [e3, e4, ← e1, ← e2]
            simpa using hguard
          have hleft := filter_rel (fun b => !seen.contains b) k4
          have hold := filter_rel (fun b => decide (b < since)) hleft
          have hnew := filter_rel (fun b => decide (b ≥ since)) hleft
          generalize hL : es.filter (fun e => !seen.contains e.born) = left at *
          have hL' : (es'.filter fun e => !(⟨seen⟩ : Array Nat).contains e.born) = ⟨es'.toList.filter fun e => !seen.contains e.born⟩ := by
            apply Array.ext'; simp
          generalize hLc : es'.toList.filter (fun e => !seen.contains e.born) = left' at *
          split at h
          · rename_i ho0 hn0
            obtain rfl := Option.some.inj h
            rw [ho0] at hold
            rw [hn0] at hnew
            have hold : left'.filter (fun e => decide (e.born < since)) = [] := hold
            have hnew : left'.filter (fun e => decide (e.born ≥ since)) = [] := hnew
            refine OutR.same hr (v' := .tuple #[.bool false]) ?_ over
            simp only [execOp, ho]
            refine run_v ?_
            simp only [Instr.next, hx, hbase, Nat.zero_add]
            simp only [Sem.run_bind, run_getObj_of g3 (by intros; simp), Result.andThen, MapKept.run_getObj_map k3]
            have hg2 : (!(⟨seen⟩ : Array Nat).isEmpty && !es'.isEmpty && es'.all (fun e => decide (e.born ≥ last))) = false := by simpa using hguard'
            simp only [hg2, Bool.false_eq_true, if_false, hL']
            simp only [List.filter_toArray, hold, hnew, List.append_toArray, List.append_nil, List.map_toArray, List.map_nil, List.isEmpty_toArray, List.isEmpty_nil, if_true]
            simp [Question.forced]
          · rename_i e0 ho1 hn0
            obtain rfl := Option.some.inj h
            rw [ho1] at hold
            rw [hn0] at hnew
            obtain ⟨e', es2, he, hb, hk, hvv, hrest⟩ := hold
            have hrest : es2 = [] := hrest
            subst hrest
            have hnew : left'.filter (fun e => decide (e.born ≥ since)) = [] := hnew
            have hbk : BlkR P β l' (.miter (some m) since (seen ++ [e0.born]) clock) (some (.mapIter (some lm'.blk) since ((⟨seen⟩ : Array Nat).push e'.born) clock)) :=
              ⟨hvt, hbase, some lm'.blk, ⟨lm', k1, rfl⟩, by simp [hb]⟩
            obtain ⟨q1, q2⟩ := hr.putObj hg rfl g1 hbk
            refine ⟨β, _, .tuple #[.bool true, e'.key, e'.val], ?_, Env.le.refl _, q1, ⟨_, rfl, VRL.cons rfl (VRL.cons hk (VRL.cons hvv VRL.nil))⟩, q2⟩
            simp only [execOp, ho]
            refine run_v ?_
            simp only [Instr.next, hx, hbase, Nat.zero_add]
            simp only [Sem.run_bind, run_getObj_of g3 (by intros; simp), Result.andThen, MapKept.run_getObj_map k3]
            have hg2 : (!(⟨seen⟩ : Array Nat).isEmpty && !es'.isEmpty && es'.all (fun e => decide (e.born ≥ last))) = false := by simpa using hguard'
            simp only [hg2, Bool.false_eq_true, if_false, hL']
            simp only [List.filter_toArray, he, hnew, List.append_toArray, List.append_nil, List.map_toArray, List.map_nil, List.isEmpty_toArray, List.isEmpty_cons, List.map_cons, if_false, Bool.false_eq_true, List.nil_append]
            simp [Question.forced, run_setObj_of g3 (by intros; simp)]
          · cases h
      · cases h
    · cases h
  · cases h

theorem sound_entry (hr : Rel P K β st w) {ρ ρ' : Operand → Value} (hρ : ∀ x, VR β (ρ x) (ρ' x)) {o : Oper} {out : Out} {it : Operand} (ho : o.op = .entry it) (h : evOp P ρ o st = some out) :
    OutR P K β st w ((execOp ρ' o).run P w) out := by
  simp only [evOp, ho] at h
  have hx := hρ it
  split at h
  · rename_i r sp hv
    rw [hv] at hx
    obtain ⟨hs, l, hl, hx⟩ := hx.ptr'
    have hs : sp = none := hs
    subst hs
    split at h
    · rename_i m since seen stepped hg
      obtain ⟨l', g1, g2, g3⟩ := hr.blk _ _ hg rfl
      obtain rfl : l' = l := by rw [g1] at hl; exact Option.some.inj hl
      obtain ⟨hvt, hbase, m', hm, g3⟩ := g3
      obtain ⟨lm, hlm, hm⟩ := hm
      have hm : m' = some lm.blk := by simpa using hm
      subst hm
      split at h
      · rename_i stamp es clock hst hgm
        obtain ⟨lm', es', k1, k2, k3, k4⟩ := hr.get_map hgm
        obtain rfl : lm' = lm := by rw [k1] at hlm; exact Option.some.inj hlm
        split at h
        · cases h
        · rename_i hck
          have hck : clock = stepped := by simpa using hck
          split at h
          · rename_i e he
            obtain rfl := Option.some.inj h
            obtain ⟨e', f1, f2, f3⟩ := find_rel (fun b => b == stamp) k4 he
            refine OutR.same hr (v' := .tuple #[e'.key, e'.val]) ?_ ⟨_, rfl, VRL.cons f2 (VRL.cons f3 VRL.nil)⟩
            simp only [execOp, ho]
            refine run_v ?_
            have hback : (⟨seen⟩ : Array Nat).back? = some stamp := by simpa using hst
            have f1' : es'.find? (fun e => e.born == stamp) = some e' := by simpa using f1
            simp [hx, hbase, Instr.entry, run_getObj_of g3 (by intros; simp), MapKept.run_getObj_map k3, hback, f1', hck]
          · cases h
      · cases h
    · cases h
  · cases h

theorem sound_typeAssert (hr : Rel P K β st w) {ρ ρ' : Operand → Value} (hρ : ∀ x, VR β (ρ x) (ρ' x)) {o : Oper} {out : Out} {x : Operand} {t asserted : TypeId} {ok : Bool} (ho : o.op = .typeAssert x t asserted ok) (h : evOp P ρ o st = some out) :
    OutR P K β st w ((execOp ρ' o).run P w) out := by
  simp only [evOp, ho] at h
  have hx := hρ x
  have fin : ∀ {v v' : Value}, VR β v v' → VR β (if ok then .tuple #[v, .bool true] else v) (if ok then .tuple #[v', .bool true] else v') := by
    intro v v' hv
    split
    · exact ⟨_, rfl, VRL.cons hv (VRL.cons rfl VRL.nil)⟩
    · exact hv
  split at h
  · rename_i want u v hu ha
    split at h
    · cases h
    rename_i htl
    have htl : u < FZ := Nat.not_le.1 htl
    rw [ha] at hx
    obtain ⟨v', hx, hv⟩ := hx.iface_of htl
    split at h
    · rename_i i hi
      split at h
      · rename_i hm
        obtain rfl := Option.some.inj h
        refine OutR.same hr ?_ (fin (v := .iface u v) (v' := .iface u v') (hv.iface_mk htl))
        simp only [execOp, ho]
        refine run_v ?_
        simp [Instr.typeAssert, run_underlying hu, hx, typeInfo, hi, hm]
      · rename_i miss hm
        split at h
        · cases h
        · cases h
    · cases h
  · split at h
    · cases h
    · cases h
  · rename_i d hni hu ha
    split at h
    · rename_i hok
      split at h
      · rename_i z hz
        obtain rfl := Option.some.inj h
        obtain ⟨i, hi, hzz, hfl⟩ := zeroOfT_spec hz
        rw [ha] at hx
        have hx : ρ' x = .nilIface := hx
        refine OutR.same hr (v' := .tuple #[z, .bool false]) ?_ ⟨_, rfl, VRL.cons (VR.flat_refl z hfl) (VRL.cons rfl VRL.nil)⟩
        simp only [execOp, ho]
        refine run_v ?_
        cases d <;> first | exact absurd rfl (hni _) | simp [Instr.typeAssert, run_underlying hu, hx, hok, run_zeroValue hi hzz]
      · cases h
    · cases h
  · rename_i d u v hni hu ha
    split at h
    · cases h
    rename_i htl
    have htl : u < FZ := Nat.not_le.1 htl
    rw [ha] at hx
    obtain ⟨v', hx, hv⟩ := hx.iface_of htl
    split at h
    · rename_i htu
      obtain rfl := Option.some.inj h
      refine OutR.same hr ?_ (fin hv)
      simp only [execOp, ho]
      refine run_v ?_
      cases d <;> first | exact absurd rfl (hni _) | simp [Instr.typeAssert, run_underlying hu, hx, htu]
    · rename_i htu
      split at h
      · rename_i hok
        split at h
        · rename_i z hz
          obtain rfl := Option.some.inj h
          obtain ⟨i, hi, hzz, hfl⟩ := zeroOfT_spec hz
          refine OutR.same hr (v' := .tuple #[z, .bool false]) ?_ ⟨_, rfl, VRL.cons (VR.flat_refl z hfl) (VRL.cons rfl VRL.nil)⟩
          simp only [execOp, ho]
          refine run_v ?_
          cases d <;> first | exact absurd rfl (hni _) | simp [Instr.typeAssert, run_underlying hu, hx, htu, hok, run_zeroValue hi hzz]
        · cases h
      · cases h
  · cases h

end
end Go.VS
