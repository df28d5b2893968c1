/- The engine for values of unknown content: operations. No conditions. -/
import Derived.Test.YtdhloodnajdfbaaGreatVsSym2
namespace Go.VS
set_option linter.unusedSimpArgs false
set_option linter.unusedVariables false
section
variable {P : Program}
variable {call : Knot} {s : Trie Value} {o : Oper} {st : St} {kv : Value → St → Res} {kd : Deferred → St → Res} {r : Value × St}

theorem s_pick_spec {dst type pos after guard} {c a b : Operand} (h : s_pick c a b call s st kv kd = some r) : Hands call kv kd (evOp P (rdF s) ⟨dst, .pick c a b, type, pos, after, guard⟩ st) r := by
  unfold s_pick at h
  split at h
  · rename_i t ht
    simp only [evOp, ht]
    cases t <;> exact h
  · cases h

theorem s_append_spec {dst type pos after guard} {c : Call} {x y : Operand} {tx ty e : TypeId} {size : Nat} {str : Bool} (hc1 : c.callee = .builtin .append) (hc2 : c.args.toList = [x, y]) (hc3 : c.argTypes.toList = [tx, ty]) (hk : appK P tx ty = some (e, size, str))
    (h : s_append P ⟨dst, .call c, type, pos, after, guard⟩ e size str x y call s st kv kd = some r) : Hands call kv kd (evOp P (rdF s) ⟨dst, .call c, type, pos, after, guard⟩ st) r := by
  unfold appK at hk
  simp only [undQ_eq, infoQ_eq, zeroQ_eq] at hk
  split at hk
  · rename_i e' xt hs hx
    split at hk
    · rename_i str' ei z hxt hi hz
      split at hk
      · cases hk
      · rename_i hcond
        simp only [Option.some.injEq, Prod.mk.injEq] at hk
        obtain ⟨rfl, rfl, rfl⟩ := hk
        have ht0 : c.argTypes[0]? = some tx := by rw [← Array.getElem?_toList, hc3]; rfl
        have ht1 : c.argTypes[1]? = some ty := by rw [← Array.getElem?_toList, hc3]; rfl
        have hev : evOp P (rdF s) ⟨dst, .call c, type, pos, after, guard⟩ st = match appendS P st tx ty (rdF s x) (rdF s y) with
          | some (v, st) => some (.val v st)
          | none => none := by
          simp only [evOp, hc1, hc2, List.map_cons, List.map_nil, builtinS, ht0, ht1]
          cases appendS P st tx ty (rdF s x) (rdF s y) <;> rfl
        rw [hev]
        have happ : appendS P st tx ty (rdF s x) (rdF s y) = match tailOf st ei.size xt (rdF s y) with
            | some (n, new) => if new.all oneCell then appendTo P st e' ei.size n new (rdF s x) else none
            | none => none := by
          simp only [appendS, hs, hx, hi, hz]
          rw [if_neg hcond]
          cases tailOf st ei.size xt (rdF s y) <;> rfl
        have key : (∃ v st', appendS P st tx ty (rdF s x) (rdF s y) = some (v, st') ∧ kv v st' = some r) → Hands call kv kd (match appendS P st tx ty (rdF s x) (rdF s y) with
          | some (v, st) => some (.val v st)
          | none => none) r := by
          rintro ⟨v, st', h1, h2⟩
          rw [h1]; exact h2
        apply key
        unfold s_append at h
        obtain ⟨n, new, h1, h2⟩ := s_tail_spec hxt h
        obtain ⟨h3, h4⟩ := needB_spec h2
        rw [happ, h1]
        simp only [h3, if_true]
        refine s_appendTo_spec (fun hsl => ?_) h4
        have := slowOp_spec hsl
        rw [hev, happ, h1] at this
        simp only [h3, if_true] at this
        cases hx : appendTo P st e' ei.size n new (rdF s x) with
        | none => rw [hx] at this; exact this.elim
        | some p => rw [hx] at this; exact ⟨p.1, p.2, rfl, this⟩
    · cases hk
  · cases hk

theorem compS_spec (h : (compS P o).run call s st kv kd = some r) : Hands call kv kd (evOp P (rdF s) o st) r := by
  obtain ⟨dst, op, type, pos, after, guard⟩ := o
  unfold compS at h
  simp only at h
  split at h
  · exact s_pick_spec h
  · split at h
    · rename_i hk
      split at h
      · exact s_load1_spec hk h
      · exact opF_spec h
    · exact opF_spec h
  · rename_i t x ix
    split at h
    · rename_i hs
      unfold isStr at hs
      rw [undQ_eq] at hs
      split at hs
      · exact s_index_spec ‹_› h
      · cases hs
    · exact opF_spec h
  · split at h
    · exact s_indexAddr_spec ‹_› h
    · exact opF_spec h
  · split at h
    · rename_i hs
      unfold isStr at hs
      rw [undQ_eq] at hs
      split at hs
      · exact s_slice_string_spec ‹_› h
      · cases hs
    · split at h
      · exact s_slice_spec ‹_› h
      · exact opF_spec h
  · split at h
    · exact s_toString_spec ‹_› h
    · exact s_toBytes_spec ‹_› h
    · split at h
      · exact s_cvI_spec ‹_› h
      · exact slowOp_spec h
  · split at h
    · exact s_shl_spec h
    · exact s_shr_spec h
    · exact s_quo_spec h
    · exact s_rem_spec h
    · exact s_add_spec h
    · exact s_int_spec (f := subI) (hf := fun k a b => by simp only [binOp, Op.intArith, ne_eq, not_true_eq_false, if_false]; rfl) h
    · exact s_int_spec (f := mulI) (hf := fun k a b => by simp only [binOp, Op.intArith, ne_eq, not_true_eq_false, if_false]; rfl) h
    · exact s_int_spec (f := andI) (hf := fun k a b => by simp only [binOp, Op.intBits, ne_eq, not_true_eq_false, if_false]; rfl) h
    · exact s_int_spec (f := orI) (hf := fun k a b => by simp only [binOp, Op.intBits, ne_eq, not_true_eq_false, if_false]; rfl) h
    · exact s_int_spec (f := xorI) (hf := fun k a b => by simp only [binOp, Op.intBits, ne_eq, not_true_eq_false, if_false]; rfl) h
    · exact s_int_spec (f := clrI) (hf := fun k a b => by simp only [binOp, Op.intBits, ne_eq, not_true_eq_false, if_false]; rfl) h
    · exact s_eql_spec h
    · exact s_neq_spec h
    · exact s_cmp_spec (f := ltI) (g := ltS) (str := true) (hf := fun k a b => by simp only [binOp, Op.intCmp, ne_eq, not_true_eq_false, if_false]; rfl) (hg := fun _ a b => by simp only [binOp, Op.stringOp]; rfl) h
    · exact s_cmp_spec (f := leI) (g := leS) (str := true) (hf := fun k a b => by simp only [binOp, Op.intCmp, ne_eq, not_true_eq_false, if_false]; rfl) (hg := fun _ a b => by simp only [binOp, Op.stringOp]; rfl) h
    · exact s_cmp_spec (f := gtI) (g := gtS) (str := true) (hf := fun k a b => by simp only [binOp, Op.intCmp, ne_eq, not_true_eq_false, if_false]; rfl) (hg := fun _ a b => by simp only [binOp, Op.stringOp]; rfl) h
    · exact s_cmp_spec (f := geI) (g := geS) (str := true) (hf := fun k a b => by simp only [binOp, Op.intCmp, ne_eq, not_true_eq_false, if_false]; rfl) (hg := fun _ a b => by simp only [binOp, Op.stringOp]; rfl) h
  · exact s_not_spec h
  · rename_i c
    split at h
    · rename_i h1 h2 h3
      split at h
      · rename_i r' hr
        exact s_append_spec h1 h2 h3 hr h
      · exact opF_spec h
    · rename_i h1 h2
      split at h
      · exact s_len1_spec h1 h2 ‹_› h
      · exact s_len2_spec h1 h2 ‹_› h
      · exact slowOp_spec h
    · rename_i h1 h2
      exact s_min2_spec h1 h2 (fun _ _ _ _ => rfl) h
    · rename_i h1 h2
      exact s_min2_spec h1 h2 (fun _ _ _ _ => rfl) h
    · exact opF_spec h
  · exact opF_spec h
end
end Go.VS
