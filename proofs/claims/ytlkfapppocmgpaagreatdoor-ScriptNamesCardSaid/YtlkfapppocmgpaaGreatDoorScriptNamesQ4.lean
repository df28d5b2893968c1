/- Texts of the proof, merged: VsApp, OpB, VsDeep, VsFrzC, VsCan, VsCanL, VsEnc, VsCon, VsX, VsShelf, Sc1, Ra0, Op1, Op2, Op3, Op4, Op5, Op6, Sc2, Sc3, Sc4, Sc5, Sc6, VsPick. No conditions. -/
import Derived.Test.YtlkfapppocmgpaaGreatDoorScriptNamesQ3
import Derived.Test.YtlkfapppocmgpaaGreatDoorProg
import Derived.KernelRfl
import Derived.Laws.AppendOwn
import Derived.Test.YtlkfapppocmgpaaGreatDoorShelf
set_option linter.unusedSimpArgs false
set_option linter.unusedVariables false
section
namespace Go.VS
section
variable {P : Program} {K : Prot} {β : Env} {st : St} {w : World}
theorem shift_rel (hr : Rel P K β st w) {a : Addr} {c : List Value} {e : TypeId} {len : Nat} {v' : Value} (hg : st.heap.get a.block = some (.cells c e false)) (ho : a.off ≤ c.length) (hv : VR β (.slice (some a) len unk) v') :
    ∃ β', β.le β' ∧ Rel P K β' (newRow (kill st a.block) (c.drop a.off) e false).2 w ∧ VR β' (.slice (some (newRow (kill st a.block) (c.drop a.off) e false).1) len unk) v' := by
  simp only [VR] at hv
  obtain ⟨hs, l, hl, hsl⟩ := hv
  obtain ⟨l', k1, hbk⟩ := hr.get_cells hg
  obtain rfl : l' = l := by rw [k1] at hl; exact Option.some.inj hl
  rcases hbk with ⟨hvt, hc, _⟩ | ⟨hvt, k2, cc, f, k3, k4, k5, k6, k7, k8, k9⟩
  · subst hc
    have hk := hr.kill a.block (by intro o e; rw [hg] at e; cases e)
    have hv := hk.virt e 0 0
    refine ⟨_, hk.le_put _, by rw [List.drop_nil]; exact hv, ⟨rfl, _, put_same _ _ _, ?_⟩⟩
    unfold SliceR at hsl ⊢
    rw [if_pos hvt] at hsl
    rw [if_pos rfl]
    exact ⟨hsl.1, rfl, Or.inr rfl, hsl.2.2.2⟩
  · unfold SliceR at hsl
    rw [if_neg (by simp [hvt]), if_neg (by simp), if_pos rfl] at hsl
    refine ⟨β.put st.next ⟨l'.blk, l'.base + a.off, l'.total - a.off, l'.esize, none, false⟩, hr.le_put _, hr.move hg rfl rfl rfl k1 hvt rfl rfl rfl (fun _ _ => rfl) ?_, ⟨rfl, _, put_same _ _ _, ?_⟩⟩
    · refine BlkR.mono (hr.le_put _) (Or.inr ⟨rfl, cc, f, k3, k4, by show l'.base + a.off + (l'.total - a.off) ≤ _; omega, by rw [List.length_drop]; show _ ≤ l'.total - a.off; omega, fun h => (by cases h), ?_, k9.1, fun _ => by have := k9.2 rfl; show l'.total - a.off < 9223372036854775808 * l'.esize; omega⟩)
      have hh := k8.drop a.off
      rw [List.drop_take, List.drop_drop] at hh
      rw [List.length_drop]
      exact hh
    · unfold SliceR
      rw [if_neg (by simp), if_neg (by simp), if_pos rfl]
      refine ⟨?_, Nat.zero_le _⟩
      rw [hsl.1]
      show _ = Value.slice (some ⟨l'.blk, l'.base + a.off + 0, none⟩) len ((l'.total - a.off - 0) / l'.esize)
      rfl
noncomputable def needT {α : Type} (b : Bool) (t : DT α) : DT α := .ite b t .fail
theorem needT_spec {α : Type} {b : Bool} {t : DT α} {r : α} (h : (needT b t).eval = some r) : b = true ∧ t.eval = some r := by
  cases b with
  | true => exact ⟨rfl, h⟩
  | false => cases h
noncomputable def tailT {α : Type} (str : Bool) (size : Nat) (st : St) (x : Value) (k : Nat → List Value → DT α) : DT α := match str with
  | false => match x with
    | .slice (some a) n _ => match a.spot, getP (path a.block) st.heap with
      | none, some (.cells c _ _) => needT (Nat.ble (Nat.add a.off (Nat.mul n size)) c.length) (k n (takeC (Nat.mul n size) (dropC a.off c)))
      | _, _ => .fail
    | .slice none n _ => needT (Nat.beq n 0) (k 0 [])
    | .iface t v => match fzOf (.iface t v) with
      | some z => needT (Nat.beq z.sz size) (k z.n z.cells)
      | none => .fail
    | _ => .fail
  | true => match x with
    | .string b => needT (Nat.beq size 1) (k b.size (byteCells b))
    | _ => .fail
theorem tailT_spec {α : Type} {str : Bool} {size : Nat} {x : Value} {k : Nat → List Value → DT α} {r : α} {xt : TypeDesc} (hxt : (match xt with | .slice _ => some false | .string => some true | _ => none) = some str) (h : (tailT str size st x k).eval = some r) :
    ∃ n new, tailOf st size xt x = some (n, new) ∧ (k n new).eval = some r := by
  unfold tailT at h
  split at h
  · have hx : ∃ e, xt = .slice e := by
      cases xt <;> simp at hxt ⊢
    obtain ⟨e, rfl⟩ := hx
    split at h
    · rename_i a n cap
      split at h
      · rename_i c e' ex hs hg
        rw [getP_path] at hg
        obtain ⟨hle, h3⟩ := needT_spec h
        have hle : a.off + n * size ≤ c.length := Nat.le_of_ble_eq_true hle
        exact ⟨n, (c.drop a.off).take (n * size), by simp only [tailOf, cellsAt, hs, hg, Option.isSome_none, Bool.false_eq_true, if_false, hle, if_true], h3⟩
      · cases h
    · rename_i n cap
      obtain ⟨hc, h⟩ := needT_spec h
      exact ⟨_, _, by simp only [tailOf, Nat.eq_of_beq_eq_true hc, if_true], h⟩
    · rename_i t v
      split at h
      · rename_i z hz
        obtain ⟨hc, h⟩ := needT_spec h
        exact ⟨_, _, by simp only [tailOf, hz, Nat.eq_of_beq_eq_true hc, if_true], h⟩
      · cases h
    · cases h
  · have hx : xt = .string := by
      cases xt <;> simp at hxt ⊢
    subst hx
    split at h
    · rename_i b
      obtain ⟨hc, h⟩ := needT_spec h
      exact ⟨_, _, by simp only [tailOf, Nat.eq_of_beq_eq_true hc, if_true], h⟩
    · cases h
noncomputable def oldC (off : Nat) (c : List Value) : List Value := match off with
  | 0 => c
  | k + 1 => dropC (k + 1) c
theorem oldC_eq (off : Nat) (c : List Value) : oldC off c = c.drop off := by cases off <;> rfl
noncomputable def appT (e : TypeId) (size n : Nat) (new : List Value) (st : St) (s : Value) : Option (DT (Value × St)) := match s with
  | .slice none len cap => some (needT (and (Nat.beq len 0) (and (Nat.beq cap 0) (Nat.ble n big))) (.leaf (.slice (some ⟨st.next, 0, none⟩) n unk, ⟨setP (path st.next) st.heap (.cells new e false), Nat.succ st.next⟩)))
  | .slice (some a) len cap => match Nat.beq cap unk with
    | true => match a.spot, getP (path a.block) st.heap with
      | none, some (.cells c e' ex) => some (needT (and (not ex) (Nat.beq e' e)) (needT (Nat.ble (Nat.add len n) big) (needT (Nat.beq (Nat.add a.off (Nat.mul len size)) c.length)
          (.leaf (.slice (some ⟨st.next, 0, none⟩) (Nat.add len n) unk, ⟨setP (path st.next) (setP (path a.block) st.heap .dead) (.cells (List.append (oldC a.off c) new) e false), Nat.succ st.next⟩)))))
      | _, _ => none
    | false => none
  | _ => none
noncomputable def symOp (P : Program) (o : Oper) (ρ : Operand → Value) (st : St) : Option (DT (Value × St)) := match o.op with
  | .call c => match c.callee, c.args.toList, c.argTypes.toList with
    | .builtin .append, [x, y], [tx, ty] => match appK P tx ty with
      | some r => match appT r.1 r.2.1 0 [] st (ρ x) with
        | some _ => some (tailT r.2.2 r.2.1 st (ρ y) fun n new => match appT r.1 r.2.1 n new st (ρ x) with
          | some t => needT (new.all oneCell) t
          | none => .fail)
        | none => none
      | none => none
    | _, _, _ => none
  | _ => none
theorem symOp_ok (hN : noNum P = true) (o : Oper) (ρ : Operand → Value) (st : St) (v : Value) (st' : St) (h : (symOp P o ρ st).bind DT.eval = some (v, st')) :
    isDefer o.op = false ∧ ∀ (K : Prot) (β : Env) (w : World) (ρ' : Operand → Value), (∀ x, VR β (ρ x) (ρ' x)) → Rel P K β st w → OutR P K β st w ((execOp ρ' o).run P w) (.val v st') := by
  obtain ⟨dst, op, type, pos, after, guard⟩ := o
  unfold symOp at h
  simp only at h
  split at h
  · rename_i c
    refine ⟨rfl, fun K β w ρ' hρ hr => ?_⟩
    split at h
    · rename_i x y tx ty hc1 hc2 hc3
      split at h
      · rename_i rr hk
        obtain ⟨e, size, str⟩ := rr
        simp only at h
        split at h
        · simp only [Option.bind_some] at h
          unfold appK at hk
          simp only [undQ_eq, infoQ_eq, zeroQ_eq] at hk
          split at hk
          · rename_i e' xt hs hx
            split at hk
            · rename_i str' ei z hxt hi hz
              split at hk
              · cases hk
              · rename_i hcond
                simp only [Option.some.injEq, Prod.mk.injEq] at hk
                obtain ⟨rfl, rfl, rfl⟩ := hk
                have ht0 : c.argTypes[0]? = some tx := by rw [← Array.getElem?_toList, hc3]; rfl
                have ht1 : c.argTypes[1]? = some ty := by rw [← Array.getElem?_toList, hc3]; rfl
                have hev : evOp P ρ ⟨dst, .call c, type, pos, after, guard⟩ st = match appendS P st tx ty (ρ x) (ρ y) with
                  | some (v, st) => some (.val v st)
                  | none => none := by
                  simp only [evOp, hc1, hc2, List.map_cons, List.map_nil, builtinS, ht0, ht1]
                  cases appendS P st tx ty (ρ x) (ρ y) <;> rfl
                have happ : appendS P st tx ty (ρ x) (ρ y) = match tailOf st ei.size xt (ρ y) with
                    | some (n, new) => if new.all oneCell then appendTo P st e' ei.size n new (ρ x) else none
                    | none => none := by
                  simp only [appendS, hs, hx, hi, hz]
                  rw [if_neg hcond]
                  cases tailOf st ei.size xt (ρ y) <;> rfl
                obtain ⟨n, new, h1, h2⟩ := tailT_spec hxt h
                split at h2
                · rename_i t happT
                  obtain ⟨hone, h3⟩ := needT_spec h2
                  obtain ⟨new', hsrc, hnew⟩ := tailOf_src hr (hρ y) hx h1 hone
                  have hlen : new.length = n * ei.size := by rw [hnew.length, hsrc.newsLen]
                  have hev2 : evOp P ρ ⟨dst, .call c, type, pos, after, guard⟩ st = match appendTo P st e' ei.size n new (ρ x) with
                      | some (v, st) => some (.val v st)
                      | none => none := by
                    rw [hev, happ, h1]
                    simp only [hone, if_true]
                  unfold appT at happT
                  split at happT
                  · rename_i len cap hsx
                    obtain rfl := Option.some.inj happT
                    obtain ⟨hc, h3⟩ := needT_spec h3
                    simp only [DT.eval, Option.some.injEq, Prod.mk.injEq] at h3
                    obtain ⟨rfl, rfl⟩ := h3
                    simp only [Bool.and_eq_true] at hc
                    have c1 := Nat.eq_of_beq_eq_true hc.1
                    have c2 := Nat.eq_of_beq_eq_true hc.2.1
                    have c3 := Nat.le_of_ble_eq_true hc.2.2
                    subst c1 c2
                    have hst : (⟨setP (path st.next) st.heap (.cells new e' false), Nat.succ st.next⟩ : St) = (newRow st new e' false).2 := by rw [setP_path]; rfl
                    rw [hst]
                    by_cases hn : n = 0
                    · subst hn
                      have : new = [] := List.eq_nil_of_length_eq_zero (by omega)
                      subst this
                      have hap : appendTo P st e' ei.size 0 [] (ρ x) = some (.slice none 0 0, st) := by
                        rw [hsx]; simp only [appendTo]
                        rw [if_neg (by simp)]; rfl
                      rw [hap] at hev2
                      obtain ⟨β', w', v', r1, r2, r3, r4, r5⟩ := evOp_sound hN hr hρ hev2
                      refine ⟨_, w', v', r1, r2.trans (r3.le_put _), r3.virt e' 0 0, ⟨rfl, _, put_same _ _ _, ?_⟩, r5⟩
                      unfold SliceR
                      rw [if_pos rfl]
                      exact ⟨rfl, rfl, Or.inr rfl, r4⟩
                    · have hap : appendTo P st e' ei.size n new (ρ x) = some (.slice (some (newRow st new e' false).1) n unk, (newRow st new e' false).2) := by
                        rw [hsx]; simp only [appendTo]
                        rw [if_neg (by simp; omega), if_neg hn]
                      rw [hap] at hev2
                      exact evOp_sound hN hr hρ hev2
                  · rename_i a len cap hsx
                    split at happT
                    · rename_i hcap
                      have hcap := Nat.eq_of_beq_eq_true hcap
                      subst hcap
                      split at happT
                      · rename_i c0 e0 ex hsp hg
                        rw [getP_path] at hg
                        obtain rfl := Option.some.inj happT
                        obtain ⟨d1, h3⟩ := needT_spec h3
                        obtain ⟨d2, h3⟩ := needT_spec h3
                        obtain ⟨d3, h3⟩ := needT_spec h3
                        simp only [DT.eval, Option.some.injEq, Prod.mk.injEq] at h3
                        obtain ⟨rfl, rfl⟩ := h3
                        simp only [Bool.and_eq_true, Bool.not_eq_true'] at d1
                        obtain ⟨rfl, d1⟩ := d1
                        have d1 := Nat.eq_of_beq_eq_true d1
                        have d2 : len + n ≤ big := Nat.le_of_ble_eq_true d2
                        have d3 : a.off + len * ei.size = c0.length := Nat.eq_of_beq_eq_true d3
                        subst d1
                        have hst : (⟨setP (path st.next) (setP (path a.block) st.heap .dead) (.cells (List.append (oldC a.off c0) new) e0 false), Nat.succ st.next⟩ : St) = (newRow (kill st a.block) (c0.drop a.off ++ new) e0 false).2 := by
                          rw [setP_path, setP_path, oldC_eq]; rfl
                        have htk : (c0.drop a.off).take (len * ei.size) = c0.drop a.off := List.take_of_length_le (by rw [List.length_drop]; omega)
                        rw [hst]
                        by_cases hn : n = 0
                        · subst hn
                          have : new = [] := List.eq_nil_of_length_eq_zero (by omega)
                          subst this
                          have hap : appendTo P st e0 ei.size 0 [] (ρ x) = some (.slice (some a) len unk, st) := by
                            rw [hsx]; simp only [appendTo]
                            rw [if_neg (by omega), if_neg (by omega), hg]
                            simp only
                            rw [if_neg (by simp [hsp]; omega), if_pos trivial, if_pos (by omega)]
                          rw [hap] at hev2
                          obtain ⟨β', w', v', r1, r2, r3, r4, r5⟩ := evOp_sound hN hr hρ hev2
                          obtain ⟨β2, q1, q2, q3⟩ := shift_rel r3 hg (by omega) r4
                          rw [List.append_nil]
                          exact ⟨β2, w', v', r1, r2.trans q1, q2, q3, r5⟩
                        · have hap : appendTo P st e0 ei.size n new (ρ x) = some (.slice (some (newRow (kill st a.block) (c0.drop a.off ++ new) e0 false).1) (len + n) unk, (newRow (kill st a.block) (c0.drop a.off ++ new) e0 false).2) := by
                            rw [hsx]; simp only [appendTo]
                            rw [if_neg (by omega), if_neg (by omega), hg]
                            simp only
                            rw [if_neg (by simp [hsp]; omega), if_neg hn, if_pos (by rw [Nat.sub_self, Nat.add_zero]; exact d3), htk]
                          rw [hap] at hev2
                          exact evOp_sound hN hr hρ hev2
                      · cases happT
                    · cases happT
                  · cases happT
                · cases h2
            · cases hk
          · cases hk
        · cases h
      · cases h
    · cases h
  · cases h
theorem symOp_congr (o : Oper) (ρ ρ' : Operand → Value) (st : St) (h : ∀ x ∈ o.op.operands, ρ x = ρ' x) : symOp P o ρ st = symOp P o ρ' st := by
  obtain ⟨dst, op, type, pos, after, guard⟩ := o
  cases op <;> first | rfl | skip
  rename_i c
  have hargs : ∀ x ∈ c.args.toList, ρ x = ρ' x := fun x hx => h x (by simp [Op.operands, Call.operands]; exact (by first | exact Or.inr (by simpa using hx) | exact Or.inl (by simpa using hx)))
  unfold symOp
  simp only
  split
  · rename_i x y tx ty h1 h2 h3
    rw [h2] at hargs
    rw [hargs x (by simp), hargs y (by simp)]
  · rfl
end
end Go.VS
end

section
namespace Go.VS.Tryz
set_option maxRecDepth 1000000
open Go.VS
noncomputable abbrev P : Program := Go.Proofs.Tryz.prog
noncomputable abbrev E : Eng := engS P
theorem noNum : VS.noNum P = true := by kernel_rfl
theorem engOk (ct : Ct) : EngOk P ct E := engS_ok P ct
theorem ok_of {ct : Ct} (hct : CtOk P ct) {g n : Nat} {R : CallFn} (h : ∀ args t, R args = some t → ∀ v bs, t.eval = some (v, bs) → callQ P E ct n g args = some (v, mkSt bs)) : CallOkR P g R :=
  ⟨fun args t hR v bs hev => CR.of (engOk ct) noNum hct (h args t hR v bs hev)⟩
def sl (b n : Nat) : Value := .slice (some ⟨b, 0, none⟩) n unk
def atB (v : Value) (b n : Nat) : Bool := match v with
  | .slice (some a) n' c => a.block == b && a.off == 0 && a.spot.isNone && n' == n && c == unk
  | _ => false
theorem atB_eq {v : Value} {b n : Nat} (h : atB v b n = true) : v = sl b n := by
  unfold atB at h
  split at h
  · rename_i a n' c
    simp only [Bool.and_eq_true, beq_iff_eq, Option.isNone_iff_eq_none] at h
    obtain ⟨⟨⟨⟨h1, h2⟩, h3⟩, h4⟩, h5⟩ := h
    obtain ⟨bb, oo, ss⟩ := a
    simp only at h1 h2 h3
    subst h1 h2 h3 h4 h5
    rfl
  · cases h
theorem atB_sl (b n : Nat) : atB (sl b n) b n = true := by simp [atB, sl]
theorem need_true {b : Bool} {x : Res} (h : b = true) : needB b x = x := by subst h; rfl
theorem ite_tt {x y : Res} : iteB true x y = x := rfl
theorem ite_ff {x y : Res} : iteB false x y = y := rfl
theorem not_tt : notB true = false := rfl
theorem not_ff : notB false = true := rfl
theorem beqS (s : ByteArray) : beqV (.string s) (.string s) = true := by simp [beqV]
theorem beqI (k : IntKind) (n : Int) : beqV (.int k n) (.int k n) = true := by simp [beqV]
theorem oldC_zero (c : List Value) : oldC 0 c = c := rfl
theorem size_eq (s : ByteArray) : s.size = s.data.toList.length := by rw [Array.length_toList]; rfl
end Go.VS.Tryz
end

section
namespace Go.VS
open Go.RowKit
section
variable {P : Program} {ct : Ct}
noncomputable def numsD (h : Nat → Option Blk) (n : Nat) : List Value → List Nat → List Nat :=
  @Nat.rec (fun _ => List Value → List Nat → List Nat) (fun _ acc => acc)
    (fun _ ih vs acc => match vs with
      | [] => acc
      | v :: vs => match (match v with
          | .slice (some a) _ _ => some a.block
          | .pointer (some a) => some a.block
          | .map (some r) => some r
          | _ => none) with
        | none => ih vs acc
        | some b => @Bool.rec (fun _ => List Nat)
            (match h b with
              | some (.cells c _ true) => ih (c.append vs) (acc.append [b])
              | _ => ih vs (acc.append [b]))
            (ih vs acc) (hasN acc b)) n
noncomputable def heapF (st : St) (i : Nat) : Option Blk := getP (path i) st.heap
noncomputable def callCtD (R : CallFnM) (args : List Value) (st : St) : Option (DT (Value × St)) :=
  match movs 0 (numsD (heapF st) 1000 args []) (fun i => getP (path i) st.heap) (numsD (heapF st) 1000 args []) with
  | some ms => match R (args.map (renV true (rhoO 0 (numsD (heapF st) 1000 args [])))) ms with
    | some t => some (t.map fun x => (renV true (backN (numsD (heapF st) 1000 args []) st.next) x.1, placeB (numsD (heapF st) 1000 args []) st x.2))
    | none => none
  | none => none
end
end Go.VS
end

section
namespace Go.VS
open Go.RowKit
section
variable {P : Program} {ct : Ct}
def capB (m c : Nat) : Bool := match Nat.ble unk c with
  | true => true
  | false => Nat.ble m c
noncomputable def frzC (P : Program) (off m c : Nat) (cs : List Value) (e : TypeId) : Bool := and (noRefL cs) (and (Nat.ble (Nat.add off (Nat.mul m (esz P e))) cs.length) (and (Nat.ble 1 (esz P e)) (capB m c)))
noncomputable def frzF (P : Program) (off m c : Nat) (cs : List Value) (e : TypeId) : Value := mkFz (esz P e) m 0 (takeC (Nat.mul m (esz P e)) (dropC off cs))
theorem fz_weak {β : Env} {s n b : Nat} {c : List Value} {v : Value} (hs : s ≠ 0) (h : VR β (mkFz s n b c) v) : VR β (mkFz s n 0 c) v := by
  unfold mkFz at h
  have e : FZ + s - FZ = s := by omega
  simp only [VR, if_neg (Nat.not_lt.2 (Nat.le_add_right FZ s)), VZ, VZA, VZL, e] at h
  obtain ⟨a', b', he, r⟩ := h
  cases he
  refine fz_mk hs ?_
  unfold FrzR at r ⊢
  rw [if_neg hs] at r ⊢
  obtain ⟨h1, ⟨h2, h3, h4⟩ | ⟨h2, p, cap, h3, h4⟩ | ⟨h0, k, o, cap, cs, e1, f, l, h3, h4, h5⟩⟩ := r
  · exact ⟨h1, Or.inl ⟨h2, by omega, h4⟩⟩
  · exact ⟨h1, Or.inr (Or.inl ⟨h2, p, cap, h3, fun h => absurd rfl h⟩)⟩
  · exact ⟨h1, Or.inr (Or.inr ⟨h0, k, o, cap, cs, e1, f, l, h3, fun h => absurd rfl h, h5⟩)⟩
theorem fz_nil {β : Env} {s n c : Nat} {v : Value} (hs : s ≠ 0) (hn : n = 0) (hc : c = 0) (h : VR β (.slice none n c) v) : VR β (mkFz s 0 0 []) v := by
  subst hn hc
  have h : v = .slice none 0 0 := h
  subst h
  refine fz_mk hs ?_
  unfold FrzR
  rw [if_neg hs]
  exact ⟨by simp, Or.inl ⟨rfl, by omega, rfl⟩⟩
noncomputable def tysT (P : Program) (n : Nat) : TypeId → List TypeId :=
  @Nat.rec (fun _ => TypeId → List TypeId) (fun t => [t]) (fun _ ih t => match undQ P t with
    | some (.struct fs) => @List.rec Field (fun _ => List TypeId) [] (fun f _ r => (ih f.type).append r) fs.toList
    | some (.array k e) => List.flatten (List.replicate k (ih e))
    | _ => [t]) n
noncomputable def nilZ (P : Program) (ts : List TypeId) (v : Value) : Value := match v with
  | .slice none 0 0 => match ts with
    | t :: _ => match undQ P t with
      | some (.slice e) => match esz P e with
        | 0 => v
        | s + 1 => mkFz (s + 1) 0 0 []
      | _ => v
    | [] => v
  | _ => v
theorem nilZ_rel {β : Env} {ts : List TypeId} {v x : Value} (h : VR β v x) : VR β (nilZ P ts v) x := by
  unfold nilZ
  split
  · split
    · split
      · split
        · exact h
        · exact fz_nil (by omega) rfl rfl h
      · exact h
    · exact h
  · exact h
noncomputable def tlT (ts : List TypeId) : List TypeId := match ts with
  | [] => []
  | _ :: ts => ts
noncomputable def frzL {α : Type} (P : Program) (n : Nat) : List TypeId → List Value → St → (List Value → St → DT α) → DT α :=
  @Nat.rec (fun _ => List TypeId → List Value → St → (List Value → St → DT α) → DT α) (fun _ _ _ _ => .fail)
    (fun _ ih ts vs st k => match vs with
      | [] => k [] st
      | v :: vs => match v with
        | .slice (some a) m c => match a.spot, getP (path a.block) st.heap with
          | none, some (.cells cs e ex) => @Bool.rec (fun _ => DT α)
              (needT (frzC P a.off m c cs e) (ih (tlT ts) vs ⟨setP (path a.block) st.heap .dead, st.next⟩ fun vs1 st1 => k (frzF P a.off m c cs e :: vs1) st1))
              (ih (List.flatten (List.replicate cs.length (tysT P 6 e))) cs st fun cs1 st1 => match getP (path a.block) st1.heap with
                | some (.cells c1 e1 _) => needT (and (Nat.beq e1 e) (and (Nat.beq cs1.length c1.length) (frzC P a.off m c cs1 e))) (ih (tlT ts) vs ⟨setP (path a.block) st1.heap .dead, st1.next⟩ fun vs1 st2 => k (frzF P a.off m c cs1 e :: vs1) st2)
                | _ => .fail) ex
          | _, _ => ih (tlT ts) vs st fun vs1 st1 => k (v :: vs1) st1
        | .agg ⟨l⟩ => ih (match ts with | t :: _ => tysT P 6 t | [] => []) l st fun l1 st1 => ih (tlT ts) vs st1 fun vs1 st2 => k (.agg ⟨l1⟩ :: vs1) st2
        | v => ih (tlT ts) vs st fun vs1 st1 => k (nilZ P ts v :: vs1) st1) n
theorem frzF_rel {K : Prot} {β : Env} {st : St} {w : World} (hr : Rel P K β st w) {a : Addr} {m c : Nat} {cs cs1 : List Value} {e : TypeId} {ex : Bool} (hg : st.heap.get a.block = some (.cells cs e ex)) (hlen : cs1.length = cs.length) (hc : frzC P a.off m c cs1 e = true)
    (hc1 : ∀ l cc f, β a.block = some l → l.virt = false → w.heap[l.blk]? = some (.cells cc e f) → VRL β cs1 ((cc.toList.drop l.base).take cs1.length)) :
    ∃ β', β.le β' ∧ Rel P K β' ⟨setP (path a.block) st.heap .dead, st.next⟩ w ∧ ∀ x, VR β (.slice (some a) m c) x → VR β' (frzF P a.off m c cs1 e) x := by
  unfold frzC at hc
  simp only [Bool.and_eq_true] at hc
  obtain ⟨c1, c2, c3, c4⟩ := hc
  obtain ⟨β', h1, h2, h3⟩ := hr.freeze hg hlen c1 hc1
  refine ⟨β', h1, ?_, fun x hx => ?_⟩
  · rw [setP_path]; exact h2
  · have hs : a.spot = none := by simp only [VR] at hx; exact hx.1
    have ea : a = ⟨a.block, a.off, none⟩ := by cases a; simp_all
    have hcap : c < unk → m ≤ c := fun hcu => by
      unfold capB at c4
      have hb : Nat.ble unk c = false := by
        cases hb : Nat.ble unk c with
        | false => rfl
        | true => have := Nat.le_of_ble_eq_true hb; omega
      rw [hb] at c4
      exact Nat.le_of_ble_eq_true c4
    have h0 : esz P e ≠ 0 := by have := Nat.le_of_ble_eq_true c3; omega
    exact fz_weak (b := frzB c) h0 (h3 a.off m c x (by rw [← ea]; exact hx) h0 (Nat.le_of_ble_eq_true c2) hcap)
theorem frzL_spec {α : Type} {r : α} : ∀ (n : Nat) (ts : List TypeId) (vs : List Value) (st : St) (k : List Value → St → DT α), (frzL P n ts vs st k).eval = some r →
    ∃ vs1 st1, (k vs1 st1).eval = some r ∧ st1.next = st.next ∧ vs1.length = vs.length ∧ ∀ (K : Prot) (β : Env) (w : World) (xs : List Value), Rel P K β st w → VRL β vs xs → ∃ β1, β.le β1 ∧ Rel P K β1 st1 w ∧ VRL β1 vs1 xs
  | 0, ts, vs, st, k, h => by cases h
  | n + 1, ts, vs, st, k, h => by
    have keep : ∀ (v v2 : Value) (vs : List Value), (∀ (β : Env) x, VR β v x → VR β v2 x) → (frzL P n (tlT ts) vs st fun vs1 st1 => k (v2 :: vs1) st1).eval = some r →
        ∃ vs1 st1, (k vs1 st1).eval = some r ∧ st1.next = st.next ∧ vs1.length = (v :: vs).length ∧ ∀ (K : Prot) (β : Env) (w : World) (xs : List Value), Rel P K β st w → VRL β (v :: vs) xs → ∃ β1, β.le β1 ∧ Rel P K β1 st1 w ∧ VRL β1 vs1 xs := by
      intro v v2 vs hv2 h
      obtain ⟨vs1, st1, h1, h2, h3, h4⟩ := frzL_spec n _ vs st _ h
      refine ⟨_, _, h1, h2, by simp [h3], fun K β w xs hr hx => ?_⟩
      simp only [VRL] at hx
      obtain ⟨y, ys, rfl, hy, hys⟩ := hx
      obtain ⟨β1, a1, a2, a3⟩ := h4 K β w ys hr hys
      exact ⟨β1, a1, a2, VRL.cons (hv2 _ _ (hy.mono a1)) a3⟩
    cases vs with
    | nil => exact ⟨[], st, h, rfl, rfl, fun K β w xs hr hx => ⟨β, Env.le.refl _, hr, hx⟩⟩
    | cons v vs =>
      cases v with
      | slice p m c =>
        cases p with
        | none => exact keep _ _ vs (fun _ _ h => nilZ_rel h) h
        | some a =>
          change (match a.spot, getP (path a.block) st.heap with
            | none, some (.cells cs e ex) => @Bool.rec (fun _ => DT α)
                (needT (frzC P a.off m c cs e) (frzL P n (tlT ts) vs ⟨setP (path a.block) st.heap .dead, st.next⟩ fun vs1 st1 => k (frzF P a.off m c cs e :: vs1) st1))
                (frzL P n (List.flatten (List.replicate cs.length (tysT P 6 e))) cs st fun cs1 st1 => match getP (path a.block) st1.heap with
                  | some (.cells c1 e1 _) => needT (and (Nat.beq e1 e) (and (Nat.beq cs1.length c1.length) (frzC P a.off m c cs1 e))) (frzL P n (tlT ts) vs ⟨setP (path a.block) st1.heap .dead, st1.next⟩ fun vs1 st2 => k (frzF P a.off m c cs1 e :: vs1) st2)
                  | _ => .fail) ex
            | _, _ => frzL P n (tlT ts) vs st fun vs1 st1 => k (.slice (some a) m c :: vs1) st1).eval = some r at h
          split at h
          · rename_i cs e ex hsp hg
            rw [getP_path] at hg
            cases ex with
            | false =>
              obtain ⟨hc, h⟩ := needT_spec h
              obtain ⟨vs1, st1, h1, h2, h3, h4⟩ := frzL_spec n _ vs _ _ h
              refine ⟨_, _, h1, h2, by simp [h3], fun K β w xs hr hx => ?_⟩
              simp only [VRL] at hx
              obtain ⟨y, ys, rfl, hy, hys⟩ := hx
              obtain ⟨l, hl, hbk⟩ := hr.get_cells hg
              obtain ⟨β1, a1, a2, a3⟩ := frzF_rel hr hg rfl hc (fun l' cc f hl' hv hw => by
                rw [hl] at hl'
                obtain rfl := Option.some.inj hl'
                rcases hbk with ⟨hv', _⟩ | ⟨_, _, cc', f', g1, _, _, _, _, g6, _⟩
                · rw [hv] at hv'; cases hv'
                · rw [g1] at hw
                  cases hw
                  exact g6)
              obtain ⟨β2, b1, b2, b3⟩ := h4 K β1 w ys a2 (hys.mono a1)
              exact ⟨β2, a1.trans b1, b2, VRL.cons ((a3 y hy).mono b1) b3⟩
            | true =>
              obtain ⟨cs1, st1, h1, h2, h3, h4⟩ := frzL_spec n _ cs st _ h
              split at h1
              · rename_i c1 e1 ex1 hg1
                rw [getP_path] at hg1
                obtain ⟨hc, h1⟩ := needT_spec h1
                simp only [Bool.and_eq_true] at hc
                obtain ⟨hc0, hln, hc⟩ := hc
                have hln := Nat.eq_of_beq_eq_true hln
                have hc0 := Nat.eq_of_beq_eq_true hc0
                subst hc0
                obtain ⟨vs1, st2, k1, k2, k3, k4⟩ := frzL_spec n _ vs _ _ h1
                refine ⟨_, _, k1, by rw [k2]; exact h2, by simp [k3], fun K β w xs hr hx => ?_⟩
                simp only [VRL] at hx
                obtain ⟨y, ys, rfl, hy, hys⟩ := hx
                obtain ⟨l, hl, hbk⟩ := hr.get_cells hg
                rcases hbk with ⟨_, _, hx0⟩ | ⟨hv, hnK, cc, f, g1, g2, g3, g4, g5, g6, g7⟩
                · cases hx0
                · obtain ⟨β1, a1, a2, a3⟩ := h4 K β w _ hr g6
                  obtain ⟨l1, hl1, hbk1⟩ := a2.get_cells hg1
                  have hll : l1 = l := by rw [a1 _ _ hl] at hl1; exact (Option.some.inj hl1).symm
                  subst hll
                  rcases hbk1 with ⟨hv1, _⟩ | ⟨_, _, cc1, f1, q1, q2, q3, q4, q5, q6, q7⟩
                  · rw [hv] at hv1; cases hv1
                  · obtain ⟨β2, b1, b2, b3⟩ := frzF_rel a2 hg1 hln hc (fun l' cc' f' hl' hv' hw => by
                      rw [hl1] at hl'
                      obtain rfl := Option.some.inj hl'
                      rw [g1] at hw
                      cases hw
                      rw [h3]; exact a3)
                    obtain ⟨β3, d1, d2, d3⟩ := k4 K β2 w ys b2 ((hys.mono a1).mono b1)
                    exact ⟨β3, (a1.trans b1).trans d1, d2, VRL.cons ((b3 y (hy.mono a1)).mono d1) d3⟩
              · cases h1
          · exact keep _ _ vs (fun _ _ h => h) h
      | agg l =>
        obtain ⟨l⟩ := l
        obtain ⟨l1, st1, h1, h2, h3, h4⟩ := frzL_spec n _ l st _ h
        obtain ⟨vs1, st2, k1, k2, k3, k4⟩ := frzL_spec n _ vs st1 _ h1
        refine ⟨_, _, k1, by rw [k2, h2], by simp [k3], fun K β w xs hr hx => ?_⟩
        simp only [VRL] at hx
        obtain ⟨y, ys, rfl, hy, hys⟩ := hx
        simp only [VR] at hy
        obtain ⟨⟨l'⟩, rfl, hl'⟩ := hy
        simp only [VRA] at hl'
        obtain ⟨β1, a1, a2, a3⟩ := h4 K β w l' hr hl'
        obtain ⟨β2, b1, b2, b3⟩ := k4 K β1 w ys a2 (hys.mono a1)
        refine ⟨β2, a1.trans b1, b2, VRL.cons ?_ b3⟩
        simp only [VR]
        exact ⟨_, rfl, by simp only [VRA]; exact a3.mono b1⟩
      | _ => exact keep _ _ vs (fun _ _ h => nilZ_rel h) h
noncomputable def parT (P : Program) (g : FuncId) : List TypeId := match bodyOf P g with
  | some fb => fb.1.params.toList
  | none => []
noncomputable def callCtF (P : Program) (g : FuncId) (R : CallFnM) (args : List Value) (st : St) : Option (DT (Value × St)) :=
  some (frzL P 100 (parT P g) args st fun args1 st1 => match callCtD R args1 st1 with
    | some t => t
    | none => .fail)
noncomputable def frzOp (P : Program) (o : Oper) (ρ : Operand → Value) (st : St) : Option (DT (Value × St)) := match o.op with
  | .call c => match c.callee, c.args.toList with
    | .builtin .append, [_, y] => match ρ y with
      | .slice (some a) _ _ => match getP (path a.block) st.heap with
        | some (.cells cs e true) => match symOp P o ρ st with
          | some _ => some (frzL P 100 (List.flatten (List.replicate cs.length (tysT P 6 e))) cs st fun cs1 st1 => match getP (path a.block) st1.heap with
            | some (.cells c1 e1 _) => needT (and (Nat.beq e1 e) (Nat.beq cs1.length c1.length)) (match symOp P o ρ ⟨setP (path a.block) st1.heap (.cells cs1 e true), st1.next⟩ with
              | some t => t
              | none => .fail)
            | _ => .fail)
          | none => none
        | _ => symOp P o ρ st
      | _ => symOp P o ρ st
    | _, _ => symOp P o ρ st
  | _ => symOp P o ρ st
theorem frzOp_ok (hN : noNum P = true) (o : Oper) (ρ : Operand → Value) (st : St) (v : Value) (st' : St) (h : (frzOp P o ρ st).bind DT.eval = some (v, st')) :
    isDefer o.op = false ∧ ∀ (K : Prot) (β : Env) (w : World) (ρ' : Operand → Value), (∀ x, VR β (ρ x) (ρ' x)) → Rel P K β st w → OutR P K β st w ((execOp ρ' o).run P w) (.val v st') := by
  have dflt : (symOp P o ρ st).bind DT.eval = some (v, st') → isDefer o.op = false ∧ ∀ (K : Prot) (β : Env) (w : World) (ρ' : Operand → Value), (∀ x, VR β (ρ x) (ρ' x)) → Rel P K β st w → OutR P K β st w ((execOp ρ' o).run P w) (.val v st') := symOp_ok hN o ρ st v st'
  unfold frzOp at h
  split at h
  · rename_i c hop
    split at h
    · rename_i x y hc1 hc2
      split at h
      · rename_i a n cap hy
        split at h
        · rename_i cs e hg
          rw [getP_path] at hg
          split at h
          · simp only [Option.bind_some] at h
            obtain ⟨cs1, st1, h1, h2, h3, h4⟩ := frzL_spec _ _ _ _ _ h
            split at h1
            · rename_i c1 e1 ex1 hg1
              rw [getP_path] at hg1
              obtain ⟨hc, h1⟩ := needT_spec h1
              simp only [Bool.and_eq_true] at hc
              have he := Nat.eq_of_beq_eq_true hc.1
              have hln := Nat.eq_of_beq_eq_true hc.2
              subst he
              split at h1
              · rename_i t ht
                have hs := symOp_ok hN o ρ ⟨setP (path a.block) st1.heap (.cells cs1 e1 true), st1.next⟩ v st' (by rw [ht]; exact h1)
                refine ⟨hs.1, fun K β w ρ' hρ hr => ?_⟩
                obtain ⟨l, hl, hbk⟩ := hr.get_cells hg
                rcases hbk with ⟨_, _, hx0⟩ | ⟨hv, hnK, cc, f, g1, g2, g3, g4, g5, g6, g7⟩
                · cases hx0
                · obtain ⟨β1, a1, a2, a3⟩ := h4 K β w _ hr g6
                  have hl1 := a1 _ _ hl
                  have hrel : Rel P K β1 ⟨setP (path a.block) st1.heap (.cells cs1 e1 true), st1.next⟩ w := by
                    rw [setP_path]
                    refine a2.update (b' := .cells cs1 e1 true) hg1 rfl rfl rfl hl1 rfl (fun _ _ => rfl) (Or.inr ⟨hv, cc, f, g1, g2, g3, by omega, fun _ => by rw [h3]; exact g5 rfl, by rw [h3]; exact a3, g7.1, fun h => by cases h⟩)
                  obtain ⟨β2, w2, v2, b1, b2, b3, b4, b5⟩ := hs.2 K β1 w ρ' (fun z => (hρ z).mono a1) hrel
                  exact ⟨β2, w2, v2, b1, a1.trans b2, b3, b4, b5⟩
              · cases h1
            · cases h1
          · cases h
        · exact dflt h
      · exact dflt h
    · exact dflt h
  · exact dflt h
noncomputable def frzCt (P : Program) : Ct := ⟨fun _ _ _ => none, fun _ _ _ _ => none, frzOp P⟩
theorem frzOp_congr (o : Oper) (ρ ρ' : Operand → Value) (st : St) (h : ∀ x ∈ o.op.operands, ρ x = ρ' x) : frzOp P o ρ st = frzOp P o ρ' st := by
  have hs : ∀ st, symOp P o ρ st = symOp P o ρ' st := fun st => symOp_congr o ρ ρ' st h
  unfold frzOp
  simp only [hs]
  split
  · rename_i c hop
    split
    · rename_i x y hc1 hc2
      have hargs : ∀ x ∈ c.args.toList, ρ x = ρ' x := fun x hx => h x (by rw [hop]; simp [Op.operands, Call.operands]; exact (by first | exact Or.inr (by simpa using hx) | exact Or.inl (by simpa using hx)))
      rw [hargs y (by rw [hc2]; simp)]
    · rfl
  · rfl
theorem frzCt_ok (hN : noNum P = true) : CtOk P (frzCt P) := ⟨fun _ _ _ _ _ _ h => (by cases h), fun _ _ _ _ _ _ _ _ _ h => (by cases h), frzOp_congr, fun K o ρ st v st' h => ⟨(frzOp_ok hN o ρ st v st' h).1, (frzOp_ok hN o ρ st v st' h).2 K⟩⟩
end
end Go.VS
end

section
namespace Go.VS
open Go.RowKit
section
variable {P : Program} {ct : Ct}
theorem trim_rel {K : Prot} {β : Env} {st : St} {w : World} (hr : Rel P K β st w) {a : Addr} {c : List Value} {e : TypeId} {len m : Nat} {v' : Value} (hg : st.heap.get a.block = some (.cells c e false)) (ho : a.off + m ≤ c.length) (hv : VR β (.slice (some a) len unk) v') :
    ∃ β', β.le β' ∧ Rel P K β' (newRow (kill st a.block) ((c.drop a.off).take m) e false).2 w ∧ VR β' (.slice (some (newRow (kill st a.block) ((c.drop a.off).take m) e false).1) len unk) v' := by
  simp only [VR] at hv
  obtain ⟨hs, l, hl, hsl⟩ := hv
  obtain ⟨l', k1, hbk⟩ := hr.get_cells hg
  obtain rfl : l' = l := by rw [k1] at hl; exact Option.some.inj hl
  rcases hbk with ⟨hvt, hc, _⟩ | ⟨hvt, k2, cc, f, k3, k4, k5, k6, k7, k8, k9⟩
  · subst hc
    have hk := hr.kill a.block (by intro o e; rw [hg] at e; cases e)
    have hv := hk.virt e 0 0
    refine ⟨_, hk.le_put _, by rw [List.drop_nil, List.take_nil]; exact hv, ⟨rfl, _, put_same _ _ _, ?_⟩⟩
    unfold SliceR at hsl ⊢
    rw [if_pos hvt] at hsl
    rw [if_pos rfl]
    exact ⟨hsl.1, rfl, Or.inr rfl, hsl.2.2.2⟩
  · unfold SliceR at hsl
    rw [if_neg (by simp [hvt]), if_neg (by simp), if_pos rfl] at hsl
    have hlen : ((c.drop a.off).take m).length = m := by rw [List.length_take, List.length_drop]; omega
    refine ⟨β.put st.next ⟨l'.blk, l'.base + a.off, l'.total - a.off, l'.esize, none, false⟩, hr.le_put _, hr.move hg rfl rfl rfl k1 hvt rfl rfl rfl (fun _ _ => rfl) ?_, ⟨rfl, _, put_same _ _ _, ?_⟩⟩
    · refine BlkR.mono (hr.le_put _) (Or.inr ⟨rfl, cc, f, k3, k4, by show l'.base + a.off + (l'.total - a.off) ≤ _; omega, by rw [hlen]; show _ ≤ l'.total - a.off; omega, fun h => (by cases h), ?_, k9.1, fun _ => by have := k9.2 rfl; show l'.total - a.off < 9223372036854775808 * l'.esize; omega⟩)
      have hh := (k8.drop a.off).take m
      rw [List.drop_take, List.drop_drop, List.take_take] at hh
      rw [hlen]
      have : min m (c.length - a.off) = m := by omega
      rw [this] at hh
      exact hh
    · unfold SliceR
      rw [if_neg (by simp), if_neg (by simp), if_pos rfl]
      refine ⟨?_, Nat.zero_le _⟩
      rw [hsl.1]
      show _ = Value.slice (some ⟨l'.blk, l'.base + a.off + 0, none⟩) len ((l'.total - a.off - 0) / l'.esize)
      rfl
theorem trim0_rel {K : Prot} {β : Env} {st : St} {w : World} (hr : Rel P K β st w) {a : Addr} {c : List Value} {e : TypeId} {len cp : Nat} {v' : Value} (hg : st.heap.get a.block = some (.cells c e false)) (h1 : cp ≠ unk) (h2 : unk ≤ cp) (hv : VR β (.slice (some a) len cp) v') :
    ∃ β', β.le β' ∧ Rel P K β' (newRow (kill st a.block) [] e false).2 w ∧ VR β' (.slice (some (newRow (kill st a.block) [] e false).1) 0 unk) v' := by
  simp only [VR] at hv
  obtain ⟨hs, l, hl, hsl⟩ := hv
  obtain ⟨l', k1, hbk⟩ := hr.get_cells hg
  obtain rfl : l' = l := by rw [k1] at hl; exact Option.some.inj hl
  have hu : unk ≠ 0 := by unfold unk; omega
  rcases hbk with ⟨hvt, hc, _⟩ | ⟨hvt, k2, cc, f, k3, k4, k5, k6, k7, k8, k9⟩
  · unfold SliceR at hsl
    rw [if_pos hvt] at hsl
    rcases hsl.2.2.1 with h | h
    · omega
    · exact absurd h h1
  · unfold SliceR at hsl
    rw [if_neg (by simp [hvt]), if_neg (by omega), if_neg h1] at hsl
    obtain ⟨rfl, q2, q3, q4⟩ := hsl
    have hpos : 0 < l'.esize := by
      have := k9.2 rfl
      rcases Nat.eq_zero_or_pos l'.esize with h | h
      · rw [h] at this; omega
      · exact h
    have make : ∀ (b t : Nat), l'.base ≤ b → b + t ≤ l'.base + l'.total → v' = .slice (some ⟨l'.blk, b, none⟩) 0 (t / l'.esize) →
        ∃ β', β.le β' ∧ Rel P K β' (newRow (kill st a.block) [] e false).2 w ∧ VR β' (.slice (some (newRow (kill st a.block) [] e false).1) 0 unk) v' := by
      intro b t hb ht hv
      refine ⟨β.put st.next ⟨l'.blk, b, t, l'.esize, none, false⟩, hr.le_put _, hr.move hg rfl rfl rfl k1 hvt rfl rfl rfl (fun _ _ => rfl) ?_, ⟨rfl, _, put_same _ _ _, ?_⟩⟩
      · refine BlkR.mono (hr.le_put _) (Or.inr ⟨rfl, cc, f, k3, k4, by show b + t ≤ _; omega, Nat.zero_le _, fun h => (by cases h), ?_, k9.1, fun _ => by have := k9.2 rfl; show t < 9223372036854775808 * l'.esize; omega⟩)
        rw [List.length_nil, List.take_zero]; exact VRL.nil
      · unfold SliceR
        rw [if_neg (by simp), if_neg (by simp), if_pos rfl]
        refine ⟨?_, Nat.zero_le _⟩
        rw [hv]
        rfl
    split at q4
    · rename_i hq
      exact make (l'.base + a.off) 0 (by omega) (by omega) (by rw [q4, Nat.zero_div])
    · have hm : (cp - unk) * l'.esize ≤ l'.total - a.off := Nat.le_trans (Nat.mul_le_mul_right _ q2) (Nat.div_mul_le_self _ _)
      refine make (l'.base + (a.off + (cp - unk) * l'.esize)) (l'.total - a.off - (cp - unk) * l'.esize) (by omega) (by omega) ?_
      rw [q4, Nat.mul_comm (cp - unk), Nat.sub_mul_div]
/-- Of a list: it is only read; it may grow; it is left where it lies (another one may point to the same). -/
inductive Fl where
  | val | own | keep
noncomputable def fixL {α : Type} (P : Program) (n : Nat) : List Fl → List TypeId → List Value → St → (List Value → List Nat → St → DT α) → DT α :=
  @Nat.rec (fun _ => List Fl → List TypeId → List Value → St → (List Value → List Nat → St → DT α) → DT α) (fun _ _ _ _ _ => .fail)
    (fun _ ih fl ts vs st k => match vs with
      | [] => k [] [] st
      | v :: vs => match v with
        | .pointer (some a) => ih (fl.drop 1) (tlT ts) vs st fun vs1 ps st1 => k (v :: vs1) (a.block :: ps) st1
        | .slice none m c => match (match fl with | .own :: _ => true | .keep :: _ => true | _ => false) with
          | true => match ts with
            | t :: _ => match undQ P t with
              | some (.slice e) => needT (and (Nat.beq m 0) (Nat.beq c 0)) (ih (fl.drop 1) (tlT ts) vs ⟨setP (path st.next) st.heap (.cells [] e false), Nat.succ st.next⟩ fun vs1 ps st1 => k (.slice (some ⟨st.next, 0, none⟩) 0 unk :: vs1) ps st1)
              | _ => .fail
            | [] => .fail
          | false => ih (fl.drop 1) (tlT ts) vs st fun vs1 ps st1 => k (nilZ P ts v :: vs1) ps st1
        | .slice (some a) m c => match fl with
          | .keep :: _ => ih (fl.drop 1) (tlT ts) vs st fun vs1 ps st1 => k (v :: vs1) ps st1
          | .own :: _ => match getP (path a.block) st.heap with
            | some (.cells cs e false) => .ite (Nat.beq c unk)
                (needT (Nat.ble (Nat.add a.off (Nat.mul m (esz P e))) cs.length) (ih (fl.drop 1) (tlT ts) vs ⟨setP (path st.next) (setP (path a.block) st.heap .dead) (.cells (takeC (Nat.mul m (esz P e)) (dropC a.off cs)) e false), Nat.succ st.next⟩ fun vs1 ps st1 => k (.slice (some ⟨st.next, 0, none⟩) m unk :: vs1) ps st1))
                (.ite (Nat.ble unk c)
                  (ih (fl.drop 1) (tlT ts) vs ⟨setP (path st.next) (setP (path a.block) st.heap .dead) (.cells [] e false), Nat.succ st.next⟩ fun vs1 ps st1 => k (.slice (some ⟨st.next, 0, none⟩) 0 unk :: vs1) ps st1)
                  (ih (fl.drop 1) (tlT ts) vs st fun vs1 ps st1 => k (v :: vs1) ps st1))
            | _ => ih (fl.drop 1) (tlT ts) vs st fun vs1 ps st1 => k (v :: vs1) ps st1
          | _ => frzL P 20 ts [v] st fun l1 st1 => match l1 with
            | [v1] => ih (fl.drop 1) (tlT ts) vs st1 fun vs1 ps st2 => k (v1 :: vs1) ps st2
            | _ => .fail
        | v => ih (fl.drop 1) (tlT ts) vs st fun vs1 ps st1 => k (v :: vs1) ps st1) n
theorem fixL_spec {α : Type} {r : α} : ∀ (n : Nat) (fl : List Fl) (ts : List TypeId) (vs : List Value) (st : St) (k : List Value → List Nat → St → DT α), (fixL P n fl ts vs st k).eval = some r →
    ∃ vs1 ps st1, (k vs1 ps st1).eval = some r ∧ vs1.length = vs.length ∧ ∀ (K : Prot) (β : Env) (w : World) (xs : List Value), Rel P K β st w → VRL β vs xs → ∃ β1, β.le β1 ∧ Rel P K β1 st1 w ∧ VRL β1 vs1 xs
  | 0, fl, ts, vs, st, k, h => by cases h
  | n + 1, fl, ts, vs, st, k, h => by
    have keep : ∀ (v v2 : Value) (vs : List Value) (f : List Nat → List Nat), (∀ (β : Env) x, VR β v x → VR β v2 x) → (fixL P n (fl.drop 1) (tlT ts) vs st fun vs1 ps st1 => k (v2 :: vs1) (f ps) st1).eval = some r →
        ∃ vs1 ps st1, (k vs1 ps st1).eval = some r ∧ vs1.length = (v :: vs).length ∧ ∀ (K : Prot) (β : Env) (w : World) (xs : List Value), Rel P K β st w → VRL β (v :: vs) xs → ∃ β1, β.le β1 ∧ Rel P K β1 st1 w ∧ VRL β1 vs1 xs := by
      intro v v2 vs f hv2 h
      obtain ⟨vs1, ps, st1, h1, h3, h4⟩ := fixL_spec n _ _ vs st _ h
      refine ⟨_, _, _, h1, by simp [h3], fun K β w xs hr hx => ?_⟩
      simp only [VRL] at hx
      obtain ⟨y, ys, rfl, hy, hys⟩ := hx
      obtain ⟨β1, a1, a2, a3⟩ := h4 K β w ys hr hys
      exact ⟨β1, a1, a2, VRL.cons (hv2 _ _ (hy.mono a1)) a3⟩
    cases vs with
    | nil => exact ⟨[], [], st, h, rfl, fun K β w xs hr hx => ⟨β, Env.le.refl _, hr, hx⟩⟩
    | cons v vs =>
      cases v with
      | pointer p =>
        cases p with
        | none => exact keep _ _ vs id (fun _ _ h => h) h
        | some a => exact keep _ _ vs (a.block :: ·) (fun _ _ h => h) h
      | slice p m c =>
        cases p with
        | none =>
          change (match (match fl with | .own :: _ => true | .keep :: _ => true | _ => false) with
            | true => match ts with
              | t :: _ => match undQ P t with
                | some (.slice e) => needT (and (Nat.beq m 0) (Nat.beq c 0)) (fixL P n (fl.drop 1) (tlT ts) vs ⟨setP (path st.next) st.heap (.cells [] e false), Nat.succ st.next⟩ fun vs1 ps st1 => k (.slice (some ⟨st.next, 0, none⟩) 0 unk :: vs1) ps st1)
                | _ => .fail
              | [] => .fail
            | false => fixL P n (fl.drop 1) (tlT ts) vs st fun vs1 ps st1 => k (nilZ P ts (.slice none m c) :: vs1) ps st1).eval = some r at h
          split at h
          · split at h
            · split at h
              · rename_i e _
                obtain ⟨hc, h⟩ := needT_spec h
                simp only [Bool.and_eq_true] at hc
                obtain rfl := Nat.eq_of_beq_eq_true hc.1
                obtain rfl := Nat.eq_of_beq_eq_true hc.2
                obtain ⟨vs1, ps, st1, h1, h3, h4⟩ := fixL_spec n _ _ vs _ _ h
                refine ⟨_, _, _, h1, by simp [h3], fun K β w xs hr hx => ?_⟩
                simp only [VRL] at hx
                obtain ⟨y, ys, rfl, hy, hys⟩ := hx
                have hv := hr.virt e 0 0
                have hst : (st.new (.cells [] e false)).2 = ⟨setP (path st.next) st.heap (.cells [] e false), Nat.succ st.next⟩ := by rw [setP_path]; rfl
                rw [hst] at hv
                obtain ⟨β1, a1, a2, a3⟩ := h4 K _ w ys hv (hys.mono (hr.le_put _))
                refine ⟨β1, (hr.le_put _).trans a1, a2, VRL.cons ?_ a3⟩
                refine ⟨rfl, _, a1 _ _ (put_same _ _ _), ?_⟩
                unfold SliceR
                rw [if_pos rfl]
                exact ⟨rfl, rfl, Or.inr rfl, hy⟩
              · cases h
            · cases h
          · exact keep _ _ vs id (fun _ _ h => nilZ_rel h) h
        | some a =>
          change (match fl with
            | .keep :: _ => fixL P n (fl.drop 1) (tlT ts) vs st fun vs1 ps st1 => k (.slice (some a) m c :: vs1) ps st1
            | .own :: _ => match getP (path a.block) st.heap with
              | some (.cells cs e false) => .ite (Nat.beq c unk)
                  (needT (Nat.ble (Nat.add a.off (Nat.mul m (esz P e))) cs.length) (fixL P n (fl.drop 1) (tlT ts) vs ⟨setP (path st.next) (setP (path a.block) st.heap .dead) (.cells (takeC (Nat.mul m (esz P e)) (dropC a.off cs)) e false), Nat.succ st.next⟩ fun vs1 ps st1 => k (.slice (some ⟨st.next, 0, none⟩) m unk :: vs1) ps st1))
                  (.ite (Nat.ble unk c)
                    (fixL P n (fl.drop 1) (tlT ts) vs ⟨setP (path st.next) (setP (path a.block) st.heap .dead) (.cells [] e false), Nat.succ st.next⟩ fun vs1 ps st1 => k (.slice (some ⟨st.next, 0, none⟩) 0 unk :: vs1) ps st1)
                    (fixL P n (fl.drop 1) (tlT ts) vs st fun vs1 ps st1 => k (.slice (some a) m c :: vs1) ps st1))
              | _ => fixL P n (fl.drop 1) (tlT ts) vs st fun vs1 ps st1 => k (.slice (some a) m c :: vs1) ps st1
            | _ => frzL P 20 ts [.slice (some a) m c] st fun l1 st1 => match l1 with
              | [v1] => fixL P n (fl.drop 1) (tlT ts) vs st1 fun vs1 ps st2 => k (v1 :: vs1) ps st2
              | _ => .fail).eval = some r at h
          split at h
          · exact keep _ _ vs id (fun _ _ h => h) h
          · split at h
            · rename_i cs e hg
              rw [getP_path] at hg
              cases hcu : Nat.beq c unk with
              | true =>
                rw [hcu] at h
                have h : (needT (Nat.ble (Nat.add a.off (Nat.mul m (esz P e))) cs.length) (fixL P n _ (tlT ts) vs ⟨setP (path st.next) (setP (path a.block) st.heap .dead) (.cells (takeC (Nat.mul m (esz P e)) (dropC a.off cs)) e false), Nat.succ st.next⟩ fun vs1 ps st1 => k (.slice (some ⟨st.next, 0, none⟩) m unk :: vs1) ps st1)).eval = some r := h
                obtain rfl := Nat.eq_of_beq_eq_true hcu
                obtain ⟨hc, h⟩ := needT_spec h
                have hc : a.off + m * esz P e ≤ cs.length := Nat.le_of_ble_eq_true hc
                obtain ⟨vs1, ps, st1, h1, h3, h4⟩ := fixL_spec n _ _ vs _ _ h
                refine ⟨_, _, _, h1, by simp [h3], fun K β w xs hr hx => ?_⟩
                simp only [VRL] at hx
                obtain ⟨y, ys, rfl, hy, hys⟩ := hx
                obtain ⟨β1, a1, a2, a3⟩ := trim_rel hr hg hc hy
                have hst : (newRow (kill st a.block) ((cs.drop a.off).take (m * esz P e)) e false).2 = ⟨setP (path st.next) (setP (path a.block) st.heap .dead) (.cells (takeC (Nat.mul m (esz P e)) (dropC a.off cs)) e false), Nat.succ st.next⟩ := by
                  rw [setP_path, setP_path]; rfl
                rw [hst] at a2
                obtain ⟨β2, b1, b2, b3⟩ := h4 K β1 w ys a2 (hys.mono a1)
                exact ⟨β2, a1.trans b1, b2, VRL.cons (a3.mono b1) b3⟩
              | false =>
                rw [hcu] at h
                cases hcb : Nat.ble unk c with
                | true =>
                  rw [hcb] at h
                  have h : (fixL P n _ (tlT ts) vs ⟨setP (path st.next) (setP (path a.block) st.heap .dead) (.cells [] e false), Nat.succ st.next⟩ fun vs1 ps st1 => k (.slice (some ⟨st.next, 0, none⟩) 0 unk :: vs1) ps st1).eval = some r := h
                  obtain ⟨vs1, ps, st1, h1, h3, h4⟩ := fixL_spec n _ _ vs _ _ h
                  refine ⟨_, _, _, h1, by simp [h3], fun K β w xs hr hx => ?_⟩
                  simp only [VRL] at hx
                  obtain ⟨y, ys, rfl, hy, hys⟩ := hx
                  obtain ⟨β1, a1, a2, a3⟩ := trim0_rel hr hg (Nat.ne_of_beq_eq_false hcu) (Nat.le_of_ble_eq_true hcb) hy
                  have hst : (newRow (kill st a.block) [] e false).2 = ⟨setP (path st.next) (setP (path a.block) st.heap .dead) (.cells [] e false), Nat.succ st.next⟩ := by
                    rw [setP_path, setP_path]; rfl
                  rw [hst] at a2
                  obtain ⟨β2, b1, b2, b3⟩ := h4 K β1 w ys a2 (hys.mono a1)
                  exact ⟨β2, a1.trans b1, b2, VRL.cons (a3.mono b1) b3⟩
                | false =>
                  rw [hcb] at h
                  exact keep _ _ vs id (fun _ _ h => h) h
            · exact keep _ _ vs id (fun _ _ h => h) h
          · obtain ⟨l1, st1, h1, h2, h3, h4⟩ := frzL_spec _ _ _ _ _ h
            split at h1
            · rename_i v1
              obtain ⟨vs1, ps, st2, k1, k3, k4⟩ := fixL_spec n _ _ vs _ _ h1
              refine ⟨_, _, _, k1, by simp [k3], fun K β w xs hr hx => ?_⟩
              simp only [VRL] at hx
              obtain ⟨y, ys, rfl, hy, hys⟩ := hx
              obtain ⟨β1, a1, a2, a3⟩ := h4 K β w [y] hr (VRL.cons hy VRL.nil)
              obtain ⟨β2, b1, b2, b3⟩ := k4 K β1 w ys a2 (hys.mono a1)
              simp only [VRL] at a3
              obtain ⟨y', ys', e', hy', _⟩ := a3
              cases e'
              exact ⟨β2, a1.trans b1, b2, VRL.cons (hy'.mono b1) b3⟩
            · cases h1
      | _ => exact keep _ _ vs id (fun _ _ h => h) h
abbrev Pol := TypeId → Option (List Fl)
noncomputable def canD {α : Type} (P : Program) (pol : Pol) (n : Nat) : List Nat → List Nat → St → (St → DT α) → DT α :=
  @Nat.rec (fun _ => List Nat → List Nat → St → (St → DT α) → DT α) (fun _ _ _ _ => .fail)
    (fun _ ih todo seen st k => match todo with
      | [] => k st
      | b :: todo => @Bool.rec (fun _ => DT α)
          (match getP (path b) st.heap with
            | some (.cells c e true) => match pol e with
              | some fl => fixL P 60 fl (tysT P 6 e) c st fun c1 ps st1 => match getP (path b) st1.heap with
                | some (.cells c2 e2 x2) => needT (and (Nat.beq e2 e) (and x2 (Nat.beq c1.length c2.length))) (ih (ps.append todo) (b :: seen) ⟨setP (path b) st1.heap (.cells c1 e true), st1.next⟩ k)
                | _ => .fail
              | none => ih todo (b :: seen) st k
            | _ => ih todo (b :: seen) st k)
          (ih todo seen st k) (hasN seen b)) n
theorem canD_spec {α : Type} {r : α} {pol : Pol} : ∀ (n : Nat) (todo seen : List Nat) (st : St) (k : St → DT α), (canD P pol n todo seen st k).eval = some r →
    ∃ st1, (k st1).eval = some r ∧ ∀ (K : Prot) (β : Env) (w : World), Rel P K β st w → ∃ β1, β.le β1 ∧ Rel P K β1 st1 w
  | 0, todo, seen, st, k, h => by cases h
  | n + 1, todo, seen, st, k, h => by
    cases todo with
    | nil => exact ⟨st, h, fun K β w hr => ⟨β, Env.le.refl _, hr⟩⟩
    | cons b todo =>
      change (@Bool.rec (fun _ => DT α)
          (match getP (path b) st.heap with
            | some (.cells c e true) => match pol e with
              | some fl => fixL P 60 fl (tysT P 6 e) c st fun c1 ps st1 => match getP (path b) st1.heap with
                | some (.cells c2 e2 x2) => needT (and (Nat.beq e2 e) (and x2 (Nat.beq c1.length c2.length))) (canD P pol n (ps.append todo) (b :: seen) ⟨setP (path b) st1.heap (.cells c1 e true), st1.next⟩ k)
                | _ => .fail
              | none => canD P pol n todo (b :: seen) st k
            | _ => canD P pol n todo (b :: seen) st k)
          (canD P pol n todo seen st k) (hasN seen b)).eval = some r at h
      cases hb : hasN seen b with
      | true => rw [hb] at h; exact canD_spec n _ _ _ _ h
      | false =>
        rw [hb] at h
        simp only at h
        split at h
        · rename_i c e hg
          rw [getP_path] at hg
          split at h
          · obtain ⟨c1, ps, st1, h1, h3, h4⟩ := fixL_spec _ _ _ _ _ _ h
            split at h1
            · rename_i c2 e2 x2 hg1
              rw [getP_path] at hg1
              obtain ⟨hc, h5⟩ := needT_spec h1
              clear h1
              simp only [Bool.and_eq_true] at hc
              obtain ⟨q1, q2, q3⟩ := hc
              have q1 := Nat.eq_of_beq_eq_true q1
              have q3 := Nat.eq_of_beq_eq_true q3
              subst q1 q2
              obtain ⟨st2, k1, k2⟩ := canD_spec n _ _ _ _ h5
              refine ⟨st2, k1, fun K β w hr => ?_⟩
              obtain ⟨l, hl, hbk⟩ := hr.get_cells hg
              rcases hbk with ⟨_, _, hx0⟩ | ⟨hv, hnK, cc, f, g1, g2, g3, g4, g5, g6, g7⟩
              · cases hx0
              · obtain ⟨β1, a1, a2, a3⟩ := h4 K β w _ hr g6
                have hrel : Rel P K β1 ⟨setP (path b) st1.heap (.cells c1 e2 true), st1.next⟩ w := by
                  rw [setP_path]
                  exact a2.update (b' := .cells c1 e2 true) hg1 rfl rfl rfl (a1 _ _ hl) rfl (fun _ _ => rfl) (Or.inr ⟨hv, cc, f, g1, g2, g3, by omega, fun _ => by rw [h3]; exact g5 rfl, by rw [h3]; exact a3, g7.1, fun h => by cases h⟩)
                obtain ⟨β2, b1, b2⟩ := k2 K β1 w hrel
                exact ⟨β2, a1.trans b1, b2⟩
            · cases h1
          · exact canD_spec n _ _ _ _ h
        · exact canD_spec n _ _ _ _ h
noncomputable def ptrsL (l : List Value) : List Nat := @List.rec Value (fun _ => List Nat) [] (fun v _ ih => match v with
  | .pointer (some a) => a.block :: ih
  | _ => ih) l
end
end Go.VS
end

section
namespace Go.VS
open Go.RowKit
/-- A loop's head: slots that are looked at; of what kind the lists are that they hold; their types; the objects' fields likewise. -/
structure HeadD where
  nt : Nat
  L : List Tmp
  fl : List Fl
  ts : List TypeId
  pol : Pol
def HeadD.head (D : HeadD) : Head := ⟨0, D.nt, D.L, []⟩
section
variable {P : Program} {ct : Ct}
theorem slots_list {β : Env} {s : Trie Value} {n : Nat} {tmps : Array Value} (h : SlotsR β s n tmps) (L : List Tmp) : VRL β (L.map (slotF s)) (L.map fun t => tmps.getD t undef) :=
  VRL.map _ _ L fun t _ => by rw [slotF_eq]; exact h.2 t
theorem putTs_rel {β : Env} {tmps : Array Value} : ∀ (L : List Tmp) (vs : List Value) (s : Trie Value), (∀ i, VR β ((s.get i).getD undef) (tmps.getD i undef)) → VRL β vs (L.map fun t => tmps.getD t undef) → ∀ i, VR β (((putTs L vs s).get i).getD undef) (tmps.getD i undef)
  | [], [], s, h, _, i => by simpa [putTs] using h i
  | [], v :: vs, s, h, hv, i => by simpa [putTs] using h i
  | t :: L, [], s, h, hv, i => by simpa [putTs] using h i
  | t :: L, v :: vs, s, h, hv, i => by
    simp only [List.map_cons, VRL] at hv
    obtain ⟨y, ys, e, hy, hys⟩ := hv
    cases e
    simp only [putTs]
    refine putTs_rel L vs _ (fun j => ?_) hys i
    rw [setP_path, Trie.get_set]
    by_cases hj : j = t
    · subst hj; rw [if_pos rfl]; exact hy
    · rw [if_neg hj]; exact h j
theorem mkS_rel {β : Env} {tmps : Array Value} {nt : Nat} {L : List Tmp} {vs : List Value} (hsz : tmps.size = nt) (hv : VRL β vs (L.map fun t => tmps.getD t undef)) : SlotsR β (mkS nt L vs) nt tmps := by
  refine ⟨hsz, fun i => ?_⟩
  unfold mkS
  refine putTs_rel L vs _ (fun j => ?_) hv i
  rw [putL_get]
  split
  · rename_i hj
    simp only [List.length_replicate] at hj
    rw [List.getElem?_replicate, if_pos (by omega)]
    exact trivial
  · rename_i hj
    simp only [List.length_replicate] at hj
    have hge : tmps.size ≤ j := by omega
    have : tmps.getD j undef = undef := by simp [Array.getD, Nat.not_lt.2 hge]
    rw [this]
    exact VR.flat_refl undef rfl
end
end Go.VS
end

section
namespace Go.VS
/-- How a struct lies in cells. -/
structure Enc (α : Type) where
  sz : Nat
  f : α → List Value
  len : ∀ a, (f a).length = sz
  pos : 0 < sz
  inj : ∀ a b, f a = f b → a = b
  nr : ∀ a, noRefL (f a) = true
variable {α : Type} (E : Enc α)
def Enc.all (l : List α) : List Value := l.flatMap E.f
theorem Enc.all_nil : E.all [] = [] := rfl
theorem Enc.all_cons (a : α) (l : List α) : E.all (a :: l) = E.f a ++ E.all l := List.flatMap_cons
theorem Enc.all_append (a b : List α) : E.all (a ++ b) = E.all a ++ E.all b := List.flatMap_append
theorem Enc.all_one (a : α) : E.all [a] = E.f a := by rw [E.all_cons, E.all_nil, List.append_nil]
theorem Enc.all_length (l : List α) : (E.all l).length = l.length * E.sz := by
  induction l with
  | nil => simp [Enc.all_nil]
  | cons a l ih => rw [E.all_cons, List.length_append, E.len, ih, List.length_cons, Nat.add_mul]; omega
theorem Enc.all_nr (l : List α) : noRefL (E.all l) = true := by
  induction l with
  | nil => rfl
  | cons a l ih => rw [E.all_cons, noRefL_append, E.nr, ih]; rfl
theorem Enc.all_ren (ρ : Nat → Option Nat) (l : List α) : renL true ρ (E.all l) = E.all l := renL_nr (E.all_nr l)
theorem Enc.all_inj (a b : List α) (h : E.all a = E.all b) : a = b := by
  induction a generalizing b with
  | nil =>
    cases b with
    | nil => rfl
    | cons y b =>
      have := congrArg List.length h
      rw [E.all_length, E.all_length, List.length_nil, List.length_cons, Nat.zero_mul] at this
      have := Nat.mul_pos (Nat.succ_pos b.length) E.pos
      simp only [Nat.succ_eq_add_one] at this
      omega
  | cons x a ih =>
    cases b with
    | nil =>
      have := congrArg List.length h
      rw [E.all_length, E.all_length, List.length_nil, List.length_cons, Nat.zero_mul] at this
      have := Nat.mul_pos (Nat.succ_pos a.length) E.pos
      simp only [Nat.succ_eq_add_one] at this
      omega
    | cons y b =>
      rw [E.all_cons, E.all_cons] at h
      obtain ⟨h1, h2⟩ := List.append_inj h (by rw [E.len, E.len])
      rw [E.inj _ _ h1, ih b h2]
theorem Enc.all_take (n : Nat) : ∀ l : List α, (E.all l).take (n * E.sz) = E.all (l.take n) := by
  induction n with
  | zero => intro l; simp [Enc.all_nil]
  | succ n ih =>
    intro l
    cases l with
    | nil => simp [Enc.all_nil]
    | cons a l =>
      rw [E.all_cons, List.take_succ_cons, E.all_cons, List.take_append, E.len, List.take_of_length_le (by rw [E.len, Nat.add_mul]; omega)]
      have : (n + 1) * E.sz - E.sz = n * E.sz := by rw [Nat.add_mul]; omega
      rw [this, ih l]
theorem Enc.all_self (l : List α) : (E.all l).take (l.length * E.sz) = E.all l := by rw [E.all_take, List.take_length]
theorem Enc.nth {l : List α} {i j : Nat} (hi : i < l.length) (hj : j < E.sz) : nthD (E.all l) (i * E.sz + j) = (E.f l[i]).getD j undef := by
  unfold nthD
  have h1 : E.all l = E.all (l.take i) ++ (E.f l[i] ++ E.all (l.drop (i + 1))) := by
    rw [← E.all_cons, ← E.all_append]
    congr 1
    rw [← List.drop_eq_getElem_cons hi, List.take_append_drop]
  have h2 : (E.all (l.take i)).length = i * E.sz := by rw [E.all_length, List.length_take]; congr 1; omega
  rw [h1, List.getD_eq_getElem?_getD, List.getD_eq_getElem?_getD, List.getElem?_append_right (by omega), h2, List.getElem?_append_left (by rw [E.len]; omega)]
  congr 2
  omega
open Classical in
noncomputable def Enc.is (c : List Value) : Bool := decide (∃ l, E.all l = c)
open Classical in
noncomputable def Enc.dec (c : List Value) : List α := if h : ∃ l, E.all l = c then h.choose else []
open Classical in
theorem Enc.is_all (l : List α) : E.is (E.all l) = true := by unfold Enc.is; exact decide_eq_true ⟨l, rfl⟩
open Classical in
theorem Enc.all_dec {c : List Value} (h : E.is c = true) : E.all (E.dec c) = c := by
  unfold Enc.is at h
  have h := of_decide_eq_true h
  unfold Enc.dec
  rw [dif_pos h]
  exact h.choose_spec
noncomputable def Enc.fz (m t n : Nat) (c : List Value) : Bool := Nat.beq t (FZ + E.sz) && E.is c && Nat.beq n (E.dec c).length && Nat.ble (E.dec c).length m
end Go.VS
end

section
namespace Go.VS
/-- How a state lies in values and blocks. -/
structure Con (σ : Type) where
  enc : σ → List Value × List Blk
  ok : σ → Prop
  inj : ∀ a b, enc a = enc b → a = b
  dflt : σ
variable {σ : Type} (k : Con σ)
open Classical in
noncomputable def Con.C (vs : List Value) (bs : List Blk) : Bool := decide (∃ s, k.enc s = (vs, bs) ∧ k.ok s)
open Classical in
noncomputable def Con.D (vs : List Value) (bs : List Blk) : σ := if h : ∃ s, k.enc s = (vs, bs) then h.choose else k.dflt
open Classical in
theorem Con.D_enc {s : σ} {vs : List Value} {bs : List Blk} (h : k.enc s = (vs, bs)) : k.D vs bs = s := by
  have hx : ∃ s, k.enc s = (vs, bs) := ⟨s, h⟩
  unfold Con.D
  rw [dif_pos hx]
  exact k.inj _ _ (hx.choose_spec.trans h.symm)
open Classical in
theorem Con.C_enc {s : σ} {vs : List Value} {bs : List Blk} (h : k.enc s = (vs, bs)) (ho : k.ok s) : k.C vs bs = true := by
  unfold Con.C; exact decide_eq_true ⟨s, h, ho⟩
open Classical in
theorem Con.of {vs : List Value} {bs : List Blk} (h : k.C vs bs = true) : ∃ s, k.enc s = (vs, bs) ∧ k.ok s ∧ k.D vs bs = s := by
  unfold Con.C at h
  obtain ⟨s, h1, h2⟩ := of_decide_eq_true h
  exact ⟨s, h1, h2, k.D_enc h1⟩
noncomputable def conM (C : List Value → List Blk → Bool) (D : List Value → List Blk → σ) (res : σ → DT (Value × List Blk)) : CallFnM := fun args bs => some (.ite (C args bs) (res (D args bs)) .fail)
noncomputable def conL (C : List Value → List Blk → Bool) (D : List Value → List Blk → σ) (res : σ → DT (Ex × List Value × List Blk)) : LoopFn := fun vs bs => some (.ite (C vs bs) (res (D vs bs)) .fail)
end Go.VS
end

section
namespace Go.VS
open Go.RowKit
section
variable {P : Program} {ct : Ct}
noncomputable def placeX (X L : List Nat) (st : St) (bs : List Blk) : St := ⟨putB (backN X st.next) X bs st.next (killL L st.heap), st.next + (bs.length - X.length)⟩
theorem swapX_rel {K : Prot} {β : Env} {st : St} {w : World} (h : Rel P K β st w) {X L : List Nat} (hndS : (X ++ L).Nodup) (hcells : ∀ b ∈ X ++ L, ∃ x, st.heap.get b = some x ∧ isCM x = true) :
    ∃ K' : Prot, (∀ k, K k → K' k) ∧ (∀ i, ¬ K'.id i) ∧ Rel P K' (reEnv 0 (X ++ L) β) (mkSt ((X ++ L).map fun b => renB true (rhoO 0 (X ++ L)) (st.heap.get b))) w ∧
      ∀ (β1 : Env) (bs1 : List Blk) (w1 : World), leN X.length (reEnv 0 (X ++ L) β) β1 → X.length ≤ bs1.length → Rel P K' β1 (mkSt bs1) w1 → Bel K' w w1 →
        β.le (backE X st.next β β1) ∧ Rel P K (backE X st.next β β1) (placeX X L st bs1) w1 ∧ RenOk true (backN X st.next) β1 (backE X st.next β β1) := by
  generalize hS : X ++ L = src at hndS hcells ⊢
  have hnd : X.Nodup := by rw [← hS] at hndS; exact (List.nodup_append.1 hndS).1
  have hXs : ∀ b ∈ X, b ∈ src := fun b hb => by rw [← hS]; exact List.mem_append_left _ hb
  have hLs : ∀ b ∈ L, b ∈ src := fun b hb => by rw [← hS]; exact List.mem_append_right _ hb
  have hsX : ∀ b, b ∉ X → b ∉ L → b ∉ src := fun b h1 h2 h => by rw [← hS] at h; exact (List.mem_append.1 h).elim h1 h2
  let st0 : St := ⟨putM (src.map fun b => (b, (st.heap.get b).getD .dead)) .leaf, st.next⟩
  have h0 : ∀ i, st0.heap.get i = if i ∈ src then st.heap.get i else none := by
    intro i
    show (putM _ .leaf).get i = _
    rw [putM_get]
    rcases lastM_cases (src.map fun b => (b, (st.heap.get b).getD .dead)) i ((Trie.leaf : Trie Blk).get i) with ⟨n, e⟩ | ⟨n, b', hb', e⟩
    · rw [e]
      have : i ∉ src := fun hi => n (by simp only [List.map_map, List.mem_map]; exact ⟨i, hi, rfl⟩)
      rw [if_neg this]; rfl
    · rw [e]
      obtain ⟨j, hj, hje⟩ := List.mem_map.1 hb'
      simp only [Prod.mk.injEq] at hje
      obtain ⟨rfl, rfl⟩ := hje
      obtain ⟨x, hc, hcm⟩ := hcells j hj
      rw [if_pos hj, hc]; rfl
  obtain ⟨K1, k1, k2, k3, k4⟩ := h.part (st0 := st0) rfl (fun i b hi _ => by
    rw [h0] at hi
    split at hi
    · exact hi
    · cases hi) (fun i o hi => by
    rw [h0] at hi
    split at hi
    · rename_i hm
      obtain ⟨x, hc, hcm⟩ := hcells i hm
      rw [hc] at hi; cases hi; cases hcm
    · cases hi)
  let K' : Prot := ⟨K1.blk, fun _ => False, K1.nofz, K1.obs, K1.sub⟩
  have r0 : Rel P K' β st0 w := ⟨k3.base, k3.dom, k3.blk, k3.inj, fun i hi => hi.elim, k3.nofz, k3.frz, k3.objs⟩
  have hmid := canon_mid (N := 0) (src := src) r0 (fun i hi => hi.elim) (Nat.zero_le _) hndS (fun b hb => by
    obtain ⟨x, hc, hcm⟩ := hcells b hb
    exact ⟨x, by rw [h0, if_pos hb]; exact hc, hcm⟩)
  have hms : (src.map fun b => renB true (rhoO 0 src) (st0.heap.get b)) = src.map fun b => renB true (rhoO 0 src) (st.heap.get b) := by
    apply List.map_congr_left
    intro b hb
    rw [h0, if_pos hb]
  have hsrc : ∀ b ∈ src, ∃ l, β (b : Int) = some l ∧ b < st.next := by
    intro b hb
    obtain ⟨x, hc, hcm⟩ := hcells b hb
    obtain ⟨l, hl, _⟩ := h.blk b _ hc (isCM_live hcm)
    exact ⟨l, hl, (h.dom b l hl).1⟩
  refine ⟨K', k1, fun i hi => hi, by rw [← hms]; exact hmid, fun β1 bs1 w1 hle hlen h1 hb => ?_⟩
  have hneg : ∀ k l, β (Int.negSucc k) = some l → β1 (Int.negSucc k) = some l := fun k l hk => hle (Int.negSucc k) l (by have := Int.negSucc_lt_zero k; omega) hk
  have hre : ∀ (j b : Nat), X[j]? = some b → β1 (j : Int) = β (b : Int) := by
    intro j b hjX
    have hjl : j < X.length := (List.getElem?_eq_some_iff.1 hjX).1
    have hj : src[j]? = some b := by rw [← hS, List.getElem?_append_left hjl]; exact hjX
    obtain ⟨l, hl, _⟩ := hsrc b (List.mem_of_getElem? hj)
    rw [hl]
    refine hle j l (by omega) ?_
    show (if j < 0 then β (j : Int) else match src[j - 0]? with | some b => β (b : Int) | none => none) = _
    rw [if_neg (by omega), Nat.sub_zero, hj]; exact hl
  have hple : β.le (backE X st.next β β1) := by
    intro i l hi
    cases i with
    | negSucc k => exact hneg k l hi
    | ofNat i =>
      have := (h.dom i l hi).1
      show (if i < st.next then β (i : Int) else _) = _
      rw [if_pos this]; exact hi
  have hold : ∀ i, i < st.next → backE X st.next β β1 (i : Int) = β (i : Int) := by
    intro i hi
    show (if i < st.next then β (i : Int) else _) = _
    rw [if_pos hi]
  have hbig : ∀ i, st.next ≤ i → backE X st.next β β1 (i : Int) = β1 ((i - st.next + X.length : Nat) : Int) := by
    intro i hi
    show (if i < st.next then β (i : Int) else _) = _
    rw [if_neg (by omega)]
  have hren : RenOk true (backN X st.next) β1 (backE X st.next β β1) := by
    refine ⟨fun b b' l hb hl => ?_, fun _ k l hk => hk⟩
    by_cases hbl : b < X.length
    · rw [backN_lt _ _ _ hbl] at hb
      rw [hold b' (hsrc b' (hXs _ (List.mem_of_getElem? hb))).choose_spec.2, ← hre b b' hb]; exact hl
    · rw [backN_ge _ _ _ (by omega)] at hb
      obtain rfl := Option.some.inj hb
      rw [hbig _ (Nat.le_add_right _ _), show st.next + (b - X.length) - st.next + X.length = b by omega]; exact hl
  have hfrom : ∀ (t : Trie Blk) (i : Nat) b, (putB (backN X st.next) X bs1 st.next t).get i = some b → (∃ (j : Nat) (b0 : Blk), bs1[j]? = some b0 ∧ b = renC (backN X st.next) b0 ∧ backE X st.next β β1 (i : Int) = β1 (j : Int) ∧ backN X st.next j = some i ∧ (i ∈ X ∨ st.next ≤ i ∧ i < st.next + (bs1.length - X.length))) ∨ (i ∉ X ∧ ¬ (st.next ≤ i ∧ i < st.next + (bs1.length - X.length)) ∧ t.get i = some b) := by
    intro t i b hi
    rcases putB_get X bs1 st.next t i hnd hlen (fun b hb => (hsrc b (hXs b hb)).choose_spec.2) with ⟨j, g1, g2⟩ | ⟨g1, g2⟩
    · rw [g2] at hi
      cases hx : bs1[j]? with
      | none => rw [hx] at hi; cases hi
      | some b0 =>
        rw [hx] at hi
        have hm := List.mem_of_getElem? g1
        refine Or.inl ⟨j, b0, hx, (Option.some.inj hi).symm, ?_, ?_, Or.inl hm⟩
        · rw [hold i (hsrc i (hXs i hm)).choose_spec.2, hre j i g1]
        · rw [backN_lt _ _ _ (List.getElem?_eq_some_iff.1 g1).1]; exact g1
    · rw [g2] at hi
      split at hi
      · rename_i hr
        cases hx : bs1[i - st.next + X.length]? with
        | none => rw [hx] at hi; cases hi
        | some b0 =>
          rw [hx] at hi
          refine Or.inl ⟨_, b0, hx, (Option.some.inj hi).symm, hbig i hr.1, ?_, Or.inr hr⟩
          rw [backN_ge _ _ _ (by omega)]
          congr 1
          omega
      · rename_i hr
        exact Or.inr ⟨g1, hr, hi⟩
  have hlone : ∀ (i : Nat) b, (placeX X [] ⟨.leaf, st.next⟩ bs1).heap.get i = some b → ∃ (j : Nat) (b0 : Blk), (mkSt bs1).heap.get j = some b0 ∧ b = renC (backN X st.next) b0 ∧ backE X st.next β β1 (i : Int) = β1 (j : Int) ∧ backN X st.next j = some i := by
    intro i b hi
    rcases hfrom .leaf i b hi with ⟨j, b0, g1, g2, g3, g4, _⟩ | ⟨_, _, g⟩
    · exact ⟨j, b0, by rw [mkSt_get]; exact g1, g2, g3, g4⟩
    · cases g
  have hnx : (mkSt bs1).next = bs1.length := rfl
  have rl : Rel P K1 (backE X st.next β β1) (placeX X [] ⟨.leaf, st.next⟩ bs1) w1 := by
    refine ⟨h1.base, fun i l hi => ?_, fun i b hi hl => ?_, fun i j bi bj li lj hi hbi hj hbj hli hlj v1 v2 e => ?_, fun i hi => ?_, fun k l hk => h1.nofz k l hk, fun k l hk => ?_, h1.objs.1.neg fun _ _ h => h, fun _ _ => False, fun i o hi => ?_, fun i k hk => hk.elim⟩
    · by_cases hin : i < st.next
      · rw [hold i hin] at hi
        obtain ⟨a1, a2⟩ := h.dom i l hi
        exact ⟨Nat.lt_of_lt_of_le a1 (Nat.le_add_right _ _), fun hv => Nat.lt_of_lt_of_le (a2 hv) hb.size⟩
      · rw [hbig i (by omega)] at hi
        obtain ⟨a1, a2⟩ := h1.dom _ l hi
        exact ⟨by show i < st.next + (bs1.length - X.length); omega, a2⟩
    · obtain ⟨j, b0, a2, rfl, a3, _⟩ := hlone i b hi
      obtain ⟨l, c1, c2, c3⟩ := h1.blk _ b0 a2 (renC_live hl)
      exact ⟨l, by rw [a3]; exact c1, c2, renC_rel hren c3⟩
    · obtain ⟨i', b0, a2, rfl, a3, a4⟩ := hlone i bi hi
      obtain ⟨j', d0, c2, rfl, c3, c4⟩ := hlone j bj hj
      rw [a3] at hli
      rw [c3] at hlj
      have := h1.inj _ _ b0 d0 li lj a2 (renC_live hbi) c2 (renC_live hbj) hli hlj v1 v2 e
      rw [this, c4] at a4
      exact (Option.some.inj a4).symm
    · rw [k2] at hi
      obtain ⟨a1, a2⟩ := h.res i hi
      exact ⟨Nat.lt_of_lt_of_le a1 (Nat.le_add_right _ _), by rw [hold i a1]; exact a2⟩
    · obtain ⟨f1, f2, f3⟩ := h1.frz k l hk
      refine ⟨f1, f2, fun j bj lj hj hbj hlj hv => ?_⟩
      obtain ⟨j', d0, c2, rfl, c3, _⟩ := hlone j bj hj
      rw [c3] at hlj
      exact f3 _ d0 lj c2 (renC_live hbj) hlj hv
    · obtain ⟨_, b0, _, e, _⟩ := hlone i _ hi
      exact (renC_obj e.symm).elim
  refine ⟨hple, k4 _ (placeX X [] ⟨.leaf, st.next⟩ bs1) _ w1 hple rl ⟨hb.os, hb.tape, hb.output, hb.size, hb.block⟩ (Nat.le_add_right _ _) (fun i o hi => ?_) rfl (fun i b hi hl => ?_) (fun i o hi hdead => ?_), hren⟩
  · obtain ⟨_, b0, _, e, _⟩ := hlone i _ hi
    exact (renC_obj e.symm).elim
  · have hq := putB_get (ρ := backN X st.next) X bs1 st.next .leaf i hnd hlen (fun b hb => (hsrc b (hXs b hb)).choose_spec.2)
    have hq2 := putB_get (ρ := backN X st.next) X bs1 st.next (killL L st.heap) i hnd hlen (fun b hb => (hsrc b (hXs b hb)).choose_spec.2)
    have hi : (putB (backN X st.next) X bs1 st.next (killL L st.heap)).get i = some b := hi
    rcases hq2 with ⟨j, g1, g2⟩ | ⟨g1, g2⟩
    · refine Or.inl ?_
      rcases hq with ⟨j', g1', g2'⟩ | ⟨g1', _⟩
      · have : j' = j := nodup_idx hnd g1' g1
        subst this
        show (putB _ X bs1 st.next .leaf).get i = _
        rw [g2', ← g2]; exact hi
      · exact absurd (List.mem_of_getElem? g1) g1'
    · rcases hq with ⟨j', g1', g2'⟩ | ⟨g1', g2'⟩
      · exact absurd (List.mem_of_getElem? g1') g1
      · rw [g2] at hi
        split at hi
        · rename_i hr
          refine Or.inl ?_
          show (putB _ X bs1 st.next .leaf).get i = _
          rw [g2', if_pos hr]; exact hi
        · rename_i hr
          rw [killL_get] at hi
          split at hi
          · obtain rfl := Option.some.inj hi; cases hl
          · rename_i hns
            refine Or.inr ⟨fun c hc => ?_, fun c hc => ?_, hi⟩
            · have hc : (putB _ X bs1 st.next .leaf).get i = some c := hc
              rw [g2', if_neg hr] at hc; cases hc
            · rw [h0, if_neg (hsX i g1 hns)] at hc; cases hc
  · obtain ⟨l, hl, _⟩ := h.blk i _ hi rfl
    have hlt := (h.dom i l hl).1
    show (putB _ X bs1 st.next (killL L st.heap)).get i = _
    rcases putB_get (ρ := backN X st.next) X bs1 st.next (killL L st.heap) i hnd hlen (fun b hb => (hsrc b (hXs b hb)).choose_spec.2) with ⟨j, g1, g2⟩ | ⟨g1, g2⟩
    · obtain ⟨x, hc, hcm⟩ := hcells i (hXs i (List.mem_of_getElem? g1))
      rw [hi] at hc; cases hc; cases hcm
    · rw [g2, if_neg (by omega), killL_get, if_neg]
      · exact hi
      · intro hm
        obtain ⟨x, hc, hcm⟩ := hcells i (hLs i hm)
        rw [hi] at hc; cases hc; cases hcm
noncomputable def numsX {α : Type} (h : Nat → Option Blk) (n : Nat) : List Value → List Nat → List Nat → (List Nat → List Nat → α) → α :=
  @Nat.rec (fun _ => List Value → List Nat → List Nat → (List Nat → List Nat → α) → α) (fun _ X L k => k X L)
    (fun _ ih vs X L k => match vs with
      | [] => k X L
      | v :: vs => match (match v with
          | .slice (some a) _ _ => some a.block
          | .pointer (some a) => some a.block
          | .map (some r) => some r
          | .iface _ (.pointer (some a)) => some a.block
          | _ => none) with
        | none => ih vs X L k
        | some b => @Bool.rec (fun _ => α)
            (match h b with
              | some (.cells c _ true) => ih (c.append vs) (X.append [b]) L k
              | some (.map _ _) => ih vs (X.append [b]) L k
              | _ => ih vs X (L.append [b]) k)
            (ih vs X L k) (or (hasN X b) (hasN L b))) n
theorem numsX_k {α : Type} (h : Nat → Option Blk) : ∀ (n : Nat) (vs : List Value) (X L : List Nat) (k : List Nat → List Nat → α), ∃ X' L', numsX h n vs X L k = k X' L'
  | 0, vs, X, L, k => ⟨X, L, rfl⟩
  | n + 1, [], X, L, k => ⟨X, L, rfl⟩
  | n + 1, v :: vs, X, L, k => by
    show ∃ X' L', (match (match v with
          | .slice (some a) _ _ => some a.block
          | .pointer (some a) => some a.block
          | .map (some r) => some r
          | .iface _ (.pointer (some a)) => some a.block
          | _ => none) with
        | none => numsX h n vs X L k
        | some b => @Bool.rec (fun _ => α)
            (match h b with
              | some (.cells c _ true) => numsX h n (c.append vs) (X.append [b]) L k
              | some (.map _ _) => numsX h n vs (X.append [b]) L k
              | _ => numsX h n vs X (L.append [b]) k)
            (numsX h n vs X L k) (or (hasN X b) (hasN L b))) = k X' L'
    split
    · exact numsX_k h n _ _ _ k
    · rename_i b _
      cases or (hasN X b) (hasN L b) with
      | true => exact numsX_k h n _ _ _ k
      | false =>
        simp only
        split
        · exact numsX_k h n _ _ _ k
        · exact numsX_k h n _ _ _ k
        · exact numsX_k h n _ _ _ k
noncomputable def upTo (n : Nat) : List Nat → Nat → Bool := @Nat.rec (fun _ => List Nat → Nat → Bool) (fun _ _ => true)
  (fun _ ih X i => match X with
    | b :: X => match Nat.beq b i with
      | true => ih X (Nat.succ i)
      | false => false
    | [] => false) n
theorem upTo_spec : ∀ (n : Nat) (X : List Nat) (i : Nat), upTo n X i = true → n ≤ X.length ∧ ∀ j, j < n → X[j]? = some (i + j)
  | 0, X, i, h => ⟨Nat.zero_le _, fun j hj => by omega⟩
  | n + 1, [], i, h => by cases h
  | n + 1, b :: X, i, h => by
    have h : (match Nat.beq b i with | true => upTo n X (i + 1) | false => false) = true := h
    split at h
    · rename_i hb
      obtain rfl := Nat.eq_of_beq_eq_true hb
      obtain ⟨h1, h2⟩ := upTo_spec n X _ h
      refine ⟨by simpa using h1, fun j hj => ?_⟩
      cases j with
      | zero => rfl
      | succ j => rw [List.getElem?_cons_succ, h2 j (by omega)]; congr 1; omega
    · cases h
theorem upTo_le {N : Nat} {X L : List Nat} {β : Env} (h : upTo N X 0 = true) : leN N β (reEnv 0 (X ++ L) β) := by
  obtain ⟨h1, h2⟩ := upTo_spec _ _ _ h
  intro i l hi hl
  cases i with
  | negSucc k => exact hl
  | ofNat i =>
    have hi : i < N := by have : ((i : Nat) : Int) < (N : Nat) := hi; omega
    show (if i < 0 then β (i : Int) else match (X ++ L)[i - 0]? with | some b => β (b : Int) | none => none) = some l
    rw [if_neg (by omega), Nat.sub_zero, List.getElem?_append_left (by omega), h2 i hi, Nat.zero_add]; exact hl
/-- A loop's head: how many objects, slots, of what kind the lists are that they hold; their types; the objects' fields likewise. -/
structure HeadX where
  N : Nat
  nt : Nat
  L : List Tmp
  fl : List Fl
  ts : List TypeId
  pol : Pol
def HeadX.head (D : HeadX) : Head := ⟨D.N, D.nt, D.L, []⟩
noncomputable def canHeadX {α : Type} (P : Program) (D : HeadX) (s : Trie Value) (st : St) (k : List Nat → List Nat → St → List Value → List Blk → DT α) : DT α :=
  fixL P 60 D.fl D.ts (D.L.map (slotF s)) st fun vs1 ps st1 => canD P D.pol 200 ps [] st1 fun st2 =>
    numsX (heapF st2) 1000 vs1 [] [] fun X L => match Nat.beq X.length D.N, movs 0 (X.append L) (fun i => getP (path i) st2.heap) (X.append L) with
    | true, some ms => k X L st2 (vs1.map (renV true (rhoO 0 (X.append L)))) ms
    | _, _ => .fail
theorem canHeadX_spec {α : Type} {r : α} {D : HeadX} {s : Trie Value} {st : St} {k : List Nat → List Nat → St → List Value → List Blk → DT α} (h : (canHeadX P D s st k).eval = some r) :
    ∃ X L st2 vs1 ms, (k X L st2 (vs1.map (renV true (rhoO 0 (X ++ L)))) ms).eval = some r ∧ X.length = D.N ∧ movs 0 (X ++ L) (fun i => st2.heap.get i) (X ++ L) = some ms ∧
      ∀ (K : Prot) (β : Env) (w : World) (n : Nat) (tmps : Array Value), Rel P K β st w → SlotsR β s n tmps → ∃ β1, β.le β1 ∧ Rel P K β1 st2 w ∧ VRL β1 vs1 (D.L.map fun t => tmps.getD t undef) := by
  unfold canHeadX at h
  obtain ⟨vs1, ps, st1, h1, h3, h4⟩ := fixL_spec _ _ _ _ _ _ h
  obtain ⟨st2, k1, k2⟩ := canD_spec _ _ _ _ _ h1
  obtain ⟨X, L, hX⟩ := numsX_k (heapF st2) 1000 vs1 [] [] fun X L => match Nat.beq X.length D.N, movs 0 (X.append L) (fun i => getP (path i) st2.heap) (X.append L) with
    | true, some ms => k X L st2 (vs1.map (renV true (rhoO 0 (X.append L)))) ms
    | _, _ => .fail
  rw [hX] at k1
  split at k1
  · rename_i ms hn hm
    refine ⟨X, L, st2, vs1, ms, k1, Nat.eq_of_beq_eq_true hn, by simp only [getP_path] at hm; exact hm, fun K β w n tmps hr hs => ?_⟩
    obtain ⟨β1, a1, a2, a3⟩ := h4 K β w _ hr (slots_list hs D.L)
    obtain ⟨β2, b1, b2⟩ := k2 K β1 w a2
    exact ⟨β2, a1.trans b1, b2, a3.mono b1⟩
  · cases k1
def LRX (P : Program) (fid id : Nat) (B : Code) (H : Head) (vs : List Value) (bs : List Blk) (e : Ex) (vs' : List Value) (bs' : List Blk) : Prop :=
  ∀ (K : Prot) (β : Env) (w : World) (fr : Frame) (cs : List Frame) (k : List Item), (∀ i, ¬ K.id i) → fr.todo = .code B :: .inLoop B :: .inBlock id :: k → fr.fn = fid → FrR β (H.fr vs) fr → Rel P K β (mkSt bs) w →
    ReachN H.N P K β fr cs w e k (H.fr vs') (mkSt bs') ∧ H.N ≤ bs'.length
noncomputable def kontLX (P : Program) (D : HeadX) : Ex → Trie Value → List Deferred → St → Res := fun e s d st => match d with
  | [] => DT.run (canHeadX P D s st fun X _ _ vs ms => match upTo D.N X 0 with
    | true => .leaf (vs, ms)
    | false => .fail) fun r => some (.tuple ⟨exV e :: r.1⟩, mkSt r.2)
  | _ => none
noncomputable def roundQX (P : Program) (E : Eng) (ct : Ct) (n : Nat) (fid : Nat) (B : Code) (D : HeadX) (vs : List Value) (bs : List Blk) : Res :=
  codeQ P E ct n (knotQ P E ct n n) fid D.nt none B (mkS D.nt D.L vs) [] (mkSt bs) (kontLX P D)
theorem round_reachX {E : Eng} (hE : EngOk P ct E) (hN : noNum P = true) (hct : CtOk P ct) {n fid id : Nat} {B : Code} {D : HeadX} (hocc : Occ P fid (.block id (.loop B))) {vs vs1 : List Value} {bs bs1 : List Blk} {e : Ex}
    (h : roundQX P E ct n fid B D vs bs = some (.tuple ⟨exV e :: vs1⟩, mkSt bs1)) (K : Prot) (β : Env) (w : World) (fr : Frame) (cs : List Frame) (k : List Item) (hid : ∀ i, ¬ K.id i) (ht : fr.todo = .code B :: k) (hfid : fr.fn = fid) (hf : FrR β (D.head.fr vs) fr) (hr : Rel P K β (mkSt bs) w) :
    ReachN D.head.N P K β fr cs w e k (D.head.fr vs1) (mkSt bs1) ∧ D.head.N ≤ bs1.length := by
  unfold roundQX at h
  obtain ⟨m, e1, s1, d1, st1, h1, h2⟩ := codeQ_ok hE (knotQ_ok hE n n) n fid D.nt none B _ _ _ _ _ h
  unfold kontLX at h2
  split at h2
  · obtain ⟨r, hc, h2⟩ := DT.run_spec h2
    obtain ⟨X, L, st2, vs2, ms, hc1, hlen, hm, hc2⟩ := canHeadX_spec hc
    split at hc1
    · rename_i hup
      simp only [DT.eval, Option.some.injEq] at hc1
      subst hc1
      simp only [Option.some.injEq, Prod.mk.injEq, Value.tuple.injEq, Array.mk.injEq, List.cons.injEq] at h2
      obtain ⟨⟨he, rfl⟩, hst⟩ := h2
      obtain rfl := exV_inj he
      obtain ⟨β1, fr1, w1, a1, a2, a3, a4, a5, a6, a7, a8, a9⟩ := (sound_all hN hct m K).code fid B _ _ _ _ _ h1 (hocc.sub (.block (.loop (.refl _)))) β w fr cs k ht hfid hf hr
      obtain ⟨β2, b1, b2, b3⟩ := hc2 K β1 w1 _ _ a3 a5.slots
      obtain ⟨m1, m2, m3⟩ := movs_spec hm
      have hmid := canon_mid (N := 0) (src := X ++ L) b2 (fun i hi => (hid i hi).elim) (Nat.zero_le _) m1 m2
      have hren := ren_ok (X ++ L) β2
      have hms : (mkSt ms).next = bs1.length := by rw [hst]; rfl
      have hmsl : ms.length = bs1.length := hms
      refine ⟨⟨reEnv 0 (X ++ L) β2, fr1, w1, a1, (a2.trans b1 |>.leN _).trans (upTo_le hup), ?_, a4, ⟨mkS_rel a5.slots.1 ?_, by have := a5.defers; unfold DefsR at this; rw [this]; rfl, by have := a5.round; exact this, a5.mode⟩, a6, a7, a8, a9⟩, ?_⟩
      · rw [← hst, m3]; exact hmid
      · exact b3.mapr fun v _ x hx => renV_rel hren v x hx
      · rw [← hmsl, m3, List.length_map, List.length_append]
        show D.N ≤ _
        omega
    · cases hc1
  · cases h2
theorem LRX.again {E : Eng} (hE : EngOk P ct E) (hN : noNum P = true) (hct : CtOk P ct) {n fid id : Nat} {B : Code} {D : HeadX} (hocc : Occ P fid (.block id (.loop B))) {vs vs1 vs' : List Value} {bs bs1 bs' : List Blk} {e : Ex}
    (h : roundQX P E ct n fid B D vs bs = some (.tuple ⟨exV .normal :: vs1⟩, mkSt bs1)) (hl : LRX P fid id B D.head vs1 bs1 e vs' bs') : LRX P fid id B D.head vs bs e vs' bs' := by
  intro K β w fr cs k hid ht hfid hf hr
  obtain ⟨⟨β1, fr1, w1, a1, a2, a3, a4, a5, a6, a7, a8, a9⟩, _⟩ := round_reachX hE hN hct hocc h K β w fr cs _ hid ht hfid hf hr
  have a9 : fr1.todo = .inLoop B :: .inBlock id :: k := a9
  have hs := s_inLoop (P := P) (cs := cs) (w := w1) a5.mode a9
  obtain ⟨⟨β2, fr2, w2, b1, b2, b3, b4, b5, b6, b7, b8, b9⟩, hb⟩ := hl K β1 w1 { fr1 with todo := .code B :: .inLoop B :: .inBlock id :: k } cs k hid rfl (a7.trans hfid) ⟨a5.slots, a5.defers, a5.round, a5.mode⟩ a3
  exact ⟨⟨β2, fr2, w2, a1.trans (.head hs b1), a2.trans b2, b3, a4.trans b4, b5, b6.trans a6, b7.trans a7, b8.trans a8, b9⟩, hb⟩
theorem LRX.stop {E : Eng} (hE : EngOk P ct E) (hN : noNum P = true) (hct : CtOk P ct) {n fid id : Nat} {B : Code} {D : HeadX} (hocc : Occ P fid (.block id (.loop B))) {vs vs1 : List Value} {bs bs1 : List Blk} {e : Ex}
    (h : roundQX P E ct n fid B D vs bs = some (.tuple ⟨exV e :: vs1⟩, mkSt bs1)) (he : e ≠ .normal) : LRX P fid id B D.head vs bs (exitE id e) vs1 bs1 := by
  intro K β w fr cs k hid ht hfid hf hr
  obtain ⟨⟨β1, fr1, w1, a1, a2, a3, a4, a5, a6, a7, a8, a9⟩, hb⟩ := round_reachX hE hN hct hocc h K β w fr cs _ hid ht hfid hf hr
  refine ⟨?_, hb⟩
  have a9 := a9.under he (fun i e => by cases e)
  cases e with
  | normal => exact absurd rfl he
  | ret => exact ⟨β1, fr1, w1, a1, a2, a3, a4, a5, a6, a7, a8, a9⟩
  | exit i =>
    obtain ⟨k2, h1, h2⟩ := a9
    cases hb : Nat.beq i id with
    | true =>
      have hx2 : exitE id (.exit i) = .normal := by simp only [exitE, hb]
      rw [hx2]
      have := Nat.eq_of_beq_eq_true hb
      subst this
      have hx : exitTo i k2 = some k := by rw [h2]; simp [exitTo]
      exact ⟨β1, { fr1 with todo := k }, w1, a1.trans (.one (s_exit a5.mode h1 hx)), a2, a3, a4, a5.todo k, a6, a7, a8, rfl⟩
    | false =>
      have hx2 : exitE id (.exit i) = .exit i := by simp only [exitE, hb]
      rw [hx2]
      have := Nat.ne_of_beq_eq_false hb
      refine ⟨β1, fr1, w1, a1, a2, a3, a4, a5, a6, a7, a8, k2, h1, ?_⟩
      rw [h2]
      have : (id == i) = false := by simp; exact fun ee => this ee.symm
      simp [exitTo, this]
structure LoopOkX (P : Program) (fid id : Nat) (B : Code) (H : Head) (R : LoopFn) : Prop where
  occ : ∀ c, Occ P fid (.block id c) → c = .loop B
  run : ∀ vs bs t, R vs bs = some t → ∀ e vs' bs', t.eval = some (e, vs', bs') → LRX P fid id B H vs bs e vs' bs'
noncomputable def loopCtX (P : Program) (D : HeadX) (R : LoopFn) (f : Fr) (st : St) : Option (DT (Ex × Trie Value × St)) :=
  match f.defers, f.roundOf, Nat.beq f.ntmps D.nt with
  | [], none, true => some (canHeadX P D f.slots st fun X L st2 vs ms => match R vs ms with
    | some t => t.map fun x => (x.1, mkS D.nt D.L (x.2.1.map (renV true (backN X st2.next))), placeX X L st2 x.2.2)
    | none => .fail)
  | _, _, _ => none
noncomputable def addLoopX (P : Program) (fid id : Nat) (D : HeadX) (R : LoopFn) (ct : Ct) : Ct where
  call := ct.call
  loop := fun fid' id' f st => match and (Nat.beq fid' fid) (Nat.beq id' id) with
    | true => loopCtX P D R f st
    | false => ct.loop fid' id' f st
  op := ct.op
theorem addLoopX_ok {fid id : Nat} {B : Code} {D : HeadX} {R : LoopFn} (hct : CtOk P ct) (h : LoopOkX P fid id B D.head R) : CtOk P (addLoopX P fid id D R ct) where
  opc := hct.opc
  op := hct.op
  call := hct.call
  loop := by
    intro K fid' id' c f st e s' st' hl hocc β w fr cs k ht hfid hf hr
    simp only [addLoopX] at hl
    split at hl
    · rename_i hb
      simp only [Bool.and_eq_true] at hb
      obtain rfl := Nat.eq_of_beq_eq_true hb.1
      obtain rfl := Nat.eq_of_beq_eq_true hb.2
      obtain rfl := h.occ c hocc
      unfold loopCtX at hl
      split at hl
      · rename_i hd hro hnt
        have hnt := Nat.eq_of_beq_eq_true hnt
        simp only [Option.bind_some] at hl
        obtain ⟨X, L, st2, vs1, ms, hk, hXN, hm, hrel⟩ := canHeadX_spec hl
        split at hk
        · rename_i t hR
          obtain ⟨⟨e1, vs2, bs2⟩, hev, heq⟩ := DT.map_eval hk
          simp only [Prod.mk.injEq] at heq
          obtain ⟨rfl, rfl, rfl⟩ := heq
          obtain ⟨β0, b1, b2, b3⟩ := hrel K β w _ _ hr hf.slots
          obtain ⟨m1, m2, m3⟩ := movs_spec hm
          obtain ⟨K', k1, k2, k3, k4⟩ := swapX_rel b2 m1 m2
          have hslots : SlotsR (reEnv 0 (X ++ L) β0) (mkS D.nt D.L (vs1.map (renV true (rhoO 0 (X ++ L))))) D.nt fr.tmps :=
            mkS_rel (by rw [hf.slots.1]; exact hnt) (b3.mapr fun v _ x hx => renV_rel (ren_ok (X ++ L) β0) v x hx)
          have s1 := s_block (P := P) (cs := cs) (w := w) hf.mode ht
          have s2 := s_loop (P := P) (fr := { fr with todo := .code (.loop B) :: .inBlock id' :: k }) (cs := cs) (w := w) hf.mode rfl
          have hdf : fr.defers = [] := by have := hf.defers; rw [hd] at this; exact this
          have hrf : fr.roundOf = none := by have := hf.round; rw [hro] at this; exact this
          obtain ⟨⟨β1, fr1, w1, a1, a2, a3, a4, a5, a6, a7, a8, a9⟩, a10⟩ := h.run _ _ t hR _ _ _ hev K' (reEnv 0 (X ++ L) β0) w { fr with todo := .code B :: .inLoop B :: .inBlock id' :: k } cs k k2 rfl hfid ⟨hslots, hdf, hrf, hf.mode⟩ (by rw [m3]; exact k3)
          have a2 : leN X.length (reEnv 0 (X ++ L) β0) β1 := by rw [hXN]; exact a2
          have a10 : X.length ≤ bs2.length := by rw [hXN]; exact a10
          obtain ⟨c1, c2, c3⟩ := k4 β1 bs2 w1 a2 a10 a3 a4
          refine ⟨_, fr1, w1, .head s1 (.head s2 a1), b1.trans c1, c2, a4.mono k1, ⟨⟨by rw [a5.slots.1]; exact hnt.symm, fun i => ?_⟩, ?_, ?_, a5.mode⟩, a6, a7, a8, a9⟩
          · show VR _ (((mkS D.nt D.L (vs2.map (renV true (backN X st2.next)))).get i).getD undef) _
            rw [mkS_ren rfl undef_ren]
            exact renV_rel c3 _ _ (a5.slots.2 i)
          · show DefsR _ f.defers _
            rw [hd]; exact a5.defers
          · show RoundOfR _ f.roundOf _
            rw [hro]; exact a5.round
        · cases hk
      · cases hl
    · exact hct.loop K fid' id' c f st e s' st' hl hocc β w fr cs k ht hfid hf hr
def CallReachN (N : Nat) (P : Program) (K : Prot) (β : Env) (g : FuncId) (args' : Array Value) (kind : CallKind) (cs : List Frame) (w : World) (v : Value) (st' : St) : Prop :=
  ∃ β' fr w' v', Steps P (lone (Frame.enter P g args' kind) cs w) (lone fr cs w') ∧ leN N β β' ∧ Rel P K β' st' w' ∧ Bel K w w' ∧ VR β' v v' ∧ Left P fr g kind v' w'
def CRX (P : Program) (N : Nat) (g : FuncId) (args : List Value) (bs : List Blk) (v : Value) (bs' : List Blk) : Prop :=
  ∀ (K : Prot) (β : Env) (w : World) (args' : Array Value) (cs : List Frame), (∀ i, ¬ K.id i) → VRL β args args'.toList → Rel P K β (mkSt bs) w → CallReachN N P K β g args' .normal cs w v (mkSt bs') ∧ N ≤ bs'.length
structure CallOkX (P : Program) (N : Nat) (g : FuncId) (R : CallFnM) : Prop where
  run : ∀ args bs t, R args bs = some t → ∀ v bs', t.eval = some (v, bs') → CRX P N g args bs v bs'
noncomputable def callCtX (P : Program) (pol : Pol) (N : Nat) (g : FuncId) (R : CallFnM) (args : List Value) (st : St) : DT (Value × St) :=
  canD P pol 200 (ptrsL args) [] st fun st1 => frzL P 100 (parT P g) args st1 fun args1 st2 =>
    numsX (heapF st2) 1000 args1 [] [] fun X L => match Nat.beq X.length N, movs 0 (X.append L) (fun i => getP (path i) st2.heap) (X.append L) with
    | true, some ms => match R (args1.map (renV true (rhoO 0 (X.append L)))) ms with
      | some t => t.map fun x => (renV true (backN X st2.next) x.1, placeX X L st2 x.2)
      | none => .fail
    | _, _ => .fail
noncomputable def addCallX (P : Program) (pol : Pol) (N : Nat) (g : FuncId) (R : CallFnM) (ct : Ct) : Ct where
  call := fun g' args st => match Nat.beq g' g with
    | true => some (callCtX P pol N g R args st)
    | false => ct.call g' args st
  loop := ct.loop
  op := ct.op
theorem addCallX_ok {pol : Pol} {N : Nat} {g : FuncId} {R : CallFnM} (hct : CtOk P ct) (h : CallOkX P N g R) : CtOk P (addCallX P pol N g R ct) where
  opc := hct.opc
  op := hct.op
  loop := hct.loop
  call := by
    intro K g' args st v st' hl β w args' cs ha hr
    simp only [addCallX] at hl
    split at hl
    · rename_i hb
      obtain rfl := Nat.eq_of_beq_eq_true hb
      simp only [callCtX, Option.bind_some] at hl
      obtain ⟨st1, h1, h2⟩ := canD_spec _ _ _ _ _ hl
      obtain ⟨args1, st2, k1, k2, k3, k4⟩ := frzL_spec _ _ _ _ _ h1
      obtain ⟨X, L, hX⟩ := numsX_k (heapF st2) 1000 args1 [] [] fun X L => match Nat.beq X.length N, movs 0 (X.append L) (fun i => getP (path i) st2.heap) (X.append L) with
        | true, some ms => match R (args1.map (renV true (rhoO 0 (X.append L)))) ms with
          | some t => t.map fun (x : Value × List Blk) => (renV true (backN X st2.next) x.1, placeX X L st2 x.2)
          | none => .fail
        | _, _ => .fail
      rw [hX] at k1
      split at k1
      · rename_i ms hn hm
        have hm : movs 0 (X ++ L) (fun i => getP (path i) st2.heap) (X ++ L) = some ms := hm
        have hXN := Nat.eq_of_beq_eq_true hn
        split at k1
        · rename_i t hR
          obtain ⟨⟨v1, bs1⟩, hev, heq⟩ := DT.map_eval k1
          simp only [Prod.mk.injEq] at heq
          obtain ⟨rfl, rfl⟩ := heq
          obtain ⟨β1, a1, a2⟩ := h2 K β w hr
          obtain ⟨β2, b1, b2, b3⟩ := k4 K β1 w args'.toList a2 (ha.mono a1)
          obtain ⟨m1, m2, m3⟩ := movs_spec hm
          simp only [getP_path] at m2 m3
          obtain ⟨K', q1, q2, q3, q4⟩ := swapX_rel b2 m1 m2
          have ha' : VRL (reEnv 0 (X ++ L) β2) (args1.map (renV true (rhoO 0 (X ++ L)))) args'.toList := b3.mapr fun v _ x hx => renV_rel (ren_ok _ _) v x hx
          obtain ⟨⟨β3, fr, w1, v', d1, d2, d3, d4, d5, d6⟩, d7⟩ := h.run _ _ t hR v1 bs1 hev K' _ w args' cs q2 ha' (by rw [m3]; exact q3)
          obtain ⟨c1, c2, c3⟩ := q4 β3 bs1 w1 (by rw [hXN]; exact d2) (by rw [hXN]; exact d7) d3 d4
          exact ⟨_, fr, w1, v', d1, (a1.trans b1).trans c1, c2, d4.mono q1, renV_rel c3 _ _ d5, d6⟩
        · cases k1
      · cases k1
    · exact hct.call K g' args st v st' hl β w args' cs ha hr
noncomputable def resL (v : Value) : List Value := match v with
  | .tuple ⟨a⟩ => a
  | v => [v]
noncomputable def resB (v : Value) (l : List Value) : Value := match v with
  | .tuple _ => .tuple ⟨l⟩
  | _ => match l with
    | [x] => x
    | l => .tuple ⟨l⟩
noncomputable def callQX (P : Program) (E : Eng) (ct : Ct) (n : Nat) (pol : Pol) (fl : List Fl) (ts : List TypeId) (N : Nat) (g : FuncId) (args : List Value) (bs : List Blk) : Res :=
  (knotQ P E ct n n).call g args (mkSt bs) fun v st => DT.run (fixL P 60 fl ts (resL v) st fun vs1 ps st1 => canD P pol 200 (List.append (ptrsL args) ps) [] st1 fun st2 =>
    numsX (heapF st2) 1000 (List.append args vs1) [] [] fun X L => match upTo N X 0, Nat.beq vs1.length (resL v).length, movs 0 (X.append L) (fun i => getP (path i) st2.heap) (X.append L) with
    | true, true, some ms => .leaf (resB v (vs1.map (renV true (rhoO 0 (X.append L)))), ms)
    | _, _, _ => .fail) fun r => some (r.1, mkSt r.2)
theorem resL_rel {β : Env} {v v' : Value} (h : VR β v v') : ∃ xs, VRL β (resL v) xs ∧ ∀ (β' : Env) (vs : List Value), vs.length = (resL v).length → VRL β' vs xs → VR β' (resB v vs) v' := by
  by_cases hn : ∃ a, v = .tuple a
  · obtain ⟨⟨a⟩, rfl⟩ := hn
    simp only [VR] at h
    obtain ⟨a', rfl, ha⟩ := h
    refine ⟨a'.toList, ?_, fun β' vs _ hv => ?_⟩
    · simp only [VRA] at ha
      exact ha
    · simp only [resB, VR]
      exact ⟨a', rfl, by simp only [VRA]; exact hv⟩
  · have h1 : resL v = [v] := by cases v <;> first | rfl | exact absurd ⟨_, rfl⟩ hn
    have h2 : ∀ x, resB v [x] = x := by intro x; cases v <;> first | rfl | exact absurd ⟨_, rfl⟩ hn
    rw [h1]
    refine ⟨[v'], VRL.cons h VRL.nil, fun β' vs hl hv => ?_⟩
    match vs, hl with
    | [x], _ =>
      rw [h2]
      simp only [VRL] at hv
      obtain ⟨y, ys, e, hy, _⟩ := hv
      cases e
      exact hy
theorem CRX.of {E : Eng} (hE : EngOk P ct E) (hN : noNum P = true) (hct : CtOk P ct) {n : Nat} {pol : Pol} {fl : List Fl} {ts : List TypeId} {N : Nat} {g : FuncId} {args : List Value} {bs : List Blk} {v : Value} {bs' : List Blk} (h : callQX P E ct n pol fl ts N g args bs = some (v, mkSt bs')) : CRX P N g args bs v bs' := by
  intro K β w args' cs hid ha hr
  unfold callQX at h
  obtain ⟨m, v1, st1, h1, h2⟩ := (knotQ_ok hE n n).call _ _ _ _ _ h
  obtain ⟨β1, fr, w1, v', a1, a2, a3, a4, a5, a6⟩ := (sound_all hN hct m K).call g args (mkSt bs) v1 st1 h1 β w args' .normal cs (Or.inl rfl) ha hr
  obtain ⟨r, hc, h2⟩ := DT.run_spec h2
  obtain ⟨vs1, ps, st2, f1, f2, f3⟩ := fixL_spec _ _ _ _ _ _ hc
  obtain ⟨st3, g1, g2⟩ := canD_spec _ _ _ _ _ f1
  obtain ⟨X, L, hX⟩ := numsX_k (heapF st3) 1000 (List.append args vs1) [] [] fun X L => match upTo N X 0, Nat.beq vs1.length (resL v1).length, movs 0 (X.append L) (fun i => getP (path i) st3.heap) (X.append L) with
    | true, true, some ms => DT.leaf (resB v1 (vs1.map (renV true (rhoO 0 (X.append L)))), ms)
    | _, _, _ => .fail
  rw [hX] at g1
  split at g1
  · rename_i ms hup hvl hm
    have hm : movs 0 (X ++ L) (fun i => getP (path i) st3.heap) (X ++ L) = some ms := hm
    simp only [DT.eval, Option.some.injEq] at g1
    subst g1
    simp only [Option.some.injEq, Prod.mk.injEq] at h2
    obtain ⟨rfl, hst⟩ := h2
    obtain ⟨m1, m2, m3⟩ := movs_spec hm
    simp only [getP_path] at m2 m3
    have hvl := Nat.eq_of_beq_eq_true hvl
    obtain ⟨xs, x1, x2⟩ := resL_rel a5
    obtain ⟨β2, c1, c2, c3⟩ := f3 K β1 w1 xs a3 x1
    obtain ⟨β3, d1, d2⟩ := g2 K β2 w1 c2
    have hmid := canon_mid (N := 0) (src := X ++ L) d2 (fun i hi => (hid i hi).elim) (Nat.zero_le _) m1 m2
    have hren := ren_ok (X ++ L) β3
    have hmsl : ms.length = bs'.length := by have := congrArg St.next hst; exact this
    refine ⟨⟨reEnv 0 (X ++ L) β3, fr, w1, v', a1, (((a2.trans c1).trans d1).leN _).trans (upTo_le hup), ?_, a4, ?_, a6⟩, ?_⟩
    · rw [← hst, m3]; exact hmid
    · refine x2 _ _ (by rw [List.length_map]; exact hvl) ((c3.mono d1).mapr fun v _ x hx => renV_rel hren v x hx)
    · rw [← hmsl, m3, List.length_map, List.length_append]
      have := (upTo_spec _ _ _ hup).1
      omega
  · cases g1
theorem conX_ok {σ : Type} (k : Con σ) {N : Nat} {g : FuncId} {res : σ → DT (Value × List Blk)} (h : ∀ s, k.ok s → ∀ v bs', (res s).eval = some (v, bs') → CRX P N g (k.enc s).1 (k.enc s).2 v bs') : CallOkX P N g (conM k.C k.D res) := by
  refine ⟨fun args bs t hR v bs' hev => ?_⟩
  unfold conM at hR
  obtain rfl := Option.some.inj hR
  cases hc : k.C args bs with
  | false => rw [hc] at hev; cases hev
  | true =>
    rw [hc] at hev
    obtain ⟨s, h1, h2, h3⟩ := k.of hc
    have hev : (res (k.D args bs)).eval = some (v, bs') := hev
    rw [h3] at hev
    have := h s h2 v bs' hev
    rwa [h1] at this
theorem conLX_ok {σ : Type} (k : Con σ) {fid id : Nat} {B : Code} {H : Head} {res : σ → DT (Ex × List Value × List Blk)} (hocc : ∀ c, Occ P fid (.block id c) → c = .loop B)
    (h : ∀ s, k.ok s → ∀ e vs' bs', (res s).eval = some (e, vs', bs') → LRX P fid id B H (k.enc s).1 (k.enc s).2 e vs' bs') : LoopOkX P fid id B H (conL k.C k.D res) where
  occ := hocc
  run := by
    intro vs bs t hR e vs' bs' hev
    unfold conL at hR
    obtain rfl := Option.some.inj hR
    cases hc : k.C vs bs with
    | false => rw [hc] at hev; cases hev
    | true =>
      rw [hc] at hev
      obtain ⟨s, h1, h2, h3⟩ := k.of hc
      have hev : (res (k.D vs bs)).eval = some (e, vs', bs') := hev
      rw [h3] at hev
      have := h s h2 e vs' bs' hev
      rwa [h1] at this
open Classical in
noncomputable def Con.at {σ : Type} (k : Con σ) (s : σ) : List Value → List Blk → Bool := fun vs bs => decide (k.enc s = (vs, bs))
open Classical in
theorem Con.at_true {σ : Type} (k : Con σ) {s : σ} {vs : List Value} {bs : List Blk} (h1 : (k.enc s).1 = vs) (h2 : (k.enc s).2 = bs) : k.at s vs bs = true := by
  unfold Con.at; exact decide_eq_true (by rw [← h1, ← h2])
open Classical in
theorem Con.at_of {σ : Type} (k : Con σ) {s : σ} {vs : List Value} {bs : List Blk} (h : k.at s vs bs = true) : k.enc s = (vs, bs) := by
  unfold Con.at at h; exact of_decide_eq_true h
noncomputable def oneM (C : List Value → List Blk → Bool) (t : DT (Value × List Blk)) : CallFnM := fun args bs => some (.ite (C args bs) t .fail)
noncomputable def oneL (C : List Value → List Blk → Bool) (t : DT (Ex × List Value × List Blk)) : LoopFn := fun vs bs => some (.ite (C vs bs) t .fail)
theorem oneM_ok {σ : Type} (k : Con σ) {N : Nat} {g : FuncId} {res : σ → DT (Value × List Blk)} (h : CallOkX P N g (conM k.C k.D res)) {s : σ} (ho : k.ok s) : CallOkX P N g (oneM (k.at s) (res s)) := by
  refine ⟨fun args bs t hR v bs' hev => ?_⟩
  unfold oneM at hR
  obtain rfl := Option.some.inj hR
  cases hc : k.at s args bs with
  | false => rw [hc] at hev; cases hev
  | true =>
    rw [hc] at hev
    have he := k.at_of hc
    refine h.run args bs _ rfl v bs' ?_
    rw [k.C_enc he ho, k.D_enc he]
    exact hev
theorem oneL_ok {σ : Type} (k : Con σ) {fid id : Nat} {B : Code} {H : Head} {res : σ → DT (Ex × List Value × List Blk)} (h : LoopOkX P fid id B H (conL k.C k.D res)) {s : σ} (ho : k.ok s) : LoopOkX P fid id B H (oneL (k.at s) (res s)) where
  occ := h.occ
  run := by
    intro vs bs t hR e vs' bs' hev
    unfold oneL at hR
    obtain rfl := Option.some.inj hR
    cases hc : k.at s vs bs with
    | false => rw [hc] at hev; cases hev
    | true =>
      rw [hc] at hev
      have he := k.at_of hc
      refine h.run vs bs _ rfl e vs' bs' ?_
      rw [k.C_enc he ho, k.D_enc he]
      exact hev
end
end Go.VS
end

section
namespace Go.VS
open Go.RowKit
section
variable {P : Program} {ct : Ct}
theorem Rel.below {K : Prot} {β : Env} {st : St} {w w' : World} (hr : Rel P K β st w) (hb : Below w.heap.size w w') : Rel P K β st w' ∧ Bel K w w' :=
  ⟨hr.more hb.size hb.block, ⟨hb.os, hb.tape, hb.output, hb.size, fun k hk => hb.block k (hr.base k hk)⟩⟩
def frzEnv (β : Env) (A : Nat) (o : Obj) : Env
  | .ofNat i => β (.ofNat i)
  | .negSucc k => if k = A then some ⟨A, 0, 0, 0, some o, false⟩ else β (.negSucc k)
theorem frzEnv_same (β : Env) (A : Nat) (o : Obj) : frzEnv β A o (Int.negSucc A) = some ⟨A, 0, 0, 0, some o, false⟩ := if_pos rfl
theorem frzEnv_other (β : Env) {A k : Nat} (o : Obj) (h : k ≠ A) : frzEnv β A o (Int.negSucc k) = β (Int.negSucc k) := if_neg h
theorem Rel.freezeNew {K : Prot} {β : Env} {st : St} {w w' : World} (hr : Rel P K β st w) (hb : Below w.heap.size w w') {A : Nat} (hA : w.heap.size ≤ A) {cs : Array Value} {e : TypeId} {f : Nat × Nat} (hc : w'.heap[A]? = some (.cells cs e f)) :
    β.le (frzEnv β A (.cells cs e f)) ∧ Rel P K (frzEnv β A (.cells cs e f)) st w' := by
  have hr' := (hr.below hb).1
  have hn : β (Int.negSucc A) = none := by
    cases hx : β (Int.negSucc A) with
    | none => rfl
    | some l => have := frz_lt hr hx; omega
  have hle : β.le (frzEnv β A (.cells cs e f)) := by
    intro i l hi
    cases i with
    | ofNat i => exact hi
    | negSucc k =>
      have hk : k ≠ A := by rintro rfl; rw [hn] at hi; cases hi
      rw [frzEnv_other _ _ hk]; exact hi
  refine ⟨hle, hr'.base, fun i l hi => hr'.dom i l hi, fun i b hi hl => ?_, fun i j bi bj li lj hi hbi hj hbj hli hlj => hr'.inj i j bi bj li lj hi hbi hj hbj hli hlj, fun i hi => hr'.res i hi, fun k l hk => ?_, fun k l hk => ?_, ?_⟩
  · obtain ⟨l, a, b, c⟩ := hr'.blk i b hi hl
    exact ⟨l, hle _ _ a, b, c.mono hle⟩
  · by_cases e : k = A
    · subst e
      intro hz
      have := hr.base k (K.sub k hz)
      omega
    · rw [frzEnv_other _ _ e] at hk
      exact hr'.nofz k l hk
  · by_cases e : k = A
    · subst e
      rw [frzEnv_same] at hk
      obtain rfl := Option.some.inj hk
      refine ⟨⟨rfl, rfl⟩, hc, fun j bj lj hj hbj hlj hv hk => ?_⟩
      have := (hr.dom j lj hlj).2 hv
      omega
    · rw [frzEnv_other _ _ e] at hk
      obtain ⟨f1, f2, f3⟩ := hr'.frz k l hk
      exact ⟨f1, f2, fun j bj lj hj hbj hlj => f3 j bj lj hj hbj hlj⟩
  · refine hr.objs.step rfl hle hb.size (fun k l hk => hb.block k (frz_lt hr hk)) (fun i o => Iff.rfl) (fun i k o l h1 h2 hk hK hf hj => ⟨hb.block k hk, hK, ?_, fun j bj lj hj1 hj2 hj3 => hj j bj lj hj1 hj2 hj3⟩)
    rw [frzEnv_other _ _ (by omega)]; exact hf
theorem fz_new {β : Env} {A n cap sz : Nat} {cs : Array Value} {e : TypeId} {f : Nat × Nat} {c : List Value} (hsz : sz ≠ 0) (h : β (Int.negSucc A) = some ⟨A, 0, 0, 0, some (.cells cs e f), false⟩) (hl : c.length = n * sz) (hc : VRL (negE β) c (cs.toList.take (n * sz))) (hcap : n ≤ cap) :
    VR β (mkFz sz n 0 c) (.slice (some ⟨A, 0, none⟩) n cap) := by
  unfold mkFz
  simp only [VR]
  rw [if_neg (Nat.not_lt_of_le (Nat.le_add_right FZ sz))]
  simp only [VZ, VZA, VZL]
  refine ⟨n, 0, rfl, ?_⟩
  have e1 : FZ + sz - FZ = sz := by omega
  rw [e1]
  unfold FrzR
  rw [if_neg hsz]
  refine ⟨hl, ?_⟩
  cases n with
  | zero => exact Or.inr (Or.inl ⟨rfl, ⟨A, 0, none⟩, cap, rfl, fun h => absurd rfl h⟩)
  | succ n =>
    refine Or.inr (Or.inr ⟨Nat.succ_pos n, A, 0, cap, cs, e, f, _, rfl, fun h => absurd rfl h, h, rfl, ?_, ?_, hcap⟩)
    · have := hc.length
      rw [List.length_take, Array.length_toList] at this
      have h2 : c.length = _ := this
      rw [h2, Nat.zero_add]
      exact Nat.min_le_right _ _
    · rw [List.drop_zero, hl]; exact hc
theorem flatL_refl {β : Env} : ∀ {c : List Value}, flatL c = true → VRL β c c
  | [], _ => VRL.nil
  | v :: l, h => by
    simp only [flatL, Bool.and_eq_true] at h
    exact VRL.cons (VR.flat_refl _ h.1) (flatL_refl h.2)
theorem CR.ofCallsV {g : FuncId} {args : List Value} {v : Value} (h : ∀ (w : World) (args' : Array Value), GW w → VRL (envOf w) args args'.toList → Calls P g args' w fun e w' => (∃ v', e = .returned v' ∧ ∀ β, VR β v v') ∧ Below w.heap.size w w') : CR P g args v [] := by
  intro w args' cs obs hG ha
  obtain ⟨e, w', fr, ⟨⟨v', rfl, hv⟩, hb⟩, hc, h1, l1, l2, l3, fn, l4, l5⟩ := h w args' hG ha cs
  exact ⟨envOf w, fr, w', v', hc, fun _ _ h => h, (rel_start w obs hG).more hb.size hb.block, ⟨hb.os, hb.tape, hb.output, hb.size, hb.block⟩, hv _, l1, l2, l3, h1, fn, by rw [← h1]; exact l4, l5⟩
theorem CRX.weak {N : Nat} {g : FuncId} {args : List Value} {bs bs' : List Blk} {v v' : Value} (hv : ∀ β x, VR β v x → VR β v' x) (h : CRX P N g args bs v bs') : CRX P N g args bs v' bs' := by
  intro K β w args' cs hid ha hr
  obtain ⟨⟨β', fr, w', x, h1, h2, h3, h4, h5, h6⟩, h7⟩ := h K β w args' cs hid ha hr
  exact ⟨⟨β', fr, w', x, h1, h2, h3, h4, hv _ _ h5, h6⟩, h7⟩
theorem CR.ofX {g : FuncId} {args : List Value} {v : Value} {bs : List Blk} {N : Nat} (h : CRX P N g args [] v bs) : CR P g args v bs := by
  intro w args' cs obs hG ha
  obtain ⟨⟨β', fr, w', v', h1, h2, h3, h4, h5, h6⟩, _⟩ := h (K0 w obs) (envOf w) w args' cs (fun _ h => h) ha (rel_start w obs hG)
  refine ⟨β', fr, w', v', h1, fun i l hi => ?_, h3, h4, h5, h6⟩
  cases i with
  | ofNat i => cases hi
  | negSucc k => exact h2 _ _ (by show Int.negSucc k < (N : Int); omega) hi
theorem CallOkR.ofX {g : FuncId} {N : Nat} {R : CallFnM} (h : CallOkX P N g R) : CallOkR P g (fun args => R args []) := ⟨fun args t hR v bs hev => CR.ofX (h.run args [] t hR v bs hev)⟩
theorem CR.calls {g : FuncId} {args : List Value} {v : Value} {bs : List Blk} (hv : flat v = true) (h : CR P g args v bs) {w : World} {args' : Array Value} (hG : GW w) (ha : VRL (envOf w) args args'.toList) :
    Calls P g args' w fun e w' => e = .returned v ∧ Below w.heap.size w w' := by
  intro cs
  obtain ⟨β', fr, w', v', h1, h2, h3, h4, h5, h6⟩ := h w args' cs noObs hG ha
  exact ⟨.returned v', w', fr, ⟨by rw [VR.of_flat _ _ hv h5], h4.below⟩, h1, h6.2.2.2.1, h6.1, h6.2.1, h6.2.2.1, by rw [h6.2.2.2.1]; exact h6.2.2.2.2⟩
theorem CRX.ofRow {g : FuncId} {args : List Value} {sz n : Nat} {t : TypeId} {c : List Value} (hsz : sz ≠ 0) (hf : flatL c = true) (h : ∀ (w : World) (args' : Array Value), GW w → (∃ β, VRL β args args'.toList) →
      Calls P g args' w fun e w' => ∃ A, e = .returned (.slice (some ⟨A, 0, none⟩) n n) ∧ w.heap.size ≤ A ∧ w'.ownsRow w.heap.size t sz (.slice (some ⟨A, 0, none⟩) n n) n c ∧ Below w.heap.size w w') : CRX P 0 g args [] (mkFz sz n 0 c) [] := by
  intro K β w args' cs hid ha hr
  obtain ⟨e, w', fr, ⟨A, rfl, hA, hown, hb⟩, hc, h1, l1, l2, l3, fn, l4, l5⟩ := h w args' hr.gw ⟨β, ha⟩ cs
  obtain ⟨hl, ⟨e1, _⟩ | ⟨g', cap, cur, e1, hge, hcell, hn, _, hsize, htake⟩⟩ := hown
  · cases e1
  · simp only [Value.slice.injEq, Option.some.injEq, Addr.mk.injEq, true_and, and_true] at e1
    obtain ⟨rfl, rfl⟩ := e1
    obtain ⟨b1, b2⟩ := hr.freezeNew hb hA hcell
    exact ⟨⟨_, fr, w', _, hc, b1.leN _, b2, (hr.below hb).2, fz_new hsz (frzEnv_same _ _ _) hl (by rw [htake]; exact flatL_refl hf) (Nat.le_refl _), l1, l2, l3, h1, fn, by rw [← h1]; exact l4, l5⟩, Nat.zero_le _⟩
theorem fp_new {β : Env} {A o a : Nat} {cs : Array Value} {e : TypeId} {f : Nat × Nat} {c : List Value} (h : β (Int.negSucc A) = some ⟨A, 0, 0, 0, some (.cells cs e f), false⟩) (hl : o + c.length ≤ cs.size) (hc : VRL (negE β) c ((cs.toList.drop o).take c.length)) :
    VR β (mkFp a c) (.pointer (some ⟨A, o + a, none⟩)) := by
  unfold mkFp
  simp only [VR]
  rw [if_neg (Nat.lt_irrefl FZ)]
  simp only [VZ, VZA, VZL]
  refine ⟨a, 0, rfl, ?_⟩
  rw [Nat.sub_self]
  unfold FrzR
  rw [if_pos rfl]
  exact ⟨A, o, cs, e, f, _, rfl, h, rfl, hl, hc⟩
theorem flatL_of {β : Env} : ∀ {c l : List Value}, flatL c = true → VRL β c l → l = c
  | [], _, _, h => h
  | v :: c, _, h, ⟨y, ys, e, h1, h2⟩ => by
    simp only [flatL, Bool.and_eq_true] at h
    rw [e, VR.of_flat _ _ h.1 h1, flatL_of h.2 h2]
theorem CRX.ofNew {g : FuncId} {args : List Value} {t : TypeId} {c : List Value} {e : TypeId} (ht : t < 2 ^ 64) (ha : flatL args = true) (hf : flatL c = true) (h : CR P g args (.iface t (.pointer (some ⟨0, 0, none⟩))) [.cells c e true]) : CRX P 0 g args [] (.iface t (mkFp 0 c)) [] := by
  intro K β w args' cs hid hva hr
  have hva' : VRL (envOf w) args args'.toList := by rw [flatL_of ha hva]; exact flatL_refl ha
  obtain ⟨β1, fr, w', v', hc, h1, h2, h3, h4, h5⟩ := h w args' cs noObs hr.gw hva'
  have htf : t < FZ := by unfold FZ; exact ht
  simp only [VR] at h4
  rw [if_pos htf] at h4
  obtain ⟨x', rfl, _, l, hl, rfl⟩ := h4
  obtain ⟨l0, a1, a2, a3⟩ := h2.blk 0 (.cells c e true) rfl rfl
  obtain rfl : l0 = l := by rw [a1] at hl; exact Option.some.inj hl
  have hb : Below w.heap.size w w' := h3.below
  rcases a3 with ⟨q1, q2, q3⟩ | ⟨q0, cc, f, q1, q2, q3, q4, q5, q6, q7⟩
  · cases q3
  · have hA : w.heap.size ≤ l0.blk := by
      have := a2 q0
      exact Nat.le_of_not_lt this
    have q8 := (q5 rfl).1
    obtain ⟨b1, b2⟩ := hr.freezeNew hb hA q1
    refine ⟨⟨_, fr, w', _, hc, b1.leN _, b2, (hr.below hb).2, ?_, h5⟩, Nat.zero_le _⟩
    simp only [VR]
    rw [if_pos htf]
    refine ⟨_, rfl, ?_⟩
    have := fp_new (β := frzEnv β l0.blk (.cells cc e f)) (a := 0) (frzEnv_same _ _ _) (o := l0.base) (by omega) (c := c) (by rw [flatL_of hf q6]; exact flatL_refl hf)
    exact this
noncomputable def callQN (P : Program) (E : Eng) (ct : Ct) (n : Nat) (g : FuncId) (args : List Value) : Res :=
  (knotQ P E ct n n).call g args (start 0) fun v st => match v with
    | .iface t (.pointer (some a)) => match movs 0 [a.block] (fun i => getP (path i) st.heap) [a.block] with
      | some ms => some (renV true (rhoO 0 [a.block]) (.iface t (.pointer (some a))), mkSt ms)
      | none => none
    | _ => none
theorem CR.ofN {E : Eng} (hE : EngOk P ct E) (hN : noNum P = true) (hct : CtOk P ct) {n : Nat} {g : FuncId} {args : List Value} {v : Value} {bs : List Blk} (h : callQN P E ct n g args = some (v, mkSt bs)) : CR P g args v bs := by
  intro w args' cs obs hG ha
  unfold callQN at h
  obtain ⟨m, v1, st1, h1, h2⟩ := (knotQ_ok hE n n).call _ _ _ _ _ h
  obtain ⟨β1, fr, w1, v', a1, a2, a3, a4, a5, a6⟩ := (sound_all hN hct m (K0 w obs)).call g args (start 0) v1 st1 h1 (envOf w) w args' .normal cs (Or.inl rfl) ha (rel_start w obs hG)
  split at h2
  · rename_i t a
    split at h2
    · rename_i ms hm
      simp only [Option.some.injEq, Prod.mk.injEq] at h2
      obtain ⟨rfl, hst⟩ := h2
      obtain ⟨m1, m2, m3⟩ := movs_spec hm
      simp only [getP_path] at m2 m3
      have hren : RenOk true (rhoO 0 [a.block]) β1 (reEnv 0 [a.block] β1) := ren_ok _ _
      have hmid := canon_mid (N := 0) (src := [a.block]) a3 (fun i hi => hi.elim) (Nat.zero_le _) m1 m2
      refine ⟨reEnv 0 [a.block] β1, fr, w1, v', a1, ?_, ?_, a4, renV_rel hren _ _ a5, a6⟩
      · intro i l hi
        cases i with
        | ofNat i => cases hi
        | negSucc k => exact a2 _ _ hi
      · rw [← hst, m3]; exact hmid
    · cases h2
  · cases h2
end
end Go.VS
end

section
namespace Go.VS.Tryz
set_option maxRecDepth 1000000
open Go.VS Go.RowKit Go.Sort
theorem gw_tab {w : World} (h : GW w) : Lib.TabIs P w "internal/strconv.uint64pow10" .u64 Lib.pow10Tab := by
  obtain ⟨o, h1, e, f, rfl⟩ := h (4, _) (by simp only [globs]; exact List.mem_cons_of_mem _ (List.mem_cons_self ..))
  have e1 : P.globalNamed "internal/strconv.uint64pow10" = some 4 := by kernel_rfl
  have e2 : Lib.pow10Tab = pow10L := by decide
  unfold Lib.TabIs World.var?
  rw [e1, e2]
  simp only [Option.bind_some, h1]
theorem gw_syn {w : World} (h : GW w) : ∃ t p, w.var? P "strconv.ErrSyntax" = some #[.iface t p] := by
  obtain ⟨o, h1, t, p, e, f, rfl⟩ := h (2, _) (by simp only [globs]; exact List.mem_cons_of_mem _ (List.mem_cons_of_mem _ (List.mem_cons_self ..)))
  have e1 : P.globalNamed "strconv.ErrSyntax" = some 2 := by kernel_rfl
  refine ⟨t, p, ?_⟩
  unfold World.var?
  rw [e1]
  simp only [Option.bind_some, h1]
theorem gw_rng {w : World} (h : GW w) : ∃ t p, w.var? P "strconv.ErrRange" = some #[.iface t p] := by
  obtain ⟨o, h1, t, p, e, f, rfl⟩ := h (3, _) (by simp only [globs]; exact List.mem_cons_of_mem _ (List.mem_cons_of_mem _ (List.mem_cons_of_mem _ (List.mem_cons_self ..))))
  have e1 : P.globalNamed "strconv.ErrRange" = some 3 := by kernel_rfl
  refine ⟨t, p, ?_⟩
  unfold World.var?
  rw [e1]
  simp only [Option.bind_some, h1]
theorem arg_s {β : Env} {s : ByteArray} {args' : Array Value} (h : VRL β [.string s] args'.toList) : args' = #[.string s] := by
  obtain ⟨l⟩ := args'
  simp only [VRL] at h
  obtain ⟨y, ys, e, hy, rfl⟩ := h
  have hy : y = .string s := hy
  subst hy
  rw [e]
theorem arg_ss {β : Env} {s t : ByteArray} {args' : Array Value} (h : VRL β [.string s, .string t] args'.toList) : args' = #[.string s, .string t] := by
  obtain ⟨l⟩ := args'
  simp only [VRL] at h
  obtain ⟨y, ys, e, hy, z, zs, rfl, hz, rfl⟩ := h
  have hy : y = .string s := hy
  have hz : z = .string t := hz
  subst hy hz
  rw [e]
theorem arg_sc {β : Env} {s : ByteArray} {k : IntKind} {c : Int} {args' : Array Value} (h : VRL β [.string s, .int k c] args'.toList) : args' = #[.string s, .int k c] := by
  obtain ⟨l⟩ := args'
  simp only [VRL] at h
  obtain ⟨y, ys, e, hy, z, zs, rfl, hz, rfl⟩ := h
  have hy : y = .string s := hy
  have hz : z = .int k c := hz
  subst hy hz
  rw [e]
theorem arg_i {β : Env} {k : IntKind} {c : Int} {args' : Array Value} (h : VRL β [.int k c] args'.toList) : args' = #[.int k c] := by
  obtain ⟨l⟩ := args'
  simp only [VRL] at h
  obtain ⟨y, ys, e, hy, rfl⟩ := h
  have hy : y = .int k c := hy
  subst hy
  rw [e]
theorem below_of_bytes {w w' : World} {t : TypeId} (h : w' = w ∨ ∃ n, w' = Lib.bytesWorld w t n) : Below w.heap.size w w' := by
  rcases h with rfl | ⟨n, rfl⟩
  · exact Below.refl _ _
  · exact ⟨rfl, rfl, rfl, by rw [Lib.bytesWorld_size]; omega, fun k hk => Lib.bytesWorld_at_old w t n k hk⟩
theorem below_of_grow {w w' : World} (h : ∃ k os, w' = grow (w.drewN k) os) : Below w.heap.size w w' := by
  obtain ⟨k, os, rfl⟩ := h
  exact ⟨rfl, rfl, rfl, by simp [grow], fun i hi => by
    show ((w.drewN k).heap ++ os)[i]? = _
    rw [Array.getElem?_append_left (by show i < w.heap.size; omega)]
    rfl⟩
def inB (s : ByteArray) (c : UInt8) : Bool := decide (0 ≤ Lib.indexByte s.data.toList c)
def RinV (Q : ByteArray → UInt8 → Bool) : CallFn
  | [.string s, .string ⟨⟨[c]⟩⟩] => some (.leaf (.bool (Q s c), []))
  | _ => none
theorem in_ok : CallOkR P 16 (RinV inB) := by
  refine ⟨fun args t hR v bs hev => ?_⟩
  unfold RinV at hR
  split at hR
  · rename_i s c
    obtain rfl := Option.some.inj hR
    simp only [DT.eval, Option.some.injEq, Prod.mk.injEq] at hev
    obtain ⟨rfl, rfl⟩ := hev
    refine CR.ofCalls rfl fun w args' _ ha => ?_
    obtain rfl := arg_ss ha
    exact (Go.Proofs.Tryz.strings_Contains_one s c w).mono fun e w' ⟨h1, h2⟩ => ⟨h1, by rw [h2]; exact Below.refl _ _⟩
  · cases hR
def ixB (s : ByteArray) (c : Int) : Int := Lib.indexByte s.data.toList c.toNat.toUInt8
def RixV (I : ByteArray → Int → Int) : CallFn
  | [.string s, .int .u8 c] => some (.leaf (.int .i64 (I s c), []))
  | _ => none
theorem ix_ok : CallOkR P 85 (RixV ixB) := by
  refine ⟨fun args t hR v bs hev => ?_⟩
  unfold RixV at hR
  split at hR
  · rename_i s c
    obtain rfl := Option.some.inj hR
    simp only [DT.eval, Option.some.injEq, Prod.mk.injEq] at hev
    obtain ⟨rfl, rfl⟩ := hev
    refine CR.ofCalls rfl fun w args' _ ha => ?_
    obtain rfl := arg_sc ha
    exact (Go.Proofs.Tryz.stringslite_IndexByte s c w).mono fun e w' ⟨h1, h2⟩ => ⟨h1, by rw [h2]; exact Below.refl _ _⟩
  · cases hR
theorem vr_ifTop {β : Env} {t : Nat} {p : Option Addr} (h : t < 2 ^ 64) : VR β (.iface t (.chan (some 0))) (.iface t (.pointer p)) := by
  simp only [VR]
  rw [if_pos (by unfold FZ; exact h)]
  exact ⟨_, rfl, rfl⟩
def szS (s : ByteArray) : Bool := Nat.ble s.size 4194304
def atoK (s : ByteArray) : Bool := match Lib.atoiAll s.data.toList with
  | .ok _ => true
  | _ => false
def atoV (s : ByteArray) : Int := match Lib.atoiAll s.data.toList with
  | .ok v => v
  | .range => Lib.atoiSat s.data.toList
  | _ =>0
def RatoV (C K : ByteArray → Bool) (V : ByteArray → Int) : CallFn
  | [.string s] => some (.ite (C s) (.ite (K s) (.leaf (.tuple ⟨[.int .i64 (V s), .nilIface]⟩, [])) (.leaf (.tuple ⟨[.int .i64 (V s), .iface 157 (.chan (some 0))]⟩, []))) .fail)
  | _ => none
theorem ato_ok : CallOkR P 72 (RatoV szS atoK atoV) := by
  refine ⟨fun args t hR v bs hev => ?_⟩
  unfold RatoV at hR
  split at hR
  · rename_i s
    obtain rfl := Option.some.inj hR
    cases hc : szS s with
    | false => rw [hc] at hev; cases hev
    | true =>
      rw [hc] at hev
      have hsz := Nat.le_of_ble_eq_true hc
      unfold atoK atoV at hev
      cases hq : Lib.atoiAll s.data.toList with
      | ok n =>
        rw [hq] at hev
        simp only [DT.eval, Option.some.injEq, Prod.mk.injEq] at hev
        obtain ⟨rfl, rfl⟩ := hev
        refine CR.ofCalls rfl fun w args' _ ha => ?_
        obtain rfl := arg_s ha
        exact (Go.Proofs.Tryz.strconv_Atoi_ok s (by omega) n hq w).mono fun e w' ⟨h1, h2⟩ => ⟨h1, below_of_bytes h2⟩
      | range =>
        rw [hq] at hev
        simp only [DT.eval, Option.some.injEq, Prod.mk.injEq] at hev
        obtain ⟨rfl, rfl⟩ := hev
        refine CR.ofCallsV fun w args' hG ha => ?_
        obtain rfl := arg_s ha
        obtain ⟨t, p, hv⟩ := gw_rng hG
        exact (Go.Proofs.Tryz.strconv_Atoi_range_var s (by omega) hq t p w hv).mono fun e w' ⟨N, h1, h2, h3, h4⟩ => ⟨⟨_, h1, fun β => ⟨_, rfl, VRL.cons rfl (VRL.cons (vr_ifTop (by decide)) VRL.nil)⟩⟩, h4⟩
      | _ =>
        rw [hq] at hev
        simp only [DT.eval, Option.some.injEq, Prod.mk.injEq] at hev
        obtain ⟨rfl, rfl⟩ := hev
        refine CR.ofCallsV fun w args' hG ha => ?_
        obtain rfl := arg_s ha
        obtain ⟨t, p, hv⟩ := gw_syn hG
        exact (Go.Proofs.Tryz.strconv_Atoi_syntax_var s (by omega) (fun v e=>by rw[hq] at e; cases e) (fun e=>by rw[hq] at e; cases e) t p w hv).mono fun e w' ⟨N, h1, h2, h3, h4⟩ => ⟨⟨_, h1, fun β => ⟨_, rfl, VRL.cons rfl (VRL.cons (vr_ifTop (by decide)) VRL.nil)⟩⟩, h4⟩
  · cases hR
def itoS (n : Int) : ByteArray := ⟨(Lib.itoa n).toArray⟩
def inR (n : Int) : Bool := and (leI (-9223372036854775808) n) (leI n 9223372036854775807)
def RitoV (C : Int → Bool) (F : Int → ByteArray) : CallFn
  | [.int .i64 n] => some (.ite (C n) (.leaf (.string (F n), [])) .fail)
  | _ => none
theorem ito_ok : CallOkR P 47 (RitoV inR itoS) := by
  refine ⟨fun args t hR v bs hev => ?_⟩
  unfold RitoV at hR
  split at hR
  · rename_i n
    obtain rfl := Option.some.inj hR
    cases hc : inR n with
    | false => rw [hc] at hev; cases hev
    | true =>
      rw [hc] at hev
      simp only [DT.eval, Option.some.injEq, Prod.mk.injEq] at hev
      obtain ⟨rfl, rfl⟩ := hev
      unfold inR leI at hc
      simp only [Bool.and_eq_true, decide_eq_true_eq] at hc
      refine CR.ofCalls rfl fun w args' hG ha => ?_
      obtain rfl := arg_i ha
      exact (Go.Proofs.Tryz.strconv_Itoa n hc.1 hc.2 w (gw_tab hG)).mono fun e w' ⟨h1, h2⟩ => ⟨h1, below_of_grow h2⟩
  · cases hR
theorem dec_blank (x : Int) : callQ P E noCt 50 39 [.int .i32 x] =
 (some ((Value.bool (eqI x (32 : Int))), (mkSt []))) := by kernel_rfl
theorem blank_ok (x : Int) : CR P 39 [.int .i32 x] (.bool (eqI x 32)) [] := CR.of (engOk noCt) noNum (noCt_ok P) (n := 50) (dec_blank x)
def wordsL (s : ByteArray) : List ByteArray := Lib.goFieldsP (fun x => eqI x 32) s
def fzS (l : List ByteArray) : Value := mkFz 1 l.length 0 (l.map Value.string)
theorem flat_strs (l : List ByteArray) : flatL (l.map Value.string) = true := by
  induction l with
  | nil => rfl
  | cons a l ih => simp only [List.map_cons, flatL, ih]; rfl
def kWo : Con ByteArray where
  enc s := ([.string s, .func (.func 39) #[] #[]], [])
  ok s := s.size ≤ 4194304
  inj a b h := by simp only [Prod.mk.injEq, List.cons.injEq, Value.string.injEq, and_true] at h; exact h
  dflt := default
theorem fields_ok : CallOkX P 0 38 (conM kWo.C kWo.D fun s => .leaf (fzS (wordsL s), [])) := conX_ok kWo fun s ho v bs' hev => by
  simp only [DT.eval, Option.some.injEq, Prod.mk.injEq] at hev
  obtain ⟨rfl, rfl⟩ := hev
  have ho : s.size ≤ 4194304 := ho
  refine CRX.ofRow (t := 9) (by decide) (flat_strs _) fun w args' hG ⟨β, ha⟩ => ?_
  have ea : args' = #[.string s, .func (.func 39) #[] #[]] := by
    obtain ⟨l⟩ := args'
    simp only [VRL] at ha
    obtain ⟨y, ys, e, hy, z, zs, rfl, hz, rfl⟩ := ha
    have hy : y = .string s := hy
    subst hy
    obtain ⟨f', a', b', rfl, hf, h1, h2⟩ := hz
    have hf : f' = .func 39 := hf
    subst hf
    simp only [VRA, VRL] at h1 h2
    have h1 : a' = #[] := by apply Array.ext'; exact h1
    have h2 : b' = #[] := by apply Array.ext'; exact h2
    subst h1 h2
    rw [e]
  subst ea
  have hw := Go.Proofs.Tryz.strings_FieldsFunc_grows 39 #[] (Go.Proofs.enters_of Go.Proofs.Tryz.func39 (by kernel_rfl) rfl) (fun x => eqI x 32) s w (by omega) (fun W x hx hb => by
    have := (blank_ok (x : Int)).calls (w := W) (args' := #[.int .i32 x]) rfl (by
      intro p hp
      obtain ⟨o, h1, h2⟩ := hG p hp
      refine ⟨o, ?_, h2⟩
      rw [hb.block p.1 (Array.getElem?_eq_some_iff.1 h1).1]; exact h1) (VRL.cons rfl VRL.nil)
    exact this)
  refine hw.mono fun e w' ⟨A, h1, h2, h3, h4⟩ => ⟨A, ?_, h2, ?_, h4⟩
  · rw [h1]; rfl
  · exact h3
end Go.VS.Tryz
end

section
namespace Go.VS.Tryz
set_option maxRecDepth 1000000
open Go.VS
theorem fz_inj {s n m : Nat} {a b : List Value} (h : mkFz s n 0 a = mkFz s m 0 b) : a = b := by
  unfold mkFz at h
  simp only [Value.iface.injEq, Value.agg.injEq, Array.mk.injEq, List.cons.injEq] at h
  exact h.2.2
theorem noRef_fz (s n b : Nat) (c : List Value) : noRef (mkFz s n b c) = true := by
  unfold mkFz
  simp only [noRef]
  rw [Nat.ble_eq_true_of_le (Nat.le_add_right FZ s)]
structure OpM where
  p : Bool
  k : ByteArray
  v : ByteArray
def EOp : Enc OpM where
  sz := 3
  f o := [.bool o.p, .string o.k, .string o.v]
  len _ := rfl
  pos := by decide
  inj a b h := by
    obtain ⟨p, k, v⟩ := a
    obtain ⟨p', k', v'⟩ := b
    simp only [List.cons.injEq, Value.bool.injEq, Value.string.injEq, and_true] at h
    obtain ⟨rfl, rfl, rfl⟩ := h
    rfl
  nr _ := rfl
structure CmM where
  e : Int
  n : Int
  ops : List OpM
structure RunM where
  a : Int
  b : Int
  ops : List OpM
theorem bc_inj : ∀ {a b : List UInt8}, bc a = bc b → a = b := by
  intro a b h
  have := congrArg (List.map byteOf) h
  rwa [bc_back, bc_back] at this
/-- A raw step of a disk: its kind, its file, bytes, a length. -/
structure StM where
  kind : Int
  file : Int
  bytes : List UInt8
  len : Int
theorem op_0 {l : List OpM} {i : Nat} (h : i < l.length) : nthD (EOp.all l) (atN (i : Int) 3) = .bool l[i].p := by
  have e : atN (i : Int) 3 = i * EOp.sz + 0 := by simp [atN]; rfl
  rw [e, EOp.nth h (by decide)]; rfl
theorem op_1 {l : List OpM} {i : Nat} (h : i < l.length) : nthD (EOp.all l) (Nat.add (atN (i : Int) 3) 1) = .string l[i].k := by
  have e : Nat.add (atN (i : Int) 3) 1 = i * EOp.sz + 1 := by simp [atN]; rfl
  rw [e, EOp.nth h (by decide)]; rfl
theorem op_2 {l : List OpM} {i : Nat} (h : i < l.length) : nthD (EOp.all l) (Nat.add (Nat.add (atN (i : Int) 3) 1) 1) = .string l[i].v := by
  have e : Nat.add (Nat.add (atN (i : Int) 3) 1) 1 = i * EOp.sz + 2 := by simp [atN]; rfl
  rw [e, EOp.nth h (by decide)]; rfl
theorem fzU : FZ + 1 = 18446744073709551617 := by unfold FZ; rfl
theorem fzU3 : FZ + 3 = 18446744073709551619 := by unfold FZ; rfl
theorem mulOne (n : Nat) : Nat.mul n 1 = n := Nat.mul_one n
theorem zeroAdd (n : Nat) : Nat.add 0 n = n := Nat.zero_add n
theorem cap0 (n : Nat) : capS 0 n = 0 := by simp [capS]
end Go.VS.Tryz
end

section
namespace Go.VS.Tryz
set_option maxRecDepth 1000000
open Go.VS
theorem dec_plain (x : Int) : callQ P E noCt 50 77 [.int .u8 x] =
 (iteB (gtI x (32 : Int))
 (iteB (ltI x (127 : Int))
 (iteB (neI x (34 : Int))
 (some ((Value.bool (neI x (92 : Int))), (mkSt [])))
 (some ((Value.bool Bool.false), (mkSt []))))
 (some ((Value.bool Bool.false), (mkSt []))))
 (some ((Value.bool Bool.false), (mkSt [])))) := by kernel_rfl
def plainM (x : Int) : Bool := gtI x 32 && ltI x 127 && neI x 34 && neI x 92
def Rplain : CallFn
  | [.int .u8 x] => some (.leaf (.bool (plainM x), []))
  | _ => none
theorem plain_ok : CallOkR P 77 Rplain := by
  refine ok_of (noCt_ok P) (n := 50) fun args t hR v bs hev => ?_
  unfold Rplain at hR
  split at hR
  · rename_i x
    obtain rfl := Option.some.inj hR
    simp only [DT.eval, Option.some.injEq, Prod.mk.injEq] at hev
    obtain ⟨rfl, rfl⟩ := hev
    rw [dec_plain]
    unfold plainM
    cases gtI x 32 <;> cases ltI x 127 <;> cases neI x 34 <;> rfl
  · cases hR
theorem dec_rplain (x : Int) : callQ P E noCt 50 83 [.int .u8 x] =
 (iteB (geI x (33 : Int))
 (iteB (leI x (126 : Int))
 (iteB (neI x (34 : Int))
 (some ((Value.bool (neI x (92 : Int))), (mkSt [])))
 (some ((Value.bool Bool.false), (mkSt []))))
 (some ((Value.bool Bool.false), (mkSt []))))
 (some ((Value.bool Bool.false), (mkSt [])))) := by kernel_rfl
def rplainM (x : Int) : Bool := geI x 33 && leI x 126 && neI x 34 && neI x 92
def Rrplain : CallFn
  | [.int .u8 x] => some (.leaf (.bool (rplainM x), []))
  | _ => none
theorem rplain_ok : CallOkR P 83 Rrplain := by
  refine ok_of (noCt_ok P) (n := 50) fun args t hR v bs hev => ?_
  unfold Rrplain at hR
  split at hR
  · rename_i x
    obtain rfl := Option.some.inj hR
    simp only [DT.eval, Option.some.injEq, Prod.mk.injEq] at hev
    obtain ⟨rfl, rfl⟩ := hev
    rw [dec_rplain]
    unfold rplainM
    cases geI x 33 <;> cases leI x 126 <;> cases neI x 34 <;> rfl
  · cases hR
theorem dec_digit (x : Int) : callQ P E noCt 50 91 [.int .u8 x] =
 (iteB (geI x (48 : Int))
 (iteB (leI x (57 : Int))
 (some ((Value.tuple (Array.mk [(Value.int IntKind.u8 (subI IntKind.u8 x (48 : Int))), (Value.bool Bool.true)])), (mkSt [])))
 (iteB (geI x (97 : Int))
 (iteB (leI x (102 : Int))
 (some ((Value.tuple (Array.mk [(Value.int IntKind.u8 (addI IntKind.u8 (subI IntKind.u8 x (97 : Int)) (10 : Int))), (Value.bool Bool.true)])), (mkSt [])))
 (some ((Value.tuple (Array.mk [(Value.int IntKind.u8 (0 : Int)), (Value.bool Bool.false)])), (mkSt []))))
 (some ((Value.tuple (Array.mk [(Value.int IntKind.u8 (0 : Int)), (Value.bool Bool.false)])), (mkSt [])))))
 (iteB (geI x (97 : Int))
 (iteB (leI x (102 : Int))
 (some ((Value.tuple (Array.mk [(Value.int IntKind.u8 (addI IntKind.u8 (subI IntKind.u8 x (97 : Int)) (10 : Int))), (Value.bool Bool.true)])), (mkSt [])))
 (some ((Value.tuple (Array.mk [(Value.int IntKind.u8 (0 : Int)), (Value.bool Bool.false)])), (mkSt []))))
 (some ((Value.tuple (Array.mk [(Value.int IntKind.u8 (0 : Int)), (Value.bool Bool.false)])), (mkSt []))))) := by kernel_rfl
def digV (x : Int) : Int := bif geI x 48 && leI x 57 then subI .u8 x 48 else bif geI x 97 && leI x 102 then addI .u8 (subI .u8 x 97) 10 else 0
def digB (x : Int) : Bool := (geI x 48 && leI x 57) || (geI x 97 && leI x 102)
def Rdigit : CallFn
  | [.int .u8 x] => some (.leaf (.tuple ⟨[.int .u8 (digV x), .bool (digB x)]⟩, []))
  | _ => none
theorem digit_ok : CallOkR P 91 Rdigit := by
  refine ok_of (noCt_ok P) (n := 50) fun args t hR v bs hev => ?_
  unfold Rdigit at hR
  split at hR
  · rename_i x
    obtain rfl := Option.some.inj hR
    simp only [DT.eval, Option.some.injEq, Prod.mk.injEq] at hev
    obtain ⟨rfl, rfl⟩ := hev
    rw [dec_digit]
    unfold digV digB
    cases geI x 48 <;> cases leI x 57 <;> cases geI x 97 <;> cases leI x 102 <;> rfl
  · cases hR
def hexD : ByteArray := ⟨#[48, 49, 50, 51, 52, 53, 54, 55, 56, 57, 97, 98, 99, 100, 101, 102]⟩
theorem dec_hex (x : Int) : callQ P E noCt 50 84 [.int .u8 x] =
 (needB (inI x 16)
 (some ((Value.int IntKind.u8 (bAt (ByteArray.mk #[48, 49, 50, 51, 52, 53, 54, 55, 56, 57, 97, 98, 99, 100, 101, 102]) x)), (mkSt [])))) := by kernel_rfl
def Rhex : CallFn
  | [.int .u8 x] => some (.ite (inI x 16) (.leaf (.int .u8 (bAt hexD x), [])) .fail)
  | _ => none
theorem hex_ok : CallOkR P 84 Rhex := by
  refine ok_of (noCt_ok P) (n := 50) fun args t hR v bs hev => ?_
  unfold Rhex at hR
  split at hR
  · rename_i x
    obtain rfl := Option.some.inj hR
    cases hb : inI x 16 with
    | false => rw [hb] at hev; cases hev
    | true =>
      rw [hb] at hev
      simp only [DT.eval, Option.some.injEq, Prod.mk.injEq] at hev
      obtain ⟨rfl, rfl⟩ := hev
      rw [dec_hex, hb]
      rfl
  · cases hR
end Go.VS.Tryz
end

section
namespace Go.VS.Tryz
set_option maxRecDepth 1000000
open Go.VS
noncomputable def ct1 : Ct := addCall P 77 Rplain (addCall P 83 Rrplain (addCall P 91 Rdigit (addCall P 84 Rhex noCt)))
theorem ct1_ok : CtOk P ct1 := addCall_ok (addCall_ok (addCall_ok (addCall_ok (noCt_ok P) hex_ok) digit_ok) rplain_ok) plain_ok
noncomputable def Hword : Head := ⟨1, 33, [3, 9, 10, 11], [(3, 5)]⟩
noncomputable def Bword : Code := (loopAt P 48 0).getD .skip
theorem Bword_eq : loopAt P 48 0 = some Bword := by kernel_rfl
theorem Bword_occ : Occ P 48 (.block 0 (.loop Bword)) := loopAt_has Bword_eq
theorem dec_word (cb c : List Value) (m : Nat) (z i : Int) : roundQ P E ct1 50 48 Bword Hword [.slice (some ⟨1, 0, none⟩) c.length unk, .slice (some ⟨0, 0, none⟩) m unk, .int .i64 z, .int .i64 i] [.cells cb 5 false, .cells c 5 false] =
 (iteB (ltI i z)
 (needB (inI i m)
 (needB (Bool.and (Nat.ble (Nat.add (Nat.add 0 (atN i 1)) 1) (List.length cb)) (etaB (Eta.int IntKind.u8) (nthD cb (Nat.add 0 (atN i 1)))))
 (iteB (plainM (asI (nthD cb (Nat.add 0 (atN i 1)))))
 (needB (Bool.and (Bool.not Bool.false) (Bool.and (Nat.beq 5 5) (Bool.and (Nat.ble 0 (List.length c)) (Nat.ble (Nat.add (List.length c) 1) 4194304))))
 (needB (Nat.beq (Nat.add 0 (Nat.mul (List.length c) 1)) (List.length c))
 (some ((Value.tuple (Array.mk [(Value.int IntKind.i64 (0 : Int)), (Value.slice (Option.some (Addr.mk 1 0 none)) (Nat.add (List.length c) 1) 18446744073709551616), (Value.slice (Option.some (Addr.mk 0 0 none)) m 18446744073709551616), (Value.int IntKind.i64 z), (Value.int IntKind.i64 (addI IntKind.i64 i (1 : Int)))])), (mkSt [(Blk.cells (renL Bool.true (rhoO 1 [3]) cb) 5 Bool.false), (Blk.cells (renL Bool.true (rhoO 1 [3]) (List.append (takeC (Nat.mul (List.length c) 1) (dropC 0 c)) [(Value.int IntKind.u8 (asI (nthD cb (Nat.add 0 (atN i 1)))))])) 5 Bool.false)])))))
 (needB (inI (shrI IntKind.u8 (asI (nthD cb (Nat.add 0 (atN i 1)))) (4 : Int)) 16)
 (needB (inI (andI IntKind.u8 (asI (nthD cb (Nat.add 0 (atN i 1)))) (15 : Int)) 16)
 (needB (Bool.and (Bool.not Bool.false) (Bool.and (Nat.beq 5 5) (Bool.and (Nat.ble 0 (List.length c)) (Nat.ble (Nat.add (List.length c) 3) 4194304))))
 (needB (Nat.beq (Nat.add 0 (Nat.mul (List.length c) 1)) (List.length c))
 (some ((Value.tuple (Array.mk [(Value.int IntKind.i64 (0 : Int)), (Value.slice (Option.some (Addr.mk 1 0 none)) (Nat.add (List.length c) 3) 18446744073709551616), (Value.slice (Option.some (Addr.mk 0 0 none)) m 18446744073709551616), (Value.int IntKind.i64 z), (Value.int IntKind.i64 (addI IntKind.i64 i (1 : Int)))])), (mkSt [(Blk.cells (renL Bool.true (rhoO 1 [12]) cb) 5 Bool.false), (Blk.cells (renL Bool.true (rhoO 1 [12]) (List.append (takeC (Nat.mul (List.length c) 1) (dropC 0 c)) [(Value.int IntKind.u8 (92 : Int)), (Value.int IntKind.u8 (bAt (ByteArray.mk #[48, 49, 50, 51, 52, 53, 54, 55, 56, 57, 97, 98, 99, 100, 101, 102]) (shrI IntKind.u8 (asI (nthD cb (Nat.add 0 (atN i 1)))) (4 : Int)))), (Value.int IntKind.u8 (bAt (ByteArray.mk #[48, 49, 50, 51, 52, 53, 54, 55, 56, 57, 97, 98, 99, 100, 101, 102]) (andI IntKind.u8 (asI (nthD cb (Nat.add 0 (atN i 1)))) (15 : Int))))])) 5 Bool.false)]))))))))))
 (some ((Value.tuple (Array.mk [(Value.int IntKind.i64 (1 : Int)), (Value.slice (Option.some (Addr.mk 1 0 none)) (List.length c) 18446744073709551616), (Value.slice (Option.some (Addr.mk 0 0 none)) m 18446744073709551616), (Value.int IntKind.i64 z), (Value.int IntKind.i64 i)])), (mkSt [(Blk.cells (renL Bool.true (rhoO 1 [1]) cb) 5 Bool.false), (Blk.cells (renL Bool.true (rhoO 1 [1]) c) 5 Bool.false)])))) := by kernel_rfl
def hxU (i : Int) : UInt8 := hexD.data.toList.getD i.toNat 0
def enc (b : UInt8) : List UInt8 := match plainM b.toNat with
  | true => [b]
  | false => [92, hxU (shrI .u8 b.toNat 4), hxU (andI .u8 b.toNat 15)]
def encL (l : List UInt8) : List UInt8 := l.flatMap enc
theorem encL_cons (b : UInt8) (l : List UInt8) : encL (b :: l) = enc b ++ encL l := List.flatMap_cons
theorem shr_lt : ∀ n : Fin 256, inI (shrI .u8 (n.val : Int) 4) 16 = true := by decide +kernel
theorem and_lt : ∀ n : Fin 256, inI (andI .u8 (n.val : Int) 15) 16 = true := by decide +kernel
theorem shr_ok (b : UInt8) : inI (shrI .u8 (b.toNat : Int) 4) 16 = true := shr_lt ⟨b.toNat, b.toNat_lt⟩
theorem and_ok' (b : UInt8) : inI (andI .u8 (b.toNat : Int) 15) 16 = true := and_lt ⟨b.toNat, b.toNat_lt⟩
theorem enc_length (b : UInt8) : (enc b).length ≤ 3 := by unfold enc; split <;> simp
theorem nth_ok {l : List UInt8} {i : Nat} (h : i < l.length) : nthD (bc l) (Nat.add 0 (atN (i : Int) 1)) = .int .u8 (l[i].toNat) := by
  have e : Nat.add 0 (atN (i : Int) 1) = i := by simp [atN]
  rw [e]; exact bc_nth h
theorem word_again {l : List UInt8} {i : Nat} {c : List Value} (h : i < l.length) (hc : flatL c = true) (hb : c.length + 3 ≤ 4194304) (hl : l.length < 9223372036854775807) :
    roundQ P E ct1 50 48 Bword Hword [sl 1 c.length, sl 0 l.length, .int .i64 l.length, .int .i64 i] [.cells (bc l) 5 false, .cells c 5 false] =
      some (.tuple ⟨exV .normal :: [sl 1 (c ++ bc (enc l[i])).length, sl 0 l.length, .int .i64 l.length, .int .i64 ((i + 1 : Nat) : Int)]⟩, mkSt [.cells (bc l) 5 false, .cells (c ++ bc (enc l[i])) 5 false]) := by
  unfold sl
  rw [dec_word]
  have hw : addI .i64 (i : Int) 1 = ((i + 1 : Nat) : Int) := by
    unfold addI
    rw [wrap64 (by omega) (by omega)]; omega
  refine ite_t (by simp [ltI, h]) ?_
  refine need_eq (inI_ok (by omega) (by omega)) ?_
  refine need_eq (and_ok (ble_ok (by rw [bc_length]; simp [atN]; omega)) (by rw [nth_ok h]; rfl)) ?_
  simp only [nth_ok h, asI]
  cases hp : plainM (l[i].toNat : Int) with
  | true =>
    have he : enc l[i] = [l[i]] := by unfold enc; rw [hp]
    refine ite_t rfl ?_
    refine need_eq (and_ok rfl (and_ok rfl (and_ok (ble_ok (Nat.zero_le _)) (ble_ok (by simp; omega))))) ?_
    refine need_eq (beq_ok (by simp)) ?_
    refine leaf_eq ?_ ?_
    · rw [he, hw]; simp [exV, bc, unk]
    · simp only [bc_ren, take_all, renL_flat hc, renL_append, he]
      rw [show c.append [Value.int .u8 (l[i].toNat : Int)] = c ++ bc [l[i]] from rfl, renL_append, renL_flat hc, bc_ren]
  | false =>
    have he : enc l[i] = [92, hxU (shrI .u8 l[i].toNat 4), hxU (andI .u8 l[i].toNat 15)] := by unfold enc; rw [hp]
    refine ite_f rfl ?_
    refine need_eq (shr_ok _) ?_
    refine need_eq (and_ok' _) ?_
    refine need_eq (and_ok rfl (and_ok rfl (and_ok (ble_ok (Nat.zero_le _)) (ble_ok (by simp; omega))))) ?_
    refine need_eq (beq_ok (by simp)) ?_
    refine leaf_eq ?_ ?_
    · rw [he, hw]; simp [exV, bc, unk]
    · simp only [bc_ren, take_all, he]
      have e : ∀ x : List Value, x = bc [92, hxU (shrI .u8 l[i].toNat 4), hxU (andI .u8 l[i].toNat 15)] → renL true (rhoO 1 [12]) (c.append x) = c ++ bc [92, hxU (shrI .u8 l[i].toNat 4), hxU (andI .u8 l[i].toNat 15)] := by
        intro x hx
        rw [hx, show c.append (bc [92, hxU (shrI .u8 l[i].toNat 4), hxU (andI .u8 l[i].toNat 15)]) = c ++ bc _ from rfl, renL_append, renL_flat hc, bc_ren]
      exact congrArg (fun x => [Blk.cells (bc l) 5 false, Blk.cells x 5 false]) (e _ rfl)
theorem word_stop {l : List UInt8} {c : List Value} (hc : flatL c = true) :
    roundQ P E ct1 50 48 Bword Hword [sl 1 c.length, sl 0 l.length, .int .i64 l.length, .int .i64 (l.length : Int)] [.cells (bc l) 5 false, .cells c 5 false] =
      some (.tuple ⟨exV (.exit 0) :: [sl 1 c.length, sl 0 l.length, .int .i64 l.length, .int .i64 l.length]⟩, mkSt [.cells (bc l) 5 false, .cells c 5 false]) := by
  unfold sl
  rw [dec_word]
  refine ite_f (by simp [ltI]) ?_
  refine leaf_eq ?_ ?_
  · simp [exV, unk]
  · simp only [bc_ren, renL_flat hc]
theorem word_loop (l : List UInt8) (hl : l.length < 9223372036854775807) : ∀ (k i : Nat) (c : List Value), i + k = l.length → flatL c = true → c.length + 3 * k ≤ 4194304 →
    LR P 48 0 Bword Hword [sl 1 c.length, sl 0 l.length, .int .i64 l.length, .int .i64 i] [.cells (bc l) 5 false, .cells c 5 false] .normal
      [sl 1 (c ++ bc (encL (l.drop i))).length, sl 0 l.length, .int .i64 l.length, .int .i64 l.length] [.cells (bc l) 5 false, .cells (c ++ bc (encL (l.drop i))) 5 false]
  | 0, i, c, hi, hc, hb => by
    have : i = l.length := by omega
    subst this
    have e : c ++ bc (encL (l.drop l.length)) = c := by simp [encL, bc]
    rw [e]
    exact LR.stop (engOk ct1) noNum ct1_ok Bword_occ (by kernel_rfl) (e := .exit 0) (word_stop hc) (by intro h; cases h)
  | k + 1, i, c, hi, hc, hb => by
    have hlt : i < l.length := by omega
    have hr := word_again hlt hc (by omega) hl
    have hlen := enc_length l[i]
    have ih := word_loop l hl k (i + 1) (c ++ bc (enc l[i])) (by omega) (by rw [flatL_append, hc, bc_flat]; rfl) (by rw [List.length_append, bc_length]; omega)
    have e : c ++ bc (enc l[i]) ++ bc (encL (l.drop (i + 1))) = c ++ bc (encL (l.drop i)) := by
      rw [List.drop_eq_getElem_cons hlt, encL_cons, bc_append, List.append_assoc]
    rw [e] at ih
    exact LR.again (engOk ct1) noNum ct1_ok Bword_occ (by kernel_rfl) hr ih
end Go.VS.Tryz
end

section
namespace Go.VS.Tryz
set_option maxRecDepth 1000000
open Go.VS
def wordC (v1 v2 : Value) (z i : Int) (cb : List Value) (e1 : TypeId) (c : List Value) (e2 : TypeId) : Bool :=
  atB v1 1 c.length && atB v2 0 cb.length && z == cb.length && i == 0 && bytesB cb && flatL c && e1 == 5 && e2 == 5 && Nat.ble (c.length + 3 * cb.length) 4194304
def Rword : LoopFn := fun vs bs => match vs, bs with
  | [v1, v2, .int .i64 z, .int .i64 i], [.cells cb e1 false, .cells c e2 false] => some (.ite (wordC v1 v2 z i cb e1 c e2)
      (.leaf (.normal, [sl 1 (c ++ bc (encL (cb.map byteOf))).length, sl 0 cb.length, .int .i64 cb.length, .int .i64 cb.length], [.cells cb 5 false, .cells (c ++ bc (encL (cb.map byteOf))) 5 false])) .fail)
  | _, _ => none
theorem word_loopOk : LoopOk P 48 0 Bword Hword Rword where
  occ := loopAt_occ Bword_eq
  ok := by kernel_rfl
  run := by
    intro vs bs t hR e vs' bs' hev
    unfold Rword at hR
    split at hR
    · rename_i v1 v2 z i cb e1 c e2
      obtain rfl := Option.some.inj hR
      cases hc : wordC v1 v2 z i cb e1 c e2 with
      | false => rw [hc] at hev; cases hev
      | true =>
        rw [hc] at hev
        simp only [DT.eval, Option.some.injEq, Prod.mk.injEq] at hev
        obtain ⟨rfl, rfl, rfl⟩ := hev
        simp only [wordC, Bool.and_eq_true, beq_iff_eq] at hc
        obtain ⟨⟨⟨⟨⟨⟨⟨⟨h1, h2⟩, h3⟩, h4⟩, h5⟩, h6⟩, h7⟩, h8⟩, h9⟩ := hc
        have h9 := Nat.le_of_ble_eq_true h9
        rw [atB_eq h1, atB_eq h2]
        subst h3 h4 h7 h8
        have hcb := bc_of h5
        have hlen : (cb.map byteOf).length = cb.length := by simp
        have := word_loop (cb.map byteOf) (by omega) cb.length 0 c (by omega) h6 (by omega)
        rw [← hcb, hlen, List.drop_zero] at this
        exact this
    · cases hR
noncomputable def ct2 : Ct := addLoop 48 0 Hword Rword ct1
theorem ct2_ok : CtOk P ct2 := addLoop_ok ct1_ok word_loopOk
theorem dec_Word (s : ByteArray) : callQ P E ct2 50 48 [.string s] =
 (iteB (eqS s (ByteArray.mk #[]))
 (some ((Value.string (ByteArray.mk #[34, 34])), (mkSt [])))
 (needB (Nat.ble (ByteArray.size s) 4194304)
 (needB (wordC (Value.slice (Option.some (Addr.mk 1 0 none)) 0 18446744073709551616) (Value.slice (Option.some (Addr.mk 0 0 none)) (ByteArray.size s) 18446744073709551616) (lenI (ByteArray.size s)) (0 : Int) (renL Bool.true (rhoO 1 [1]) (Go.byteCells s)) 5 [] 5)
 (needB (Bool.and (Nat.ble (Nat.add 0 (List.length (HAppend.hAppend [] (bc (encL (List.map byteOf (renL Bool.true (rhoO 1 [1]) (Go.byteCells s)))))))) (List.length (HAppend.hAppend [] (bc (encL (List.map byteOf (renL Bool.true (rhoO 1 [1]) (Go.byteCells s)))))))) (allBytes (takeC (List.length (HAppend.hAppend [] (bc (encL (List.map byteOf (renL Bool.true (rhoO 1 [1]) (Go.byteCells s))))))) (dropC 0 (HAppend.hAppend [] (bc (encL (List.map byteOf (renL Bool.true (rhoO 1 [1]) (Go.byteCells s))))))))))
 (some ((Value.string (bytesT (takeC (List.length (HAppend.hAppend [] (bc (encL (List.map byteOf (renL Bool.true (rhoO 1 [1]) (Go.byteCells s))))))) (dropC 0 (HAppend.hAppend [] (bc (encL (List.map byteOf (renL Bool.true (rhoO 1 [1]) (Go.byteCells s)))))))))), (mkSt []))))))) := by kernel_rfl
def wordM (l : List UInt8) : List UInt8 := match l with
  | [] => [34, 34]
  | l => encL l
def RWord : CallFn
  | [.string s] => some (.ite (Nat.ble (3 * s.size) 4194304) (.leaf (.string ⟨⟨wordM s.data.toList⟩⟩, [])) .fail)
  | _ => none
theorem takeC_self (c : List Value) : takeC c.length (dropC 0 c) = c := take_all' c rfl
theorem word_ok : CallOkR P 48 RWord := by
  refine ok_of ct2_ok (n := 50) fun args t hR v bs hev => ?_
  unfold RWord at hR
  split at hR
  · rename_i s
    obtain rfl := Option.some.inj hR
    cases hc : Nat.ble (3 * s.size) 4194304 with
    | false => rw [hc] at hev; cases hev
    | true =>
      rw [hc] at hev
      simp only [DT.eval, Option.some.injEq, Prod.mk.injEq] at hev
      obtain ⟨rfl, rfl⟩ := hev
      have hsz := Nat.le_of_ble_eq_true hc
      have hlen : s.data.toList.length = s.size := by simp
      rw [dec_Word]
      cases hs : s.data.toList with
      | nil =>
        refine ite_t (by rw [eqS_eq, hs]; rfl) ?_
        rfl
      | cons b l =>
        refine ite_f (by rw [eqS_eq, hs]; rfl) ?_
        refine need_eq (ble_ok (by omega)) ?_
        simp only [byteCells_bc, bc_ren, bc_back, List.nil_append, takeC_self, bc_text]
        refine need_eq ?_ ?_
        · have h1 : atB (.slice (some ⟨1, 0, none⟩) 0 18446744073709551616) 1 ([] : List Value).length = true := atB_sl 1 0
          have h2 : atB (.slice (some ⟨0, 0, none⟩) s.size 18446744073709551616) 0 (bc s.data.toList).length = true := by rw [bc_length, hlen]; exact atB_sl 0 s.size
          have h3 : (lenI s.size == ((bc s.data.toList).length : Int)) = true := by rw [bc_length, hlen]; simp [lenI]
          have h9 : Nat.ble (([] : List Value).length + 3 * (bc s.data.toList).length) 4194304 = true := ble_ok (by rw [bc_length, hlen]; simpa using hsz)
          unfold wordC
          rw [h1, h2, h3, bytesB_bc, h9]
          rfl
        refine need_eq (and_ok (ble_ok (by simp)) (bc_all _)) ?_
        rw [hs]
        rfl
  · cases hR
end Go.VS.Tryz
end

section
namespace Go.VS.Tryz
set_option maxRecDepth 1000000
open Go.VS
noncomputable def Hrword : Head := ⟨0, 40, [0, 3, 4], [(3, 5)]⟩
noncomputable def Brword : Code := (loopAt P 69 0).getD .skip
theorem Brword_eq : loopAt P 69 0 = some Brword := by kernel_rfl
theorem Brword_occ : Occ P 69 (.block 0 (.loop Brword)) := loopAt_has Brword_eq
theorem dec_rword (s : ByteArray) (c : List Value) (i : Int) : roundQ P E ct1 50 69 Brword Hrword [.string s, .slice (some ⟨0, 0, none⟩) c.length unk, .int .i64 i] [.cells c 5 false] =
 (iteB (ltI i (lenI (ByteArray.size s)))
 (needB (inI i (ByteArray.size s))
 (iteB (rplainM (bAt s i))
 (needB (inI i (ByteArray.size s))
 (needB (Bool.and (Bool.not Bool.false) (Bool.and (Nat.beq 5 5) (Bool.and (Nat.ble 0 (List.length c)) (Nat.ble (Nat.add (List.length c) 1) 4194304))))
 (needB (Nat.beq (Nat.add 0 (Nat.mul (List.length c) 1)) (List.length c))
 (some ((Value.tuple (Array.mk [(Value.int IntKind.i64 (0 : Int)), (Value.string s), (Value.slice (Option.some (Addr.mk 0 0 none)) (Nat.add (List.length c) 1) 18446744073709551616), (Value.int IntKind.i64 (addI IntKind.i64 i (1 : Int)))])), (mkSt [(Blk.cells (renL Bool.true (rhoO 0 [2]) (List.append (takeC (Nat.mul (List.length c) 1) (dropC 0 c)) [(Value.int IntKind.u8 (bAt s i))])) 5 Bool.false)]))))))
 (needB (inI i (ByteArray.size s))
 (needB (inI (quoI IntKind.u8 (bAt s i) (16 : Int)) 16)
 (needB (inI i (ByteArray.size s))
 (needB (inI (remI (bAt s i) (16 : Int)) 16)
 (needB (Bool.and (Bool.not Bool.false) (Bool.and (Nat.beq 5 5) (Bool.and (Nat.ble 0 (List.length c)) (Nat.ble (Nat.add (List.length c) 3) 4194304))))
 (needB (Nat.beq (Nat.add 0 (Nat.mul (List.length c) 1)) (List.length c))
 (some ((Value.tuple (Array.mk [(Value.int IntKind.i64 (0 : Int)), (Value.string s), (Value.slice (Option.some (Addr.mk 0 0 none)) (Nat.add (List.length c) 3) 18446744073709551616), (Value.int IntKind.i64 (addI IntKind.i64 i (1 : Int)))])), (mkSt [(Blk.cells (renL Bool.true (rhoO 0 [15]) (List.append (takeC (Nat.mul (List.length c) 1) (dropC 0 c)) [(Value.int IntKind.u8 (92 : Int)), (Value.int IntKind.u8 (bAt (ByteArray.mk #[48, 49, 50, 51, 52, 53, 54, 55, 56, 57, 97, 98, 99, 100, 101, 102]) (quoI IntKind.u8 (bAt s i) (16 : Int)))), (Value.int IntKind.u8 (bAt (ByteArray.mk #[48, 49, 50, 51, 52, 53, 54, 55, 56, 57, 97, 98, 99, 100, 101, 102]) (remI (bAt s i) (16 : Int))))])) 5 Bool.false)])))))))))))
 (some ((Value.tuple (Array.mk [(Value.int IntKind.i64 (1 : Int)), (Value.string s), (Value.slice (Option.some (Addr.mk 0 0 none)) (List.length c) 18446744073709551616), (Value.int IntKind.i64 i)])), (mkSt [(Blk.cells (renL Bool.true (rhoO 0 [0]) c) 5 Bool.false)])))) := by kernel_rfl
theorem rplain_eq (x : Int) : rplainM x = plainM x := by
  unfold rplainM plainM geI leI gtI ltI
  have h1 : decide (x ≥ 33) = decide (x > 32) := by simp only [ge_iff_le, gt_iff_lt, decide_eq_decide]; omega
  have h2 : decide (x ≤ 126) = decide (x < 127) := by simp only [decide_eq_decide]; omega
  rw [h1, h2]
theorem quo_eq : ∀ n : Fin 256, quoI .u8 (n.val : Int) 16 = shrI .u8 (n.val : Int) 4 := by decide +kernel
theorem rem_eq : ∀ n : Fin 256, remI (n.val : Int) 16 = andI .u8 (n.val : Int) 15 := by decide +kernel
theorem quo_ok (b : UInt8) : quoI .u8 (b.toNat : Int) 16 = shrI .u8 (b.toNat : Int) 4 := quo_eq ⟨b.toNat, b.toNat_lt⟩
theorem rem_ok (b : UInt8) : remI (b.toNat : Int) 16 = andI .u8 (b.toNat : Int) 15 := rem_eq ⟨b.toNat, b.toNat_lt⟩
theorem bAt_nth {s : ByteArray} {i : Nat} (h : i < s.data.toList.length) : bAt s (i : Int) = ((s.data.toList[i]).toNat : Int) := by
  unfold bAt
  rw [Int.toNat_natCast, List.getD_eq_getElem?_getD, List.getElem?_eq_getElem h]
  rfl
theorem rword_again {s : ByteArray} {i : Nat} {c : List Value} (h : i < s.data.toList.length) (hc : flatL c = true) (hb : c.length + 3 ≤ 4194304) (hl : s.size < 9223372036854775807) :
    roundQ P E ct1 50 69 Brword Hrword [.string s, sl 0 c.length, .int .i64 i] [.cells c 5 false] =
      some (.tuple ⟨exV .normal :: [.string s, sl 0 (c ++ bc (enc s.data.toList[i])).length, .int .i64 ((i + 1 : Nat) : Int)]⟩, mkSt [.cells (c ++ bc (enc s.data.toList[i])) 5 false]) := by
  unfold sl
  have hsz : s.data.toList.length = s.size := by simp
  rw [dec_rword]
  have hw : addI .i64 (i : Int) 1 = ((i + 1 : Nat) : Int) := by
    unfold addI
    rw [wrap64 (by omega) (by omega)]; omega
  have hin : inI (i : Int) s.size = true := by
    clear hw
    exact inI_ok (by omega) (by omega)
  have hlt : ltI (i : Int) (lenI s.size) = true := by
    clear hw hin
    have hx : (i : Int) < (s.size : Int) := by omega
    exact decide_eq_true hx
  refine ite_t hlt ?_
  refine need_eq hin ?_
  simp only [bAt_nth h, rplain_eq]
  cases hp : plainM (s.data.toList[i].toNat : Int) with
  | true =>
    have he : enc s.data.toList[i] = [s.data.toList[i]] := by unfold enc; rw [hp]
    refine ite_t rfl ?_
    refine need_eq hin ?_
    refine need_eq (and_ok rfl (and_ok rfl (and_ok (ble_ok (Nat.zero_le _)) (ble_ok (by simp; omega))))) ?_
    refine need_eq (beq_ok (by simp)) ?_
    refine leaf_eq ?_ ?_
    · rw [he, hw]; simp [exV, bc, unk]
    · simp only [take_all, he]
      have e : ∀ x : List Value, x = bc [s.data.toList[i]] → renL true (rhoO 0 [2]) (c.append x) = c ++ bc [s.data.toList[i]] := by
        intro x hx
        rw [hx, show c.append (bc [s.data.toList[i]]) = c ++ bc _ from rfl, renL_append, renL_flat hc, bc_ren]
      exact congrArg (fun x => [Blk.cells x 5 false]) (e _ rfl)
  | false =>
    have he : enc s.data.toList[i] = [92, hxU (shrI .u8 s.data.toList[i].toNat 4), hxU (andI .u8 s.data.toList[i].toNat 15)] := by unfold enc; rw [hp]
    simp only [quo_ok, rem_ok]
    refine ite_f rfl ?_
    refine need_eq hin ?_
    refine need_eq (shr_ok _) ?_
    refine need_eq hin ?_
    refine need_eq (and_ok' _) ?_
    refine need_eq (and_ok rfl (and_ok rfl (and_ok (ble_ok (Nat.zero_le _)) (ble_ok (by simp; omega))))) ?_
    refine need_eq (beq_ok (by simp)) ?_
    refine leaf_eq ?_ ?_
    · rw [he, hw]; simp [exV, bc, unk]
    · simp only [take_all, he]
      have e : ∀ x : List Value, x = bc [92, hxU (shrI .u8 s.data.toList[i].toNat 4), hxU (andI .u8 s.data.toList[i].toNat 15)] → renL true (rhoO 0 [15]) (c.append x) = c ++ bc [92, hxU (shrI .u8 s.data.toList[i].toNat 4), hxU (andI .u8 s.data.toList[i].toNat 15)] := by
        intro x hx
        rw [hx, show c.append (bc [92, hxU (shrI .u8 s.data.toList[i].toNat 4), hxU (andI .u8 s.data.toList[i].toNat 15)]) = c ++ bc _ from rfl, renL_append, renL_flat hc, bc_ren]
      exact congrArg (fun x => [Blk.cells x 5 false]) (e _ rfl)
theorem rword_stop {s : ByteArray} {c : List Value} (hc : flatL c = true) :
    roundQ P E ct1 50 69 Brword Hrword [.string s, sl 0 c.length, .int .i64 (s.size : Int)] [.cells c 5 false] =
      some (.tuple ⟨exV (.exit 0) :: [.string s, sl 0 c.length, .int .i64 s.size]⟩, mkSt [.cells c 5 false]) := by
  unfold sl
  rw [dec_rword]
  refine ite_f (by simp [ltI, lenI]) ?_
  refine leaf_eq ?_ ?_
  · simp [exV, unk]
  · simp only [renL_flat hc]
theorem rword_loop (s : ByteArray) (hl : s.size < 9223372036854775807) : ∀ (k i : Nat) (c : List Value), i + k = s.size → flatL c = true → c.length + 3 * k ≤ 4194304 →
    LR P 69 0 Brword Hrword [.string s, sl 0 c.length, .int .i64 i] [.cells c 5 false] .normal
      [.string s, sl 0 (c ++ bc (encL (s.data.toList.drop i))).length, .int .i64 s.size] [.cells (c ++ bc (encL (s.data.toList.drop i))) 5 false]
  | 0, i, c, hi, hc, hb => by
    have hsz : s.data.toList.length = s.size := by simp
    have : i = s.size := by omega
    subst this
    have e : c ++ bc (encL (s.data.toList.drop s.size)) = c := by rw [List.drop_of_length_le (by omega)]; simp [encL, bc]
    rw [e]
    exact LR.stop (engOk ct1) noNum ct1_ok Brword_occ (by kernel_rfl) (e := .exit 0) (rword_stop hc) (by intro h; cases h)
  | k + 1, i, c, hi, hc, hb => by
    have hsz : s.data.toList.length = s.size := by simp
    have hlt : i < s.data.toList.length := by omega
    have hr := rword_again hlt hc (by omega) hl
    have hlen := enc_length s.data.toList[i]
    have ih := rword_loop s hl k (i + 1) (c ++ bc (enc s.data.toList[i])) (by omega) (by rw [flatL_append, hc, bc_flat]; rfl) (by rw [List.length_append, bc_length]; omega)
    have e : c ++ bc (enc s.data.toList[i]) ++ bc (encL (s.data.toList.drop (i + 1))) = c ++ bc (encL (s.data.toList.drop i)) := by
      rw [List.drop_eq_getElem_cons hlt, encL_cons, bc_append, List.append_assoc]
    rw [e] at ih
    exact LR.again (engOk ct1) noNum ct1_ok Brword_occ (by kernel_rfl) hr ih
def rwordC (s : ByteArray) (v1 : Value) (i : Int) (c : List Value) (e1 : TypeId) : Bool :=
  atB v1 0 c.length && i == 0 && flatL c && e1 == 5 && Nat.ble (c.length + 3 * s.size) 4194304
def Rrword : LoopFn := fun vs bs => match vs, bs with
  | [.string s, v1, .int .i64 i], [.cells c e1 false] => some (.ite (rwordC s v1 i c e1)
      (.leaf (.normal, [.string s, sl 0 (c ++ bc (encL s.data.toList)).length, .int .i64 s.size], [.cells (c ++ bc (encL s.data.toList)) 5 false])) .fail)
  | _, _ => none
theorem rword_loopOk : LoopOk P 69 0 Brword Hrword Rrword where
  occ := loopAt_occ Brword_eq
  ok := by kernel_rfl
  run := by
    intro vs bs t hR e vs' bs' hev
    unfold Rrword at hR
    split at hR
    · rename_i s v1 i c e1
      obtain rfl := Option.some.inj hR
      cases hc : rwordC s v1 i c e1 with
      | false => rw [hc] at hev; cases hev
      | true =>
        rw [hc] at hev
        simp only [DT.eval, Option.some.injEq, Prod.mk.injEq] at hev
        obtain ⟨rfl, rfl, rfl⟩ := hev
        simp only [rwordC, Bool.and_eq_true, beq_iff_eq] at hc
        obtain ⟨⟨⟨⟨h1, h2⟩, h3⟩, h4⟩, h5⟩ := hc
        have h5 := Nat.le_of_ble_eq_true h5
        rw [atB_eq h1]
        subst h2 h4
        have := rword_loop s (by omega) s.size 0 c (by omega) h3 (by omega)
        rw [List.drop_zero] at this
        exact this
    · cases hR
noncomputable def ct3 : Ct := addLoop 69 0 Hrword Rrword (addCall P 48 RWord ct2)
theorem ct3_ok : CtOk P ct3 := addLoop_ok (addCall_ok ct2_ok word_ok) rword_loopOk
theorem dec_rWord (s : ByteArray) : callQ P E ct3 50 69 [.string s] =
 (iteB (eqS s (ByteArray.mk #[]))
 (some ((Value.string (ByteArray.mk #[34, 34])), (mkSt [])))
 (needB (rwordC s (Value.slice (Option.some (Addr.mk 0 0 none)) 0 18446744073709551616) (0 : Int) [] 5)
 (needB (Bool.and (Nat.ble (Nat.add 0 (List.length (HAppend.hAppend [] (bc (encL (Array.toList (ByteArray.data s))))))) (List.length (HAppend.hAppend [] (bc (encL (Array.toList (ByteArray.data s))))))) (allBytes (takeC (List.length (HAppend.hAppend [] (bc (encL (Array.toList (ByteArray.data s)))))) (dropC 0 (HAppend.hAppend [] (bc (encL (Array.toList (ByteArray.data s)))))))))
 (some ((Value.string (bytesT (takeC (List.length (HAppend.hAppend [] (bc (encL (Array.toList (ByteArray.data s)))))) (dropC 0 (HAppend.hAppend [] (bc (encL (Array.toList (ByteArray.data s))))))))), (mkSt [])))))) := by kernel_rfl
theorem rWord_ok : CallOkR P 69 RWord := by
  refine ok_of ct3_ok (n := 50) fun args t hR v bs hev => ?_
  unfold RWord at hR
  split at hR
  · rename_i s
    obtain rfl := Option.some.inj hR
    cases hc : Nat.ble (3 * s.size) 4194304 with
    | false => rw [hc] at hev; cases hev
    | true =>
      rw [hc] at hev
      simp only [DT.eval, Option.some.injEq, Prod.mk.injEq] at hev
      obtain ⟨rfl, rfl⟩ := hev
      have hsz := Nat.le_of_ble_eq_true hc
      rw [dec_rWord]
      cases hs : s.data.toList with
      | nil =>
        refine ite_t (by rw [eqS_eq, hs]; rfl) ?_
        rfl
      | cons b l =>
        refine ite_f (by rw [eqS_eq, hs]; rfl) ?_
        simp only [List.nil_append, takeC_self, bc_text]
        refine need_eq ?_ ?_
        · have h1 : atB (.slice (some ⟨0, 0, none⟩) 0 18446744073709551616) 0 ([] : List Value).length = true := atB_sl 0 0
          have h9 : Nat.ble (([] : List Value).length + 3 * s.size) 4194304 = true := ble_ok (by simpa using hsz)
          unfold rwordC
          rw [h1, h9]
          rfl
        refine need_eq (and_ok (ble_ok (by simp)) (bc_all _)) ?_
        first
          | rfl
          | (rw [hs]; rfl)
  · cases hR
end Go.VS.Tryz
end

section
namespace Go.VS.Tryz
set_option maxRecDepth 1000000
open Go.VS
noncomputable def Hbytes : Head := ⟨0, 86, [0, 4, 5, 6], [(4, 5)]⟩
noncomputable def Bbytes : Code := (loopAt P 73 0).getD .skip
theorem Bbytes_eq : loopAt P 73 0 = some Bbytes := by kernel_rfl
theorem Bbytes_occ : Occ P 73 (.block 0 (.loop Bbytes)) := loopAt_has Bbytes_eq
theorem dec_bytes (s : ByteArray) (c : List Value) (i : Int) : roundQ P E ct1 50 73 Bbytes Hbytes [.string s, .slice (some ⟨0, 0, none⟩) c.length unk, .bool false, .int .i64 i] [.cells c 5 false] =
 (iteB (ltI i (lenI (ByteArray.size s)))
 (needB (inI i (ByteArray.size s))
 (iteB (plainM (bAt s i))
 (needB (Bool.and (Bool.not Bool.false) (Bool.and (Nat.beq 5 5) (Bool.and (Nat.ble 0 (List.length c)) (Nat.ble (Nat.add (List.length c) 1) 4194304))))
 (needB (Nat.beq (Nat.add 0 (Nat.mul (List.length c) 1)) (List.length c))
 (some ((Value.tuple (Array.mk [(Value.int IntKind.i64 (0 : Int)), (Value.string s), (Value.slice (Option.some (Addr.mk 0 0 none)) (Nat.add (List.length c) 1) 18446744073709551616), (Value.bool Bool.false), (Value.int IntKind.i64 (addI IntKind.i64 i (1 : Int)))])), (mkSt [(Blk.cells (renL Bool.true (rhoO 0 [2]) (List.append (takeC (Nat.mul (List.length c) 1) (dropC 0 c)) [(Value.int IntKind.u8 (bAt s i))])) 5 Bool.false)])))))
 (iteB (eqI (bAt s i) (92 : Int))
 (iteB (ltI (addI IntKind.i64 i (2 : Int)) (lenI (ByteArray.size s)))
 (needB (inI (addI IntKind.i64 i (1 : Int)) (ByteArray.size s))
 (needB (inI (addI IntKind.i64 i (2 : Int)) (ByteArray.size s))
 (iteB (notB (digB (bAt s (addI IntKind.i64 i (1 : Int)))))
 (some ((Value.tuple (Array.mk [(Value.int IntKind.i64 (1 : Int)), (Value.string s), (Value.slice (Option.some (Addr.mk 0 0 none)) (List.length c) 18446744073709551616), (Value.bool Bool.true), (Value.int IntKind.i64 i)])), (mkSt [(Blk.cells (renL Bool.true (rhoO 0 [0]) c) 5 Bool.false)])))
 (iteB (notB (digB (bAt s (addI IntKind.i64 i (2 : Int)))))
 (some ((Value.tuple (Array.mk [(Value.int IntKind.i64 (1 : Int)), (Value.string s), (Value.slice (Option.some (Addr.mk 0 0 none)) (List.length c) 18446744073709551616), (Value.bool Bool.true), (Value.int IntKind.i64 i)])), (mkSt [(Blk.cells (renL Bool.true (rhoO 0 [0]) c) 5 Bool.false)])))
 (iteB (plainM (orI IntKind.u8 (shlI IntKind.u8 (digV (bAt s (addI IntKind.i64 i (1 : Int)))) (4 : Int)) (digV (bAt s (addI IntKind.i64 i (2 : Int))))))
 (some ((Value.tuple (Array.mk [(Value.int IntKind.i64 (1 : Int)), (Value.string s), (Value.slice (Option.some (Addr.mk 0 0 none)) (List.length c) 18446744073709551616), (Value.bool Bool.true), (Value.int IntKind.i64 i)])), (mkSt [(Blk.cells (renL Bool.true (rhoO 0 [0]) c) 5 Bool.false)])))
 (needB (Bool.and (Bool.not Bool.false) (Bool.and (Nat.beq 5 5) (Bool.and (Nat.ble 0 (List.length c)) (Nat.ble (Nat.add (List.length c) 1) 4194304))))
 (needB (Nat.beq (Nat.add 0 (Nat.mul (List.length c) 1)) (List.length c))
 (some ((Value.tuple (Array.mk [(Value.int IntKind.i64 (0 : Int)), (Value.string s), (Value.slice (Option.some (Addr.mk 0 0 none)) (Nat.add (List.length c) 1) 18446744073709551616), (Value.bool Bool.false), (Value.int IntKind.i64 (addI IntKind.i64 (addI IntKind.i64 i (2 : Int)) (1 : Int)))])), (mkSt [(Blk.cells (renL Bool.true (rhoO 0 [2]) (List.append (takeC (Nat.mul (List.length c) 1) (dropC 0 c)) [(Value.int IntKind.u8 (orI IntKind.u8 (shlI IntKind.u8 (digV (bAt s (addI IntKind.i64 i (1 : Int)))) (4 : Int)) (digV (bAt s (addI IntKind.i64 i (2 : Int))))))])) 5 Bool.false)]))))))))))
 (some ((Value.tuple (Array.mk [(Value.int IntKind.i64 (1 : Int)), (Value.string s), (Value.slice (Option.some (Addr.mk 0 0 none)) (List.length c) 18446744073709551616), (Value.bool Bool.true), (Value.int IntKind.i64 i)])), (mkSt [(Blk.cells (renL Bool.true (rhoO 0 [0]) c) 5 Bool.false)]))))
 (some ((Value.tuple (Array.mk [(Value.int IntKind.i64 (1 : Int)), (Value.string s), (Value.slice (Option.some (Addr.mk 0 0 none)) (List.length c) 18446744073709551616), (Value.bool Bool.true), (Value.int IntKind.i64 i)])), (mkSt [(Blk.cells (renL Bool.true (rhoO 0 [0]) c) 5 Bool.false)]))))))
 (some ((Value.tuple (Array.mk [(Value.int IntKind.i64 (1 : Int)), (Value.string s), (Value.slice (Option.some (Addr.mk 0 0 none)) (List.length c) 18446744073709551616), (Value.bool Bool.false), (Value.int IntKind.i64 i)])), (mkSt [(Blk.cells (renL Bool.true (rhoO 0 [0]) c) 5 Bool.false)])))) := by kernel_rfl
def hv (h l : UInt8) : Int := orI .u8 (shlI .u8 (digV h.toNat) 4) (digV l.toNat)
def goodH (h l : UInt8) : Bool := digB h.toNat && digB l.toNat && !plainM (hv h l)
def byteH (h l : UInt8) : UInt8 := UInt8.ofNat (hv h l).toNat
theorem wrap_u8 (n : Int) : IntKind.u8.wrap n = n % 256 := by
  show (if (false && decide (n % (2 ^ 8 : Int) ≥ (2 ^ (8 - 1) : Int))) = true then n % (2 ^ 8 : Int) - (2 ^ 8 : Int) else n % (2 ^ 8 : Int)) = _
  simp
theorem byteH_eq (h l : UInt8) : ((byteH h l).toNat : Int) = hv h l := by
  unfold byteH
  have h1 : 0 ≤ hv h l ∧ hv h l < 256 := by
    unfold hv orI
    rw [wrap_u8]
    omega
  generalize hv h l = n at h1
  simp only [UInt8.toNat_ofNat']
  omega
def decL : List UInt8 → List UInt8 × Bool × Nat
  | [] => ([], false, 0)
  | x :: r => match plainM x.toNat with
    | true => (x :: (decL r).1, (decL r).2)
    | false => match eqI x.toNat 92, r with
      | true, h :: l :: r' => match goodH h l with
        | true => (byteH h l :: (decL r').1, (decL r').2)
        | false => ([], true, r'.length + 3)
      | _, r => ([], true, r.length + 1)
section
variable {s : ByteArray} {i : Nat} {c : List Value}
theorem addI_nat {i k : Nat} (h : i + k < 9223372036854775808) : addI .i64 (i : Int) (k : Int) = ((i + k : Nat) : Int) := by
  unfold addI
  rw [wrap64 (by omega) (by omega)]; omega
theorem bytes_plain (h : i < s.data.toList.length) (hc : flatL c = true) (hb : c.length + 1 ≤ 4194304) (hl : s.size < 9223372036854775800) (hp : plainM (s.data.toList[i].toNat : Int) = true) :
    roundQ P E ct1 50 73 Bbytes Hbytes [.string s, sl 0 c.length, .bool false, .int .i64 i] [.cells c 5 false] =
      some (.tuple ⟨exV .normal :: [.string s, sl 0 (c ++ bc [s.data.toList[i]]).length, .bool false, .int .i64 ((i + 1 : Nat) : Int)]⟩, mkSt [.cells (c ++ bc [s.data.toList[i]]) 5 false]) := by
  unfold sl
  have hsz : s.data.toList.length = s.size := by simp
  have hx : (i : Int) < (s.size : Int) := by omega
  have hw := addI_nat (i := i) (k := 1) (by omega)
  rw [dec_bytes]
  refine ite_t (decide_eq_true hx) ?_
  refine need_eq (inI_ok (by omega) hx) ?_
  rw [bAt_nth h]
  refine ite_t hp ?_
  refine need_eq (and_ok rfl (and_ok rfl (and_ok (ble_ok (Nat.zero_le _)) (ble_ok (by simp; omega))))) ?_
  refine need_eq (beq_ok (by simp)) ?_
  refine leaf_eq ?_ ?_
  · rw [show addI .i64 (i : Int) 1 = ((i + 1 : Nat) : Int) from hw]; simp [exV, bc, unk]
  · simp only [take_all]
    have e : ∀ x : List Value, x = bc [s.data.toList[i]] → renL true (rhoO 0 [2]) (c.append x) = c ++ bc [s.data.toList[i]] := by
      intro x hx
      rw [hx, show c.append (bc [s.data.toList[i]]) = c ++ bc _ from rfl, renL_append, renL_flat hc, bc_ren]
    exact congrArg (fun x => [Blk.cells x 5 false]) (e _ rfl)
theorem bytes_end (hc : flatL c = true) (h : i = s.size) :
    roundQ P E ct1 50 73 Bbytes Hbytes [.string s, sl 0 c.length, .bool false, .int .i64 i] [.cells c 5 false] =
      some (.tuple ⟨exV (.exit 0) :: [.string s, sl 0 c.length, .bool false, .int .i64 i]⟩, mkSt [.cells c 5 false]) := by
  unfold sl
  rw [dec_bytes]
  refine ite_f (by subst h; simp [ltI, lenI]) ?_
  refine leaf_eq (by simp [exV, unk]) ?_
  simp only [renL_flat hc]
theorem bad_leaf (hc : flatL c = true) : (some ((Go.Value.tuple (Array.mk [(Go.Value.int Go.IntKind.i64 (1 : Int)), (Go.Value.string s), (Go.Value.slice (Option.some (Go.Addr.mk 0 0 none)) (List.length c) 18446744073709551616), (Go.Value.bool Bool.true), (Go.Value.int Go.IntKind.i64 (i : Int))])), (Go.VS.mkSt [(Go.VS.Blk.cells (Go.VS.renL Bool.true (Go.VS.rhoO 0 [0]) c) 5 Bool.false)])) : Res) =
    some (.tuple ⟨exV (.exit 0) :: [.string s, sl 0 c.length, .bool true, .int .i64 i]⟩, mkSt [.cells c 5 false]) := by
  refine leaf_eq (by simp [exV, unk, sl]) ?_
  simp only [renL_flat hc]
theorem bytes_other (h : i < s.data.toList.length) (hc : flatL c = true) (hp : plainM (s.data.toList[i].toNat : Int) = false) (hb : eqI (s.data.toList[i].toNat : Int) 92 = false ∨ s.data.toList.length ≤ i + 2) (hl : s.size < 9223372036854775800) :
    roundQ P E ct1 50 73 Bbytes Hbytes [.string s, sl 0 c.length, .bool false, .int .i64 i] [.cells c 5 false] =
      some (.tuple ⟨exV (.exit 0) :: [.string s, sl 0 c.length, .bool true, .int .i64 i]⟩, mkSt [.cells c 5 false]) := by
  have hsz : s.data.toList.length = s.size := by simp
  have hx : (i : Int) < (s.size : Int) := by omega
  have hw2 := addI_nat (i := i) (k := 2) (by omega)
  have hd := dec_bytes s c i
  unfold sl
  rw [hd]
  refine ite_t (decide_eq_true hx) ?_
  refine need_eq (inI_ok (by omega) hx) ?_
  rw [bAt_nth h]
  refine ite_f hp ?_
  cases he : eqI (s.data.toList[i].toNat : Int) 92 with
  | false => exact ite_f rfl (bad_leaf hc)
  | true =>
    refine ite_t rfl ?_
    have hb : s.data.toList.length ≤ i + 2 := hb.resolve_left (by rw [he]; decide)
    refine ite_f ?_ (bad_leaf hc)
    rw [show addI .i64 (i : Int) 2 = ((i + 2 : Nat) : Int) from hw2]
    refine decide_eq_false ?_
    show ¬ ((i + 2 : Nat) : Int) < (s.size : Int)
    omega
theorem bytes_pair (h2 : i + 2 < s.data.toList.length) (hc : flatL c = true) (hb : c.length + 1 ≤ 4194304) (hp : plainM (s.data.toList[i].toNat : Int) = false) (he : eqI (s.data.toList[i].toNat : Int) 92 = true) (hl : s.size < 9223372036854775800) :
    roundQ P E ct1 50 73 Bbytes Hbytes [.string s, sl 0 c.length, .bool false, .int .i64 i] [.cells c 5 false] =
      match goodH s.data.toList[i + 1] s.data.toList[i + 2] with
      | true => some (.tuple ⟨exV .normal :: [.string s, sl 0 (c ++ bc [byteH s.data.toList[i + 1] s.data.toList[i + 2]]).length, .bool false, .int .i64 ((i + 3 : Nat) : Int)]⟩, mkSt [.cells (c ++ bc [byteH s.data.toList[i + 1] s.data.toList[i + 2]]) 5 false])
      | false => some (.tuple ⟨exV (.exit 0) :: [.string s, sl 0 c.length, .bool true, .int .i64 i]⟩, mkSt [.cells c 5 false]) := by
  have hsz : s.data.toList.length = s.size := by simp
  have hx : (i : Int) < (s.size : Int) := by omega
  have hw1 : addI .i64 (i : Int) 1 = ((i + 1 : Nat) : Int) := addI_nat (i := i) (k := 1) (by omega)
  have hw2 : addI .i64 (i : Int) 2 = ((i + 2 : Nat) : Int) := addI_nat (i := i) (k := 2) (by omega)
  have hw3 : addI .i64 ((i + 2 : Nat) : Int) 1 = ((i + 3 : Nat) : Int) := addI_nat (i := i + 2) (k := 1) (by omega)
  have hx1 : ((i + 1 : Nat) : Int) < (s.size : Int) := by omega
  have hx2 : ((i + 2 : Nat) : Int) < (s.size : Int) := by omega
  have hd := dec_bytes s c i
  rw [hw1, hw2, hw3, bAt_nth (show i < s.data.toList.length by omega), bAt_nth (show i + 1 < s.data.toList.length by omega), bAt_nth h2] at hd
  unfold sl
  rw [hd]
  refine ite_t (decide_eq_true hx) ?_
  refine need_eq (inI_ok (by omega) hx) ?_
  refine ite_f hp ?_
  refine ite_t he ?_
  refine ite_t (decide_eq_true hx2) ?_
  refine need_eq (inI_ok (by omega) hx1) ?_
  refine need_eq (inI_ok (by omega) hx2) ?_
  unfold goodH
  cases d1 : digB (s.data.toList[i + 1].toNat : Int) with
  | false => exact ite_t rfl (bad_leaf hc)
  | true =>
    refine ite_f rfl ?_
    cases d2 : digB (s.data.toList[i + 2].toNat : Int) with
    | false => exact ite_t rfl (bad_leaf hc)
    | true =>
      refine ite_f rfl ?_
      cases d3 : plainM (hv s.data.toList[i + 1] s.data.toList[i + 2]) with
      | true => exact ite_t d3 (bad_leaf hc)
      | false =>
        refine ite_f d3 ?_
        refine need_eq (and_ok rfl (and_ok rfl (and_ok (ble_ok (Nat.zero_le _)) (ble_ok (by simp; omega))))) ?_
        refine need_eq (beq_ok (by simp)) ?_
        refine leaf_eq ?_ ?_
        · simp [exV, bc, unk]
        · simp only [take_all]
          have e : ∀ x : List Value, x = bc [byteH s.data.toList[i + 1] s.data.toList[i + 2]] → renL true (rhoO 0 [2]) (c.append x) = c ++ bc [byteH s.data.toList[i + 1] s.data.toList[i + 2]] := by
            intro x hx
            rw [hx, show c.append (bc [byteH s.data.toList[i + 1] s.data.toList[i + 2]]) = c ++ bc _ from rfl, renL_append, renL_flat hc, bc_ren]
          refine congrArg (fun x => [Blk.cells x 5 false]) (e _ ?_)
          show [Value.int .u8 (hv s.data.toList[i + 1] s.data.toList[i + 2])] = [Value.int .u8 ((byteH s.data.toList[i + 1] s.data.toList[i + 2]).toNat : Int)]
          rw [byteH_eq]
end
end Go.VS.Tryz
end

section
namespace Go.VS.Tryz
set_option maxRecDepth 1000000
open Go.VS
theorem decL_plain {x : UInt8} {r : List UInt8} (h : plainM x.toNat = true) : decL (x :: r) = (x :: (decL r).1, (decL r).2) := by
  rw [decL.eq_def]; simp only [h]
theorem decL_pair {x h l : UInt8} {r : List UInt8} (hp : plainM x.toNat = false) (he : eqI x.toNat 92 = true) : decL (x :: h :: l :: r) = match goodH h l with
    | true => (byteH h l :: (decL r).1, (decL r).2)
    | false => ([], true, r.length + 3) := by
  rw [decL.eq_def]; simp only [hp, he] <;> cases goodH h l <;> rfl
theorem decL_other {x : UInt8} {r : List UInt8} (hp : plainM x.toNat = false) (ho : eqI x.toNat 92 = false ∨ r.length < 2) : decL (x :: r) = ([], true, r.length + 1) := by
  rw [decL.eq_def]
  simp only [hp]
  cases he : eqI x.toNat 92 with
  | false => cases r with
    | nil => rfl
    | cons a r => cases r <;> rfl
  | true =>
    have : r.length < 2 := ho.resolve_left (by rw [he]; decide)
    cases r with
    | nil => rfl
    | cons a r => cases r with
      | nil => rfl
      | cons b r => simp at this; omega
theorem bytes_loop (s : ByteArray) (hl : s.size < 9223372036854775800) : ∀ (k i : Nat) (c : List Value), i + k = s.size → flatL c = true → c.length + k ≤ 4194304 →
    LR P 73 0 Bbytes Hbytes [.string s, sl 0 c.length, .bool false, .int .i64 i] [.cells c 5 false] .normal
      [.string s, sl 0 (c ++ bc (decL (s.data.toList.drop i)).1).length, .bool (decL (s.data.toList.drop i)).2.1, .int .i64 ((s.size - (decL (s.data.toList.drop i)).2.2 : Nat) : Int)] [.cells (c ++ bc (decL (s.data.toList.drop i)).1) 5 false] := by
  intro k
  induction k using Nat.strongRecOn with
  | _ k ih =>
    intro i c hi hc hb
    have hsz : s.data.toList.length = s.size := by simp
    have stop : ∀ {vs1 : List Value} {bs1 : List Blk}, roundQ P E ct1 50 73 Bbytes Hbytes [.string s, sl 0 c.length, .bool false, .int .i64 i] [.cells c 5 false] = some (.tuple ⟨exV (.exit 0) :: vs1⟩, mkSt bs1) →
        LR P 73 0 Bbytes Hbytes [.string s, sl 0 c.length, .bool false, .int .i64 i] [.cells c 5 false] .normal vs1 bs1 :=
      fun h => LR.stop (engOk ct1) noNum ct1_ok Bbytes_occ (by kernel_rfl) (e := .exit 0) h (by intro h; cases h)
    by_cases hk : k = 0
    · subst hk
      have e : s.data.toList.drop i = [] := List.drop_of_length_le (by omega)
      rw [e]
      have := stop (bytes_end hc (by omega))
      simpa [decL, bc, hi] using (by simpa using (show i = s.size by omega) ▸ this)
    · have hlt : i < s.data.toList.length := by omega
      rw [List.drop_eq_getElem_cons hlt]
      cases hp : plainM (s.data.toList[i].toNat : Int) with
      | true =>
        have := ih (k - 1) (by omega) (i + 1) (c ++ bc [s.data.toList[i]]) (by omega) (by rw [flatL_append, hc, bc_flat]; rfl) (by rw [List.length_append, bc_length]; simp; omega)
        rw [decL_plain hp]
        have e : ∀ q, c ++ bc [s.data.toList[i]] ++ bc q = c ++ bc (s.data.toList[i] :: q) := by
          intro q; rw [List.append_assoc, ← bc_append]; rfl
        rw [e] at this
        exact LR.again (engOk ct1) noNum ct1_ok Bbytes_occ (by kernel_rfl) (bytes_plain hlt hc (by omega) hl hp) this
      | false =>
        have hrest : (s.data.toList.drop (i + 1)).length = k - 1 := by rw [List.length_drop]; omega
        by_cases ho : eqI (s.data.toList[i].toNat : Int) 92 = false ∨ s.data.toList.length ≤ i + 2
        · have := stop (bytes_other hlt hc hp ho hl)
          rw [decL_other hp (ho.imp id fun h => by rw [hrest]; omega)]
          have e : s.size - ((s.data.toList.drop (i + 1)).length + 1) = i := by rw [hrest]; omega
          simp only [e]
          have e2 : c ++ bc [] = c := by simp [bc]
          rw [e2]
          exact this
        · have he : eqI (s.data.toList[i].toNat : Int) 92 = true := by
            cases h : eqI (s.data.toList[i].toNat : Int) 92 with
            | true => rfl
            | false => exact absurd (Or.inl h) ho
          have h2 : i + 2 < s.data.toList.length := by
            have : ¬ s.data.toList.length ≤ i + 2 := fun h => ho (Or.inr h)
            omega
          have hr := bytes_pair h2 hc (by omega) hp he hl
          rw [List.drop_eq_getElem_cons (show i + 1 < s.data.toList.length by omega), List.drop_eq_getElem_cons h2, decL_pair hp he]
          have hrest3 : (s.data.toList.drop (i + 3)).length = k - 3 := by rw [List.length_drop]; omega
          cases hg : goodH s.data.toList[i + 1] s.data.toList[i + 2] with
          | true =>
            rw [hg] at hr
            have := ih (k - 3) (by omega) (i + 3) (c ++ bc [byteH s.data.toList[i + 1] s.data.toList[i + 2]]) (by omega) (by rw [flatL_append, hc, bc_flat]; rfl) (by rw [List.length_append, bc_length]; simp; omega)
            have e : ∀ q, c ++ bc [byteH s.data.toList[i + 1] s.data.toList[i + 2]] ++ bc q = c ++ bc (byteH s.data.toList[i + 1] s.data.toList[i + 2] :: q) := by
              intro q; rw [List.append_assoc, ← bc_append]; rfl
            rw [e] at this
            exact LR.again (engOk ct1) noNum ct1_ok Bbytes_occ (by kernel_rfl) hr this
          | false =>
            rw [hg] at hr
            have := stop hr
            have e : s.size - ((s.data.toList.drop (i + 3)).length + 3) = i := by rw [hrest3]; omega
            simp only [e]
            have e2 : c ++ bc [] = c := by simp [bc]
            rw [e2]
            exact this
def bytesC (s : ByteArray) (v1 : Value) (bad : Bool) (i : Int) (c : List Value) (e1 : TypeId) : Bool :=
  atB v1 0 c.length && !bad && i == 0 && flatL c && e1 == 5 && Nat.ble (c.length + s.size) 4194304
def RbytesL : LoopFn := fun vs bs => match vs, bs with
  | [.string s, v1, .bool bad, .int .i64 i], [.cells c e1 false] => some (.ite (bytesC s v1 bad i c e1)
      (.leaf (.normal, [.string s, sl 0 (c ++ bc (decL s.data.toList).1).length, .bool (decL s.data.toList).2.1, .int .i64 ((s.size - (decL s.data.toList).2.2 : Nat) : Int)], [.cells (c ++ bc (decL s.data.toList).1) 5 false])) .fail)
  | _, _ => none
theorem bytes_loopOk : LoopOk P 73 0 Bbytes Hbytes RbytesL where
  occ := loopAt_occ Bbytes_eq
  ok := by kernel_rfl
  run := by
    intro vs bs t hR e vs' bs' hev
    unfold RbytesL at hR
    split at hR
    · rename_i s v1 bad i c e1
      obtain rfl := Option.some.inj hR
      cases hc : bytesC s v1 bad i c e1 with
      | false => rw [hc] at hev; cases hev
      | true =>
        rw [hc] at hev
        simp only [DT.eval, Option.some.injEq, Prod.mk.injEq] at hev
        obtain ⟨rfl, rfl, rfl⟩ := hev
        simp only [bytesC, Bool.and_eq_true, beq_iff_eq, Bool.not_eq_true'] at hc
        obtain ⟨⟨⟨⟨⟨h1, h2⟩, h3⟩, h4⟩, h5⟩, h6⟩ := hc
        have h6 := Nat.le_of_ble_eq_true h6
        rw [atB_eq h1]
        subst h2 h3 h5
        have := bytes_loop s (by omega) s.size 0 c (by omega) h4 (by omega)
        rw [List.drop_zero] at this
        exact this
    · cases hR
noncomputable def ct4 : Ct := addLoop 73 0 Hbytes RbytesL (addCall P 69 RWord ct3)
theorem ct4_ok : CtOk P ct4 := addLoop_ok (addCall_ok ct3_ok rWord_ok) bytes_loopOk
theorem dec_Bytes (s : ByteArray) : callQ P E ct4 50 73 [.string s] =
 (iteB (eqS s (ByteArray.mk #[34, 34]))
 (some ((Value.tuple (Array.mk [(Value.string (ByteArray.mk #[])), (Value.int IntKind.i64 (0 : Int))])), (mkSt [])))
 (needB (bytesC s (Value.slice (Option.some (Addr.mk 0 0 none)) 0 18446744073709551616) Bool.false (0 : Int) [] 5)
 (iteB (Prod.fst (Prod.snd (decL (Array.toList (ByteArray.data s)))))
 (some ((Value.tuple (Array.mk [(Value.string (ByteArray.mk #[])), (Value.int IntKind.i64 (5 : Int))])), (mkSt [])))
 (iteB (eqI (lenI (List.length (HAppend.hAppend [] (bc (Prod.fst (decL (Array.toList (ByteArray.data s)))))))) (0 : Int))
 (some ((Value.tuple (Array.mk [(Value.string (ByteArray.mk #[])), (Value.int IntKind.i64 (5 : Int))])), (mkSt [])))
 (needB (Bool.and (Nat.ble (Nat.add 0 (List.length (HAppend.hAppend [] (bc (Prod.fst (decL (Array.toList (ByteArray.data s)))))))) (List.length (HAppend.hAppend [] (bc (Prod.fst (decL (Array.toList (ByteArray.data s)))))))) (allBytes (takeC (List.length (HAppend.hAppend [] (bc (Prod.fst (decL (Array.toList (ByteArray.data s))))))) (dropC 0 (HAppend.hAppend [] (bc (Prod.fst (decL (Array.toList (ByteArray.data s))))))))))
 (some ((Value.tuple (Array.mk [(Value.string (bytesT (takeC (List.length (HAppend.hAppend [] (bc (Prod.fst (decL (Array.toList (ByteArray.data s))))))) (dropC 0 (HAppend.hAppend [] (bc (Prod.fst (decL (Array.toList (ByteArray.data s)))))))))), (Value.int IntKind.i64 (0 : Int))])), (mkSt [])))))))) := by kernel_rfl
def bytesM (w : List UInt8) : List UInt8 × Int := match w == [34, 34] with
  | true => ([], 0)
  | false => match (decL w).2.1, (decL w).1 with
    | true, _ => ([], 5)
    | false, [] => ([], 5)
    | false, l => (l, 0)
def RBytes : CallFn
  | [.string s] => some (.ite (Nat.ble s.size 4194304) (.leaf (.tuple ⟨[.string ⟨⟨(bytesM s.data.toList).1⟩⟩, .int .i64 (bytesM s.data.toList).2]⟩, [])) .fail)
  | _ => none
theorem Bytes_ok : CallOkR P 73 RBytes := by
  refine ok_of ct4_ok (n := 50) fun args t hR v bs hev => ?_
  unfold RBytes at hR
  split at hR
  · rename_i s
    obtain rfl := Option.some.inj hR
    cases hc : Nat.ble s.size 4194304 with
    | false => rw [hc] at hev; cases hev
    | true =>
      rw [hc] at hev
      simp only [DT.eval, Option.some.injEq, Prod.mk.injEq] at hev
      obtain ⟨rfl, rfl⟩ := hev
      have hsz := Nat.le_of_ble_eq_true hc
      rw [dec_Bytes]
      unfold bytesM
      cases hq : s.data.toList == [34, 34] with
      | true => exact ite_t (by rw [eqS_eq]; exact hq) rfl
      | false =>
        refine ite_f (by rw [eqS_eq]; exact hq) ?_
        refine need_eq ?_ ?_
        · have h1 : atB (.slice (some ⟨0, 0, none⟩) 0 18446744073709551616) 0 ([] : List Value).length = true := atB_sl 0 0
          have h9 : Nat.ble (([] : List Value).length + s.size) 4194304 = true := ble_ok (by simpa using hsz)
          unfold bytesC
          rw [h1, h9]
          rfl
        simp only [List.nil_append, takeC_self, bc_text]
        generalize decL s.data.toList = q
        obtain ⟨out, bad, left⟩ := q
        cases bad with
        | true => exact ite_t rfl rfl
        | false =>
          refine ite_f rfl ?_
          cases out with
          | nil => exact ite_t rfl rfl
          | cons b l =>
            refine ite_f ?_ ?_
            · rw [bc_length]
              show ((((b :: l).length : Nat) : Int) == 0) = false
              simp only [List.length_cons, beq_eq_false_iff_ne, ne_eq]
              omega
            refine need_eq (and_ok (ble_ok (by simp)) (bc_all _)) rfl
  · cases hR
end Go.VS.Tryz
end

section
namespace Go.VS.Tryz
set_option maxRecDepth 1000000
open Go.VS
theorem need_tt {x : Res} : needB true x = x := rfl
def polD : Pol := fun _ => none
noncomputable def ctF : Ct := frzCt P
theorem ctF_ok : CtOk P ctF := frzCt_ok noNum
theorem dec_Check (p : Bool) (k v : ByteArray) : callQ P E noCt 50 44 [.agg ⟨[.bool p, .string k, .string v]⟩] =
 (iteB (ltI (lenI (ByteArray.size k)) (1 : Int))
 (some ((Value.int IntKind.i64 (2 : Int)), (mkSt [])))
 (iteB (gtI (lenI (ByteArray.size k)) (16 : Int))
 (some ((Value.int IntKind.i64 (2 : Int)), (mkSt [])))
 (iteB (gtI (lenI (ByteArray.size v)) (32 : Int))
 (some ((Value.int IntKind.i64 (2 : Int)), (mkSt [])))
 (iteB (notB p)
 (iteB (neS v (ByteArray.mk #[]))
 (some ((Value.int IntKind.i64 (2 : Int)), (mkSt [])))
 (some ((Value.int IntKind.i64 (0 : Int)), (mkSt []))))
 (some ((Value.int IntKind.i64 (0 : Int)), (mkSt []))))))) := by kernel_rfl
def opOk (p : Bool) (k v : ByteArray) : Bool := decide (1 ≤ k.size) && decide (k.size ≤ 16) && decide (v.size ≤ 32) && (p || v.data.toList == [])
def RcheckV (O : Bool → ByteArray → ByteArray → Bool) : CallFn
  | [.agg ⟨[.bool p, .string k, .string v]⟩] => some (.ite (O p k v) (.leaf (.int .i64 0, [])) (.leaf (.int .i64 2, [])))
  | _ => none
def Rcheck : CallFn := RcheckV opOk
theorem check_tree (p : Bool) (k v : ByteArray) : iteB (ltI (lenI k.size) 1) (some (.int .i64 2, mkSt [])) (iteB (gtI (lenI k.size) 16) (some (.int .i64 2, mkSt [])) (iteB (gtI (lenI v.size) 32) (some (.int .i64 2, mkSt []))
    (iteB (notB p) (iteB (neS v ⟨#[]⟩) (some (.int .i64 2, mkSt [])) (some (.int .i64 0, mkSt []))) (some (.int .i64 0, mkSt []))))) = (some (.int .i64 (match opOk p k v with | true => 0 | false => 2), mkSt []) : Res) := by
  unfold opOk
  by_cases h1 : 1 ≤ k.size
  · refine ite_f (by show decide ((k.size : Int) < 1) = false; exact decide_eq_false (by omega)) ?_
    by_cases h2 : k.size ≤ 16
    · refine ite_f (by simp [gtI, lenI]; omega) ?_
      by_cases h3 : v.size ≤ 32
      · refine ite_f (by simp [gtI, lenI]; omega) ?_
        rw [decide_eq_true h1, decide_eq_true h2, decide_eq_true h3]
        cases p with
        | true => exact ite_f rfl rfl
        | false =>
          refine ite_t rfl ?_
          cases h4 : v.data.toList == [] with
          | true => exact ite_f (by rw [neS_eq]; show (!(v.data.toList == [])) = false; rw [h4]; rfl) rfl
          | false => exact ite_t (by rw [neS_eq]; show (!(v.data.toList == [])) = true; rw [h4]; rfl) rfl
      · rw [decide_eq_false h3]
        exact ite_t (by simp [gtI, lenI]; omega) (by simp)
    · rw [decide_eq_false h2]
      exact ite_t (by simp [gtI, lenI]; omega) (by simp)
  · rw [decide_eq_false h1]
    exact ite_t (by show decide ((k.size : Int) < 1) = true; exact decide_eq_true (by omega)) (by simp)
theorem check_any {F : Nat} (h : ∀ p k v, callQ P E noCt 50 F [.agg ⟨[.bool p, .string k, .string v]⟩] = some (.int .i64 (match opOk p k v with | true => 0 | false => 2), mkSt [])) : CallOkR P F Rcheck := by
  refine ok_of (noCt_ok P) (n := 50) fun args t hR v bs hev => ?_
  unfold Rcheck RcheckV at hR
  split at hR
  · rename_i p k w
    obtain rfl := Option.some.inj hR
    rw [h]
    cases hc : opOk p k w <;> rw [hc] at hev <;> (simp only [DT.eval, Option.some.injEq, Prod.mk.injEq] at hev; obtain ⟨rfl, rfl⟩ := hev; rfl)
  · cases hR
theorem Check_ok : CallOkR P 44 Rcheck := check_any fun p k v => by rw [dec_Check]; exact check_tree p k v
theorem need_at {σ : Type} {k : Con σ} {s : σ} {vs : List Value} {bs : List Blk} {x r : Res} (h1 : (k.enc s).1 = vs) (h2 : (k.enc s).2 = bs) (h : x = r) : needB (k.at s vs bs) x = r := by
  rw [k.at_true h1 h2]; exact h
noncomputable def ctBv (O : Bool → ByteArray → ByteArray → Bool) : Ct := addCall P 44 (RcheckV O) ctF
noncomputable def ctB : Ct := ctBv opOk
theorem ctB_ok : CtOk P ctB := addCall_ok ctF_ok Check_ok
def Dbc : HeadX := ⟨0, 26, [2, 14, 15, 16], [.val, .val, .val, .val], [], polD⟩
noncomputable def Bbc : Code := (loopAt P 43 1).getD .skip
theorem Bbc_eq : loopAt P 43 1 = some Bbc := by kernel_rfl
theorem Bbc_occ : Occ P 43 (.block 1 (.loop Bbc)) := loopAt_has Bbc_eq
theorem dec_bc (O : Bool → ByteArray → ByteArray → Bool) (n b : Nat) (c : List Value) (r z i : Int) : roundQX P E (ctBv O) 50 43 Bbc Dbc [.int .i64 r, mkFz 3 n b c, .int .i64 z, .int .i64 i] [] =
 (iteB (ltI i z)
 (needB (Bool.and (Nat.beq 3 3) (inI i n))
 (needB (Bool.and (Nat.ble (Nat.add (atN i 3) 3) (List.length c)) (etasB [Eta.bool, Eta.string, Eta.string] c (atN i 3)))
 (iteB (O (asB (nthD c (atN i 3))) (asS (nthD c (Nat.add (atN i 3) 1))) (asS (nthD c (Nat.add (Nat.add (atN i 3) 1) 1))))
 (some ((Value.tuple (Array.mk [(Value.int IntKind.i64 (0 : Int)), (Value.int IntKind.i64 r), (Value.iface 18446744073709551619 (Value.agg (Array.mk ((Value.slice none n b) :: c)))), (Value.int IntKind.i64 z), (Value.int IntKind.i64 (addI IntKind.i64 i (1 : Int)))])), (mkSt [])))
 (some ((Value.tuple (Array.mk [(Value.int IntKind.i64 (-1 : Int)), (Value.int IntKind.i64 (2 : Int)), (Value.iface 18446744073709551619 (Value.agg (Array.mk ((Value.slice none n b) :: c)))), (Value.int IntKind.i64 z), (Value.int IntKind.i64 i)])), (mkSt []))))))
 (some ((Value.tuple (Array.mk [(Value.int IntKind.i64 (2 : Int)), (Value.int IntKind.i64 r), (Value.iface 18446744073709551619 (Value.agg (Array.mk ((Value.slice none n b) :: c)))), (Value.int IntKind.i64 z), (Value.int IntKind.i64 i)])), (mkSt [])))) := by kernel_rfl
theorem dec_bck (C : List Value → List Blk → Bool) (ok : Bool) (r : Int) (z : Value) (y1 y2 y3 : Int) (n b : Nat) (c : List Value) : callQX P E (addLoopX P 43 1 Dbc (oneL C (.ite ok (.leaf (.normal, [.int .i64 0, z, .int .i64 y1, .int .i64 y2], [])) (.leaf (.ret, [.int .i64 r, z, .int .i64 y1, .int .i64 y3], [])))) ctF) 50 polD [] [] 0 43 [mkFz 3 n b c] [] =
 (iteB (eqI (lenI n) (0 : Int))
 (some ((Value.int IntKind.i64 (2 : Int)), (mkSt [])))
 (iteB (gtI (lenI n) (8 : Int))
 (some ((Value.int IntKind.i64 (3 : Int)), (mkSt [])))
 (needB (C [(Value.int IntKind.i64 (0 : Int)), (Value.iface 18446744073709551619 (Value.agg (Array.mk ((Value.slice none n b) :: c)))), (Value.int IntKind.i64 (lenI n)), (Value.int IntKind.i64 (0 : Int))] [])
 (iteB ok
 (some ((Value.int IntKind.i64 (0 : Int)), (mkSt [])))
 (some ((Value.int IntKind.i64 r), (mkSt []))))))) := by kernel_rfl
def opOkM (o : OpM) : Bool := opOk o.p o.k o.v
def fzOps (l : List OpM) : Value := mkFz 3 l.length 0 (EOp.all l)
def bcV (r : Int) (l : List OpM) (i : Int) : List Value := [.int .i64 r, fzOps l, .int .i64 (lenI l.length), .int .i64 i]
theorem op_etas {l : List OpM} {i : Nat} (h : i < l.length) : etasB [.bool, .string, .string] (EOp.all l) (atN (i : Int) 3) = true := by
  show and (etaB .bool (nthD (EOp.all l) (atN (i : Int) 3))) (and (etaB .string (nthD (EOp.all l) (Nat.add (atN (i : Int) 3) 1))) (and (etaB .string (nthD (EOp.all l) (Nat.add (Nat.add (atN (i : Int) 3) 1) 1))) true)) = true
  rw [op_0 h, op_1 h, op_2 h]; rfl
theorem bc_round {l : List OpM} {i : Nat} (hi : i < l.length) (hl : l.length < 4194304) : roundQX P E ctB 50 43 Bbc Dbc (bcV 0 l i) [] = match opOkM l[i] with
    | true => some (.tuple ⟨exV .normal :: bcV 0 l ((i + 1 : Nat) : Int)⟩, mkSt [])
    | false => some (.tuple ⟨exV .ret :: bcV 2 l i⟩, mkSt []) := by
  unfold bcV fzOps ctB
  rw [dec_bc]
  have n3 : ∀ l : List OpM, (EOp.all l).length = Nat.mul l.length 3 := fun l => EOp.all_length l
  have g1 : ltI (i : Int) (lenI l.length) = true := by unfold ltI lenI; exact decide_eq_true (by omega)
  have g2 : inI (i : Int) l.length = true := by unfold inI; exact decide_eq_true (by omega)
  have g3 : Nat.ble (Nat.add (atN (i : Int) 3) 3) (Nat.mul l.length 3) = true := Nat.ble_eq_true_of_le (by
    show (i : Int).toNat * 3 + 3 ≤ l.length * 3
    have : (i : Int).toNat = i := by omega
    omega)
  have g4 := op_etas hi
  have a1 : addI .i64 (i : Int) 1 = ((i + 1 : Nat) : Int) := by unfold addI; rw [wrap64 (by omega) (by omega)]; omega
  have ab : ∀ b, asB (.bool b) = b := fun _ => rfl
  have aS : ∀ b, asS (.string b) = b := fun _ => rfl
  have b3 : ∀ n, Nat.beq n n = true := Nat.beq_refl
  simp only [n3, g1, g2, g3, g4, op_0 hi, op_1 hi, op_2 hi, ab, aS, a1, b3, Bool.and_self, ite_tt, need_tt]
  unfold mkFz opOkM
  rw [fzU3]
  cases opOk l[i].p l[i].k l[i].v <;> rfl
theorem bc_end {l : List OpM} : roundQX P E ctB 50 43 Bbc Dbc (bcV 0 l l.length) [] = some (.tuple ⟨exV (.exit 1) :: bcV 0 l l.length⟩, mkSt []) := by
  unfold bcV fzOps ctB
  rw [dec_bc]
  have g1 : ltI (l.length : Int) (lenI l.length) = false := by unfold ltI lenI; exact decide_eq_false (by omega)
  simp only [g1, ite_ff]
  unfold mkFz
  rw [fzU3]
  rfl
def badM : Nat → List OpM → Option Nat
  | _, [] => none
  | i, o :: l => match opOkM o with
    | true => badM (i + 1) l
    | false => some i
theorem bc_loop (l : List OpM) (hl : l.length < 4194304) : ∀ (k i : Nat), i + k = l.length →
    LRX P 43 1 Bbc Dbc.head (bcV 0 l i) [] (match badM i (l.drop i) with | none => .normal | some _ => .ret) (match badM i (l.drop i) with | none => bcV 0 l l.length | some j => bcV 2 l j) []
  | 0, i, h => by
    obtain rfl : i = l.length := by omega
    rw [List.drop_length]
    exact LRX.stop (n := 50) (engOk ctB) noNum ctB_ok Bbc_occ (e := .exit 1) bc_end (by intro h; cases h)
  | k + 1, i, h => by
    have hi : i < l.length := by omega
    have q := bc_round hi hl
    rw [List.drop_eq_getElem_cons hi]
    simp only [badM]
    cases ho : opOkM l[i] with
    | true =>
      rw [ho] at q
      exact LRX.again (n := 50) (engOk ctB) noNum ctB_ok Bbc_occ q (bc_loop l hl k (i + 1) (by omega))
    | false =>
      rw [ho] at q
      exact LRX.stop (n := 50) (engOk ctB) noNum ctB_ok Bbc_occ (e := .ret) q (by intro h; cases h)
def kBc : Con (List OpM) where
  enc l := (bcV 0 l 0, [])
  ok l := l.length < 4194304
  inj a b h := by
    unfold bcV fzOps at h
    simp only [Prod.mk.injEq, List.cons.injEq, Value.int.injEq, true_and, and_true] at h
    exact EOp.all_inj _ _ (fz_inj h.1)
  dflt := []
noncomputable def bcRes (l : List OpM) : DT (Ex × List Value × List Blk) := .ite (badM 0 l).isNone (.leaf (.normal, bcV 0 l l.length, [])) (.leaf (.ret, bcV 2 l ((badM 0 l).getD 0), []))
theorem bc_loopOk : LoopOkX P 43 1 Bbc Dbc.head (conL kBc.C kBc.D bcRes) :=
  conLX_ok kBc (loopAt_occ Bbc_eq) fun l ho e vs' bs' hev => by
    have q := bc_loop l ho l.length 0 (by omega)
    rw [List.drop_zero] at q
    unfold bcRes at hev
    cases hb : badM 0 l with
    | none =>
      rw [hb] at hev q
      simp only [Option.isNone_none, DT.eval, Option.some.injEq, Prod.mk.injEq] at hev
      obtain ⟨rfl, rfl, rfl⟩ := hev
      exact q
    | some j =>
      rw [hb] at hev q
      simp only [Option.isNone_some, Option.getD_some, DT.eval, Option.some.injEq, Prod.mk.injEq] at hev
      obtain ⟨rfl, rfl, rfl⟩ := hev
      exact q
def checkM (l : List OpM) : Int := match eqI (lenI l.length) 0, gtI (lenI l.length) 8, (badM 0 l).isNone with
  | true, _, _ => 2
  | false, true, _ => 3
  | false, false, true => 0
  | false, false, false => 2
def kBk : Con (List OpM) where
  enc l := ([fzOps l], [])
  ok l := l.length < 4194304
  inj a b h := by
    unfold fzOps at h
    simp only [Prod.mk.injEq, List.cons.injEq, true_and, and_true] at h
    exact EOp.all_inj _ _ (fz_inj h)
  dflt := []
noncomputable def ctBk (l : List OpM) : Ct := addLoopX P 43 1 Dbc (oneL (kBc.at l) (bcRes l)) ctF
theorem bck_run (l : List OpM) : callQX P E (ctBk l) 50 polD [] [] 0 43 (kBk.enc l).1 (kBk.enc l).2 = some (.int .i64 (checkM l), mkSt []) := by
  have q := dec_bck (kBc.at l) (badM 0 l).isNone 2 (fzOps l) (lenI l.length) l.length (((badM 0 l).getD 0 : Nat) : Int) l.length 0 (EOp.all l)
  refine Eq.trans ?_ (q.trans ?_)
  · rfl
  clear q
  unfold checkM
  cases eqI (lenI l.length) 0 with
  | true => rfl
  | false =>
    simp only [ite_ff]
    cases gtI (lenI l.length) 8 with
    | true => rfl
    | false =>
      simp only [ite_ff]
      refine need_at (k := kBc) (s := l) (by show bcV 0 l 0 = _; unfold bcV fzOps mkFz; rw [fzU3]) rfl ?_
      cases (badM 0 l).isNone <;> rfl
theorem bck_ok : CallOkX P 0 43 (conM kBk.C kBk.D fun l => .leaf (.int .i64 (checkM l), [])) := conX_ok kBk fun l ho v bs' hev => by
  simp only [DT.eval, Option.some.injEq, Prod.mk.injEq] at hev
  obtain ⟨rfl, rfl⟩ := hev
  exact CRX.of (engOk (ctBk l)) noNum (addLoopX_ok ctF_ok (oneL_ok kBc bc_loopOk (s := l) ho)) (bck_run l)
end Go.VS.Tryz
end

section
namespace Go.VS.Tryz
set_option maxRecDepth 1000000
open Go.VS
def byS (s : ByteArray) : ByteArray := ⟨⟨(bytesM s.data.toList).1⟩⟩
def byE (s : ByteArray) : Int := (bytesM s.data.toList).2
def RbyV (B : ByteArray → ByteArray) (G : ByteArray → Int) : CallFn
  | [.string s] => some (.ite (Nat.ble s.size 4194304) (.leaf (.tuple ⟨[.string (B s), .int .i64 (G s)]⟩, [])) .fail)
  | _ => none
theorem by_ok : CallOkR P 73 (RbyV byS byE) := by
  refine ⟨fun args t hR v bs hev => Bytes_ok.run args t ?_ v bs hev⟩
  unfold RbyV at hR
  unfold RBytes
  split at hR <;> first | exact hR | cases hR
noncomputable def ctNv (C K : ByteArray → Bool) (V : ByteArray → Int) (R : Int → Bool) (F : Int → ByteArray) : Ct := addCall P 47 (RitoV R F) (addCall P 72 (RatoV C K V) noCt)
noncomputable def ctN : Ct := ctNv szS atoK atoV inR itoS
theorem ctN_ok : CtOk P ctN := addCall_ok (addCall_ok (noCt_ok P) ato_ok) ito_ok
theorem dec_number (C K : ByteArray → Bool) (V : ByteArray → Int) (R : Int → Bool) (F : Int → ByteArray) (s : ByteArray) (m : Int) : callQ P E (ctNv C K V R F) 50 40 [.string s, .int .i64 m] =
 (needB (C s)
 (iteB (K s)
 (iteB (gtI (lenI (ByteArray.size s)) (9 : Int))
 (some ((Value.tuple (Array.mk [(Value.int IntKind.i64 (0 : Int)), (Value.bool Bool.false)])), (mkSt [])))
 (iteB (ltI (V s) (0 : Int))
 (some ((Value.tuple (Array.mk [(Value.int IntKind.i64 (0 : Int)), (Value.bool Bool.false)])), (mkSt [])))
 (iteB (gtI (V s) m)
 (some ((Value.tuple (Array.mk [(Value.int IntKind.i64 (0 : Int)), (Value.bool Bool.false)])), (mkSt [])))
 (needB (R (V s))
 (iteB (neS (F (V s)) s)
 (some ((Value.tuple (Array.mk [(Value.int IntKind.i64 (0 : Int)), (Value.bool Bool.false)])), (mkSt [])))
 (some ((Value.tuple (Array.mk [(Value.int IntKind.i64 (V s)), (Value.bool Bool.true)])), (mkSt []))))))))
 (some ((Value.tuple (Array.mk [(Value.int IntKind.i64 (0 : Int)), (Value.bool Bool.false)])), (mkSt []))))) := by kernel_rfl
noncomputable def ctKv (B : ByteArray → ByteArray) (G : ByteArray → Int) (O : Bool → ByteArray → ByteArray → Bool) : Ct := addCall P 44 (RcheckV O) (addCall P 73 (RbyV B G) noCt)
theorem dec_key (B : ByteArray → ByteArray) (G : ByteArray → Int) (O : Bool → ByteArray → ByteArray → Bool) (s : ByteArray) : callQ P E (ctKv B G O) 50 41 [.string s] =
 (needB (Nat.ble (ByteArray.size s) 4194304)
 (iteB (eqI (G s) (0 : Int))
 (iteB (O Bool.false (B s) (ByteArray.mk #[]))
 (some ((Value.tuple (Array.mk [(Value.string (B s)), (Value.bool (eqI (0 : Int) (0 : Int)))])), (mkSt [])))
 (some ((Value.tuple (Array.mk [(Value.string (B s)), (Value.bool (eqI (2 : Int) (0 : Int)))])), (mkSt []))))
 (some ((Value.tuple (Array.mk [(Value.string (B s)), (Value.bool Bool.false)])), (mkSt []))))) := by kernel_rfl
def numOk (s : ByteArray) (m : Int) : Bool := atoK s && !(gtI (lenI s.size) 9) && !(ltI (atoV s) 0) && !(gtI (atoV s) m) && !(neS (itoS (atoV s)) s)
def numC (s : ByteArray) (m : Int) : Bool := and (szS s) (leI m 1000000000)
def RnumV (C O : ByteArray → Int → Bool) (V : ByteArray → Int) : CallFn
  | [.string s, .int .i64 m] => some (.ite (C s m) (.ite (O s m) (.leaf (.tuple ⟨[.int .i64 (V s), .bool true]⟩, [])) (.leaf (.tuple ⟨[.int .i64 0, .bool false]⟩, []))) .fail)
  | _ => none
theorem num_run {s : ByteArray} {m : Int} (hc : numC s m = true) : callQ P E ctN 50 40 [.string s, .int .i64 m] = match numOk s m with
    | true => some (.tuple ⟨[.int .i64 (atoV s), .bool true]⟩, mkSt [])
    | false => some (.tuple ⟨[.int .i64 0, .bool false]⟩, mkSt []) := by
  unfold ctN
  rw [dec_number]
  simp only [numC, Bool.and_eq_true] at hc
  rw [hc.1]
  have hm : m ≤ 1000000000 := by have := hc.2; unfold leI at this; exact of_decide_eq_true this
  unfold numOk
  refine Eq.trans need_tt ?_
  cases h1 : atoK s with
  | false => rfl
  | true =>
  cases h2 : gtI (lenI s.size) 9 with
  | true => rfl
  | false =>
  cases h3 : ltI (atoV s) 0 with
  | true => rfl
  | false =>
  cases h4 : gtI (atoV s) m with
  | true => rfl
  | false =>
  have h5 : inR (atoV s) = true := by
    unfold ltI at h3
    unfold gtI at h4
    have h3 := of_decide_eq_false h3
    have h4 := of_decide_eq_false h4
    unfold inR leI
    rw [Bool.and_eq_true, decide_eq_true_eq, decide_eq_true_eq]
    omega
  rw [h5]
  cases h6 : neS (itoS (atoV s)) s <;> rfl
theorem num_ok : CallOkR P 40 (RnumV numC numOk atoV) := by
  refine ok_of ctN_ok (n := 50) fun args t hR v bs hev => ?_
  unfold RnumV at hR
  split at hR
  · rename_i s m
    obtain rfl := Option.some.inj hR
    cases hc : numC s m with
    | false => rw [hc] at hev; cases hev
    | true =>
      rw [hc] at hev
      rw [num_run hc]
      cases ho : numOk s m <;> rw [ho] at hev <;> (simp only [DT.eval, Option.some.injEq, Prod.mk.injEq] at hev; obtain ⟨rfl, rfl⟩ := hev; rfl)
  · cases hR
def keyO (s : ByteArray) : Bool := eqI (byE s) 0 && opOk false (byS s) ⟨#[]⟩
def RkeyV (C O : ByteArray → Bool) (B : ByteArray → ByteArray) : CallFn
  | [.string s] => some (.ite (C s) (.leaf (.tuple ⟨[.string (B s), .bool (O s)]⟩, [])) .fail)
  | _ => none
noncomputable def ctK : Ct := addCall P 44 (RcheckV opOk) (addCall P 73 (RbyV byS byE) noCt)
theorem ctK_ok : CtOk P ctK := addCall_ok (addCall_ok (noCt_ok P) by_ok) Check_ok
theorem key_ok : CallOkR P 41 (RkeyV szS keyO byS) := by
  refine ok_of ctK_ok (n := 50) fun args t hR v bs hev => ?_
  unfold RkeyV at hR
  split at hR
  · rename_i s
    obtain rfl := Option.some.inj hR
    cases hc : szS s with
    | false => rw [hc] at hev; cases hev
    | true =>
      rw [hc] at hev
      simp only [DT.eval, Option.some.injEq, Prod.mk.injEq] at hev
      obtain ⟨rfl, rfl⟩ := hev
      refine Eq.trans ?_ ((dec_key byS byE opOk s).trans ?_)
      · rfl
      unfold szS at hc
      rw [hc]
      refine Eq.trans need_tt ?_
      unfold keyO
      cases eqI (byE s) 0 with
      | false => rfl
      | true => cases opOk false (byS s) ⟨#[]⟩ <;> rfl
  · cases hR
end Go.VS.Tryz
end

section
namespace Go.VS.Tryz
set_option maxRecDepth 1000000
open Go.VS
noncomputable def ctOv (C O : ByteArray → Bool) (B : ByteArray → ByteArray) (G : ByteArray → Int) : Ct := addCall P 41 (RkeyV C O B) (addCall P 73 (RbyV B G) ctF)
def Dop : HeadX := ⟨0, 63, [0, 2, 3, 4], [.val, .val, .val, .own], [29, 22, 4, 22], polD⟩
noncomputable def Bop : Code := (loopAt P 42 0).getD .skip
theorem Bop_eq : loopAt P 42 0 = some Bop := by kernel_rfl
theorem Bop_occ : Occ P 42 (.block 0 (.loop Bop)) := loopAt_has Bop_eq
theorem dec_op (C O : ByteArray → Bool) (B : ByteArray → ByteArray) (G : ByteArray → Int) (n b : Nat) (c : List Value) (z : Value) (m : Nat) (d : List Value) : roundQX P E (ctOv C O B G) 50 42 Bop Dop [mkFz 1 n b c, mkFz 3 0 0 [], .bool false, .slice (some ⟨0, 0, none⟩) m unk] [.cells d 74 false] =
 (iteB (gtI (lenI n) (0 : Int))
 (needB (Bool.and (Nat.beq 1 1) (inI (0 : Int) n))
 (needB (Bool.and (Nat.ble 1 (List.length c)) (etaB Eta.string (nthD c 0)))
 (iteB (eqS (asS (nthD c 0)) (ByteArray.mk #[112, 117, 116]))
 (iteB (ltI (lenI n) (3 : Int))
 (needB (Nat.ble (Nat.add 0 (Nat.mul m 3)) (List.length d))
 (some ((Value.tuple (Array.mk [(Value.int IntKind.i64 (-1 : Int)), (Value.iface 18446744073709551617 (Value.agg (Array.mk ((Value.slice none n b) :: c)))), (Value.iface 18446744073709551619 (Value.agg (Array.mk [(Value.slice none 0 0)]))), (Value.bool Bool.false), (Value.slice (Option.some (Addr.mk 0 0 none)) m 18446744073709551616)])), (mkSt [(Blk.cells (renL Bool.true (rhoO 0 [2]) (takeC (Nat.mul m 3) (dropC 0 d))) 74 Bool.false)]))))
 (needB (Bool.and (Nat.beq 1 1) (inI (1 : Int) n))
 (needB (Bool.and (Nat.ble 2 (List.length c)) (etaB Eta.string (nthD c 1)))
 (needB (C (asS (nthD c 1)))
 (iteB (notB (O (asS (nthD c 1))))
 (needB (Nat.ble (Nat.add 0 (Nat.mul m 3)) (List.length d))
 (some ((Value.tuple (Array.mk [(Value.int IntKind.i64 (-1 : Int)), (Value.iface 18446744073709551617 (Value.agg (Array.mk ((Value.slice none n b) :: c)))), (Value.iface 18446744073709551619 (Value.agg (Array.mk [(Value.slice none 0 0)]))), (Value.bool Bool.false), (Value.slice (Option.some (Addr.mk 0 0 none)) m 18446744073709551616)])), (mkSt [(Blk.cells (renL Bool.true (rhoO 0 [2]) (takeC (Nat.mul m 3) (dropC 0 d))) 74 Bool.false)]))))
 (needB (Bool.and (Nat.beq 1 1) (inI (2 : Int) n))
 (needB (Bool.and (Nat.ble 3 (List.length c)) (etaB Eta.string (nthD c 2)))
 (needB (Nat.ble (ByteArray.size (asS (nthD c 2))) 4194304)
 (iteB (neI (G (asS (nthD c 2))) (0 : Int))
 (needB (Nat.ble (Nat.add 0 (Nat.mul m 3)) (List.length d))
 (some ((Value.tuple (Array.mk [(Value.int IntKind.i64 (-1 : Int)), (Value.iface 18446744073709551617 (Value.agg (Array.mk ((Value.slice none n b) :: c)))), (Value.iface 18446744073709551619 (Value.agg (Array.mk [(Value.slice none 0 0)]))), (Value.bool Bool.false), (Value.slice (Option.some (Addr.mk 0 0 none)) m 18446744073709551616)])), (mkSt [(Blk.cells (renL Bool.true (rhoO 0 [2]) (takeC (Nat.mul m 3) (dropC 0 d))) 74 Bool.false)]))))
 (needB (Nat.ble (Nat.add m 1) 4194304)
 (needB (Nat.beq (Nat.add 0 (Nat.mul m 3)) (List.length d))
 (needB (Bool.and (Nat.beq 1 1) (cutI (3 : Int) (lenI n) n))
 (needB (Bool.and (Nat.beq 1 1) (cutI (3 : Int) (lenI n) n))
 (needB (beqV (Value.iface 18446744073709551617 (Value.agg (Array.mk ((Value.slice none (lapN (3 : Int) (lenI n)) (capS b 3)) :: (takeC (Nat.mul (lapN (3 : Int) (lenI n)) 1) (dropC 3 c)))))) (Value.iface 18446744073709551617 (Value.agg (Array.mk ((Value.slice none (lapN (3 : Int) (lenI n)) (capS b 3)) :: (takeC (Nat.mul (lapN (3 : Int) (lenI n)) 1) (dropC 3 c)))))))
 (needB (Nat.ble (Nat.add 0 (Nat.mul (Nat.add m 1) 3)) (List.length (List.append (oldC 0 d) [(Value.bool Bool.true), (Value.string (B (asS (nthD c 1)))), (Value.string (B (asS (nthD c 2))))])))
 (some ((Value.tuple (Array.mk [(Value.int IntKind.i64 (0 : Int)), (Value.iface 18446744073709551617 (Value.agg (Array.mk ((Value.slice none (lapN (3 : Int) (lenI n)) (capS b 3)) :: (takeC (Nat.mul (lapN (3 : Int) (lenI n)) 1) (dropC 3 c)))))), (Value.iface 18446744073709551619 (Value.agg (Array.mk [(Value.slice none 0 0)]))), (Value.bool Bool.false), (Value.slice (Option.some (Addr.mk 0 0 none)) (Nat.add m 1) 18446744073709551616)])), (mkSt [(Blk.cells (renL Bool.true (rhoO 0 [12]) (takeC (Nat.mul (Nat.add m 1) 3) (dropC 0 (List.append (oldC 0 d) [(Value.bool Bool.true), (Value.string (B (asS (nthD c 1)))), (Value.string (B (asS (nthD c 2))))])))) 74 Bool.false)]))))))))))))))))))
 (iteB (eqS (asS (nthD c 0)) (ByteArray.mk #[100, 101, 108]))
 (iteB (ltI (lenI n) (2 : Int))
 (needB (Nat.ble (Nat.add 0 (Nat.mul m 3)) (List.length d))
 (some ((Value.tuple (Array.mk [(Value.int IntKind.i64 (-1 : Int)), (Value.iface 18446744073709551617 (Value.agg (Array.mk ((Value.slice none n b) :: c)))), (Value.iface 18446744073709551619 (Value.agg (Array.mk [(Value.slice none 0 0)]))), (Value.bool Bool.false), (Value.slice (Option.some (Addr.mk 0 0 none)) m 18446744073709551616)])), (mkSt [(Blk.cells (renL Bool.true (rhoO 0 [2]) (takeC (Nat.mul m 3) (dropC 0 d))) 74 Bool.false)]))))
 (needB (Bool.and (Nat.beq 1 1) (inI (1 : Int) n))
 (needB (Bool.and (Nat.ble 2 (List.length c)) (etaB Eta.string (nthD c 1)))
 (needB (C (asS (nthD c 1)))
 (iteB (notB (O (asS (nthD c 1))))
 (needB (Nat.ble (Nat.add 0 (Nat.mul m 3)) (List.length d))
 (some ((Value.tuple (Array.mk [(Value.int IntKind.i64 (-1 : Int)), (Value.iface 18446744073709551617 (Value.agg (Array.mk ((Value.slice none n b) :: c)))), (Value.iface 18446744073709551619 (Value.agg (Array.mk [(Value.slice none 0 0)]))), (Value.bool Bool.false), (Value.slice (Option.some (Addr.mk 0 0 none)) m 18446744073709551616)])), (mkSt [(Blk.cells (renL Bool.true (rhoO 0 [2]) (takeC (Nat.mul m 3) (dropC 0 d))) 74 Bool.false)]))))
 (needB (Nat.ble (Nat.add m 1) 4194304)
 (needB (Nat.beq (Nat.add 0 (Nat.mul m 3)) (List.length d))
 (needB (Bool.and (Nat.beq 1 1) (cutI (2 : Int) (lenI n) n))
 (needB (Bool.and (Nat.beq 1 1) (cutI (2 : Int) (lenI n) n))
 (needB (beqV (Value.iface 18446744073709551617 (Value.agg (Array.mk ((Value.slice none (lapN (2 : Int) (lenI n)) (capS b 2)) :: (takeC (Nat.mul (lapN (2 : Int) (lenI n)) 1) (dropC 2 c)))))) (Value.iface 18446744073709551617 (Value.agg (Array.mk ((Value.slice none (lapN (2 : Int) (lenI n)) (capS b 2)) :: (takeC (Nat.mul (lapN (2 : Int) (lenI n)) 1) (dropC 2 c)))))))
 (needB (Nat.ble (Nat.add 0 (Nat.mul (Nat.add m 1) 3)) (List.length (List.append (oldC 0 d) [(Value.bool Bool.false), (Value.string (B (asS (nthD c 1)))), (Value.string (ByteArray.mk #[]))])))
 (some ((Value.tuple (Array.mk [(Value.int IntKind.i64 (0 : Int)), (Value.iface 18446744073709551617 (Value.agg (Array.mk ((Value.slice none (lapN (2 : Int) (lenI n)) (capS b 2)) :: (takeC (Nat.mul (lapN (2 : Int) (lenI n)) 1) (dropC 2 c)))))), (Value.iface 18446744073709551619 (Value.agg (Array.mk [(Value.slice none 0 0)]))), (Value.bool Bool.false), (Value.slice (Option.some (Addr.mk 0 0 none)) (Nat.add m 1) 18446744073709551616)])), (mkSt [(Blk.cells (renL Bool.true (rhoO 0 [12]) (takeC (Nat.mul (Nat.add m 1) 3) (dropC 0 (List.append (oldC 0 d) [(Value.bool Bool.false), (Value.string (B (asS (nthD c 1)))), (Value.string (ByteArray.mk #[]))])))) 74 Bool.false)]))))))))))))))
 (needB (Nat.ble (Nat.add 0 (Nat.mul m 3)) (List.length d))
 (some ((Value.tuple (Array.mk [(Value.int IntKind.i64 (-1 : Int)), (Value.iface 18446744073709551617 (Value.agg (Array.mk ((Value.slice none n b) :: c)))), (Value.iface 18446744073709551619 (Value.agg (Array.mk [(Value.slice none 0 0)]))), (Value.bool Bool.false), (Value.slice (Option.some (Addr.mk 0 0 none)) m 18446744073709551616)])), (mkSt [(Blk.cells (renL Bool.true (rhoO 0 [2]) (takeC (Nat.mul m 3) (dropC 0 d))) 74 Bool.false)]))))))))
 (needB (Nat.ble (Nat.add 0 (Nat.mul m 3)) (List.length d))
 (some ((Value.tuple (Array.mk [(Value.int IntKind.i64 (1 : Int)), (Value.iface 18446744073709551617 (Value.agg (Array.mk ((Value.slice none n b) :: c)))), (Value.iface 18446744073709551619 (Value.agg (Array.mk [(Value.slice none 0 0)]))), (Value.bool Bool.false), (Value.slice (Option.some (Addr.mk 0 0 none)) m 18446744073709551616)])), (mkSt [(Blk.cells (renL Bool.true (rhoO 0 [1]) (takeC (Nat.mul m 3) (dropC 0 d))) 74 Bool.false)]))))) := by kernel_rfl
end Go.VS.Tryz
end

section
namespace Go.VS.Tryz
set_option maxRecDepth 1000000
open Go.VS
theorem cutStr (l : List ByteArray) (j k : Nat) : takeC k (dropC j (l.map Value.string)) = ((l.drop j).take k).map Value.string := by
  unfold takeC dropC
  rw [List.map_take, List.map_drop]
theorem cutStr_all {l : List ByteArray} {j k : Nat} (h : l.length - j ≤ k) : takeC k (dropC j (l.map Value.string)) = (l.drop j).map Value.string := by
  rw [cutStr, List.take_of_length_le (by rw [List.length_drop]; omega)]
theorem beqStrs (l : List ByteArray) : beqVL (l.map Value.string) (l.map Value.string) = true := by
  induction l with
  | nil => rfl
  | cons a l ih => simp only [List.map_cons, beqVL, beqV, ih, decide_true, Bool.and_self]
theorem beqFzS (t n b : Nat) (l : List ByteArray) : beqV (.iface t (.agg ⟨.slice none n b :: l.map Value.string⟩)) (.iface t (.agg ⟨.slice none n b :: l.map Value.string⟩)) = true := by
  simp only [beqV, beqVA, beqVL, beqStrs, decide_true, Bool.and_self]
theorem strs_inj : ∀ {a b : List ByteArray}, a.map Value.string = b.map Value.string → a = b
  | [], [], _ => rfl
  | [], _ :: _, h => by cases h
  | _ :: _, [], h => by cases h
  | x :: a, y :: b, h => by
    simp only [List.map_cons, List.cons.injEq, Value.string.injEq] at h
    rw [h.1, strs_inj h.2]
theorem fzS_inj {a b : List ByteArray} (h : fzS a = fzS b) : a = b := strs_inj (fz_inj h)
def putW : ByteArray := ⟨#[112, 117, 116]⟩
def delW : ByteArray := ⟨#[100, 101, 108]⟩
def opV (ws : List ByteArray) (n : Nat) : List Value := [fzS ws, fzOps [], .bool false, .slice (some ⟨0, 0, none⟩) n unk]
def opBk (out : List OpM) : List Blk := [.cells (EOp.all out) 74 false]
noncomputable def ctO : Ct := ctOv szS keyO byS byE
theorem ctO_ok : CtOk P ctO := addCall_ok (addCall_ok ctF_ok by_ok) key_ok
theorem opApp (out : List OpM) (p : Bool) (k v : ByteArray) : List.append (oldC 0 (EOp.all out)) [.bool p, .string k, .string v] = EOp.all (out ++ [(⟨p, k, v⟩ : OpM)]) := by
  rw [oldC_zero, EOp.all_append, EOp.all_one]; rfl
theorem opSelf {l : List OpM} {n : Nat} (h : n = l.length) : takeC (Nat.mul n 3) (dropC 0 (EOp.all l)) = EOp.all l := by
  subst h; exact EOp.all_self l
theorem opLen (l : List OpM) : (EOp.all l).length = Nat.mul l.length 3 := EOp.all_length l
theorem gt0 {n : Nat} (h : 0 < n) : gtI (lenI n) 0 = true := by unfold gtI lenI; exact decide_eq_true (by omega)
theorem inI_ok {i n : Nat} (h : i < n) : inI (i : Int) n = true := by unfold inI; exact decide_eq_true (by omega)
theorem szS_of {s : ByteArray} (h : s.size ≤ 4194304) : szS s = true := Nat.ble_eq_true_of_le h
theorem op_put {w0 w1 w2 : ByteArray} {r : List ByteArray} {out : List OpM} (h0 : eqS w0 putW = true) (h1 : w1.size ≤ 4194304) (h2 : w2.size ≤ 4194304) (ho : out.length + 1 ≤ 4194304) :
    roundQX P E ctO 50 42 Bop Dop (opV (w0 :: w1 :: w2 :: r) out.length) (opBk out) = match keyO w1, eqI (byE w2) 0 with
      | true, true => some (.tuple ⟨exV .normal :: opV r (out ++ [(⟨true, byS w1, byS w2⟩ : OpM)]).length⟩, mkSt (opBk (out ++ [(⟨true, byS w1, byS w2⟩ : OpM)])))
      | _, _ => some (.tuple ⟨exV .ret :: opV (w0 :: w1 :: w2 :: r) out.length⟩, mkSt (opBk out)) := by
  unfold opV opBk fzS fzOps ctO
  rw [show mkFz 3 ([] : List OpM).length 0 (EOp.all []) = mkFz 3 0 0 [] from rfl]
  rw [dec_op _ _ _ _ _ _ _ .nilFunc]
  have g0 : gtI (lenI (w0 :: w1 :: w2 :: r).length) 0 = true := gt0 (by simp)
  have i0 : inI 0 (w0 :: w1 :: w2 :: r).length = true := inI_ok (i := 0) (by simp)
  have i1 : inI 1 (w0 :: w1 :: w2 :: r).length = true := inI_ok (i := 1) (by simp)
  have i2 : inI 2 (w0 :: w1 :: w2 :: r).length = true := inI_ok (i := 2) (by simp)
  have l3 : ltI (lenI (w0 :: w1 :: w2 :: r).length) 3 = false := by unfold ltI lenI; exact decide_eq_false (by simp only [List.length_cons]; omega)
  have c3 : cutI 3 (lenI (w0 :: w1 :: w2 :: r).length) (w0 :: w1 :: w2 :: r).length = true := cutI_ok (by omega) (by unfold lenI; simp only [List.length_cons]; omega) (by unfold lenI; omega)
  have n0 : nthD ((w0 :: w1 :: w2 :: r).map Value.string) 0 = .string w0 := rfl
  have n1 : nthD ((w0 :: w1 :: w2 :: r).map Value.string) 1 = .string w1 := rfl
  have n2 : nthD ((w0 :: w1 :: w2 :: r).map Value.string) 2 = .string w2 := rfl
  have aS : ∀ b, asS (.string b) = b := fun _ => rfl
  have eS : ∀ b, etaB .string (.string b) = true := fun _ => rfl
  have cl : ((w0 :: w1 :: w2 :: r).map Value.string).length = (w0 :: w1 :: w2 :: r).length := List.length_map ..
  have k1 : Nat.ble 1 (w0 :: w1 :: w2 :: r).length = true := Nat.ble_eq_true_of_le (by simp)
  have k2 : Nat.ble 2 (w0 :: w1 :: w2 :: r).length = true := Nat.ble_eq_true_of_le (by simp)
  have k3 : Nat.ble 3 (w0 :: w1 :: w2 :: r).length = true := Nat.ble_eq_true_of_le (by simp)
  have s1 := szS_of h1
  have s2 : Nat.ble w2.size 4194304 = true := Nat.ble_eq_true_of_le h2
  have b3 : ∀ n, Nat.beq n n = true := Nat.beq_refl
  have b2 : ∀ n, Nat.ble n n = true := fun n => Nat.ble_eq_true_of_le (Nat.le_refl n)
  have t1 : Nat.ble (Nat.add out.length 1) 4194304 = true := Nat.ble_eq_true_of_le ho
  have lk : lapN 3 (lenI (w0 :: w1 :: w2 :: r).length) = r.length := by simp only [lapN, lenI, List.length_cons]; omega
  have cut : takeC r.length (dropC 3 ((w0 :: w1 :: w2 :: r).map Value.string)) = r.map Value.string := cutStr_all (by simp)
  have ol : ∀ p k v, (out ++ [(⟨p, k, v⟩ : OpM)]).length = Nat.add out.length 1 := fun p k v => by simp
  have os : ∀ p k v, takeC (Nat.mul (Nat.add out.length 1) 3) (dropC 0 (EOp.all (out ++ [(⟨p, k, v⟩ : OpM)]))) = EOp.all (out ++ [⟨p, k, v⟩]) := fun p k v => opSelf (ol p k v).symm
  have h0 : eqS w0 ⟨#[112, 117, 116]⟩ = true := h0
  simp only [g0, i0, i1, i2, l3, c3, n0, n1, n2, aS, eS, cl, k1, k2, k3, s1, s2, b3, b2, t1, lk, mulOne, cut, cap0, opApp, opLen, ol, os, opSelf rfl, zeroAdd, Enc.all_ren, beqFzS, h0, Bool.and_self, ite_tt, ite_ff, need_tt]
  unfold mkFz
  rw [fzU, fzU3]
  cases keyO w1 with
  | false => rfl
  | true =>
    have e5 : neI (byE w2) 0 = !(eqI (byE w2) 0) := rfl
    rw [e5]
    cases eqI (byE w2) 0 <;> rfl
theorem op_del {w0 w1 : ByteArray} {r : List ByteArray} {out : List OpM} (h00 : eqS w0 putW = false) (h0 : eqS w0 delW = true) (h1 : w1.size ≤ 4194304) (ho : out.length + 1 ≤ 4194304) :
    roundQX P E ctO 50 42 Bop Dop (opV (w0 :: w1 :: r) out.length) (opBk out) = match keyO w1 with
      | true => some (.tuple ⟨exV .normal :: opV r (out ++ [(⟨false, byS w1, ⟨#[]⟩⟩ : OpM)]).length⟩, mkSt (opBk (out ++ [(⟨false, byS w1, ⟨#[]⟩⟩ : OpM)])))
      | false => some (.tuple ⟨exV .ret :: opV (w0 :: w1 :: r) out.length⟩, mkSt (opBk out)) := by
  unfold opV opBk fzS fzOps ctO
  rw [show mkFz 3 ([] : List OpM).length 0 (EOp.all []) = mkFz 3 0 0 [] from rfl]
  rw [dec_op _ _ _ _ _ _ _ .nilFunc]
  have g0 : gtI (lenI (w0 :: w1 :: r).length) 0 = true := gt0 (by simp)
  have i0 : inI 0 (w0 :: w1 :: r).length = true := inI_ok (i := 0) (by simp)
  have i1 : inI 1 (w0 :: w1 :: r).length = true := inI_ok (i := 1) (by simp)
  have l3 : ltI (lenI (w0 :: w1 :: r).length) 2 = false := by unfold ltI lenI; exact decide_eq_false (by simp only [List.length_cons]; omega)
  have c3 : cutI 2 (lenI (w0 :: w1 :: r).length) (w0 :: w1 :: r).length = true := cutI_ok (by omega) (by unfold lenI; simp only [List.length_cons]; omega) (by unfold lenI; omega)
  have n0 : nthD ((w0 :: w1 :: r).map Value.string) 0 = .string w0 := rfl
  have n1 : nthD ((w0 :: w1 :: r).map Value.string) 1 = .string w1 := rfl
  have aS : ∀ b, asS (.string b) = b := fun _ => rfl
  have eS : ∀ b, etaB .string (.string b) = true := fun _ => rfl
  have cl : ((w0 :: w1 :: r).map Value.string).length = (w0 :: w1 :: r).length := List.length_map ..
  have k1 : Nat.ble 1 (w0 :: w1 :: r).length = true := Nat.ble_eq_true_of_le (by simp)
  have k2 : Nat.ble 2 (w0 :: w1 :: r).length = true := Nat.ble_eq_true_of_le (by simp)
  have s1 := szS_of h1
  have b3 : ∀ n, Nat.beq n n = true := Nat.beq_refl
  have b2 : ∀ n, Nat.ble n n = true := fun n => Nat.ble_eq_true_of_le (Nat.le_refl n)
  have t1 : Nat.ble (Nat.add out.length 1) 4194304 = true := Nat.ble_eq_true_of_le ho
  have lk : lapN 2 (lenI (w0 :: w1 :: r).length) = r.length := by simp only [lapN, lenI, List.length_cons]; omega
  have cut : takeC r.length (dropC 2 ((w0 :: w1 :: r).map Value.string)) = r.map Value.string := cutStr_all (by simp)
  have ol : ∀ p k v, (out ++ [(⟨p, k, v⟩ : OpM)]).length = Nat.add out.length 1 := fun p k v => by simp
  have os : ∀ p k v, takeC (Nat.mul (Nat.add out.length 1) 3) (dropC 0 (EOp.all (out ++ [(⟨p, k, v⟩ : OpM)]))) = EOp.all (out ++ [⟨p, k, v⟩]) := fun p k v => opSelf (ol p k v).symm
  have h00 : eqS w0 ⟨#[112, 117, 116]⟩ = false := h00
  have h0 : eqS w0 ⟨#[100, 101, 108]⟩ = true := h0
  simp only [g0, i0, i1, l3, c3, n0, n1, aS, eS, cl, k1, k2, s1, b3, b2, t1, lk, mulOne, cut, cap0, opApp, opLen, ol, os, opSelf rfl, zeroAdd, Enc.all_ren, beqFzS, h00, h0, Bool.and_self, ite_tt, ite_ff, need_tt]
  unfold mkFz
  rw [fzU, fzU3]
  cases keyO w1 <;> rfl
theorem op_other {w0 : ByteArray} {r : List ByteArray} {out : List OpM} (h00 : eqS w0 putW = false) (h0 : eqS w0 delW = false) :
    roundQX P E ctO 50 42 Bop Dop (opV (w0 :: r) out.length) (opBk out) = some (.tuple ⟨exV .ret :: opV (w0 :: r) out.length⟩, mkSt (opBk out)) := by
  unfold opV opBk fzS fzOps ctO
  rw [show mkFz 3 ([] : List OpM).length 0 (EOp.all []) = mkFz 3 0 0 [] from rfl]
  rw [dec_op _ _ _ _ _ _ _ .nilFunc]
  have g0 : gtI (lenI (w0 :: r).length) 0 = true := gt0 (by simp)
  have i0 : inI 0 (w0 :: r).length = true := inI_ok (i := 0) (by simp)
  have n0 : nthD ((w0 :: r).map Value.string) 0 = .string w0 := rfl
  have aS : ∀ b, asS (.string b) = b := fun _ => rfl
  have eS : ∀ b, etaB .string (.string b) = true := fun _ => rfl
  have cl : ((w0 :: r).map Value.string).length = (w0 :: r).length := List.length_map ..
  have k1 : Nat.ble 1 (w0 :: r).length = true := Nat.ble_eq_true_of_le (by simp)
  have b3 : ∀ n, Nat.beq n n = true := Nat.beq_refl
  have b2 : ∀ n, Nat.ble n n = true := fun n => Nat.ble_eq_true_of_le (Nat.le_refl n)
  have h00 : eqS w0 ⟨#[112, 117, 116]⟩ = false := h00
  have h0 : eqS w0 ⟨#[100, 101, 108]⟩ = false := h0
  simp only [g0, i0, n0, aS, eS, cl, k1, b3, b2, mulOne, opLen, opSelf rfl, zeroAdd, Enc.all_ren, h00, h0, Bool.and_self, ite_tt, ite_ff, need_tt]
  unfold mkFz
  rw [fzU, fzU3]
  rfl
theorem op_short {w0 : ByteArray} {r : List ByteArray} {out : List OpM} (h : eqS w0 putW = true ∧ r.length < 2 ∨ eqS w0 putW = false ∧ eqS w0 delW = true ∧ r.length < 1) :
    roundQX P E ctO 50 42 Bop Dop (opV (w0 :: r) out.length) (opBk out) = some (.tuple ⟨exV .ret :: opV (w0 :: r) out.length⟩, mkSt (opBk out)) := by
  unfold opV opBk fzS fzOps ctO
  rw [show mkFz 3 ([] : List OpM).length 0 (EOp.all []) = mkFz 3 0 0 [] from rfl]
  rw [dec_op _ _ _ _ _ _ _ .nilFunc]
  have g0 : gtI (lenI (w0 :: r).length) 0 = true := gt0 (by simp)
  have i0 : inI 0 (w0 :: r).length = true := inI_ok (i := 0) (by simp)
  have n0 : nthD ((w0 :: r).map Value.string) 0 = .string w0 := rfl
  have aS : ∀ b, asS (.string b) = b := fun _ => rfl
  have eS : ∀ b, etaB .string (.string b) = true := fun _ => rfl
  have cl : ((w0 :: r).map Value.string).length = (w0 :: r).length := List.length_map ..
  have k1 : Nat.ble 1 (w0 :: r).length = true := Nat.ble_eq_true_of_le (by simp)
  have b3 : ∀ n, Nat.beq n n = true := Nat.beq_refl
  have b2 : ∀ n, Nat.ble n n = true := fun n => Nat.ble_eq_true_of_le (Nat.le_refl n)
  rcases h with ⟨h0, hl⟩ | ⟨h00, h0, hl⟩
  · have l3 : ltI (lenI (w0 :: r).length) 3 = true := by unfold ltI lenI; exact decide_eq_true (by simp only [List.length_cons]; omega)
    have h0 : eqS w0 ⟨#[112, 117, 116]⟩ = true := h0
    simp only [g0, i0, l3, n0, aS, eS, cl, k1, b3, b2, mulOne, opLen, opSelf rfl, zeroAdd, Enc.all_ren, h0, Bool.and_self, ite_tt, ite_ff, need_tt]
    unfold mkFz
    rw [fzU, fzU3]
    rfl
  · have l3 : ltI (lenI (w0 :: r).length) 2 = true := by unfold ltI lenI; exact decide_eq_true (by simp only [List.length_cons]; omega)
    have h00 : eqS w0 ⟨#[112, 117, 116]⟩ = false := h00
    have h0 : eqS w0 ⟨#[100, 101, 108]⟩ = true := h0
    simp only [g0, i0, l3, n0, aS, eS, cl, k1, b3, b2, mulOne, opLen, opSelf rfl, zeroAdd, Enc.all_ren, h00, h0, Bool.and_self, ite_tt, ite_ff, need_tt]
    unfold mkFz
    rw [fzU, fzU3]
    rfl
theorem op_end {out : List OpM} : roundQX P E ctO 50 42 Bop Dop (opV [] out.length) (opBk out) = some (.tuple ⟨exV (.exit 0) :: opV [] out.length⟩, mkSt (opBk out)) := by
  unfold opV opBk fzS fzOps ctO
  rw [show mkFz 3 ([] : List OpM).length 0 (EOp.all []) = mkFz 3 0 0 [] from rfl]
  rw [dec_op _ _ _ _ _ _ _ .nilFunc]
  have g0 : gtI (lenI ([] : List ByteArray).length) 0 = false := rfl
  have b3 : ∀ n, Nat.beq n n = true := Nat.beq_refl
  have b2 : ∀ n, Nat.ble n n = true := fun n => Nat.ble_eq_true_of_le (Nat.le_refl n)
  simp only [g0, b3, b2, mulOne, opLen, opSelf rfl, zeroAdd, Enc.all_ren, Bool.and_self, ite_tt, ite_ff, need_tt]
  unfold mkFz
  rw [fzU, fzU3]
  rfl
def opE : List ByteArray → List OpM → Bool × List ByteArray × List OpM
  | [], out => (true, [], out)
  | [w0], out => (false, [w0], out)
  | w0 :: w1 :: tl, out => match eqS w0 putW with
    | true => match tl with
      | [] => (false, [w0, w1], out)
      | w2 :: r => match keyO w1, eqI (byE w2) 0 with
        | true, true => opE r (out ++ [⟨true, byS w1, byS w2⟩])
        | _, _ => (false, w0 :: w1 :: w2 :: r, out)
    | false => match eqS w0 delW with
      | true => match keyO w1 with
        | true => opE tl (out ++ [⟨false, byS w1, ⟨#[]⟩⟩])
        | false => (false, w0 :: w1 :: tl, out)
      | false => (false, w0 :: w1 :: tl, out)
def exB : Bool → Ex
  | true => .normal
  | false => .ret
theorem op_loop : ∀ (k : Nat) (ws : List ByteArray) (out : List OpM), ws.length ≤ k → (∀ w ∈ ws, w.size ≤ 4194304) → out.length + ws.length ≤ 4194304 →
    LRX P 42 0 Bop Dop.head (opV ws out.length) (opBk out) (exB (opE ws out).1) (opV (opE ws out).2.1 (opE ws out).2.2.length) (opBk (opE ws out).2.2)
  | _, [], out, _, _, _ => LRX.stop (n := 50) (engOk ctO) noNum ctO_ok Bop_occ (e := .exit 0) op_end (by intro h; cases h)
  | 0, _ :: _, _, h, _, _ => by simp at h
  | k + 1, [w0], out, _, _, _ => by
    have q : roundQX P E ctO 50 42 Bop Dop (opV [w0] out.length) (opBk out) = some (.tuple ⟨exV .ret :: opV [w0] out.length⟩, mkSt (opBk out)) := by
      cases h0 : eqS w0 putW with
      | true => exact op_short (Or.inl ⟨h0, by simp⟩)
      | false =>
        cases h1 : eqS w0 delW with
        | true => exact op_short (Or.inr ⟨h0, h1, by simp⟩)
        | false => exact op_other h0 h1
    exact LRX.stop (n := 50) (engOk ctO) noNum ctO_ok Bop_occ (e := .ret) q (by intro h; cases h)
  | k + 1, w0 :: w1 :: tl, out, hl, hs, ho => by
    have s1 := hs w1 (by simp)
    have stop : roundQX P E ctO 50 42 Bop Dop (opV (w0 :: w1 :: tl) out.length) (opBk out) = some (.tuple ⟨exV .ret :: opV (w0 :: w1 :: tl) out.length⟩, mkSt (opBk out)) →
        LRX P 42 0 Bop Dop.head (opV (w0 :: w1 :: tl) out.length) (opBk out) .ret (opV (w0 :: w1 :: tl) out.length) (opBk out) := fun q =>
      LRX.stop (n := 50) (engOk ctO) noNum ctO_ok Bop_occ (e := .ret) q (by intro h; cases h)
    simp only [List.length_cons] at hl ho
    cases h0 : eqS w0 putW with
    | true =>
      cases tl with
      | nil =>
        have q := stop (op_short (Or.inl ⟨h0, by simp⟩))
        simp only [opE, h0]
        exact q
      | cons w2 r =>
        simp only [List.length_cons] at hl ho
        have q := op_put (r := r) (out := out) h0 s1 (hs w2 (by simp)) (by omega)
        simp only [opE, h0]
        cases h1 : keyO w1 with
        | false => rw [h1] at q; exact stop q
        | true =>
          cases h2 : eqI (byE w2) 0 with
          | false => rw [h1, h2] at q; exact stop q
          | true =>
            rw [h1, h2] at q
            exact LRX.again (n := 50) (engOk ctO) noNum ctO_ok Bop_occ q (op_loop k r _ (by omega) (fun w hw => hs w (by simp [hw])) (by rw [List.length_append]; simp only [List.length_cons, List.length_nil]; omega))
    | false =>
      cases h1 : eqS w0 delW with
      | false =>
        have q := stop (op_other h0 h1)
        rw [opE.eq_def]
        simp only [h0, h1]
        exact q
      | true =>
        have q := op_del (r := tl) (out := out) h0 h1 s1 (by omega)
        rw [opE.eq_def]
        simp only [h0, h1]
        cases h2 : keyO w1 with
        | false => rw [h2] at q; exact stop q
        | true =>
          rw [h2] at q
          exact LRX.again (n := 50) (engOk ctO) noNum ctO_ok Bop_occ q (op_loop k tl _ (by omega) (fun w hw => hs w (by simp [hw])) (by rw [List.length_append]; simp only [List.length_cons, List.length_nil]; omega))
end Go.VS.Tryz
end

section
namespace Go.VS.Tryz
set_option maxRecDepth 1000000
open Go.VS
noncomputable def ctPv (C C2 : List Value → List Blk → Bool) (ok : Bool) (e : Value) (n1 n2 : Nat) (z1 z2 : Value) (c1 c2 : List Value) (r : Int) : Ct :=
  addCall P 43 (fun args => oneM C2 (.leaf (.int .i64 r, [])) args []) (addLoopX P 42 0 Dop (oneL C (.ite ok (.leaf (.normal, [z1, e, .bool false, .slice (some ⟨0, 0, none⟩) n1 unk], [.cells c1 74 false])) (.leaf (.ret, [z2, e, .bool false, .slice (some ⟨0, 0, none⟩) n2 unk], [.cells c2 74 false])))) ctF)
theorem dec_ops (C C2 : List Value → List Blk → Bool) (ok : Bool) (n1 n2 : Nat) (z1 z2 : Value) (c1 c2 : List Value) (r : Int) (n b : Nat) (c : List Value) : callQX P E (ctPv C C2 ok (mkFz 3 0 0 []) n1 n2 z1 z2 c1 c2 r) 50 polD [.val, .val] [22, 4] 0 42 [mkFz 1 n b c] [] =
 (needB (C [(Value.iface 18446744073709551617 (Value.agg (Array.mk ((Value.slice none n b) :: c)))), (Value.iface 18446744073709551619 (Value.agg (Array.mk [(Value.slice none 0 0)]))), (Value.bool Bool.false), (Value.slice (Option.some (Addr.mk 0 0 none)) 0 18446744073709551616)] [(Blk.cells [] 74 Bool.false)])
 (iteB ok
 (needB (Bool.and (Nat.ble (Nat.add 0 (Nat.mul n1 3)) (List.length (renL Bool.true (backN [] 1) c1))) (Nat.ble 1 3))
 (needB (flatL (takeC (Nat.mul n1 3) (dropC 0 (renL Bool.true (backN [] 1) c1))))
 (needB (C2 [(Value.iface 18446744073709551619 (Value.agg (Array.mk ((Value.slice none n1 0) :: (takeC (Nat.mul n1 3) (dropC 0 (renL Bool.true (backN [] 1) c1)))))))] [])
 (needB (frzC P 0 n1 18446744073709551616 (renL Bool.true (backN [] 1) c1) 74)
 (some ((Value.tuple (Array.mk [(Value.iface 18446744073709551619 (Value.agg (Array.mk ((Value.slice none n1 0) :: (takeC (Nat.mul n1 3) (dropC 0 (renL Bool.true (backN [] 1) c1))))))), (Value.bool (eqI r (0 : Int)))])), (mkSt [])))))))
 (some ((Value.tuple (Array.mk [(Value.iface 18446744073709551619 (Value.agg (Array.mk [(Value.slice none 0 0)]))), (Value.bool Bool.false)])), (mkSt []))))) := by kernel_rfl
theorem flatOps : ∀ l : List OpM, flatL (EOp.all l) = true
  | [] => rfl
  | a :: l => by
    rw [EOp.all_cons]
    show flatL (.bool a.p :: .string a.k :: .string a.v :: EOp.all l) = true
    simp only [flatL, flatOps l]
    rfl
theorem frzOps {l : List OpM} : frzC P 0 l.length 18446744073709551616 (EOp.all l) 74 = true := by
  have he : esz P 74 = 3 := by kernel_rfl
  unfold frzC
  rw [he, EOp.all_nr, opLen]
  have h2 : Nat.ble (Nat.add 0 (Nat.mul l.length 3)) (Nat.mul l.length 3) = true := by rw [zeroAdd]; exact Nat.ble_eq_true_of_le (Nat.le_refl _)
  rw [h2]; rfl
def WsOk (ws : List ByteArray) : Prop := (∀ w ∈ ws, w.size ≤ 4194304) ∧ ws.length ≤ 4194304
def kOpL : Con (List ByteArray) where
  enc ws := (opV ws 0, opBk [])
  ok := WsOk
  inj a b h := by
    unfold opV at h
    simp only [Prod.mk.injEq, List.cons.injEq, true_and, and_true] at h
    exact fzS_inj h
  dflt := []
noncomputable def opLres (ws : List ByteArray) : DT (Ex × List Value × List Blk) := .ite (opE ws []).1 (.leaf (.normal, opV (opE ws []).2.1 (opE ws []).2.2.length, opBk (opE ws []).2.2)) (.leaf (.ret, opV (opE ws []).2.1 (opE ws []).2.2.length, opBk (opE ws []).2.2))
theorem op_loopOk : LoopOkX P 42 0 Bop Dop.head (conL kOpL.C kOpL.D opLres) :=
  conLX_ok kOpL (loopAt_occ Bop_eq) fun ws ho e vs' bs' hev => by
    have q := op_loop ws.length ws [] (Nat.le_refl _) ho.1 (by have := ho.2; simp only [List.length_nil]; omega)
    unfold opLres at hev
    cases hb : (opE ws []).1 with
    | true =>
      rw [hb] at hev q
      simp only [DT.eval, Option.some.injEq, Prod.mk.injEq] at hev
      obtain ⟨rfl, rfl, rfl⟩ := hev
      exact q
    | false =>
      rw [hb] at hev q
      simp only [DT.eval, Option.some.injEq, Prod.mk.injEq] at hev
      obtain ⟨rfl, rfl, rfl⟩ := hev
      exact q
def opsV (ws : List ByteArray) : List OpM := match (opE ws []).1 with
  | true => (opE ws []).2.2
  | false => []
def opsB (ws : List ByteArray) : Bool := match (opE ws []).1 with
  | true => eqI (checkM (opE ws []).2.2) 0
  | false => false
theorem opE_len : ∀ (k : Nat) (ws : List ByteArray) (out : List OpM), ws.length ≤ k → (opE ws out).2.2.length ≤ out.length + ws.length
  | _, [], out, _ => by simp [opE]
  | _, [w0], out, _ => by simp [opE]
  | 0, _ :: _ :: _, _, h => by simp at h
  | k + 1, w0 :: w1 :: tl, out, hl => by
    rw [opE.eq_def]
    simp only [List.length_cons] at hl ⊢
    cases eqS w0 putW with
    | true =>
      cases tl with
      | nil => simp
      | cons w2 r =>
        simp only [List.length_cons] at hl ⊢
        cases keyO w1 with
        | false => simp
        | true =>
          cases eqI (byE w2) 0 with
          | false => simp
          | true =>
            have := opE_len k r (out ++ [(⟨true, byS w1, byS w2⟩ : OpM)]) (by omega)
            rw [List.length_append] at this
            simp only [List.length_cons, List.length_nil] at this
            simp only
            omega
    | false =>
      cases eqS w0 delW with
      | false => simp
      | true =>
        cases keyO w1 with
        | false => simp
        | true =>
          have := opE_len k tl (out ++ [(⟨false, byS w1, ⟨#[]⟩⟩ : OpM)]) (by omega)
          rw [List.length_append] at this
          simp only [List.length_cons, List.length_nil] at this
          simp only
          omega
def kOps : Con (List ByteArray) where
  enc ws := ([fzS ws], [])
  ok ws := WsOk ws ∧ ws.length < 4194304
  inj a b h := by
    simp only [Prod.mk.injEq, List.cons.injEq, and_true] at h
    exact fzS_inj h
  dflt := []
noncomputable def ctP (ws : List ByteArray) : Ct :=
  addCall P 43 (fun args => oneM (kBk.at (opE ws []).2.2) (.leaf (.int .i64 (checkM (opE ws []).2.2), [])) args []) (addLoopX P 42 0 Dop (oneL (kOpL.at ws) (opLres ws)) ctF)
theorem ops_run (ws : List ByteArray) : callQX P E (ctP ws) 50 polD [.val, .val] [22, 4] 0 42 (kOps.enc ws).1 (kOps.enc ws).2 = some (.tuple ⟨[fzOps (opsV ws), .bool (opsB ws)]⟩, mkSt []) := by
  have q := dec_ops (kOpL.at ws) (kBk.at (opE ws []).2.2) (opE ws []).1 (opE ws []).2.2.length (opE ws []).2.2.length (fzS (opE ws []).2.1) (fzS (opE ws []).2.1) (EOp.all (opE ws []).2.2) (EOp.all (opE ws []).2.2) (checkM (opE ws []).2.2) ws.length 0 (ws.map Value.string)
  refine Eq.trans ?_ (q.trans ?_)
  · rfl
  clear q
  refine need_at (k := kOpL) (s := ws) (by show opV ws 0 = _; unfold opV fzS fzOps mkFz; rw [fzU, fzU3]; rfl) rfl ?_
  unfold opsV opsB
  cases (opE ws []).1 with
  | false =>
    simp only [ite_ff]
    unfold fzOps mkFz
    rw [fzU3]
    rfl
  | true =>
    have b2 : ∀ n, Nat.ble n n = true := fun n => Nat.ble_eq_true_of_le (Nat.le_refl n)
    have b13 : Nat.ble 1 3 = true := rfl
    simp only [ite_tt, Enc.all_ren, opLen, zeroAdd, b2, b13, Bool.and_self, need_tt, opSelf rfl, flatOps, frzOps]
    refine need_at (k := kBk) (s := (opE ws []).2.2) (by show [fzOps _] = _; unfold fzOps mkFz; rw [fzU3]) rfl ?_
    unfold fzOps mkFz
    rw [fzU3]
theorem ops_ok : CallOkX P 0 42 (conM kOps.C kOps.D fun ws => .leaf (.tuple ⟨[fzOps (opsV ws), .bool (opsB ws)]⟩, [])) := conX_ok kOps fun ws ho v bs' hev => by
  simp only [DT.eval, Option.some.injEq, Prod.mk.injEq] at hev
  obtain ⟨rfl, rfl⟩ := hev
  have hl := opE_len ws.length ws [] (Nat.le_refl _)
  simp only [List.length_nil] at hl
  exact CRX.of (engOk (ctP ws)) noNum (addCall_ok (addLoopX_ok ctF_ok (oneL_ok kOpL op_loopOk (s := ws) ho.1)) (CallOkR.ofX (oneM_ok kBk bck_ok (s := (opE ws []).2.2) (by show _ < _; have := ho.2; omega)))) (ops_run ws)
end Go.VS.Tryz
end

section
namespace Go.VS
open Go.RowKit
section
variable {P : Program} {ct : Ct}
theorem choose_some {n : Nat} (hn : 0 < n) (w : World) : ∃ (j : Nat) (w1 : World), j < n ∧ (w1 = w ∨ w1 = w.drew) ∧ (choose (Question.mapNext n)).run P w = .ok j w1 := by
  by_cases hf : n ≤ 1
  · exact ⟨0, w, hn, Or.inl rfl, by simp [choose, Sem.run, Question.forced, hf]⟩
  · exact ⟨_, w.drew, Nat.mod_lt _ (by omega), Or.inr rfl, by
      simp only [choose, Sem.run, Question.forced, decide_eq_true_eq, hf, if_false, Question.cut]
      rfl⟩
theorem ERL.get : ∀ {β : Env} {a b : List MapEntry}, ERL β a b → ∀ {j : Nat} {y : MapEntry}, b[j]? = some y → ∃ x, a[j]? = some x ∧ x.born = y.born ∧ VR β x.key y.key ∧ VR β x.val y.val
  | _, [], _, h, j, y, hy => by have h : _ = [] := h; subst h; simp at hy
  | _, x :: xs, _, ⟨z, ys, e, h1, h2, h3, h4⟩, 0, y, hy => by
    subst e
    simp only [List.getElem?_cons_zero, Option.some.injEq] at hy
    subst hy
    exact ⟨x, rfl, h1, h2, h3⟩
  | _, x :: xs, _, ⟨z, ys, e, h1, h2, h3, h4⟩, j + 1, y, hy => by
    subst e
    simp only [List.getElem?_cons_succ] at hy ⊢
    exact h4.get hy
theorem ERL.length' : ∀ {β : Env} {a b : List MapEntry}, ERL β a b → a.length = b.length
  | _, [], _, h => by have h : _ = [] := h; subst h; rfl
  | _, x :: xs, _, ⟨z, ys, e, h1, h2, h3, h4⟩ => by subst e; simp only [List.length_cons]; rw [h4.length']
def leftM (seen : List Nat) (es : List MapEntry) : List MapEntry := es.filter fun e => !seen.contains e.born
theorem next_pick {K : Prot} {β : Env} {st : St} {w : World} (hr : Rel P K β st w) {ρ ρ' : Operand → Value} (hρ : ∀ x, VR β (ρ x) (ρ' x)) {o : Oper} {it : Operand} (ho : o.op = .next it false) {r m since last clock : Nat} {seen : List Nat} {es : List MapEntry}
    (hv : ρ it = .pointer (some ⟨r, 0, none⟩)) (hg : st.heap.get r = some (.miter (some m) since seen last)) (hgm : st.heap.get m = some (.map es clock)) (hguard : es.all (fun e => decide (e.born ≥ last)) = false ∨ seen = [])
    (hold : ∀ e ∈ es, e.born < since) (hne : leftM seen es ≠ []) :
    ∃ e, e ∈ leftM seen es ∧ ∃ v' w', (execOp ρ' o).run P w = .ok (.value v') w' ∧ Rel P K β { st with heap := st.heap.set r (.miter (some m) since (e.born :: seen) clock) } w' ∧ VR β (.tuple #[.bool true, e.key, e.val]) v' ∧ Bel K w w' := by
  have hx := hρ it
  rw [hv] at hx
  obtain ⟨hs, l, hl, hx⟩ := hx.ptr'
  obtain ⟨l', g1, g2, g3⟩ := hr.blk _ _ hg rfl
  obtain rfl : l' = l := by rw [g1] at hl; exact Option.some.inj hl
  obtain ⟨hvt, hbase, m', hm, g3⟩ := g3
  obtain ⟨lm, hlm, hm⟩ := hm
  have hm : m' = some lm.blk := by simpa using hm
  subst hm
  obtain ⟨lm', es', k1, k2, k3, k4⟩ := hr.get_map hgm
  obtain rfl : lm' = lm := by rw [k1] at hlm; exact Option.some.inj hlm
  have hguard' : (!seen.isEmpty && !es'.isEmpty && es'.all (fun e => decide (e.born ≥ last))) = false := by
    have e2 := all_rel (fun b => decide (b ≥ last)) k4
    have e4 : es'.all (fun e => decide (e.born ≥ last)) = es'.toList.all (fun e => decide (e.born ≥ last)) := by simp
    rw [e4, ← e2]
    rcases hguard with h | h
    · rw [h, Bool.and_false]
    · rw [h]; rfl
  have hleft := filter_rel (fun b => !seen.contains b) k4
  have hold2 : (leftM seen es).filter (fun e => decide (e.born < since)) = leftM seen es := by
    apply List.filter_eq_self.2
    intro e he
    exact decide_eq_true (hold e (List.mem_filter.1 he).1)
  have hnew2 : (leftM seen es).filter (fun e => decide (e.born ≥ since)) = [] := by
    apply List.filter_eq_nil_iff.2
    intro e he
    have := hold e (List.mem_filter.1 he).1
    simp only [decide_eq_true_eq]; omega
  have hold3 := filter_rel (fun b => decide (b < since)) hleft
  have hnew3 := filter_rel (fun b => decide (b ≥ since)) hleft
  have hL' : (es'.filter fun e => !(⟨seen.reverse⟩ : Array Nat).contains e.born) = ⟨es'.toList.filter fun e => !seen.contains e.born⟩ := by
    apply Array.ext'; simp
  generalize hLc : es'.toList.filter (fun e => !seen.contains e.born) = left' at *
  change ERL β ((leftM seen es).filter _) _ at hold3
  change ERL β ((leftM seen es).filter _) _ at hnew3
  change ERL β (leftM seen es) _ at hleft
  rw [hold2] at hold3
  rw [hnew2] at hnew3
  have hnew3 : left'.filter (fun e => decide (e.born ≥ since)) = [] := hnew3
  generalize hO : left'.filter (fun e => decide (e.born < since)) = old' at *
  have hlen := hold3.length'
  have hpos : 0 < old'.length := by
    rw [← hlen]
    exact List.length_pos_iff.2 hne
  obtain ⟨j, w1, hj, hw1, hch⟩ := choose_some (P := P) hpos w
  have hje : old'[j]? = some old'[j] := List.getElem?_eq_getElem hj
  obtain ⟨e, q1, q2, q3, q4⟩ := hold3.get hje
  have hemp : old'.isEmpty = false := by cases old' with
    | nil => simp at hpos
    | cons _ _ => rfl
  have hr1 : Rel P K β st w1 := by rcases hw1 with rfl | rfl; exact hr; exact hr.drew
  have hb1 : Bel K w w1 := by rcases hw1 with rfl | rfl; exact Bel.refl _ _; exact (Bel.refl _ _).drew
  have hh1 : w1.heap = w.heap := by rcases hw1 with rfl | rfl <;> rfl
  have hbk : BlkR P β l' (.miter (some m) since (e.born :: seen) clock) (some (.mapIter (some lm'.blk) since ((⟨seen.reverse⟩ : Array Nat).push old'[j].born) clock)) :=
    ⟨hvt, hbase, some lm'.blk, ⟨lm', k1, rfl⟩, by simp [q2]⟩
  obtain ⟨p1, p2⟩ := hr1.putObj hg rfl g1 hbk
  refine ⟨e, List.mem_of_getElem? q1, .tuple #[.bool true, old'[j].key, old'[j].val], _, ?_, p1, ⟨_, rfl, VRL.cons rfl (VRL.cons q3 (VRL.cons q4 VRL.nil))⟩, hb1.trans p2⟩
  simp only [execOp, ho]
  refine run_v ?_
  simp only [Instr.next, hx, hbase, Nat.zero_add]
  simp only [Sem.run_bind, run_getObj_of g3 (by intros; simp), Result.andThen, MapKept.run_getObj_map k3]
  have hg2 : (!(⟨seen.reverse⟩ : Array Nat).isEmpty && !es'.isEmpty && es'.all (fun e => decide (e.born ≥ last))) = false := by simpa using hguard'
  simp only [hg2, Bool.false_eq_true, if_false, hL']
  simp only [List.filter_toArray, hO, hnew3, List.append_toArray, List.append_nil, List.map_toArray, List.map_nil, List.isEmpty_toArray, hemp, List.nil_append, if_false, Bool.false_eq_true]
  have hsz : (⟨old'.map some⟩ : Array (Option MapEntry)).size = old'.length := by simp
  rw [hsz]
  rw [Sem.run_bind, hch]
  simp only [Result.andThen, List.getElem?_toArray, List.getElem?_map, hje, Option.map_some]
  rw [← hh1] at g3
  simp [run_setObj_of g3 (by intros; simp)]
theorem rel_same {K : Prot} {β : Env} {w : World} {st st' : St} (hg : ∀ i, st'.heap.get i = st.heap.get i) (hn : st'.next = st.next) (h : Rel P K β st w) : Rel P K β st' w := by
  refine ⟨h.base, fun i l hi => by rw [hn]; exact h.dom i l hi, fun i b hi => h.blk i b (by rw [← hg]; exact hi), fun i j bi bj li lj hi hbi hj => h.inj i j bi bj li lj (by rw [← hg]; exact hi) hbi (by rw [← hg]; exact hj), fun i hi => by rw [hn]; exact h.res i hi, h.nofz, fun k l hk => ?_, ?_⟩
  · obtain ⟨f1, f2, f3⟩ := h.frz k l hk
    exact ⟨f1, f2, fun j bj lj hj => f3 j bj lj (by rw [← hg]; exact hj)⟩
  · exact h.objs.step rfl (Env.le.refl _) (Nat.le_refl _) (fun _ _ _ => rfl) (fun i o => by rw [hg]) (fun i k o l _ _ hk hK hf hj => ⟨rfl, hK, hf, fun j bj lj hj1 => hj j bj lj (by rw [← hg]; exact hj1)⟩)
noncomputable def pickQ (P : Program) (E : Eng) (ct : Ct) (n fid : Nat) (B : Code) (H : Head) (vs : List Value) (bs : List Blk) (k v : Value) : Res :=
  match B with
  | .seq (.region _ ops false) rest => match ops.toList with
    | o :: os => match o.dst with
      | some d => opsF P E ct (knotQ P E ct n n) H.nt none ops os (setP (path d) (mkS H.nt H.L vs) (.tuple ⟨[.bool true, k, v]⟩)) [] (mkSt bs) fun s d st => codeQ P E ct n (knotQ P E ct n n) fid H.nt none rest s d st (kontL H)
      | none => none
    | [] => none
  | _ => none
/-- A loop's first operation. -/
structure FirstNext (B : Code) (H : Head) (it : Operand) : Prop where
  first : ∃ id ops rest o os d, B = .seq (.region id ops false) rest ∧ ops.toList = o :: os ∧ o.op = .next it false ∧ o.guard = none ∧ o.dst = some d ∧ d < H.nt
def firstNext (B : Code) (H : Head) : Option Tmp := match B with
  | .seq (.region _ ops false) _ => match ops.toList with
    | o :: _ => match o.op, o.guard, o.dst with
      | .next (.tmp t) false, none, some d => match Nat.ble (d + 1) H.nt with
        | true => some t
        | false => none
      | _, _, _ => none
    | [] => none
  | _ => none
theorem FirstNext.of {B : Code} {H : Head} {t : Tmp} (h : firstNext B H = some t) : FirstNext B H (.tmp t) := by
  unfold firstNext at h
  split at h
  · rename_i id ops rest
    split at h
    · rename_i o os hos
      split at h
      · rename_i t' d h1 h2 h3
        split at h
        · rename_i hb
          obtain rfl := Option.some.inj h
          exact ⟨id, ops, rest, o, os, d, rfl, hos, h1, h2, h3, Nat.le_of_ble_eq_true hb⟩
        · cases h
      · cases h
    · cases h
  · cases h
/-- What a map's iterator has in a memory. -/
structure IterAt (bs : List Blk) (r m since last clock : Nat) (seen : List Nat) (es : List MapEntry) : Prop where
  it : bs[r]? = some (.miter (some m) since seen last)
  map : bs[m]? = some (.map es clock)
  new : es.all (fun e => decide (e.born ≥ last)) = false ∨ seen = []
  old : ∀ e ∈ es, e.born < since
  some : leftM seen es ≠ []
theorem pick_reach {E : Eng} (hE : EngOk P ct E) (hN : noNum P = true) (hct : CtOk P ct) {n fid id : Nat} {B : Code} {H : Head} (hocc : Occ P fid (.block id (.loop B))) (hL : okL H = true) {it : Operand} (hB : FirstNext B H it) {vs : List Value} {bs : List Blk} {r m since last clock : Nat} {seen : List Nat} {es : List MapEntry}
    (hit : (H.fr vs).eval it = .pointer (some ⟨r, 0, none⟩)) (hI : IterAt bs r m since last clock seen es) {ex : MapEntry → Ex} {vs1 : MapEntry → List Value} {bs1 : MapEntry → List Blk}
    (h : ∀ e ∈ leftM seen es, pickQ P E ct n fid B H vs (bs.set r (.miter (some m) since (e.born :: seen) clock)) e.key e.val = some (.tuple ⟨exV (ex e) :: vs1 e⟩, mkSt (bs1 e)))
    (K : Prot) (β : Env) (w : World) (fr : Frame) (cs : List Frame) (k : List Item) (hid : ∀ i, K.id i → i < H.N) (ht : fr.todo = .code B :: k) (hfid : fr.fn = fid) (hf : FrR β (H.fr vs) fr) (hr : Rel P K β (mkSt bs) w) :
    ∃ e ∈ leftM seen es, ReachN H.N P K β fr cs w (ex e) k (H.fr (vs1 e)) (mkSt (bs1 e)) := by
  obtain ⟨⟨rid, ops, rest, o, os, d, rfl, hops, ho, hg, hd, hdn⟩⟩ := hB
  have g1 : (mkSt bs).heap.get r = some (.miter (some m) since seen last) := by rw [mkSt_get]; exact hI.it
  have g2 : (mkSt bs).heap.get m = some (.map es clock) := by rw [mkSt_get]; exact hI.map
  have s1 := s_seq (P := P) (cs := cs) (w := w) hf.mode ht
  have s2 := s_region (P := P) (fr := { fr with todo := .code (.region rid ops false) :: .code rest :: k }) (cs := cs) (w := w) hf.mode rfl
  have hsz : ops.size = os.length + 1 := by have := congrArg List.length hops; simpa using this
  have hrg : List.range ops.size = 0 :: List.range' 1 os.length := by rw [hsz, range_eq, List.range'_succ]
  have ho0 : ops[0]? = some o := by
    have : ops.toList[0]? = some o := by rw [hops]; rfl
    simpa using this
  obtain ⟨e, he, v', w1, a1, a2, a3, a4⟩ := next_pick (ρ := (H.fr vs).eval) (ρ' := fr.eval) hr hf.eval ho hit g1 g2 hI.new hI.old hI.some
  refine ⟨e, he, ?_⟩
  have hq := h e he
  unfold pickQ at hq
  simp only [hops, hd] at hq
  have hw : Region.wanted o (yielded ops ({ fr with todo := .inRegion ops (List.range ops.size) :: .code rest :: k } : Frame).tmps) = true :=
    wantedF_eq (f := H.fr vs) (β := β) (fr := { fr with todo := .inRegion ops (List.range ops.size) :: .code rest :: k }) ⟨hf.slots, hf.defers, hf.round, hf.mode⟩ ops (by unfold wantedF; rw [hg])
  have s3 := s_op_value (P := P) (fr := { fr with todo := .inRegion ops (List.range ops.size) :: .code rest :: k }) (cs := cs) (w := w) (ops := ops) (i := 0) (rest := List.range' 1 os.length) (o := o) (k := .code rest :: k) hf.mode (by rw [hrg]) ho0 hw (Or.inl (by have := hf.round; exact this)) a1
  have hput : (H.fr vs).put o.dst (.tuple #[.bool true, e.key, e.val]) = some { H.fr vs with slots := (H.fr vs).slots.set d (.tuple #[.bool true, e.key, e.val]) } := by
    unfold Fr.put
    rw [hd]
    exact if_pos hdn
  have hf3 := (FrR.put (o := o) ⟨hf.slots, hf.defers, hf.round, hf.mode⟩ hput a3 (.inRegion ops (List.range' 1 os.length) :: .code rest :: k) : FrR β _ (putF fr o v' _))
  obtain ⟨n1, s', d', st', b1, b2⟩ := opsF_spec hE (knotQ_ok hE n n) os 1 _ _ _ _ _ (by
    intro j
    have : ops.toList[j + 1]? = os[j]? := by rw [hops]; rfl
    rw [← this, Nat.add_comm 1 j]; simp) hq
  obtain ⟨n2, e2, s2', d2', st2', c1, c2⟩ := codeQ_ok hE (knotQ_ok hE n n) n fid H.nt none rest _ _ _ _ _ b2
  have a2 : Rel P K β (mkSt (bs.set r (.miter (some m) since (e.born :: seen) clock))) w1 := by
    have hlt : r < bs.length := by
      have := hI.it
      rw [List.getElem?_eq_some_iff] at this
      exact this.1
    refine rel_same (fun i => ?_) ?_ a2
    · rw [mkSt_get, List.getElem?_set]
      simp only [Trie.get_set, mkSt_get]
      by_cases hi : r = i
      · subst hi
        rw [if_pos rfl, if_pos rfl, if_pos hlt]
      · rw [if_neg hi, if_neg (fun e => hi e.symm)]
    · show (bs.set r _).length = bs.length
      simp
  have hsp : setP (path d) (mkS H.nt H.L vs) (.tuple ⟨[.bool true, e.key, e.val]⟩) = (H.fr vs).slots.set d (.tuple #[.bool true, e.key, e.val]) := setP_path _ _ _
  rw [hsp] at b1
  have r1 := (sound_all hN hct n1 K).ops ops _ _ _ _ _ b1 β w1 (putF fr o v' (.inRegion ops (List.range' 1 os.length) :: .code rest :: k)) cs (.code rest :: k) rfl hf3 a2
  have r2 := r1.andThen (e := e2) (k2 := k) (f2 := ⟨s2', H.nt, d2', none⟩) (st2 := st2') fun β2 fr2 w2 t2 f2 q2 q3 =>
    (sound_all hN hct n2 K).code fid rest _ _ _ _ _ c1 (hocc.sub (.block (.loop (.seqr (.refl _))))) β2 w2 fr2 cs k t2 (f2.trans hfid) q2 q3
  obtain ⟨β1, fr1, w2, p1, p2, p3, p4, p5, p6, p7, p8, p9⟩ := r2
  unfold kontL at c2
  split at c2
  · split at c2
    · rename_i rr hc
      obtain ⟨vs2, bs2⟩ := rr
      simp only [Option.some.injEq, Prod.mk.injEq, Value.tuple.injEq, Array.mk.injEq, List.cons.injEq] at c2
      obtain ⟨⟨hee, rfl⟩, hst⟩ := c2
      obtain rfl := exV_inj hee
      obtain ⟨β2, z1, z2, z3⟩ := canon_rel hc p3 p5.slots hid (fun t ht => by
        unfold okL at hL
        exact Nat.le_of_ble_eq_true (List.all_eq_true.1 hL t ht))
      refine ⟨β2, fr1, w2, .head s1 (.head s2 (.head s3 p1)), (p2.leN _).trans z1, by rw [← hst]; exact z2, a4.trans p4, ⟨z3, by have := p5.defers; unfold DefsR at this; rw [this]; rfl, by have := p5.round; exact this, p5.mode⟩, p6, p7, p8, p9⟩
    · cases c2
  · cases c2
theorem LR.pick {E : Eng} (hE : EngOk P ct E) (hN : noNum P = true) (hct : CtOk P ct) {n fid id : Nat} {B : Code} {H : Head} (hocc : Occ P fid (.block id (.loop B))) (hL : okL H = true) {it : Operand} (hB : FirstNext B H it) {vs : List Value} {bs : List Blk} {r m since last clock : Nat} {seen : List Nat} {es : List MapEntry}
    (hit : (H.fr vs).eval it = .pointer (some ⟨r, 0, none⟩)) (hI : IterAt bs r m since last clock seen es) {ex : MapEntry → Ex} {vs1 : MapEntry → List Value} {bs1 : MapEntry → List Blk}
    (h : ∀ e ∈ leftM seen es, pickQ P E ct n fid B H vs (bs.set r (.miter (some m) since (e.born :: seen) clock)) e.key e.val = some (.tuple ⟨exV (ex e) :: vs1 e⟩, mkSt (bs1 e))) {x : Ex} {vs' : List Value} {bs' : List Blk}
    (hend : ∀ e ∈ leftM seen es, (ex e = .normal ∧ LR P fid id B H (vs1 e) (bs1 e) x vs' bs') ∨ (ex e ≠ .normal ∧ exitE id (ex e) = x ∧ vs1 e = vs' ∧ ∀ K β w, Rel P K β (mkSt (bs1 e)) w → Rel P K β (mkSt bs') w)) : LR P fid id B H vs bs x vs' bs' := by
  intro K β w fr cs k hid ht hfid hf hr
  obtain ⟨e, he, β1, fr1, w1, a1, a2, a3, a4, a5, a6, a7, a8, a9⟩ := pick_reach hE hN hct hocc hL hB hit hI h K β w fr cs _ hid ht hfid hf hr
  rcases hend e he with ⟨hx, hl⟩ | ⟨hx, rfl, rfl, hb⟩
  · rw [hx] at a9
    have a9 : fr1.todo = .inLoop B :: .inBlock id :: k := a9
    have hs := s_inLoop (P := P) (cs := cs) (w := w1) a5.mode a9
    obtain ⟨β2, fr2, w2, b1, b2, b3, b4, b5, b6, b7, b8, b9⟩ := hl K β1 w1 { fr1 with todo := .code B :: .inLoop B :: .inBlock id :: k } cs k hid rfl (a7.trans hfid) ⟨a5.slots, a5.defers, a5.round, a5.mode⟩ a3
    exact ⟨β2, fr2, w2, a1.trans (.head hs b1), a2.trans b2, b3, a4.trans b4, b5, b6.trans a6, b7.trans a7, b8.trans a8, b9⟩
  · have a3 := hb _ _ _ a3
    have a9 := a9.under hx (fun i e => by cases e)
    cases hex : ex e with
    | normal => exact absurd hex hx
    | ret => rw [hex] at a9; exact ⟨β1, fr1, w1, a1, a2, a3, a4, a5, a6, a7, a8, a9⟩
    | exit i =>
      rw [hex] at a9
      obtain ⟨k2, h1, h2⟩ := a9
      cases hbq : Nat.beq i id with
      | true =>
        have hx2 : exitE id (.exit i) = .normal := by simp only [exitE, hbq]
        rw [hx2]
        have := Nat.eq_of_beq_eq_true hbq
        subst this
        have hx : exitTo i k2 = some k := by rw [h2]; simp [exitTo]
        exact ⟨β1, { fr1 with todo := k }, w1, a1.trans (.one (s_exit a5.mode h1 hx)), a2, a3, a4, a5.todo k, a6, a7, a8, rfl⟩
      | false =>
        have hx2 : exitE id (.exit i) = .exit i := by simp only [exitE, hbq]
        rw [hx2]
        have := Nat.ne_of_beq_eq_false hbq
        refine ⟨β1, fr1, w1, a1, a2, a3, a4, a5, a6, a7, a8, k2, h1, ?_⟩
        rw [h2]
        have : (id == i) = false := by simp; exact fun ee => this ee.symm
        simp [exitTo, this]
theorem rel_dead {K : Prot} {β : Env} {w : World} {bs : List Blk} (r : Nat) (hb : ∀ b, bs[r]? = some b → b.isObj = false) (hr : Rel P K β (mkSt bs) w) : Rel P K β (mkSt (bs.set r .dead)) w := by
  have hget : ∀ (i : Nat) b, (mkSt (bs.set r .dead)).heap.get i = some b → b.live = true → (mkSt bs).heap.get i = some b := by
    intro i b hi hl
    rw [mkSt_get] at hi ⊢
    rw [List.getElem?_set] at hi
    split at hi
    · split at hi
      · cases hi; cases hl
      · cases hi
    · exact hi
  refine ⟨hr.base, fun i l hi => ?_, fun i b hi hl => hr.blk i b (hget i b hi hl) hl, fun i j bi bj li lj hi hbi hj hbj => hr.inj i j bi bj li lj (hget i bi hi hbi) hbi (hget j bj hj hbj) hbj, fun i hi => ?_, hr.nofz, fun k l hk => ?_, ?_⟩
  · have := hr.dom i l hi
    have e : (mkSt (bs.set r .dead)).next = (mkSt bs).next := by show (bs.set r .dead).length = bs.length; simp
    rw [e]; exact this
  · have := hr.res i hi
    have e : (mkSt (bs.set r .dead)).next = (mkSt bs).next := by show (bs.set r .dead).length = bs.length; simp
    rw [e]; exact this
  · obtain ⟨f1, f2, f3⟩ := hr.frz k l hk
    exact ⟨f1, f2, fun j bj lj hj hbj => f3 j bj lj (hget j bj hj hbj) hbj⟩
  · refine hr.objs.step rfl (Env.le.refl _) (Nat.le_refl _) (fun _ _ _ => rfl) (fun i o => ⟨fun hi => hget i _ hi rfl, fun hi => ?_⟩) (fun i k o l _ _ hk hK hf hj => ⟨rfl, hK, hf, fun j bj lj hj1 hj2 => hj j bj lj (hget j bj hj1 hj2) hj2⟩)
    rw [mkSt_get] at hi ⊢
    rw [List.getElem?_set]
    split
    · rename_i e
      subst e
      have := hb _ hi
      cases this
    · exact hi
theorem rel_weak {K : Prot} {β : Env} {w : World} {bs : List Blk} {r : Nat} {c c' : List Value} {e : TypeId} {x : Bool} (hb : bs[r]? = some (.cells c e x)) (hl' : c'.length = c.length) (hv : ∀ β l, VRL β c l → VRL β c' l) (hr : Rel P K β (mkSt bs) w) : Rel P K β (mkSt (bs.set r (.cells c' e x))) w := by
  have hlt : r < bs.length := (List.getElem?_eq_some_iff.1 hb).1
  have hget : ∀ (i : Nat) b, (mkSt (bs.set r (.cells c' e x))).heap.get i = some b → ∃ b0, (mkSt bs).heap.get i = some b0 ∧ (b0 = b ∨ (i = r ∧ b0 = .cells c e x ∧ b = .cells c' e x)) := by
    intro i b hi
    rw [mkSt_get, List.getElem?_set] at hi
    split at hi
    · rename_i hir
      subst hir
      exact ⟨_, by rw [mkSt_get]; exact hb, Or.inr ⟨rfl, rfl, (Option.some.inj hi).symm⟩⟩
    · exact ⟨b, by rw [mkSt_get]; exact hi, Or.inl rfl⟩
  have hlive : ∀ (i : Nat) b, (mkSt (bs.set r (.cells c' e x))).heap.get i = some b → b.live = true → ∃ b0, (mkSt bs).heap.get i = some b0 ∧ b0.live = true ∧ (b0 = b ∨ (b0 = .cells c e x ∧ b = .cells c' e x)) := by
    intro i b hi hl
    obtain ⟨b0, h1, h2 | ⟨_, h2, h3⟩⟩ := hget i b hi
    · exact ⟨b0, h1, by rw [h2]; exact hl, Or.inl h2⟩
    · exact ⟨b0, h1, by rw [h2]; rfl, Or.inr ⟨h2, h3⟩⟩
  have hnx : (mkSt (bs.set r (.cells c' e x))).next = (mkSt bs).next := by show (bs.set r _).length = bs.length; simp
  refine ⟨hr.base, fun i l hi => by rw [hnx]; exact hr.dom i l hi, fun i b hi hl => ?_, fun i j bi bj li lj hi hbi hj hbj => ?_, fun i hi => by rw [hnx]; exact hr.res i hi, hr.nofz, fun k l hk => ?_, ?_⟩
  · obtain ⟨b0, h1, h2, h3⟩ := hlive i b hi hl
    obtain ⟨l, a1, a2, a3⟩ := hr.blk i b0 h1 h2
    refine ⟨l, a1, a2, ?_⟩
    rcases h3 with rfl | ⟨rfl, rfl⟩
    · exact a3
    · rcases a3 with ⟨q1, q2, q3⟩ | ⟨q0, cc, f, q1, q2, q3, q4, q5, q6, q7⟩
      · subst q2
        exact Or.inl ⟨q1, List.length_eq_zero_iff.1 (by simpa using hl'), q3⟩
      · exact Or.inr ⟨q0, cc, f, q1, q2, q3, by rw [hl']; exact q4, fun hx => by rw [hl']; exact q5 hx, by rw [hl']; exact hv _ _ q6, q7⟩
  · obtain ⟨b0, h1, h2, _⟩ := hlive i bi hi hbi
    obtain ⟨b1, k1, k2, _⟩ := hlive j bj hj hbj
    exact hr.inj i j b0 b1 li lj h1 h2 k1 k2
  · obtain ⟨f1, f2, f3⟩ := hr.frz k l hk
    refine ⟨f1, f2, fun j bj lj hj hbj => ?_⟩
    obtain ⟨b1, k1, k2, _⟩ := hlive j bj hj hbj
    exact f3 j b1 lj k1 k2
  · refine hr.objs.step rfl (Env.le.refl _) (Nat.le_refl _) (fun _ _ _ => rfl) (fun i o => ⟨fun hi => ?_, fun hi => ?_⟩) (fun i k o l _ _ hk hK hf hj => ⟨rfl, hK, hf, fun j bj lj hj1 hj2 => ?_⟩)
    · obtain ⟨b0, h1, h2 | ⟨_, _, h3⟩⟩ := hget i _ hi
      · rw [h2] at h1; exact h1
      · cases h3
    · rw [mkSt_get] at hi ⊢
      rw [List.getElem?_set]
      split
      · rename_i hir
        subst hir
        rw [hb] at hi; cases hi
      · exact hi
    · obtain ⟨b1, k1, k2, _⟩ := hlive j bj hj1 hj2
      exact hj j b1 lj k1 k2
noncomputable def overQ (P : Program) (E : Eng) (ct : Ct) (n fid : Nat) (B : Code) (H : Head) (vs : List Value) (bs : List Blk) : Res :=
  match B with
  | .seq (.region _ ops false) rest => match ops.toList with
    | o :: os => match o.dst with
      | some d => opsF P E ct (knotQ P E ct n n) H.nt none ops os (setP (path d) (mkS H.nt H.L vs) (.tuple ⟨[.bool false]⟩)) [] (mkSt bs) fun s d st => codeQ P E ct n (knotQ P E ct n n) fid H.nt none rest s d st (kontL H)
      | none => none
    | [] => none
  | _ => none
theorem over_reach {E : Eng} (hE : EngOk P ct E) (hN : noNum P = true) (hct : CtOk P ct) {n fid id : Nat} {B : Code} {H : Head} (hocc : Occ P fid (.block id (.loop B))) (hL : okL H = true) {it : Operand} (hB : FirstNext B H it) {vs vs1 : List Value} {bs bs1 : List Blk} {r m since last clock : Nat} {seen : List Nat} {es : List MapEntry} {ex : Ex}
    (hit : (H.fr vs).eval it = .pointer (some ⟨r, 0, none⟩)) (h1 : bs[r]? = some (.miter (some m) since seen last)) (h2 : bs[m]? = some (.map es clock)) (hnew : es.all (fun e => decide (e.born ≥ last)) = false ∨ seen = []) (hleft : leftM seen es = [])
    (h : overQ P E ct n fid B H vs bs = some (.tuple ⟨exV ex :: vs1⟩, mkSt bs1))
    (K : Prot) (β : Env) (w : World) (fr : Frame) (cs : List Frame) (k : List Item) (hid : ∀ i, K.id i → i < H.N) (ht : fr.todo = .code B :: k) (hfid : fr.fn = fid) (hf : FrR β (H.fr vs) fr) (hr : Rel P K β (mkSt bs) w) :
    ReachN H.N P K β fr cs w ex k (H.fr vs1) (mkSt bs1) := by
  obtain ⟨⟨rid, ops, rest, o, os, d, rfl, hops, ho, hg, hd, hdn⟩⟩ := hB
  have g1 : (mkSt bs).heap.get r = some (.miter (some m) since seen last) := by rw [mkSt_get]; exact h1
  have g2 : (mkSt bs).heap.get m = some (.map es clock) := by rw [mkSt_get]; exact h2
  have s1 := s_seq (P := P) (cs := cs) (w := w) hf.mode ht
  have s2 := s_region (P := P) (fr := { fr with todo := .code (.region rid ops false) :: .code rest :: k }) (cs := cs) (w := w) hf.mode rfl
  have hsz : ops.size = os.length + 1 := by have := congrArg List.length hops; simpa using this
  have hrg : List.range ops.size = 0 :: List.range' 1 os.length := by rw [hsz, range_eq, List.range'_succ]
  have ho0 : ops[0]? = some o := by
    have : ops.toList[0]? = some o := by rw [hops]; rfl
    simpa using this
  have hev : evOp P (H.fr vs).eval o (mkSt bs) = some (.val (.tuple #[.bool false]) (mkSt bs)) := by
    have hgd : (!seen.isEmpty && !es.isEmpty && es.all (fun e => decide (e.born ≥ last))) = false := by
      rcases hnew with h | h
      · rw [h, Bool.and_false]
      · rw [h]; rfl
    simp only [evOp, ho, hit, g1, g2]
    have hl : es.filter (fun e => !seen.contains e.born) = [] := hleft
    rw [hgd, hl]
    rfl
  obtain ⟨β1, w1, v', a1, a2, a3, a4, a5⟩ := sound_next_map (ρ := (H.fr vs).eval) (ρ' := fr.eval) hr hf.eval ho hev
  unfold overQ at h
  simp only [hops, hd] at h
  have hw : Region.wanted o (yielded ops ({ fr with todo := .inRegion ops (List.range ops.size) :: .code rest :: k } : Frame).tmps) = true :=
    wantedF_eq (f := H.fr vs) (β := β) (fr := { fr with todo := .inRegion ops (List.range ops.size) :: .code rest :: k }) ⟨hf.slots, hf.defers, hf.round, hf.mode⟩ ops (by unfold wantedF; rw [hg])
  have s3 := s_op_value (P := P) (fr := { fr with todo := .inRegion ops (List.range ops.size) :: .code rest :: k }) (cs := cs) (w := w) (ops := ops) (i := 0) (rest := List.range' 1 os.length) (o := o) (k := .code rest :: k) hf.mode (by rw [hrg]) ho0 hw (Or.inl (by have := hf.round; exact this)) a1
  have hput : (H.fr vs).put o.dst (.tuple #[.bool false]) = some { H.fr vs with slots := (H.fr vs).slots.set d (.tuple #[.bool false]) } := by
    unfold Fr.put
    rw [hd]
    exact if_pos hdn
  have hf3 := (FrR.put (o := o) (FrR.mono a2 ⟨hf.slots, hf.defers, hf.round, hf.mode⟩) hput a4 (.inRegion ops (List.range' 1 os.length) :: .code rest :: k) : FrR β1 _ (putF fr o v' _))
  obtain ⟨n1, s', d', st', b1, b2⟩ := opsF_spec hE (knotQ_ok hE n n) os 1 _ _ _ _ _ (by
    intro j
    have : ops.toList[j + 1]? = os[j]? := by rw [hops]; rfl
    rw [← this, Nat.add_comm 1 j]; simp) h
  obtain ⟨n2, e2, s2', d2', st2', c1, c2⟩ := codeQ_ok hE (knotQ_ok hE n n) n fid H.nt none rest _ _ _ _ _ b2
  have hsp : setP (path d) (mkS H.nt H.L vs) (.tuple ⟨[.bool false]⟩) = (H.fr vs).slots.set d (.tuple #[.bool false]) := setP_path _ _ _
  rw [hsp] at b1
  have r1 := (sound_all hN hct n1 K).ops ops _ _ _ _ _ b1 β1 w1 (putF fr o v' (.inRegion ops (List.range' 1 os.length) :: .code rest :: k)) cs (.code rest :: k) rfl hf3 a3
  have r2 := r1.andThen (e := e2) (k2 := k) (f2 := ⟨s2', H.nt, d2', none⟩) (st2 := st2') fun β2 fr2 w2 t2 f2 q2 q3 =>
    (sound_all hN hct n2 K).code fid rest _ _ _ _ _ c1 (hocc.sub (.block (.loop (.seqr (.refl _))))) β2 w2 fr2 cs k t2 (f2.trans hfid) q2 q3
  obtain ⟨β2, fr1, w2, p1, p2, p3, p4, p5, p6, p7, p8, p9⟩ := r2
  unfold kontL at c2
  split at c2
  · split at c2
    · rename_i rr hc
      obtain ⟨vs2, bs2⟩ := rr
      simp only [Option.some.injEq, Prod.mk.injEq, Value.tuple.injEq, Array.mk.injEq, List.cons.injEq] at c2
      obtain ⟨⟨hee, rfl⟩, hst⟩ := c2
      obtain rfl := exV_inj hee
      obtain ⟨β3, z1, z2, z3⟩ := canon_rel hc p3 p5.slots hid (fun t ht => by
        unfold okL at hL
        exact Nat.le_of_ble_eq_true (List.all_eq_true.1 hL t ht))
      refine ⟨β3, fr1, w2, .head s1 (.head s2 (.head s3 p1)), ((a2.trans p2).leN _).trans z1, by rw [← hst]; exact z2, a5.trans p4, ⟨z3, by have := p5.defers; unfold DefsR at this; rw [this]; rfl, by have := p5.round; exact this, p5.mode⟩, p6, p7, p8, p9⟩
    · cases c2
  · cases c2
theorem LR.over {E : Eng} (hE : EngOk P ct E) (hN : noNum P = true) (hct : CtOk P ct) {n fid id : Nat} {B : Code} {H : Head} (hocc : Occ P fid (.block id (.loop B))) (hL : okL H = true) {it : Operand} (hB : FirstNext B H it) {vs vs1 : List Value} {bs bs1 bs' : List Blk} {r m since last clock : Nat} {seen : List Nat} {es : List MapEntry} {j : Nat}
    (hit : (H.fr vs).eval it = .pointer (some ⟨r, 0, none⟩)) (h1 : bs[r]? = some (.miter (some m) since seen last)) (h2 : bs[m]? = some (.map es clock)) (hnew : es.all (fun e => decide (e.born ≥ last)) = false ∨ seen = []) (hleft : leftM seen es = [])
    (h : overQ P E ct n fid B H vs bs = some (.tuple ⟨exV (.exit j) :: vs1⟩, mkSt bs1)) (hj : Nat.beq j id = true) (hb : ∀ K β w, Rel P K β (mkSt bs1) w → Rel P K β (mkSt bs') w) : LR P fid id B H vs bs .normal vs1 bs' := by
  intro K β w fr cs k hid ht hfid hf hr
  obtain ⟨β1, fr1, w1, a1, a2, a3, a4, a5, a6, a7, a8, a9⟩ := over_reach hE hN hct hocc hL hB hit h1 h2 hnew hleft h K β w fr cs _ hid ht hfid hf hr
  have a9 := a9.under (by intro h; cases h) (fun i e => by cases e)
  obtain ⟨k2, q1, q2⟩ := a9
  obtain rfl := Nat.eq_of_beq_eq_true hj
  have hx : exitTo j k2 = some k := by rw [q2]; simp [exitTo]
  exact ⟨β1, { fr1 with todo := k }, w1, a1.trans (.one (s_exit a5.mode q1 hx)), a2, hb _ _ _ a3, a4, a5.todo k, a6, a7, a8, rfl⟩
theorem oneLP_ok {σ : Type} (k : Con σ) {fid id : Nat} {B : Code} {H : Head} (hocc : ∀ c, Occ P fid (.block id c) → c = .loop B) (hL : okL H = true) {s : σ} {t : DT (Ex × List Value × List Blk)}
    (h : ∀ e vs' bs', t.eval = some (e, vs', bs') → LR P fid id B H (k.enc s).1 (k.enc s).2 e vs' bs') : LoopOk P fid id B H (oneL (k.at s) t) where
  occ := hocc
  ok := hL
  run := by
    intro vs bs t' hR e vs' bs' hev
    unfold oneL at hR
    obtain rfl := Option.some.inj hR
    cases hc : k.at s vs bs with
    | false => rw [hc] at hev; cases hev
    | true =>
      rw [hc] at hev
      have hev : t.eval = some (e, vs', bs') := hev
      have := h e vs' bs' hev
      rwa [k.at_of hc] at this
end
end Go.VS
end
