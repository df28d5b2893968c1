/- The law 'OpCalls', where what it reads is of bulk at most 1048576: the call returns true. Conditions: none. -/
import Derived.Test.YtbdeppefllcocaaOpCallsP3
import Derived.Test.YtbdeppefllcocaaOpCallsP6
import Derived.WalkKit
import Derived.ProofKit
import Derived.OpenShut
import Derived.Carry
import Derived.ChangeSlices
import Derived.Test.YtbdeppefllcocaaRows
import Derived.JoinedCond
section
namespace Go.VS.Try
set_option linter.unusedSimpArgs false
set_option linter.unusedVariables false
set_option maxRecDepth 1000000
open Go.VS
theorem need_tt {x : Res} : needB true x = x := rfl
theorem fzW_iff {n : Nat} {l : List UInt8} : fzW 18446744073709551617 n (bc l) = true ↔ n = l.length ∧ l.length + 128 ≤ 4194304 := by
  unfold fzW
  rw [Bool.and_eq_true, fz_iff, ble_iff, bc_length]
  constructor
  · rintro ⟨⟨h1, _⟩, h2⟩; exact ⟨h1, h2⟩
  · rintro ⟨h1, h2⟩; exact ⟨⟨h1, by omega⟩, h2⟩
theorem cop_iff {n : Nat} {l : List UInt8} : copC 18446744073709551617 n (bc l) = true ↔ (n = l.length ∧ l.length + 64 ≤ 4194304) ∧ 1 ≤ n := by
  unfold copC
  rw [Bool.and_eq_true, fz_iff, ble_iff]
theorem ovr_iff {n : Nat} {l : List UInt8} : ovrC ⟨0, 0, none⟩ n 18446744073709551616 (bc l) 5 = true ↔ n = l.length ∧ n + 1 ≤ 9223372036854775807 := by
  unfold ovrC
  simp only [Bool.and_eq_true, ble_iff, beq_iff, bytesB_bc, bc_length]
  constructor
  · rintro ⟨⟨_, h1⟩, h2⟩; exact ⟨h1, h2⟩
  · rintro ⟨h1, h2⟩; exact ⟨⟨⟨⟨⟨rfl, rfl⟩, rfl⟩, trivial⟩, h1⟩, h2⟩
theorem same_iff {a b : List UInt8} : sameL a b = true ↔ a = b := by unfold sameL; simp
theorem encT_len (s : ByteArray) : (encT s).length ≤ s.size + 11 := by
  have := varM_length s.size
  unfold encT; rw [List.length_append, ← size_eq]; omega
theorem encO_len {p : Bool} {k v : ByteArray} (ho : opOk p k v = true) : 1 ≤ (encO p k v).length ∧ (encO p k v).length ≤ 71 := by
  obtain ⟨h1, h2, h3, h4⟩ := opOk_of ho
  have := encT_len k
  have := encT_len v
  cases p <;> simp [encO] <;> omega
theorem opCallsT_run {l : List UInt8} {b : Nat} {p : Bool} {k v : ByteArray} (hl : l.length ≤ 1048576) (ho : opOk p k v = true) :
    callQ P E (ctC true) 200 8 [mkFz 1 l.length b (bc l), .agg ⟨[.bool p, .string k, .string v]⟩] = some (.bool true, mkSt []) := by
  unfold ctC
  rw [dec_opCallsT]
  have hz : opZ true p k v = true := ho
  have hG : lentM (bc l) = bc (l ++ tailB) := by unfold lentM; rw [bc_append]
  have hL : lapN 0 (lenI l.length) = l.length := by unfold lapN lenI; simp
  have hlen : (l ++ tailB).length = l.length + 3 := by simp [tailB]
  obtain ⟨hx1, hx2⟩ := encO_len ho
  have hx : (appO l p k v).length = l.length + (encO p k v).length := by unfold appO; simp
  have hS : eqS (textT p k v) (textT p k v) = true := by rw [eqS_eq]; exact beq_self_eq_true _
  generalize hX : appO l p k v = x at hx
  simp only [hG, bc_ren, hL, lent_front, lent_take l (l.length + 3) rfl, bc_back, hX, hz, hS, bc_length, hlen, take_bc rfl, Nat.sub_zero]
  have d1 : ((l.length + 3).sub 0).div 1 = l.length + 3 := by show (l.length + 3 - 0) / 1 = _; simp
  have m1 : Nat.add 0 (l.length.mul 1) = l.length := by show 0 + l.length * 1 = _; omega
  have m2 : Nat.add 0 (x.length.mul 1) = x.length := by show 0 + x.length * 1 = _; omega
  have m3 : Nat.add 0 ((l.length + 3).mul 1) = l.length + 3 := by show 0 + (l.length + 3) * 1 = _; omega
  have c1 : Nat.ble 1 (l.length + 3) = true := ble_ok (by omega)
  have cu : cutI 0 (lenI l.length) (l.length + 3) = true := cutI_ok (by omega) (by unfold lenI; omega) (by unfold lenI; omega)
  have b1 : Nat.ble l.length (l.length + 3) = true := ble_ok (by omega)
  have b2 : Nat.ble x.length x.length = true := ble_ok (Nat.le_refl _)
  have b3 : Nat.ble (l.length + 3) (l.length + 3) = true := ble_ok (Nat.le_refl _)
  have e1 : Nat.ble 1 1 = true := rfl
  have fl : fzB 18446744073709551617 l.length (bc l) = true := fz_iff.2 ⟨rfl, by omega⟩
  have fw : fzW 18446744073709551617 l.length (bc l) = true := fzW_iff.2 ⟨rfl, by omega⟩
  have fx : fzB 18446744073709551617 x.length (bc x) = true := fz_iff.2 ⟨rfl, by omega⟩
  have cx : copC 18446744073709551617 x.length (bc x) = true := cop_iff.2 ⟨⟨rfl, by omega⟩, by omega⟩
  have ox : ovrC ⟨0, 0, none⟩ x.length 18446744073709551616 (bc x) 5 = true := ovr_iff.2 ⟨rfl, by omega⟩
  have sx : sameL x x = true := same_iff.2 rfl
  generalize hY : l ++ tailB = y at hlen
  have fy : fzB 18446744073709551617 (l.length + 3) (bc y) = true := fz_iff.2 ⟨hlen.symm, by omega⟩
  have cy : copC 18446744073709551617 (l.length + 3) (bc y) = true := cop_iff.2 ⟨⟨hlen.symm, by omega⟩, by omega⟩
  have oy : ovrC ⟨0, 0, none⟩ (l.length + 3) 18446744073709551616 (bc y) 5 = true := ovr_iff.2 ⟨hlen.symm, by omega⟩
  have sy : sameL y y = true := same_iff.2 rfl
  simp only [d1, m1, m2, m3, c1, cu, b1, b2, b3, e1, fl, fw, fx, cx, ox, sx, fy, cy, oy, sy, bc_flat, Bool.and_self, ite_tt, need_tt]
  rw [← hlen]
  exact need_eq (apC_mk (Or.inl rfl) (by omega) (by omega) (by omega)) (need_eq (apC_mk (Or.inr (Or.inl rfl)) (by omega) (by omega) (by omega)) (need_eq (apC_mk (Or.inr (Or.inr rfl)) (by omega) (by omega) (by omega)) (need_eq (beqO p k v) rfl)))
theorem opCallsF_run {l : List UInt8} {b : Nat} {p : Bool} {k v : ByteArray} (hl : l.length ≤ 1048576) (ho : opOk p k v = false) :
    callQ P E (ctC false) 200 8 [mkFz 1 l.length b (bc l), .agg ⟨[.bool p, .string k, .string v]⟩] = some (.bool true, mkSt []) := by
  unfold ctC
  rw [dec_opCallsF]
  have hz : opZ false p k v = true := by unfold opZ; rw [ho]; rfl
  have hG : lentM (bc l) = bc (l ++ tailB) := by unfold lentM; rw [bc_append]
  have hL : lapN 0 (lenI l.length) = l.length := by unfold lapN lenI; simp
  have hlen : (l ++ tailB).length = l.length + 3 := by simp [tailB]
  simp only [hG, bc_ren, hL, lent_front, lent_take l (l.length + 3) rfl, bc_back, hz, bc_length, hlen, take_bc rfl, Nat.sub_zero]
  have d1 : ((l.length + 3).sub 0).div 1 = l.length + 3 := by show (l.length + 3 - 0) / 1 = _; simp
  have m1 : Nat.add 0 (l.length.mul 1) = l.length := by show 0 + l.length * 1 = _; omega
  have m3 : Nat.add 0 ((l.length + 3).mul 1) = l.length + 3 := by show 0 + (l.length + 3) * 1 = _; omega
  have c1 : Nat.ble 1 (l.length + 3) = true := ble_ok (by omega)
  have cu : cutI 0 (lenI l.length) (l.length + 3) = true := cutI_ok (by omega) (by unfold lenI; omega) (by unfold lenI; omega)
  have b1 : Nat.ble l.length (l.length + 3) = true := ble_ok (by omega)
  have b3 : Nat.ble (l.length + 3) (l.length + 3) = true := ble_ok (Nat.le_refl _)
  have e1 : Nat.ble 1 1 = true := rfl
  have fl : fzB 18446744073709551617 l.length (bc l) = true := fz_iff.2 ⟨rfl, by omega⟩
  have fw : fzW 18446744073709551617 l.length (bc l) = true := fzW_iff.2 ⟨rfl, by omega⟩
  generalize hY : l ++ tailB = y at hlen
  have fy : fzB 18446744073709551617 (l.length + 3) (bc y) = true := fz_iff.2 ⟨hlen.symm, by omega⟩
  have cy : copC 18446744073709551617 (l.length + 3) (bc y) = true := cop_iff.2 ⟨⟨hlen.symm, by omega⟩, by omega⟩
  have oy : ovrC ⟨0, 0, none⟩ (l.length + 3) 18446744073709551616 (bc y) 5 = true := ovr_iff.2 ⟨hlen.symm, by omega⟩
  have sy : sameL y y = true := same_iff.2 rfl
  simp only [d1, m1, m3, c1, cu, b1, b3, e1, fl, fw, fy, cy, oy, sy, bc_flat, Bool.and_self, ite_tt, need_tt]
  rw [← hlen]
  exact need_eq (aqC_mk (by omega)) (need_eq (beqO p k v) rfl)
end Go.VS.Try
end

section
namespace Go.VS
set_option linter.unusedSimpArgs false
set_option linter.unusedVariables false
section
variable {P : Program}

theorem cell_one {w : World} {r : Reach} {base : Nat} {t : TypeId} {v : Value} (h : Cell.okWide P w r base t v) : v.oneCell' = true := by
  cases v with
  | agg cs => cases hu : P.underlying t with
    | none => simp [Cell.okWide, Cell.ok, hu] at h
    | some d => cases d <;> simp [Cell.okWide, Cell.ok, hu] at h
  | tuple cs => cases hu : P.underlying t with
    | none => simp [Cell.okWide, Cell.ok, hu] at h
    | some d => cases d <;> simp [Cell.okWide, Cell.ok, hu] at h
  | _ => rfl

theorem vrl_tops {β : Env} : ∀ (l : List Value), (∀ v ∈ l, v.oneCell' = true) → VRL β (List.replicate l.length (.chan (some 0))) l
  | [], _ => VRL.nil
  | v :: l, h => VRL.cons (h v (by simp)) (vrl_tops l fun x hx => h x (by simp [hx]))

theorem top_struct {β : Env} {w : World} {r : Reach} {base : Nat} {t : TypeId} {v : Value} {fs : Array Field} {n : Nat} (ht : P.underlying t = some (.struct fs)) (hn : P.cellsOf t = n) (h : Value.okWide P w r base t v) :
    VR β (.agg ⟨List.replicate n (.chan (some 0))⟩) v := by
  unfold Value.okWide at h
  rw [ht] at h
  obtain ⟨cs, rfl, hsz, ts, _, _, hc⟩ := h
  refine ⟨cs, rfl, ?_⟩
  obtain ⟨l⟩ := cs
  have hl : l.length = n := by rw [← hn, ← hsz]; rfl
  show VRL β (List.replicate n (.chan (some 0))) l
  rw [← hl]
  refine vrl_tops l fun v hv => ?_
  obtain ⟨i, hi⟩ := List.getElem?_of_mem hv
  obtain ⟨u, _, hu⟩ := hc i v (by simpa using hi)
  exact cell_one hu

theorem top_int {β : Env} {w : World} {r : Reach} {base : Nat} {t : TypeId} {v : Value} {k : IntKind} (ht : P.underlying t = some (.int k)) (h : Value.okWide P w r base t v) : VR β (.chan (some 0)) v := by
  unfold Value.okWide at h
  rw [ht] at h
  exact cell_one h

theorem struct_cells {w : World} {r : Reach} {base : Nat} {t : TypeId} {v : Value} {fs : Array Field} {ts : List TypeId} (ht : P.underlying t = some (.struct fs)) (hts : P.cellTypes P.depth t = some ts) (hn : P.cellsOf t = ts.length) (h : Value.okWide P w r base t v) :
    ∃ l : List Value, v = .agg ⟨l⟩ ∧ l.length = ts.length ∧ ∀ (i : Nat) u x, ts[i]? = some u → l[i]? = some x → Cell.okWide P w r base u x := by
  unfold Value.okWide at h
  rw [ht] at h
  obtain ⟨cs, rfl, hsz, ts', h1, _, hc⟩ := h
  rw [hts] at h1
  obtain rfl := Option.some.inj h1
  obtain ⟨l⟩ := cs
  have hl : l.length = ts.length := by rw [← hn, ← hsz]; rfl
  refine ⟨l, rfl, hl, fun i u x hu hx => ?_⟩
  obtain ⟨u', h1, h2⟩ := hc i x (by simpa using hx)
  have : i < ts.length := (List.getElem?_eq_some_iff.1 hu).1
  rw [Nat.mod_eq_of_lt this, hu] at h1
  obtain rfl := Option.some.inj h1
  exact h2
theorem cell_int {w : World} {r : Reach} {base : Nat} {t : TypeId} {k : IntKind} {v : Value} (ht : P.underlying t = some (.int k)) (h : Cell.okWide P w r base t v) : ∃ n, v = .int k n :=
  WideShapes.okWide_int ht (by unfold Value.okWide; rw [ht]; exact h)
theorem cell_string {w : World} {r : Reach} {base : Nat} {t : TypeId} {v : Value} (ht : P.underlying t = some .string) (h : Cell.okWide P w r base t v) : ∃ s, v = .string s :=
  WideShapes.okWide_string ht (by unfold Value.okWide; rw [ht]; exact h)
theorem cell_bool {w : World} {r : Reach} {base : Nat} {t : TypeId} {v : Value} (ht : P.underlying t = some .bool) (h : Cell.okWide P w r base t v) : ∃ b, v = .bool b :=
  WideShapes.okWide_bool ht (by unfold Value.okWide; rw [ht]; exact h)
theorem vr_agg {β : Env} {l l' : List Value} (h : VRL β l l') : VR β (.agg ⟨l⟩) (.agg ⟨l'⟩) := ⟨_, rfl, h⟩
theorem vr_int {β : Env} {k : IntKind} {n : Int} : VR β (.int k n) (.int k n) := rfl
theorem vr_string {β : Env} {s : ByteArray} : VR β (.string s) (.string s) := rfl
theorem vr_bool {β : Env} {b : Bool} : VR β (.bool b) (.bool b) := rfl
theorem vr_top {β : Env} {v : Value} (h : v.oneCell' = true) : VR β (.chan (some 0)) v := h
end
end Go.VS
end

section
namespace Go.VS
set_option linter.unusedSimpArgs false
set_option linter.unusedVariables false
section
variable {P : Program}

theorem add_zero (a : Addr) : a.add 0 = a := by unfold Addr.add; simp
theorem spot_none {w : World} {a : Addr} {v : Value} (h : w.cell? (a.add 0) = some v) : a.spot = none := by
  rw [add_zero] at h
  unfold World.cell? at h
  split at h
  · cases hs : a.spot with
    | none => rfl
    | some s => rw [hs] at h; cases h
  · cases h
theorem cell_get {w : World} {a : Addr} {i : Nat} {v : Value} (hs : a.spot = none) (h : w.cell? (a.add i) = some v) : ∃ c e f, w.heap[a.block]? = some (.cells c e f) ∧ c[a.off + i]? = some v := by
  have : a.add i = ⟨a.block, a.off + i, none⟩ := by
    obtain ⟨b, o, s⟩ := a
    cases hs; simp [Addr.add]
  rw [this] at h
  unfold World.cell? at h
  split at h
  · rename_i c e f hg
    exact ⟨c, e, f, hg, by simpa using h⟩
  · cases h

theorem seg_vr {w : World} {a : Addr} {cs : List Value} {n sz cap : Nat} (hsz : sz ≠ 0) (hcap : n ≤ cap) (hlen : cs.length = n * sz) (hf : flatL cs = true) (hc : ∀ i v, cs[i]? = some v → w.cell? (a.add i) = some v) (h1 : ∀ v ∈ cs, v.oneCell' = true) : VR (envOf w) (mkFz sz n 0 cs) (.slice (some a) n cap) := by
  refine fz_mk hsz ?_
  unfold FrzR
  rw [if_neg hsz]
  refine ⟨hlen, ?_⟩
  by_cases hn : n = 0
  · exact Or.inr (Or.inl ⟨hn, a, cap, by rw [hn], fun h => absurd rfl h⟩)
  · have h0 : 0 < cs.length := by rw [hlen]; exact Nat.mul_pos (by omega) (by omega)
    obtain ⟨v0, hv0⟩ : ∃ v, cs[0]? = some v := ⟨_, List.getElem?_eq_getElem h0⟩
    have g2 := spot_none (hc 0 v0 hv0)
    obtain ⟨c, e, f, g1, g3⟩ := cell_get g2 (hc 0 v0 hv0)
    have hget : ∀ i v, cs[i]? = some v → c[a.off + i]? = some v := by
      intro i v hi
      obtain ⟨c', e', f', k1, k3⟩ := cell_get g2 (hc i v hi)
      rw [g1] at k1
      simp only [Option.some.injEq, Obj.cells.injEq] at k1
      obtain ⟨rfl, rfl, rfl⟩ := k1
      exact k3
    have hseg : (c.toList.drop a.off).take cs.length = cs := by
      apply List.ext_getElem?
      intro i
      rw [List.getElem?_take]
      split
      · rename_i hi
        rw [List.getElem?_drop, List.getElem?_eq_getElem hi]
        have := hget i _ (List.getElem?_eq_getElem hi)
        rw [Array.getElem?_toList]; exact this
      · rename_i hi
        rw [List.getElem?_eq_none (by omega)]
    have hle : a.off + cs.length ≤ c.size := by
      have := hget (cs.length - 1) _ (List.getElem?_eq_getElem (by omega))
      have := (Array.getElem?_eq_some_iff.1 this).1
      omega
    have haddr : a = ⟨a.block, a.off, none⟩ := by
      obtain ⟨b, o, s⟩ := a
      cases g2; rfl
    have henv : envOf w (Int.negSucc a.block) = some ⟨a.block, 0, 0, 0, some (.cells c e f), false⟩ := by simp [envOf, g1]
    refine Or.inr (Or.inr ⟨by omega, a.block, a.off, cap, c, e, f, _, by rw [← haddr], fun h => absurd rfl h, henv, rfl, hle, ?_, ?_⟩)
    · rw [negE_envOf, hseg]
      exact VRL.flat_refl _ hf
    · exact hcap

variable {H : Type} {enc : TypeId × Value → H}
open Go.ChangeShapes in
/-- A list of ints that came in. -/
theorem open_ints_vr {w : World} {t e : TypeId} {k : IntKind} {v : Value} {d : DataW H} {ps : List MemPlace} {r : Reach} {b0 : Nat} (ht : P.underlying t = some (.slice e)) (he : P.underlying e = some (.int k)) (hc : P.cellsOf e = 1)
    (hval : Value.okWide P w r b0 t v) (h : DataW.Trod enc P w 0 (fun _ => true) true t v d ps) :
    ∃ zs rest : List Int, VR (envOf w) (mkFz 1 zs.length 0 (zs.map (Value.int k))) v ∧ (d = .nil ∧ zs = [] ∨ d = .slice (lits k zs) (lits k rest)) ∧ ∀ n ∈ zs, (Lit.int k n).wf = true := by
  have hv : v.cells = #[v] := by
    unfold Value.okWide at hval
    rw [ht] at hval
    have := cell_one hval
    cases v <;> first | rfl | simp [Value.oneCell'] at this
  obtain ⟨fuel, h⟩ := h
  rw [hv] at h
  rcases open_ints ht he hc h with ⟨h1, h2⟩ | ⟨a, len, cap, zs, h1, h2, h3, h4, h5, h6, h7, h8⟩
  · simp only [List.cons.injEq, and_true] at h1
    subst h1
    simp only [Prod.mk.injEq] at h2
    refine ⟨[], [], ?_, Or.inl ⟨h2.1, rfl⟩, by simp⟩
    refine fz_mk (by decide) ?_
    unfold FrzR
    rw [if_neg (by decide)]
    exact ⟨rfl, Or.inl ⟨rfl, by omega, rfl⟩⟩
  · simp only [List.cons.injEq, and_true] at h1
    subst h1
    simp only [if_true] at h5
    simp only [Prod.mk.injEq] at h6
    refine ⟨zs.take len, zs.drop len, ?_, Or.inr h6.1, fun n hn => h8 n (List.mem_of_mem_take hn)⟩
    have hl : (zs.take len).length = len := by rw [List.length_take]; omega
    rw [hl]
    refine seg_vr (by decide) h3 (by rw [List.length_map, hl, Nat.mul_one]) ?_ ?_ ?_
    · generalize zs.take len = l
      induction l with
      | nil => rfl
      | cons x l ih => simpa [flatL, flat] using ih
    · intro i v hi
      rw [List.getElem?_map, Option.map_eq_some_iff] at hi
      obtain ⟨n, hn, rfl⟩ := hi
      have hi : i < len := by have := (List.getElem?_eq_some_iff.1 hn).1; omega
      rw [h7 i (by omega)]
      rw [List.getElem?_take, if_pos hi] at hn
      rw [List.getD_eq_getElem?_getD, hn]; rfl
    · intro v hv
      obtain ⟨n, _, rfl⟩ := List.mem_map.1 hv
      rfl
theorem bytes_of : ∀ {zs : List Int}, (∀ n ∈ zs, (Lit.int .u8 n).wf = true) → ∃ l : List UInt8, zs.map (Value.int .u8) = l.map (fun b => Value.int .u8 b.toNat) ∧ l.length = zs.length
  | [], _ => ⟨[], rfl, rfl⟩
  | n :: zs, h => by
    obtain ⟨l, h1, h2⟩ := bytes_of (zs := zs) fun m hm => h m (by simp [hm])
    have hn := h n (by simp)
    have hn : 0 ≤ n ∧ n < 256 := by
      simp only [Lit.wf, Bool.and_eq_true, decide_eq_true_eq, show IntKind.u8.min = 0 from rfl, show IntKind.u8.max = 255 from rfl] at hn
      omega
    refine ⟨UInt8.ofNat n.toNat :: l, ?_, by simp [h2]⟩
    simp only [List.map_cons, h1, List.cons.injEq, and_true]
    congr 1
    simp only [UInt8.toNat_ofNat']
    omega
end
end Go.VS
end

section
namespace Go.Proofs.Ytbdeppefllcocaa.opCalls
open Go.ChangeShapes Go.WideShapes Go.ChangeAt Go.RowKit
open Go.ChangeMaps (open_string shut_string)
set_option linter.unusedVariables false
set_option linter.unusedSimpArgs false

theorem own : ownKnob Try.prog.godebug = none := by kernel_rfl
theorem laidOut : laidOutB Try.prog = true := by kernel_rfl

theorem walk {p : Bool} {k u : ByteArray} {l : List UInt8} {v0 v1 : Value} (w : World) (h : VS.VR (VS.envOf w) (VS.mkFz 1 l.length 0 (VS.bc l)) v0) (h1 : VS.VR (VS.envOf w) (.agg ⟨[.bool p, .string k, .string u]⟩) v1) (hl : l.length ≤ 1048576) :
    Calls Try.prog 8 #[v0, v1] w fun e w' => e = .returned (.bool true) ∧ Below w.heap.size w w' := by
  cases ho : VS.Try.opOk p k u with
  | true => exact VS.CR.true_calls (VS.CR.of (VS.Try.engOk (VS.Try.ctC true)) VS.Try.noNum (VS.Try.ctC_ok true) (VS.Try.opCallsT_run (b := 0) hl ho)) (args' := #[v0, v1]) (VS.VRL.cons h (VS.VRL.cons h1 VS.VRL.nil))
  | false => exact VS.CR.true_calls (VS.CR.of (VS.Try.engOk (VS.Try.ctC false)) VS.Try.noNum (VS.Try.ctC_ok false) (VS.Try.opCallsF_run (b := 0) hl ho)) (args' := #[v0, v1]) (VS.VRL.cons h (VS.VRL.cons h1 VS.VRL.nil))

theorem bulk {H : Type} (k : IntKind) : ∀ zs : List Int, Rows.uptoBulkAll (lits (H := H) k zs) = zs.length
  | [] => rfl
  | n :: zs => by
    show Rows.uptoBulk (DataW.lit (H := H) (.int k n)) + Rows.uptoBulkAll (lits (H := H) k zs) = _
    rw [bulk k zs]
    simp only [Rows.uptoBulk, List.length_cons]; omega
set_option maxRecDepth 100000 in
theorem openOp {W : World} {base : Nat} {v : Value} (h : Value.okWide Try.prog W .any base 39 v) : ∃ (p : Bool) (k u : ByteArray), VS.VR (VS.envOf W) (.agg ⟨[.bool p, .string k, .string u]⟩) v := by
  obtain ⟨l, rfl, hl, hc⟩ := VS.struct_cells (ts := [4, 9, 9]) Try.underlying39 (by kernel_rfl) (by kernel_rfl) h
  match l, hl with
  | [c0, c1, c2], _ =>
    obtain ⟨p, rfl⟩ := VS.cell_bool Try.underlying4 (hc 0 _ _ rfl rfl)
    obtain ⟨k, rfl⟩ := VS.cell_string Try.underlying9 (hc 1 _ _ rfl rfl)
    obtain ⟨u, rfl⟩ := VS.cell_string Try.underlying9 (hc 2 _ _ rfl rfl)
    exact ⟨p, k, u, VS.vr_agg (VS.VRL.cons rfl (VS.VRL.cons rfl (VS.VRL.cons rfl VS.VRL.nil)))⟩

theorem contract (H : Type) (enc : TypeId × Value → H) (W : World) (base : Nat) (args : Array Value) (ds gs : List (DataW H)) (before : List MemPlace)
    (hval : ∀ (j : Nat) t v, Try.f8.params[j]? = some t → args[j]? = some v → Value.okWide Try.prog W .any base t v)
    (hW : DataW.Whole enc Try.prog Try.f8.params.toList Rows.opCallsSpec.vars false W args.toList ds gs before) (hk : Rows.uptoSmall H (ds ++ gs) = true) :
    Calls Try.prog 8 args W fun e W' => ∃ v, e = .returned v ∧ Rows.opCallsSpec.post enc Try.prog Try.f8 false true false false W args v W' := by
  have hW' := hW
  obtain ⟨p, q, hA0, hV, rfl, hfz, hnd⟩ := hW
  have hA : DataW.TrodAll enc Try.prog W 0 (fun _ => true) true Try.f8.params.toList args.toList ds p := hA0
  rw [Try.params8] at hA hval
  obtain ⟨v0, vs0, d0, ds0, p0, q0, hargs, rfl, rfl, h0, r0⟩ := trodAll_cons hA
  obtain ⟨v1, vs1, d1, ds1, p1, q1, rfl, rfl, rfl, h1, r1⟩ := trodAll_cons r0
  obtain ⟨rfl, rfl, rfl⟩ := trodAll_nil r1
  obtain rfl : args = #[v0, v1] := by cases args; simp_all
  obtain ⟨rfl, rfl⟩ := trodVars_none hV
  obtain ⟨zs, rest, g0, hd, hwf⟩ := VS.open_ints_vr Try.underlying37 Try.underlying5 (by kernel_rfl) (hval 0 37 v0 rfl rfl) h0
  obtain ⟨l, hl1, hl2⟩ := VS.bytes_of hwf
  have e : zs.map (Value.int .u8) = VS.bc l := hl1
  rw [e, ← hl2] at g0
  obtain ⟨pb, ks, us, g1⟩ := openOp (hval 1 39 v1 rfl rfl)
  clear hA0
  simp only [List.append_nil] at hW' hk
  have hsz : l.length ≤ 1048576 := by
    have h : Rows.uptoBulkAll [d0, d1] ≤ 1048576 := of_decide_eq_true hk
    simp only [Rows.uptoBulkAll] at h
    rcases hd with ⟨_, h2⟩ | rfl
    · rw [hl2, h2]; simp
    · have hb : Rows.uptoBulk (DataW.slice (lits (H := H) .u8 zs) (lits (H := H) .u8 rest)) = zs.length + rest.length + 1 := by
        show Rows.uptoBulkAll (lits (H := H) .u8 zs) + Rows.uptoBulkAll (lits (H := H) .u8 rest) + 1 = _
        rw [bulk, bulk]
      rw [hb] at h
      omega
  have hlt0 : ∀ x ∈ p0, x.block < W.heap.size := fun x hx => by simpa using hW'.lt x (by simp [hx])
  have hlt1 : ∀ x ∈ p1, x.block < W.heap.size := fun x hx => by simpa using hW'.lt x (by simp [hx])
  refine (walk W g0 g1 hsz).mono fun e W' ⟨he, hg⟩ => ?_
  subst he
  refine ⟨_, rfl, _, _, _, [], p0 ++ p1, [], hW', ?_, ?_, rfl, hg.frame _, fun h => by cases h⟩
  · exact trodAll_cons_mk (shut_bool Try.underlying4 _) trodAll_mk0
  · have T2 := (trodAll_mk0 : DataW.TrodAll enc Try.prog W' 0 (fun b => decide (b < W.heap.size)) true [] [] [] [])
    have T1 := trodAll_cons_mk (Below.trod laidOut (by kernel_rfl) (of_decide_eq_true (by kernel_rfl)) h1 hg hlt1) T2
    have T0 := trodAll_cons_mk (Below.trod laidOut (by kernel_rfl) (of_decide_eq_true (by kernel_rfl)) h0 hg hlt0) T1
    simp only [List.append_nil] at T0
    exact T0

set_option maxRecDepth 100000 in
theorem lifted (os : Os) (started : os.Started) (H : Type) (enc : TypeId × Value → H) (F : Stop.Interp) :
    ReturnsInHanded {} Try.checked os 8 .any ((Rows.OpenSpec.upto Rows.opCallsSpec).pre6 enc Try.prog Try.f8 Rows.opCallsUptoRow.domain false) (((Rows.OpenSpec.upto Rows.opCallsSpec).at F).post enc Try.prog Try.f8 false true false false) := by
  refine returnsInHanded_of_cond (C := Try.checked) (s := Rows.OpenSpec.upto Rows.opCallsSpec) (k := Rows.uptoSmall) rfl own started (by kernel_rfl) Try.func8
    (OpenSpec.witness (enc := enc) (C := Try.checked) (s := Rows.OpenSpec.upto Rows.opCallsSpec) (k := Rows.uptoSmall) rfl false ⟨#[], #[.slice none 0 0, .agg #[.bool false, .string .empty, .string .empty]], []⟩ 8 (by kernel_rfl) (by kernel_rfl) (by kernel_rfl)
      (x := ([.nil, .agg [.lit (.bool false), .lit (.string []), .lit (.string [])]], [], [])) (by kernel_rfl) rfl (by kernel_rfl)) ?_
  intro W base args ds gs before hval hW _ hk _
  exact contract H enc W base args ds gs before hval hW hk

theorem proved : Rows.OpCallsUptoSaid :=
  OpenClaim.holds_of_cond 8 Try.f8 rfl rfl rfl rfl rfl rfl rfl ⟨rfl, rfl, rfl, rfl, rfl⟩ rfl rfl rfl rfl rfl (by kernel_rfl) Try.func8 (by kernel_rfl)
    (of_decide_eq_true (by kernel_rfl)) (by unfold Func.isWrapper; first | (rw [if_pos (by decide +kernel)]; kernel_rfl) | (rw [if_neg (by decide +kernel)]; exact ⟨rfl, rfl⟩))
    (fun os started H enc _ F => lifted os started H enc F)
#print axioms proved
end Go.Proofs.Ytbdeppefllcocaa.opCalls
end
