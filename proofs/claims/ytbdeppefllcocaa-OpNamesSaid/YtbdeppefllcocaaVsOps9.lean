/- One operation of the evaluator is one of the model: append. No conditions. -/
import Derived.Test.YtbdeppefllcocaaVsOps8
import Derived.Deep.DeepAppendWide
import Derived.Deep.Upon
namespace Go.VS
set_option linter.unusedSimpArgs false
set_option linter.unusedVariables false
open Go.RowKit
section
variable {P : Program} {K : Prot} {β : Env} {st : St} {w : World}

theorem tailOf_src (hr : Rel P K β st w) {size n : Nat} {new : List Value} {xt : TypeDesc} {tx : TypeId} {x x' : Value} (hx : VR β x x') (hu : P.underlying tx = some xt) (h : tailOf st size xt x = some (n, new)) (h1 : new.all oneCell = true) :
    ∃ new', Src P size tx x' n new' w ∧ VRL β new new' := by
  unfold tailOf at h
  split at h
  · rename_i e a n0 c
    split at h
    · rename_i cs hcs
      simp at h
      obtain ⟨rfl, rfl⟩ := h
      obtain ⟨hs, l, hl, hsl⟩ := hx
      obtain ⟨c2, g1, g2, g3, g4⟩ := hr.cellsAt hcs hl
      obtain ⟨q1, _, _, q2⟩ | ⟨a', c', e1, e2⟩ := hsl.form
      · subst q1 q2
        have hc2 : c2 = [] := by simpa using g2
        subst hc2
        exact ⟨[], Src.ofNil w hu 0, g1⟩
      subst e1
      refine ⟨c2, Src.ofSlice w hu a' n0 c' c2 g2 (fun j u hj => ?_) (g1.oneCells h1), g1⟩
      by_cases hn : n0 = 0
      · subst hn
        have : c2 = [] := by simpa using g2
        subst this; simp at hj
      · rw [e2 hn]; exact g4 j u hj
    · cases h
  · rename_i e n0 c
    split at h
    · rename_i hn
      simp at h
      obtain ⟨rfl, rfl⟩ := h
      have hx : x' = .slice none n0 c := hx
      subst hx hn
      exact ⟨[], Src.ofNil w hu c, VRL.nil⟩
    · cases h
  · rename_i s
    split at h
    · rename_i hsz
      simp at h
      obtain ⟨rfl, rfl⟩ := h
      have hx := hx.string'
      subst hx hsz
      exact ⟨byteCells s, Src.ofString w hu s, byteCells_rel s⟩
    · cases h
  · split at h
    · rename_i z hz
      split at h
      · rename_i hsz
        simp at h
        obtain ⟨rfl, rfl⟩ := h
        obtain ⟨hs0, r⟩ := fzOf_rel hz hx
        unfold FrzR at r
        rw [if_neg hs0] at r
        obtain ⟨r0, r⟩ := r
        obtain ⟨r1, r2, r3⟩ | ⟨r1, p, cap, r2, r3⟩ | ⟨rp, k0, o0, cap, cs, e0, f0, lc, r2, r3, r4, r5, r6, r7, r8⟩ := r
        · have hc : z.cells = [] := by rw [r1] at r0; simpa using r0
          rw [r1, hc, r3]
          exact ⟨[], Src.ofNil w hu 0, VRL.nil⟩
        · have hc : z.cells = [] := by rw [r1] at r0; simpa using r0
          rw [r1, hc, r2]
          exact ⟨[], Src.ofSlice w hu p 0 cap [] (by simp) (fun j u hj => by simp at hj) (by simp), VRL.nil⟩
        · obtain ⟨c', g1, g2, g4⟩ := frz_seg hr r4 r5 r6 (VRL.mono (negE_le _) _ _ r7) (a := 0) (n := z.n * z.sz) (by omega)
          rw [List.drop_zero, List.take_of_length_le (by omega)] at g1
          simp only [Nat.add_zero] at g4
          rw [r2]
          exact ⟨c', Src.ofSlice w hu _ z.n cap c' (by rw [g2, hsz]) g4 (g1.oneCells h1), g1⟩
      · cases h
    · cases h
  · cases h

theorem append_room_run {t tx ty e : TypeId} {i : TypeInfo} (ht : P.underlying t = some (.slice e)) (hi : P.info? e = some i) {a : Addr} {sLen sCap : Nat} {x : Value} {n : Nat} {news : List Value} (hs : Src P i.size tx x n news w)
    (hroom : sLen + n ≤ sCap) {w' : World} (hst : (storeCells (a.add (sLen * i.size)) news).run P w = .ok () w') :
    (Builtin.append_ #[t, tx] ty #[.slice (some a) sLen sCap, x]).run P w = .ok (.slice (some a) (sLen + n) sCap) w' := by
  rcases hs.kind with ⟨e', hk⟩ | hk <;> simp [Builtin.append_, run_underlying ht, run_underlying hk, sizeOf, typeInfo, hi, hs.len, hroom, hs.cells, hst]

theorem big_fits {need old bytes : Nat} (h : old < need) (h1 : need ≤ big) (h2 : bytes ≤ big) : Builtin.nextslicecap need old * bytes ≤ 281474976710656 := by
  have hb : big = 4194304 := rfl
  rw [hb] at h1 h2
  refine growslice_fits_wide h ?_
  calc (need + need / 4 + 192) * bytes ≤ (4194304 + 1048576 + 192) * 4194304 := Nat.mul_le_mul (by omega) h2
    _ ≤ 281474976710656 := by decide

/-- A new row behind which append leaves room. -/
theorem grown_row (hr : Rel P K β st w) {e : TypeId} {i : TypeInfo} {z : Value} (hi : P.info? e = some i) (hz : z.cells.size = i.size) (hs0 : i.size ≠ 0) {need cap : Nat} (hcap : need ≤ cap) {c c' : List Value} (hc : VRL β c c') (hlen : c'.length = need * i.size) :
    ∃ β', β.le β' ∧ Rel P K β' (newRow st c e false).2 (w.drew.alloc (.cells (c'.toArray ++ Builtin.zeroCells z.cells (cap - need)) e)) ∧
      VR β' (.slice (some (newRow st c e false).1) need unk) (.slice (some ⟨w.heap.size, 0, none⟩) need cap) ∧ Bel K w (w.drew.alloc (.cells (c'.toArray ++ Builtin.zeroCells z.cells (cap - need)) e)) := by
  obtain ⟨g1, g2, g3, g4⟩ := hr.drew.newRow hc e false (Builtin.zeroCells z.cells (cap - need)).toList (fun h => by cases h)
  have e1 : (⟨c' ++ (Builtin.zeroCells z.cells (cap - need)).toList⟩ : Array Value) = c'.toArray ++ Builtin.zeroCells z.cells (cap - need) := by
    apply Array.ext'; simp
  rw [e1] at g1 g4
  refine ⟨_, g3, g1, ?_, (Bel.refl _ _).drew.trans g4⟩
  rw [g2]
  refine ⟨rfl, _, put_same _ _ _, ?_⟩
  unfold SliceR
  rw [if_neg (by simp), if_neg (by simp), if_pos rfl]
  refine ⟨?_, Nat.zero_le _⟩
  have e2 : c'.length + (Builtin.zeroCells z.cells (cap - need)).toList.length = cap * i.size := by
    have e4 : (Builtin.zeroCells z.cells (cap - need)).toList.length = (cap - need) * i.size := by rw [Array.length_toList, size_zeroCells, hz]
    rw [e4, hlen, ← Nat.add_mul]; congr 1; omega
  have e3 : esz P e = i.size := by simp [esz, hi]
  simp only [e2, e3, Nat.sub_zero, Nat.mul_div_cancel _ (Nat.pos_of_ne_zero hs0), Nat.add_zero]
  rfl

theorem list_splice (l new rest : List Value) (p k : Nat) (hk : p + k ≤ l.length) : ((l.take (p + k) ++ new ++ rest).drop p).take (k + new.length) = (l.drop p).take k ++ new := by
  have e1 : (l.take (p + k)).drop p = (l.drop p).take k := by rw [List.drop_take]; congr 1; omega
  have e2 : ((l.drop p).take k).length = k := by simp; omega
  rw [List.append_assoc, List.drop_append_of_le_length (by simp; omega), e1, ← List.append_assoc, List.take_append_of_le_length (by simp; omega), List.take_of_length_le (by simp; omega)]

theorem appendTo_run (hr : Rel P K β st w) {t tx ty e : TypeId} {i : TypeInfo} {z : Value} (ht : P.underlying t = some (.slice e)) (hi : P.info? e = some i) (hzz : i.zero = some z) (hz : z.cells.size = i.size) (hs0 : i.size ≠ 0) (hby : i.bytes ≤ big)
    {s s' x' v : Value} {n : Nat} {new new' : List Value} {st' : St} (hs : VR β s s') (hsrc : Src P i.size tx x' n new' w) (hnew : VRL β new new') (h : appendTo P st e i.size n new s = some (v, st')) :
    ∃ β' w' v', (Builtin.append_ #[t, tx] ty #[s', x']).run P w = .ok v' w' ∧ β.le β' ∧ Rel P K β' st' w' ∧ VR β' v v' ∧ Bel K w w' := by
  have hnl := hsrc.newsLen
  have hbig : big = 4194304 := rfl
  have hgrow : ∀ (base : Option Addr) (sLen sCap : Nat) (old olds : List Value), VRL β old olds → olds.length = sLen * i.size → (Builtin.firstCells i.size sLen (.slice base sLen sCap)).run P w.drew = .ok olds.toArray w.drew → sCap < sLen + n → sLen + n ≤ big →
      ∀ st0, Rel P K β st0 w → ∃ β' w' v', (Builtin.append_ #[t, tx] ty #[.slice base sLen sCap, x']).run P w = .ok v' w' ∧ β.le β' ∧ Rel P K β' (newRow st0 (old ++ new) e false).2 w' ∧ VR β' (.slice (some (newRow st0 (old ++ new) e false).1) (sLen + n) unk) v' ∧ Bel K w w' := by
    intro base sLen sCap old olds hold hol hfirst hg hb st0 hr0
    have hrun := run_append_grow_src (ty := ty) w t tx e i z ht hi hzz base sLen sCap olds hfirst x' n new' hsrc hg (by omega) (big_fits hg hb hby)
    obtain ⟨β', h1, h2, h3, h4⟩ := grown_row hr0 hi hz hs0 (grownCap_ge w (sLen + n) sCap e) (hold.append hnew) (by rw [List.length_append, hol, hnl, Nat.add_mul])
    exact ⟨β', _, _, hrun, h1, h2, h3, h4⟩
  unfold appendTo at h
  split at h
  · rename_i len cap
    split at h
    · cases h
    · rename_i hc
      simp only [Bool.or_eq_true, decide_eq_true_eq, not_or, ne_eq, Decidable.not_not] at hc
      obtain ⟨⟨c1, c2⟩, c3⟩ := hc
      have hs : s' = .slice none len cap := hs
      subst hs c1 c2
      split at h
      · rename_i hn
        simp at h
        obtain ⟨rfl, rfl⟩ := h
        subst hn
        have hnil : new' = [] := by simpa using hnl
        subst hnil
        exact ⟨β, w, _, run_append_nothing w t tx ty e i ht hi none 0 0 (Nat.le_refl _) x' hsrc, Env.le.refl _, hr, rfl, Bel.refl _ _⟩
      · rename_i hn
        simp at h
        obtain ⟨rfl, rfl⟩ := h
        have := hgrow none 0 0 [] [] VRL.nil (by simp) (by simp [Builtin.firstCells]) (by omega) (by omega) st hr
        simpa using this
  · rename_i a len cap
    split at h
    · cases h
    · rename_i hlb
      obtain ⟨hsp, l, hl, hsl⟩ := hs
      cases hvt : l.virt with
      | true =>
        have hsl' := hsl
        unfold SliceR at hsl
        rw [if_pos hvt] at hsl
        obtain ⟨h0, hoff0, hcap, hs'⟩ := hsl
        subst h0 hs'
        have same : n = 0 → v = .slice (some a) 0 cap ∧ st' = st → ∃ β' w' v', (Builtin.append_ #[t, tx] ty #[.slice none 0 0, x']).run P w = .ok v' w' ∧ β.le β' ∧ Rel P K β' st' w' ∧ VR β' v v' ∧ Bel K w w' := by
          rintro hn ⟨rfl, rfl⟩
          subst hn
          have hnil : new' = [] := by simpa using hnl
          subst hnil
          exact ⟨β, w, _, run_append_nothing w t tx ty e i ht hi none 0 0 (Nat.le_refl _) x' hsrc, Env.le.refl _, hr, ⟨hsp, l, hl, hsl'⟩, Bel.refl _ _⟩
        have grow : ∀ st0, Rel P K β st0 w → n ≠ 0 → ∃ β' w' v', (Builtin.append_ #[t, tx] ty #[.slice none 0 0, x']).run P w = .ok v' w' ∧ β.le β' ∧ Rel P K β' (newRow st0 new e false).2 w' ∧ VR β' (.slice (some (newRow st0 new e false).1) (0 + n) unk) v' ∧ Bel K w w' := by
          intro st0 hr0 hn
          have := hgrow none 0 0 [] [] VRL.nil (by simp) (by simp [Builtin.firstCells]) (by omega) (by omega) st0 hr0
          simpa using this
        split at h
        · rename_i hcu
          have hc0 : cap = 0 := by unfold unk at *; omega
          subst hc0
          split at h
          · have hn : n = 0 := by omega
            rw [if_pos hn] at h
            simp at h
            exact same hn ⟨h.1.symm, h.2.symm⟩
          · rename_i hroom
            split at h
            · rename_i old hold
              have ho : old = [] := by
                obtain ⟨c', g1, g2, g3, g4⟩ := hr.cellsAt hold hl
                simpa using g3
              subst ho
              simp at h
              obtain ⟨rfl, rfl⟩ := h
              have := grow st hr (by omega)
              simpa using this
            · cases h
        · rename_i hcu
          have hc0 : cap = unk := hcap.resolve_left (by rintro rfl; exact hcu (by unfold unk; omega))
          subst hc0
          split at h
          · rename_i c e' ex hg
            have k : c = [] ∧ ex = false := by
              obtain ⟨l', k1, ⟨_, k2, k3⟩ | ⟨k2, _⟩⟩ := hr.get_cells hg
              · exact ⟨k2, k3⟩
              · rw [k1] at hl; obtain rfl := Option.some.inj hl; rw [hvt] at k2; cases k2
            obtain ⟨k2, k3⟩ := k
            subst k2 k3
            split at h
            · cases h
            · rename_i hcond
              simp only [Bool.or_eq_true, decide_eq_true_eq, not_or, ne_eq, Decidable.not_not, Bool.and_eq_true, not_and, Bool.not_eq_true, Nat.not_lt] at hcond
              obtain ⟨⟨⟨⟨d1, d2⟩, d3⟩, d4⟩, d5⟩ := hcond
              subst d3
              have hkill := hr.kill a.block (by intro o e; rw [hg] at e; cases e)
              split at h
              · rename_i hn
                split at h
                · simp at h
                  exact same hn ⟨h.1.symm, h.2.symm⟩
                · cases h
              · rename_i hn
                rw [if_pos (by simp [hoff0])] at h
                simp at h
                obtain ⟨rfl, rfl⟩ := h
                have := grow _ hkill hn
                simpa using this
          · cases h
      | false =>
      split at h
      · rename_i hcu
        unfold SliceR at hsl
        rw [if_neg (by simp [hvt]), if_pos hcu] at hsl
        subst hsl
        split at h
        · rename_i hroom
          split at h
          · rename_i hn
            simp at h
            obtain ⟨rfl, rfl⟩ := h
            subst hn
            have hnil : new' = [] := by simpa using hnl
            subst hnil
            refine ⟨β, w, _, run_append_nothing w t tx ty e i ht hi _ len cap (by omega) x' hsrc, Env.le.refl _, hr, ⟨hsp, l, hl, ?_⟩, Bel.refl _ _⟩
            unfold SliceR; rw [if_neg (by simp [hvt]), if_pos hcu]
          · split at h
            · rename_i st2 hset
              simp at h
              obtain ⟨rfl, rfl⟩ := h
              obtain ⟨w', q1, q2, q3, _⟩ := hr.setCells hset hnew (l := l) (by rw [add_block]; exact hl)
              refine ⟨β, w', _, append_room_run ht hi hsrc hroom ?_, Env.le.refl _, q2, ⟨hsp, l, hl, ?_⟩, q3⟩
              · rw [add_of, Nat.add_assoc, ← add_off]; exact q1
              · unfold SliceR; rw [if_neg (by simp [hvt]), if_pos hcu]
            · cases h
        · rename_i hroom
          split at h
          · rename_i old hold
            simp at h
            obtain ⟨rfl, rfl⟩ := h
            obtain ⟨c2, g1, g2, g3, g4⟩ := hr.cellsAt hold hl
            exact hgrow _ len cap old c2 g1 g2 (run_firstCells_some w.drew i.size len _ len cap c2 g2 g4) (by omega) (by omega) st hr
          · cases h
      · rename_i hcu
        split at h
        · rename_i c e' exact hg
          obtain ⟨l', k1, ⟨kv, _⟩ | ⟨kv, k2, cc, f, k3, k4, k5, k6, k7, k8, k9⟩⟩ := hr.get_cells hg
          · rw [k1] at hl; obtain rfl := Option.some.inj hl; rw [hvt] at kv; cases kv
          obtain rfl : l' = l := by rw [k1] at hl; exact Option.some.inj hl
          split at h
          · cases h
          · rename_i hcond
            simp only [Bool.or_eq_true, decide_eq_true_eq, not_or, ne_eq, Decidable.not_not, Bool.and_eq_true, not_and, Bool.not_eq_true, Nat.not_lt] at hcond
            obtain ⟨⟨⟨⟨d1, d2⟩, d3⟩, d4⟩, d5⟩ := hcond
            subst d3
            have hes : l'.esize = i.size := by rw [k4]; simp [esz, hi]
            unfold SliceR at hsl
            rw [if_neg (by simp [hvt]), if_neg hcu] at hsl
            have hdiv : ∀ m, m * i.size ≤ l'.total - a.off → m ≤ (l'.total - a.off) / l'.esize := fun m hm => by
              rw [hes]; exact (Nat.le_div_iff_mul_le (Nat.pos_of_ne_zero hs0)).2 hm
            split at h
            · rename_i hn
              subst hn
              have hnil : new' = [] := by simpa using hnl
              subst hnil
              split at h
              · rename_i hfit
                simp at h
                obtain ⟨rfl, rfl⟩ := h
                refine ⟨β, w, s', ?_, Env.le.refl _, hr, ⟨hsp, l', k1, ?_⟩, Bel.refl _ _⟩
                · split at hsl
                  · obtain ⟨rfl, _⟩ := hsl
                    exact run_append_nothing w t tx ty e' i ht hi _ len _ (hdiv _ (by omega)) x' hsrc
                  · obtain ⟨rfl, _, _, rfl⟩ := hsl
                    split <;> exact run_append_nothing w t tx ty e' i ht hi _ 0 _ (Nat.zero_le _) x' hsrc
                · unfold SliceR; rw [if_neg (by simp [hvt]), if_neg hcu]; exact hsl
              · cases h
            · rename_i hn
              have hkill := hr.kill a.block (by intro o e; rw [hg] at e; cases e)
              -- the first cells, in the world
              have hfirst : a.off + len * i.size ≤ c.length → ∃ c2, VRL β ((c.drop a.off).take (len * i.size)) c2 ∧ c2.length = len * i.size ∧ ((c.drop a.off).take (len * i.size)).length = len * i.size ∧ ∀ j v, c2[j]? = some v → w.cell? ((⟨l'.blk, l'.base + a.off, none⟩ : Addr).add j) = some v := by
                intro hlenle
                have hcells : cellsAt st a (len * i.size) = some ((c.drop a.off).take (len * i.size)) := by
                  unfold cellsAt; rw [if_neg (by simp [d2]), hg]; simp [hlenle]
                exact hr.cellsAt hcells k1
              -- where it fits: the block goes on under a new number
              have hfits : ∀ (off2 cap2 : Nat), a.off + len * i.size ≤ c.length → off2 + len * i.size ≤ c.length → a.off ≤ off2 → (len ≠ 0 → off2 = a.off) → s' = .slice (some ⟨l'.blk, l'.base + off2, none⟩) len cap2 → cap2 = (l'.total - off2) / l'.esize → len + n ≤ cap2 →
                  ∃ β' w' v', (Builtin.append_ #[t, tx] ty #[s', x']).run P w = .ok v' w' ∧ β.le β' ∧ Rel P K β' (newRow (kill st a.block) ((c.drop a.off).take (len * i.size) ++ new) e' false).2 w' ∧
                    VR β' (.slice (some (newRow (kill st a.block) ((c.drop a.off).take (len * i.size) ++ new) e' false).1) (len + n) unk) v' ∧ Bel K w w' := by
                intro off2 cap2 h0 h1 h2 h3 h4 h5 h6
                subst h4
                obtain ⟨c2, g1, g2, g3, g4⟩ := hfirst h0
                have hmul : (len + n) * i.size ≤ l'.total - off2 := by
                  rw [h5, hes] at h6
                  exact (Nat.le_div_iff_mul_le (Nat.pos_of_ne_zero hs0)).1 h6
                have hnpos : 0 < n * i.size := Nat.mul_pos (Nat.pos_of_ne_zero hn) (Nat.pos_of_ne_zero hs0)
                have hmul2 : len * i.size + n * i.size ≤ l'.total - off2 := by rw [← Nat.add_mul]; exact hmul
                have hoff : off2 ≤ l'.total := by omega
                have hfitcc : l'.base + off2 + len * i.size + 0 + new'.length ≤ cc.size := by rw [hnl]; omega
                have hst := storeCells_run P l'.blk (l'.base + off2 + len * i.size) e' f new' 0 cc w k3 k9 hfitcc (fun u hu => hsrc.one u hu)
                generalize hW : (w.setRow l'.blk (cc.toList.take (l'.base + off2 + len * i.size + 0) ++ new' ++ cc.toList.drop (l'.base + off2 + len * i.size + 0 + new'.length)).toArray) = W at hst
                have hrunA : (Builtin.append_ #[t, tx] ty #[.slice (some ⟨l'.blk, l'.base + off2, none⟩) len cap2, x']).run P w = .ok (.slice (some ⟨l'.blk, l'.base + off2, none⟩) (len + n) cap2) W :=
                  append_room_run ht hi hsrc h6 (by rw [add_of]; exact hst)
                have hbelow : Bel K w W := by rw [← hW]; exact bel_setRow (Bel.refl _ _) k2 _
                have hWsz : W.heap.size = w.heap.size := by rw [← hW]; simp
                have hWo : ∀ k, k ≠ l'.blk → W.heap[k]? = w.heap[k]? := fun k hk => by rw [← hW]; exact setRow_other _ _ _ _ hk
                have hWat : W.heap[l'.blk]? = some (.cells (cc.toList.take (l'.base + off2 + len * i.size + 0) ++ new' ++ cc.toList.drop (l'.base + off2 + len * i.size + 0 + new'.length)).toArray e' f) := by
                  rw [← hW]; exact setRow_heap w l'.blk cc _ e' f k3
                have hnl' : new'.length = n * i.size := hnl
                have hclen : ((c.drop a.off).take (len * i.size) ++ new).length = len * i.size + n * i.size := by
                  rw [List.length_append, g3, hnew.length, hnl']
                have hadopt := hr.move (b' := .cells ((c.drop a.off).take (len * i.size) ++ new) e' false) (l2 := ⟨l'.blk, l'.base + off2, l'.total - off2, l'.esize, none, false⟩) hg rfl rfl rfl k1 hvt rfl rfl hWsz hWo ?_
                · refine ⟨_, W, _, hrunA, hr.le_put _, hadopt, ?_, hbelow⟩
                  refine ⟨rfl, _, put_same _ _ _, ?_⟩
                  unfold SliceR
                  rw [if_neg (by simp), if_neg (by simp), if_pos rfl, h5]
                  exact ⟨rfl, Nat.zero_le _⟩
                · refine BlkR.mono (hr.le_put _) ?_
                  have htot : (cc.toList.take (l'.base + off2 + len * i.size + 0) ++ new' ++ cc.toList.drop (l'.base + off2 + len * i.size + 0 + new'.length)).length = cc.size := by
                    rw [Nat.add_mul] at hmul
                    simp only [List.length_append, List.length_take, List.length_drop, Array.length_toList, hnl']; omega
                  refine Or.inr ⟨rfl, _, f, hWat, k4, ?_, ?_, fun hx => (by cases hx), ?_, ?_⟩
                  · simp only [List.size_toArray, htot]; omega
                  · rw [hclen, ← Nat.add_mul]; exact hmul
                  · have hcells2 : VRL β ((c.drop a.off).take (len * i.size)) ((cc.toList.drop (l'.base + off2)).take (len * i.size)) := by
                      by_cases hl0 : len = 0
                      · subst hl0; simp [VRL]
                      · rw [h3 hl0]
                        have hh := (k8.drop a.off).take (len * i.size)
                        have e5 : (((cc.toList.drop l'.base).take c.length).drop a.off).take (len * i.size) = (cc.toList.drop (l'.base + a.off)).take (len * i.size) := by
                          rw [List.drop_take, List.drop_drop, List.take_take]
                          congr 1; omega
                        rw [e5] at hh; exact hh
                    have e6 : (((cc.toList.take (l'.base + off2 + len * i.size + 0) ++ new' ++ cc.toList.drop (l'.base + off2 + len * i.size + 0 + new'.length)).toArray.toList.drop (l'.base + off2)).take ((c.drop a.off).take (len * i.size) ++ new).length) = (cc.toList.drop (l'.base + off2)).take (len * i.size) ++ new' := by
                      have e7 := list_splice cc.toList new' (cc.toList.drop (l'.base + off2 + len * i.size + 0 + new'.length)) (l'.base + off2) (len * i.size) (by simp only [Array.length_toList]; omega)
                      rw [hclen, ← hnl', ← e7]
                      simp only [Nat.add_zero]
                    rw [e6]
                    exact hcells2.append hnew
                  · simp only [List.size_toArray, htot]; exact k9
              have hmoves : cap = unk → a.off + len * i.size ≤ c.length → ∃ β' w' v', (Builtin.append_ #[t, tx] ty #[s', x']).run P w = .ok v' w' ∧ β.le β' ∧ Rel P K β' (newRow (kill st a.block) ((c.drop a.off).take (len * i.size) ++ new) e' false).2 w' ∧
                    VR β' (.slice (some (newRow (kill st a.block) ((c.drop a.off).take (len * i.size) ++ new) e' false).1) (len + n) unk) v' ∧ Bel K w w' := by
                intro hce hlenle
                rw [if_pos hce] at hsl
                obtain ⟨hs', hoffl⟩ := hsl
                subst hce
                obtain ⟨c2, g1, g2, g3, g4⟩ := hfirst hlenle
                by_cases hroom : len + n ≤ (l'.total - a.off) / l'.esize
                · exact hfits a.off _ hlenle hlenle (Nat.le_refl _) (fun _ => rfl) hs' rfl hroom
                · rw [hs']
                  exact hgrow _ len _ _ c2 g1 g2 (run_firstCells_some w.drew i.size len _ len _ c2 g2 g4) (by omega) (by omega) _ hkill
              split at h
              · rename_i hend
                simp at h
                obtain ⟨rfl, rfl⟩ := h
                have hlenle : a.off + len * i.size ≤ c.length := by
                  rw [← hend, Nat.add_mul]; omega
                by_cases hce : cap = unk
                · exact hmoves hce hlenle
                · rw [if_neg hce] at hsl
                  obtain ⟨c2, g1, g2, g3, g4⟩ := hfirst hlenle
                  obtain ⟨hl0, hle, hoffl, hs'⟩ := hsl
                  subst hl0
                  simp only [Nat.zero_add] at hend
                  by_cases hT : (l'.total - a.off) / l'.esize = cap - unk
                  · rw [if_pos hT] at hs'
                    rw [hs']
                    clear hmoves hfits hfirst
                    exact hgrow _ 0 0 _ c2 g1 g2 (run_firstCells_some w.drew i.size 0 _ 0 0 c2 g2 g4) (by omega) (by omega) _ hkill
                  · rw [if_neg hT] at hs'
                    by_cases hroom : 0 + n ≤ (l'.total - a.off) / l'.esize - (cap - unk)
                    · refine hfits (a.off + (cap - unk) * l'.esize) _ hlenle (by rw [hes]; clear hmoves hfirst; omega) (by clear hmoves hfirst; omega) (fun h => absurd rfl h) hs' ?_ hroom
                      rw [Nat.sub_add_eq, Nat.mul_comm (cap - unk) l'.esize, Nat.sub_mul_div]
                    · rw [hs']
                      have g2' : c2 = [] := by simpa using g2
                      subst g2'
                      clear hmoves hfits hfirst
                      exact hgrow _ 0 _ _ [] g1 (by simp) (by simp [Builtin.firstCells, loadCells, loadCellsFrom]) (by omega) (by omega) _ hkill
              · split at h
                · rename_i hfit
                  simp only [Bool.and_eq_true, decide_eq_true_eq] at hfit
                  obtain ⟨hce, hfit⟩ := hfit
                  rw [if_pos hce] at hsl
                  obtain ⟨hs', hoffl⟩ := hsl
                  split at h
                  · rename_i st2 hset
                    simp at h
                    obtain ⟨rfl, rfl⟩ := h
                    obtain ⟨w', q1, q2, q3, _⟩ := hr.setCells hset hnew (l := l') (by rw [add_block]; exact k1)
                    have hroom : len + n ≤ (l'.total - a.off) / l'.esize := hdiv _ (by
                      have : new.length = n * i.size := by rw [hnew.length, hnl]
                      rw [Nat.add_mul]; omega)
                    rw [hs']
                    refine ⟨β, w', _, append_room_run ht hi hsrc hroom ?_, Env.le.refl _, q2, ⟨hsp, l', k1, ?_⟩, q3⟩
                    · rw [add_of, Nat.add_assoc, ← add_off]; exact q1
                    · unfold SliceR; rw [if_neg (by simp [hvt]), if_neg hcu, if_pos hce]; exact ⟨rfl, hoffl⟩
                  · cases h
                · split at h
                  · rename_i hlast
                    simp only [Bool.and_eq_true, decide_eq_true_eq] at hlast
                    simp at h
                    obtain ⟨rfl, rfl⟩ := h
                    exact hmoves hlast.1 hlast.2
                  · cases h
        · cases h
  · split at h
    · rename_i z hz
      split at h
      · cases h
      · rename_i hc
        simp only [Bool.or_eq_true, decide_eq_true_eq, not_or, ne_eq, Decidable.not_not] at hc
        obtain ⟨⟨c1, c2⟩, c3⟩ := hc
        obtain ⟨hsz0, r⟩ := fzOf_rel hz hs
        have r' := r
        unfold FrzR at r
        rw [if_neg hsz0] at r
        obtain ⟨r0, r⟩ := r
        split at h
        · rename_i hn
          simp at h
          obtain ⟨rfl, rfl⟩ := h
          subst hn
          have hnil : new' = [] := by simpa using hnl
          subst hnil
          refine ⟨β, w, s', ?_, Env.le.refl _, hr, hs, Bel.refl _ _⟩
          obtain ⟨r1, r2, r3⟩ | ⟨r1, p, cap, r2, r3⟩ | ⟨rp, k0, o0, cap, cs, e0, f0, lc, r2, r3, r4, r5, r6, r7, r8⟩ := r
          · rw [r3]; exact run_append_nothing w t tx ty e i ht hi none 0 0 (Nat.le_refl _) x' hsrc
          · rw [r2]; exact run_append_nothing w t tx ty e i ht hi (some p) 0 cap (Nat.zero_le _) x' hsrc
          · rw [r2]; exact run_append_nothing w t tx ty e i ht hi _ z.n cap (by omega) x' hsrc
        · rename_i hn
          split at h
          · rename_i hgr
            simp at h
            obtain ⟨rfl, rfl⟩ := h
            obtain ⟨r1, r2, r3⟩ | ⟨r1, p, cap, r2, r3⟩ | ⟨rp, k0, o0, cap, cs, e0, f0, lc, r2, r3, r4, r5, r6, r7, r8⟩ := r
            · have hcz : z.cells = [] := by rw [r1] at r0; simpa using r0
              rw [r3, hcz, r1]
              exact hgrow none 0 0 [] [] VRL.nil (by simp) (by simp [Builtin.firstCells]) (by omega) (by omega) st hr
            · have hcz : z.cells = [] := by rw [r1] at r0; simpa using r0
              have := r3 c2
              rw [r2, hcz, r1]
              exact hgrow (some p) 0 cap [] [] VRL.nil (by simp) (by simp [Builtin.firstCells, loadCells, loadCellsFrom]) (by omega) (by omega) st hr
            · obtain ⟨c', g1, g2, g4⟩ := frz_seg hr r4 r5 r6 (VRL.mono (negE_le _) _ _ r7) (a := 0) (n := z.n * z.sz) (by omega)
              rw [List.drop_zero, List.take_of_length_le (by omega)] at g1
              simp only [Nat.add_zero] at g4
              have := r3 c2
              rw [r2]
              rw [c1] at g2
              exact hgrow _ z.n cap z.cells c' g1 g2 (run_firstCells_some w.drew i.size z.n _ z.n cap c' g2 g4) (by omega) (by omega) st hr
          · cases h
    · cases h

end
end Go.VS
