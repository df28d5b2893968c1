/- Texts of the proof, merged: VsSym2, VsSym3, VsSymDraw, VsLaws, VsMemo, VsSwap, VsCallM, VsApp, OpB, Op1, Op2, Op3, Op4, Op5, Op6, Op9, Od1, Ox1, Ox2, Ox3. No conditions. -/
import Derived.Test.YtbdeppefllcocaaDoorOpTextsP3
import Derived.Laws.Strings
import Derived.Test.YtbdeppefllcocaaDoorProg
import Derived.KernelRfl
import Derived.Test.YtbdeppefllcocaaDoorShelfC
section
namespace Go.VS
set_option linter.unusedSimpArgs false
set_option linter.unusedVariables false
section
variable {P : Program}
variable {call : Knot} {s : Trie Value} {st : St} {kv : Value → St → Res} {kd : Deferred → St → Res} {r : Value × St}

theorem byte_at (b : ByteArray) (n : Nat) (h : n < b.size) : b[n]? = some (b.data.toList.getD n 0) := by
  have h1 : b[n]? = some b[n] := by simp [h]
  rw [h1]
  congr 1
  have h2 : n < b.data.toList.length := by simpa using h
  rw [List.getD_eq_getElem?_getD, List.getElem?_eq_getElem h2]
  rfl

theorem s_index_spec {dst type pos after guard} {t : TypeId} {x ix : Operand} (hu : P.underlying t = some .string) (h : s_index x ix call s st kv kd = some r) :
    Hands call kv kd (evOp P (rdF s) ⟨dst, .index t x ix, type, pos, after, guard⟩ st) r := by
  unfold s_index at h
  split at h
  · rename_i b hx
    split at h
    · rename_i k i hi
      obtain ⟨hc, h⟩ := needB_spec h
      simp only [inI, cutI, decide_eq_true_eq] at hc
      have hlt : i.toNat < b.size := by omega
      simp only [evOp, hu, hx, hi, hc.1, if_true, byte_at b _ hlt]
      exact h
    · cases h
  · cases h

theorem s_indexAddr_spec {dst type pos after guard} {t : TypeId} {x ix : Operand} {n : Nat} (hn : sliceElem P t = some n) (h : s_indexAddr n x ix call s st kv kd = some r) :
    Hands call kv kd (evOp P (rdF s) ⟨dst, .indexAddr t x ix, type, pos, after, guard⟩ st) r := by
  unfold sliceElem at hn
  rw [undQ_eq] at hn
  split at hn
  · rename_i e hu
    rw [sizeQ_eq] at hn
    unfold s_indexAddr at h
    split at h
    · rename_i a len cap hx
      split at h
      · rename_i k i hi
        obtain ⟨hc, h⟩ := needB_spec h
        simp only [inI, cutI, decide_eq_true_eq] at hc
        simp only [evOp, hu, hx, hi, hn, hc, and_self, if_true]
        rw [addS_eq] at h
        exact h
      · cases h
    · rename_i tt v hx
      split at h
      · rename_i z hz
        split at h
        · rename_i k i hi
          obtain ⟨hc, h⟩ := needB_spec h
          simp only [inI, cutI, Bool.and_eq_true, decide_eq_true_eq] at hc
          have h1 := Nat.eq_of_beq_eq_true hc.1
          simp only [evOp, hu, hx, hi, hn, hz, h1, hc.2, and_self, if_true]
          exact h
        · cases h
      · cases h
    · cases h
  · cases hn

theorem eta_eq {e : Eta} {v : Value} (h : etaB e v = true) : ∀ (hz : ∀ n, e = .slice n → ∃ z, fzOf v = some z), etaV e v = v ∨ ∃ n, e = .slice n := by
  intro _
  cases e with
  | int k =>
    simp only [etaB, isI] at h
    split at h
    · simp only [decide_eq_true_eq] at h; subst h; exact Or.inl rfl
    · cases h
  | string =>
    simp only [etaB, isS] at h
    split at h
    · exact Or.inl rfl
    · cases h
  | bool =>
    simp only [etaB, isB] at h
    split at h
    · exact Or.inl rfl
    · cases h
  | slice n => exact Or.inr ⟨n, rfl⟩

theorem fzOf_form {v : Value} {z : FzV} (h : fzOf v = some z) : v = mkFz z.sz z.n z.cap z.cells := by
  unfold fzOf at h
  split at h
  · rename_i t n b c
    split at h
    · rename_i ht
      have ht : FZ + 1 ≤ t := Nat.le_of_ble_eq_true ht
      obtain rfl := Option.some.inj h
      unfold mkFz
      have : FZ + (t - FZ) = t := Nat.add_sub_cancel' (Nat.le_of_succ_le ht)
      rw [this]
    · cases h
  · cases h

theorem eta_same {e : Eta} {v : Value} (h : etaB e v = true) : etaV e v = v := by
  cases e with
  | slice n =>
    simp only [etaB, isZ] at h
    split at h
    · rename_i z hz
      have := Nat.eq_of_beq_eq_true h
      simp only [etaV, zN, zB, zC, hz]
      rw [← this]
      exact (fzOf_form hz).symm
    · cases h
  | _ =>
    rcases eta_eq h (fun n e => by cases e) with h | ⟨n, e⟩
    · exact h
    · cases e

theorem nthD_get {c : List Value} {n : Nat} (h : n + 1 ≤ c.length) : c[n]? = some (nthD c n) := by
  unfold nthD
  rw [List.getD_eq_getElem?_getD, List.getElem?_eq_getElem h]
  rfl

theorem take_one {c : List Value} {n : Nat} {v : Value} (h : c[n]? = some v) : (c.drop n).take 1 = [v] := by
  have := (List.getElem?_eq_some_iff.1 h)
  obtain ⟨hl, e⟩ := this
  rw [List.drop_eq_getElem_cons hl, e]
  rfl

theorem s_load1_spec {dst type pos after guard} {t : TypeId} {x : Operand} {e : Eta} (hk : loadK P t = some none) (h : s_load1 e x call s st kv kd = some r) :
    Hands call kv kd (evOp P (rdF s) ⟨dst, .load t x, type, pos, after, guard⟩ st) r := by
  unfold loadK at hk
  rw [undQ_eq, infoQ_eq, isAggQ_eq] at hk
  split at hk
  · rename_i d i hu hi
    have hag : isAggB P t = false := by
      cases hb : isAggB P t with
      | false => rfl
      | true => rw [hb] at hk; cases hk
    unfold s_load1 at h
    split at h
    · rename_i a hx
      obtain ⟨c, e', ex, h1, h2, h3⟩ := cellsF_spec h
      have go : ∀ v, c[a.off]? = some v → kv v st = some r → Hands call kv kd (evOp P (rdF s) ⟨dst, .load t x, type, pos, after, guard⟩ st) r := by
        intro v hv hk
        have hl : a.off + 1 ≤ c.length := (List.getElem?_eq_some_iff.1 hv).1
        have : loadV P st t a = some v := by
          simp only [loadV, hu, hi, hag, Bool.false_eq_true, if_false, cellsAt, h1, h2, Option.isSome_none, hl, if_true, take_one hv]
        simp only [evOp, hx, this]
        exact hk
      cases ex with
      | false =>
        obtain ⟨hc, h3⟩ := needB_spec h3
        simp only [Bool.and_eq_true] at hc
        rw [eta_same hc.2] at h3
        exact go _ (nthD_get (Nat.le_of_ble_eq_true hc.1)) h3
      | true =>
        simp only at h3
        rw [nthF_eq] at h3
        split at h3
        · rename_i v hv
          exact go v hv h3
        · cases h3
    · rename_i tt v hx
      split at h
      · rename_i off c hfp
        obtain ⟨hc, h⟩ := needB_spec h
        simp only [Bool.and_eq_true] at hc
        rw [eta_same hc.2] at h
        simp only [evOp, hx, hfp, loadC, hu, hi, hag, Bool.false_eq_true, if_false, nthD_get (Nat.le_of_ble_eq_true hc.1)]
        exact h
      · cases h
    · cases h
  · cases hk

theorem intK_spec {o : Option Operand} {d : Int} {k : Int → Res} (h : intK s o d k = some r) : (o = none ∧ k d = some r) ∨ ∃ x kk i, o = some x ∧ rdF s x = .int kk i ∧ k i = some r := by
  unfold intK at h
  split at h
  · exact Or.inl ⟨rfl, h⟩
  · split at h
    · exact Or.inr ⟨_, _, _, rfl, ‹_›, h⟩
    · cases h

theorem bound_of {o : Option Operand} {y d : Nat} {i : Int} (h : (o = none ∧ i = d) ∨ ∃ x kk, o = some x ∧ rdF s x = .int kk i) (h1 : 0 ≤ i) (h2 : i ≤ y) : optBound (o.map (rdF s)) y d = some i.toNat := by
  rcases h with ⟨rfl, rfl⟩ | ⟨x, kk, rfl, hx⟩
  · simp [optBound]
  · simp only [Option.map_some, optBound, hx, boundOf, h1, h2, and_self, if_true]

theorem two_spec {lo hi : Option Operand} {dh : Nat} {k : Int → Int → Res} (h : (intK s hi dh fun h => intK s lo 0 fun l => k h l) = some r) :
    ∃ h l : Int, ((hi = none ∧ h = dh) ∨ ∃ x kk, hi = some x ∧ rdF s x = .int kk h) ∧ ((lo = none ∧ l = (0 : Nat)) ∨ ∃ x kk, lo = some x ∧ rdF s x = .int kk l) ∧ k h l = some r := by
  rcases intK_spec h with ⟨e, h⟩ | ⟨x, kk, i, e, hx, h⟩ <;> rcases intK_spec h with ⟨e', h⟩ | ⟨x', kk', i', e', hx', h⟩
  · exact ⟨_, _, Or.inl ⟨e, rfl⟩, Or.inl ⟨e', rfl⟩, h⟩
  · exact ⟨_, _, Or.inl ⟨e, rfl⟩, Or.inr ⟨x', kk', e', hx'⟩, h⟩
  · exact ⟨_, _, Or.inr ⟨x, kk, e, hx⟩, Or.inl ⟨e', rfl⟩, h⟩
  · exact ⟨_, _, Or.inr ⟨x, kk, e, hx⟩, Or.inr ⟨x', kk', e', hx'⟩, h⟩

theorem s_slice_string_spec {dst type pos after guard} {t : TypeId} {x : Operand} {lo hi : Option Operand} (hu : P.underlying t = some .string)
    (h : s_sliceS x lo hi call s st kv kd = some r) : Hands call kv kd (evOp P (rdF s) ⟨dst, .slice t x lo hi none, type, pos, after, guard⟩ st) r := by
  unfold s_sliceS at h
  split at h
  · rename_i b hx
    obtain ⟨h0, l0, hh, hl, h⟩ := two_spec h
    obtain ⟨hc, h⟩ := needB_spec h
    simp only [inI, cutI, decide_eq_true_eq] at hc
    have e1 := bound_of hh (y := b.size) (by omega) (by omega)
    have e2 := bound_of hl (y := h0.toNat) (by omega) (by omega)
    simp only [evOp, hu, hx, Option.map_none, Option.isSome_none, Bool.false_eq_true, if_false, e1, e2]
    exact h
  · cases h

theorem s_slice_spec {dst type pos after guard} {t : TypeId} {x : Operand} {lo hi : Option Operand} {n : Nat} (hn : sliceElem P t = some n) 
    (h : s_slice P ⟨dst, .slice t x lo hi none, type, pos, after, guard⟩ n x lo hi call s st kv kd = some r) : Hands call kv kd (evOp P (rdF s) ⟨dst, .slice t x lo hi none, type, pos, after, guard⟩ st) r := by
  unfold sliceElem at hn
  rw [undQ_eq] at hn
  split at hn
  · rename_i e hu
    rw [sizeQ_eq] at hn
    unfold s_slice at h
    split at h
    · rename_i tt v hx
      split at h
      · rename_i z hz
        obtain ⟨h0, l0, hh, hl, h⟩ := two_spec h
        obtain ⟨hc, h⟩ := needB_spec h
        simp only [inI, cutI, Bool.and_eq_true, decide_eq_true_eq] at hc
        have h1 := Nat.eq_of_beq_eq_true hc.1
        have e1 := bound_of hh (y := z.n) (by omega) (by omega)
        have e2 := bound_of hl (y := h0.toNat) (by omega) (by omega)
        simp only [evOp, hu, hx, hz, hn, h1, if_true, sliceZ, Option.map_none, e1, e2]
        unfold capS at h
        exact h
      · cases h
    · rename_i a len cap hx
      cases hb : Nat.beq cap unk with
      | false => rw [hb] at h; exact slowOp_spec h
      | true =>
        rw [hb] at h
        have hcap := Nat.eq_of_beq_eq_true hb
        obtain ⟨c, e', ex, h1, h2, h3⟩ := cellsF_spec h
        obtain ⟨hc, h3⟩ := needB_spec h3
        simp only [Bool.and_eq_true] at hc
        obtain ⟨hc1, hc2, hc3⟩ := hc
        have hc1 := Nat.le_of_ble_eq_true hc1
        have hc2 := Nat.le_of_ble_eq_true hc2
        have hc3 := Nat.eq_of_beq_eq_true hc3
        obtain ⟨h0, l0, hh, hl, h3⟩ := two_spec h3
        obtain ⟨hd, h3⟩ := needB_spec h3
        simp only [cutI, decide_eq_true_eq] at hd
        have hd : 0 ≤ l0 ∧ l0 ≤ h0 ∧ h0 ≤ (((c.length - a.off) / n : Nat) : Int) := hd
        change @Bool.rec (fun _ => Res) (@Bool.rec (fun _ => Res) (kv (.slice (some a) 0 (unk + l0.toNat)) st) (kv (.slice (some a) 0 unk) st) (Nat.beq l0.toNat 0)) (kv (.slice (some (addS a (l0.toNat * n))) (h0.toNat - l0.toNat) unk) st) (Nat.ble (l0.toNat + 1) ((c.length - a.off) / n)) = some r at h3
        have hroom : room P st a n = some ((c.length - a.off) / n) := by
          unfold room
          rw [h2]
          simp only
          rw [if_neg (by simp; omega), if_pos hc1]
        have e1 := bound_of hh (y := (c.length - a.off) / n) (by omega) (by omega)
        have e2 := bound_of hl (y := h0.toNat) (by omega) (by omega)
        have hs : sliceS P st n a len cap (lo.map (rdF s)) (hi.map (rdF s)) none = some (if l0.toNat < (c.length - a.off) / n then .slice (some (a.add (l0.toNat * n))) (h0.toNat - l0.toNat) unk else if l0.toNat = 0 then .slice (some a) 0 unk else .slice (some a) 0 (unk + l0.toNat)) := by
          unfold sliceS
          rw [if_neg (by omega), if_pos hcap, hroom]
          simp only [e1, e2]
          split
          · rfl
          · rename_i hlt
            rw [if_neg (by simp; omega)]
            split <;> rfl
        simp only [evOp, hu, hx, hn, Option.map_none, hs]
        cases hb1 : Nat.ble (l0.toNat + 1) ((c.length - a.off) / n) with
        | true =>
          rw [hb1] at h3
          rw [if_pos (show l0.toNat < (c.length - a.off) / n from Nat.le_of_ble_eq_true hb1)]
          rw [addS_eq] at h3
          exact h3
        | false =>
          rw [hb1] at h3
          have hnl : ¬ l0.toNat < (c.length - a.off) / n := fun k => by rw [Nat.ble_eq_true_of_le k] at hb1; cases hb1
          rw [if_neg hnl]
          cases hb2 : Nat.beq l0.toNat 0 with
          | true => rw [hb2] at h3; rw [if_pos (Nat.eq_of_beq_eq_true hb2)]; exact h3
          | false => rw [hb2] at h3; rw [if_neg (Nat.ne_of_beq_eq_false hb2)]; exact h3
    · exact slowOp_spec h
  · cases hn

theorem s_toString_spec {dst type pos after guard} {sT dT : TypeId} {x : Operand} (hk : cvK P sT dT = 1) (h : s_toString P ⟨dst, .convert sT dT x, type, pos, after, guard⟩ x call s st kv kd = some r) :
    Hands call kv kd (evOp P (rdF s) ⟨dst, .convert sT dT x, type, pos, after, guard⟩ st) r := by
  unfold cvK at hk
  rw [undQ_eq, undQ_eq] at hk
  split at hk
  · rename_i e hs hd
    rw [undQ_eq] at hk
    split at hk
    · rename_i he
      unfold s_toString at h
      split at h
      · rename_i a n cap hx
        obtain ⟨c, e', ex, h1, h2, h3⟩ := cellsF_spec h
        obtain ⟨hc, h3⟩ := needB_spec h3
        simp only [Bool.and_eq_true] at hc
        have hle : a.off + n ≤ c.length := Nat.le_of_ble_eq_true hc.1
        simp only [evOp, hs, hd, hx, he, cellsAt, h1, h2, Option.isSome_none, Bool.false_eq_true, if_false, hle, if_true]
        have hb : bytesOf ((c.drop a.off).take n) = some (((c.drop a.off).take n).map byteOf) := bytesOf_all hc.2
        rw [hb]
        exact h3
      · rename_i tt v hx
        split at h
        · rename_i z hz
          obtain ⟨hc, h⟩ := needB_spec h
          simp only [Bool.and_eq_true] at hc
          have h1 := Nat.eq_of_beq_eq_true hc.1
          simp only [evOp, hs, hd, hx, he, hz, h1, if_true, bytesOf_all hc.2]
          exact h
        · cases h
      · exact slowOp_spec h
    · cases hk
  · split at hk <;> cases hk
  · cases hk

theorem s_toBytes_spec {dst type pos after guard} {sT dT : TypeId} {x : Operand} (hk : cvK P sT dT = 2) (h : s_toBytes (elemQ P dT) x call s st kv kd = some r) :
    Hands call kv kd (evOp P (rdF s) ⟨dst, .convert sT dT x, type, pos, after, guard⟩ st) r := by
  unfold cvK at hk
  unfold elemQ at h
  rw [undQ_eq, undQ_eq] at hk
  split at hk
  · split at hk <;> cases hk
  · rename_i e hs hd
    rw [undQ_eq, sizeQ_eq] at hk
    split at hk
    · rename_i he hn
      rw [undQ_eq, hd] at h
      simp only at h
      unfold s_toBytes at h
      split at h
      · rename_i b hx
        obtain ⟨hc, h⟩ := needB_spec h
        have hc := Nat.le_of_ble_eq_true hc
        have h := newF_spec h
        have h1 : esz P e = 1 := by
          unfold sizeOfT at hn
          unfold esz
          rw [hn]; rfl
        simp only [evOp, hs, hd, hx, he, h1, newRow]
        rw [if_neg (by simp; omega)]
        exact h
      · cases h
    · cases hk
  · cases hk

theorem bin_of {dst type pos after guard} {op : BinOp} {t yt : TypeId} {x y : Operand} {vx vy v : Value} (hx : rdF s x = vx) (hy : rdF s y = vy) (f1 : flat vx = true) (f2 : flat vy = true) (f3 : flat v = true)
    (hp : pureRun P (do eqGuard op t x y vx vy; binOp op t vx vy) = some v) (h : kv v st = some r) : Hands call kv kd (evOp P (rdF s) ⟨dst, .binOp op t x y yt, type, pos, after, guard⟩ st) r := by
  simp only [evOp, hx, hy, f1, f2, Bool.and_self, if_true, hp, f3]
  exact h

theorem s_shl_spec {dst type pos after guard} {t yt : TypeId} {x y : Operand} (h : s_shl P ⟨dst, .binOp .shl t x y yt, type, pos, after, guard⟩ x y call s st kv kd = some r) :
    Hands call kv kd (evOp P (rdF s) ⟨dst, .binOp .shl t x y yt, type, pos, after, guard⟩ st) r := by
  unfold s_shl at h
  split at h
  · rename_i k a k' b hx hy
    obtain ⟨hc, h⟩ := needB_spec h
    simp only [posI, decide_eq_true_eq] at hc
    have hb : ¬ b < 0 := by omega
    refine bin_of hx hy rfl rfl rfl ?_ h
    simp only [binOp, Op.shift, if_neg hb]
    rfl
  · exact slowOp_spec h
theorem s_shr_spec {dst type pos after guard} {t yt : TypeId} {x y : Operand} (h : s_shr P ⟨dst, .binOp .shr t x y yt, type, pos, after, guard⟩ x y call s st kv kd = some r) :
    Hands call kv kd (evOp P (rdF s) ⟨dst, .binOp .shr t x y yt, type, pos, after, guard⟩ st) r := by
  unfold s_shr at h
  split at h
  · rename_i k a k' b hx hy
    obtain ⟨hc, h⟩ := needB_spec h
    simp only [posI, decide_eq_true_eq] at hc
    have hb : ¬ b < 0 := by omega
    refine bin_of hx hy rfl rfl rfl ?_ h
    simp only [binOp, Op.shift, if_neg hb]
    rfl
  · exact slowOp_spec h
theorem s_quo_spec {dst type pos after guard} {t yt : TypeId} {x y : Operand} (h : s_quo P ⟨dst, .binOp .quo t x y yt, type, pos, after, guard⟩ x y call s st kv kd = some r) :
    Hands call kv kd (evOp P (rdF s) ⟨dst, .binOp .quo t x y yt, type, pos, after, guard⟩ st) r := by
  unfold s_quo at h
  split at h
  · rename_i k a k' b hx hy
    obtain ⟨hc, h'⟩ := needB_spec h
    simp only [nonzI, Bool.and_eq_true, decide_eq_true_eq, Bool.not_eq_true', decide_eq_false_iff_not] at hc
    obtain ⟨rfl, hb⟩ := hc
    refine bin_of hx hy rfl rfl rfl ?_ h'
    simp only [binOp, Op.intDiv, if_neg hb, ne_eq, not_true_eq_false, if_false]
    rfl
  · exact slowOp_spec h
theorem s_rem_spec {dst type pos after guard} {t yt : TypeId} {x y : Operand} (h : s_rem P ⟨dst, .binOp .rem t x y yt, type, pos, after, guard⟩ x y call s st kv kd = some r) :
    Hands call kv kd (evOp P (rdF s) ⟨dst, .binOp .rem t x y yt, type, pos, after, guard⟩ st) r := by
  unfold s_rem at h
  split at h
  · rename_i k a k' b hx hy
    obtain ⟨hc, h'⟩ := needB_spec h
    simp only [nonzI, Bool.and_eq_true, decide_eq_true_eq, Bool.not_eq_true', decide_eq_false_iff_not] at hc
    obtain ⟨rfl, hb⟩ := hc
    refine bin_of hx hy rfl rfl rfl ?_ h'
    simp only [binOp, Op.intDiv, if_neg hb, ne_eq, not_true_eq_false, if_false]
    rfl
  · exact slowOp_spec h
theorem s_add_spec {dst type pos after guard} {t yt : TypeId} {x y : Operand} (h : s_add P ⟨dst, .binOp .add t x y yt, type, pos, after, guard⟩ x y call s st kv kd = some r) :
    Hands call kv kd (evOp P (rdF s) ⟨dst, .binOp .add t x y yt, type, pos, after, guard⟩ st) r := by
  unfold s_add at h
  split at h
  · rename_i a b hx hy
    obtain ⟨hc, h⟩ := needB_spec h
    have hc : a.size + b.size ≤ 9223372036854775807 := Nat.le_of_ble_eq_true hc
    refine bin_of hx hy rfl rfl rfl ?_ h
    simp only [binOp, Op.stringOp]
    rw [if_neg (by
      have : IntKind.i64.max = 9223372036854775807 := by decide
      rw [this]; omega)]
    rfl
  · rename_i k a k' b hx hy
    obtain ⟨hc, h'⟩ := needB_spec h
    simp only [decide_eq_true_eq] at hc
    subst hc
    refine bin_of hx hy rfl rfl rfl ?_ h'
    simp only [binOp, Op.intArith, ne_eq, not_true_eq_false, if_false]
    rfl
  · exact slowOp_spec h
theorem s_int_spec {dst type pos after guard} {op : BinOp} {t yt : TypeId} {x y : Operand} {f : IntKind → Int → Int → Int} (hf : ∀ k a b, pureRun P (do eqGuard op t x y (.int k a) (.int k b); binOp op t (.int k a) (.int k b)) = some (.int k (f k a b)))
    (h : s_int P ⟨dst, .binOp op t x y yt, type, pos, after, guard⟩ f x y call s st kv kd = some r) : Hands call kv kd (evOp P (rdF s) ⟨dst, .binOp op t x y yt, type, pos, after, guard⟩ st) r := by
  unfold s_int at h
  split at h
  · rename_i k a k' b hx hy
    obtain ⟨hc, h'⟩ := needB_spec h
    simp only [decide_eq_true_eq] at hc
    subst hc
    exact bin_of hx hy rfl rfl rfl (hf _ _ _) h'
  · exact slowOp_spec h
theorem s_cmp_spec {dst type pos after guard} {op : BinOp} {t yt : TypeId} {x y : Operand} {f : Int → Int → Bool} {g : ByteArray → ByteArray → Bool} {str : Bool}
    (hf : ∀ k a b, pureRun P (do eqGuard op t x y (.int k a) (.int k b); binOp op t (.int k a) (.int k b)) = some (.bool (f a b)))
    (hg : str = true → ∀ a b, pureRun P (do eqGuard op t x y (.string a) (.string b); binOp op t (.string a) (.string b)) = some (.bool (g a b)))
    (h : s_cmp P ⟨dst, .binOp op t x y yt, type, pos, after, guard⟩ f g str x y call s st kv kd = some r) : Hands call kv kd (evOp P (rdF s) ⟨dst, .binOp op t x y yt, type, pos, after, guard⟩ st) r := by
  unfold s_cmp at h
  split at h
  · rename_i k a k' b hx hy
    obtain ⟨hc, h'⟩ := needB_spec h
    simp only [decide_eq_true_eq] at hc
    subst hc
    exact bin_of hx hy rfl rfl rfl (hf _ _ _) h'
  · rename_i a b hx hy
    cases str with
    | true => exact bin_of hx hy rfl rfl rfl (hg rfl _ _) h
    | false => exact slowOp_spec h
  · exact slowOp_spec h
theorem pureRun_bind {α γ : Type} : ∀ (s : Sem α) (f : α → Sem γ), pureRun P (s >>= f) = (pureRun P s).bind fun a => pureRun P (f a)
  | .pure a, f => rfl
  | .program k, f => pureRun_bind (k P) f
  | .mark m k, f => pureRun_bind k f
  | .load .., _ => rfl
  | .store .., _ => rfl
  | .new .., _ => rfl
  | .shape .., _ => rfl
  | .freeze .., _ => rfl
  | .frozen .., _ => rfl
  | .getObj .., _ => rfl
  | .setObj .., _ => rfl
  | .choose .., _ => rfl
  | .sys .., _ => rfl
  | .halt .., _ => rfl
theorem pureRun_pure {α : Type} (a : α) : pureRun P (pure a) = some a := rfl
theorem pureRun_program : pureRun P program = some P := rfl
theorem pureRun_underlying {t : TypeId} {d : TypeDesc} (h : P.underlying t = some d) : pureRun P (underlying t) = some d := by
  unfold underlying
  rw [pureRun_bind, pureRun_program]
  simp only [Option.bind_some, h]
  rfl
theorem pureRun_part {t : TypeId} {e : Eta} (h : etaOf P t = some e) {xs : List Value} {i : Nat} {x : Value} (hx : xs[i]? = some x) : pureRun P (part t ⟨xs⟩ i) = some x := by
  unfold etaOf at h
  simp only [undQ_eq] at h
  have hd : ∃ d, P.underlying t = some d ∧ (∀ fs, d ≠ .struct fs) ∧ ∀ n e, d ≠ .array n e := by
    split at h
    · rename_i k hu; exact ⟨_, hu, fun _ h => (by cases h), fun _ _ h => (by cases h)⟩
    · rename_i hu; exact ⟨_, hu, fun _ h => (by cases h), fun _ _ h => (by cases h)⟩
    · rename_i hu; exact ⟨_, hu, fun _ h => (by cases h), fun _ _ h => (by cases h)⟩
    · rename_i e hu; exact ⟨_, hu, fun _ h => (by cases h), fun _ _ h => (by cases h)⟩
    · cases h
  obtain ⟨d, hu, h1, h2⟩ := hd
  have hagg : pureRun P (isAgg t) = some false := by
    unfold isAgg
    rw [pureRun_bind, pureRun_underlying hu]
    simp only [Option.bind_some]
    cases d <;> first
      | rfl
      | exact absurd rfl (h1 _)
      | exact absurd rfl (h2 _ _)
  unfold part
  rw [pureRun_bind, hagg]
  have hx' : (⟨xs⟩ : Array Value)[i]? = some x := by simpa using hx
  simp only [Option.bind_some, Bool.false_eq_true, if_false, hx']
  rfl
theorem eqE_spec {e : Eta} {x y : Value} {k : Bool → Res} {f : Field} {d : Nat} (hf : etaOf P f.type = some e) (h : eqE e x y k = some r) : ∃ b, pureRun P (Op.equalIn (d + 1) f.type x y) = some b ∧ k b = some r := by
  unfold etaOf at hf
  simp only [undQ_eq] at hf
  unfold eqE at h
  split at hf
  · rename_i kd hu
    obtain rfl := Option.some.inj hf
    simp only at h
    split at h
    · rename_i a m b n
      obtain ⟨hc, h'⟩ := needB_spec h
      simp only [decide_eq_true_eq] at hc
      subst hc
      refine ⟨_, ?_, h'⟩
      simp only [Op.equalIn, pureRun_bind, pureRun_underlying hu, Option.bind_some, if_true]
      rfl
    · cases h
  · rename_i hu
    obtain rfl := Option.some.inj hf
    simp only at h
    split at h
    · rename_i a b
      refine ⟨_, ?_, h⟩
      simp only [Op.equalIn, pureRun_bind, pureRun_underlying hu, Option.bind_some]
      rw [show eqS a b = (a == b) from (beq_toListBytes a b).symm]
      rfl
    · cases h
  · rename_i hu
    obtain rfl := Option.some.inj hf
    simp only at h
    split at h
    · rename_i a b
      refine ⟨_, ?_, h⟩
      simp only [Op.equalIn, pureRun_bind, pureRun_underlying hu, Option.bind_some]
      rfl
    · cases h
  · split at hf
    · obtain rfl := Option.some.inj hf
      cases h
    · cases hf
  · cases hf
theorem eqC_spec {d : Nat} : ∀ {fs : List Field} {i : Nat} {es : List Eta}, etaFs P fs i = some es → ∀ {xs ys : List Value} {k : Bool → Res} {r}, eqC es (xs.drop i) (ys.drop i) k = some r → ∃ b, pureRun P (Op.eqFields (d + 1) ⟨xs⟩ ⟨ys⟩ fs) = some b ∧ k b = some r
  | [], i, es, h, xs, ys, k, r, hk => by
    obtain rfl := Option.some.inj (h : some [] = some es)
    exact ⟨true, rfl, hk⟩
  | f :: fs, i, es, h, xs, ys, k, r, hk => by
    change (match and (Nat.beq f.offset i) (f.name != "_"), etaOf P f.type, etaFs P fs (i + 1) with
      | true, some (.slice _), _ => none
      | true, some e, some es => some (e :: es)
      | _, _, _ => none) = some es at h
    cases hb : and (Nat.beq f.offset i) (f.name != "_") with
    | false => rw [hb] at h; cases h
    | true =>
    cases he : etaOf P f.type with
    | none => rw [hb, he] at h; cases h
    | some e =>
    cases hes : etaFs P fs (i + 1) with
    | none => rw [hb, he, hes] at h; cases e <;> cases h
    | some es' =>
      rw [hb, he, hes] at h
      have h : e :: es' = es := by cases e <;> first | exact Option.some.inj h | cases h
      subst h
      simp only [Bool.and_eq_true, bne_iff_ne, ne_eq] at hb
      obtain ⟨hoff, hname⟩ := hb
      have hoff := Nat.eq_of_beq_eq_true hoff
      change (match xs.drop i with
        | x :: xs' => match ys.drop i with
          | y :: ys' => eqE e x y fun b => eqC es' xs' ys' fun r => k (and b r)
          | [] => none
        | [] => none) = some r at hk
      split at hk
      · rename_i x xs' hxs
        split at hk
        · rename_i y ys' hys
          have hx : xs[i]? = some x := by rw [← List.head?_drop, hxs]; rfl
          have hy : ys[i]? = some y := by rw [← List.head?_drop, hys]; rfl
          have hx' : xs' = xs.drop (i + 1) := by rw [← List.tail_drop, hxs]; rfl
          have hy' : ys' = ys.drop (i + 1) := by rw [← List.tail_drop, hys]; rfl
          obtain ⟨b, h1, h2⟩ := eqE_spec (d := d) he hk
          rw [hx', hy'] at h2
          obtain ⟨b', h3, h4⟩ := eqC_spec (d := d) hes h2
          refine ⟨b && b', ?_, h4⟩
          simp only [Op.eqFields, if_pos hname, pureRun_bind, hoff, pureRun_part he hx, pureRun_part he hy, Option.bind_some, h1]
          cases b with
          | false => rfl
          | true => exact h3
        · cases hk
      · cases hk
theorem pureRun_equalIn_struct {d : Nat} {t : TypeId} {xs ys : Array Value} {fs : Array Field} (ht : P.underlying t = some (.struct fs)) (hp : P.stoodInHeld t = false) :
    pureRun P (Op.equalIn (d + 1) t (.agg xs) (.agg ys)) = pureRun P (Op.eqFields d xs ys fs.toList) := by
  simp only [Op.equalIn, pureRun_bind, pureRun_underlying ht, pureRun_program, Option.bind_some, hp, Bool.false_eq_true, if_false]
  rw [← Array.forIn_toList]
  generalize fs.toList = l
  clear ht
  induction l with
  | nil => rfl
  | cons f l ih =>
    simp only [List.forIn_cons, Op.eqFields, pureRun_bind]
    split
    · simp only [pureRun_bind]
      cases pureRun P (part f.type xs f.offset) with
      | none => rfl
      | some a =>
        simp only [Option.bind_some]
        cases pureRun P (part f.type ys f.offset) with
        | none => rfl
        | some b =>
          simp only [Option.bind_some]
          cases pureRun P (Op.equalIn d f.type a b) with
          | none => rfl
          | some r =>
            simp only [Option.bind_some]
            cases r with
            | false => rfl
            | true => exact ih
    · exact ih
theorem pureRun_guard {op : BinOp} {t : TypeId} {x y : Operand} {xs ys : Array Value} {s : Sem Value} (hm : P.eqGuardType P.depth t = false) : pureRun P (do eqGuard op t x y (.agg xs) (.agg ys); s) = pureRun P s := by
  rw [pureRun_bind]
  have : pureRun P (eqGuard op t x y (.agg xs) (.agg ys)) = some () := by
    cases op <;> first
      | rfl
      | (unfold eqGuard; simp only [pureRun_bind, pureRun_program, Option.bind_some, hm, Bool.not_true, Bool.false_eq_true, if_false, Bool.not_false, if_true]; rfl)
  rw [this]; rfl
theorem eqK_spec {t : TypeId} {es : List Eta} (h : eqK P t = some es) : ∃ fs, P.underlying t = some (.struct fs) ∧ P.stoodInHeld t = false ∧ P.eqGuardType P.depth t = false ∧ etaFs P fs.toList 0 = some es := by
  unfold eqK at h
  simp only [undQ_eq] at h
  split at h
  · rename_i fs hu
    split at h
    · cases h
    · rename_i hg
      simp only [Bool.or_eq_false_iff] at hg
      exact ⟨fs, hu, hg.1, hg.2, h⟩
  · cases h
theorem struct_eq {t : TypeId} {es : List Eta} (h : eqK P t = some es) {xs ys : Array Value} {k : Bool → Res} {r} (hk : eqC es xs.toList ys.toList k = some r) : ∃ b, pureRun P (Op.equal t (.agg xs) (.agg ys)) = some b ∧ k b = some r := by
  obtain ⟨fs, h1, h2, h3, h4⟩ := eqK_spec h
  obtain ⟨b, g1, g2⟩ := eqC_spec (d := 9998) h4 (xs := xs.toList) (ys := ys.toList) hk
  exact ⟨b, by unfold Op.equal Op.maxDepth; rw [pureRun_equalIn_struct h1 h2]; exact g1, g2⟩
theorem equal_bool {t : TypeId} (hu : P.underlying t = some .bool) (a b : Bool) : pureRun P (Op.equal t (.bool a) (.bool b)) = some (a == b) := by
  unfold Op.equal Op.maxDepth
  show pureRun P (Op.equalIn (9999 + 1) t (.bool a) (.bool b)) = _
  unfold Op.equalIn
  rw [pureRun_bind, pureRun_underlying hu]
  rfl
theorem s_eql_spec {dst type pos after guard} {t yt : TypeId} {x y : Operand} (h : s_eql P ⟨dst, .binOp .eql t x y yt, type, pos, after, guard⟩ (isBoolT P t) (eqK P t) x y call s st kv kd = some r) :
    Hands call kv kd (evOp P (rdF s) ⟨dst, .binOp .eql t x y yt, type, pos, after, guard⟩ st) r := by
  unfold s_eql at h
  split at h
  · rename_i k a k' b hx hy
    obtain ⟨hc, h'⟩ := needB_spec h
    simp only [decide_eq_true_eq] at hc
    subst hc
    exact bin_of hx hy rfl rfl rfl (by simp only [binOp, Op.intCmp, ne_eq, not_true_eq_false, if_false]; rfl) h'
  · rename_i a b hx hy
    exact bin_of hx hy rfl rfl rfl (by simp only [binOp, Op.stringOp]; rfl) h
  · rename_i a b hx hy
    split at h
    · rename_i hb
      unfold isBoolT at hb
      rw [undQ_eq] at hb
      split at hb
      · rename_i hu
        refine bin_of hx hy rfl rfl rfl ?_ h
        rw [pureRun_bind]
        show pureRun P (binOp .eql t (.bool a) (.bool b)) = _
        simp only [binOp, pureRun_bind, equal_bool hu, Option.bind_some]
        rfl
      · cases hb
    · exact slowOp_spec h
  · rename_i a b hx hy
    split at h
    · rename_i es hes
      obtain ⟨hc, h'⟩ := needB_spec h
      simp only [Bool.and_eq_true] at hc
      obtain ⟨b', g1, g2⟩ := struct_eq hes h'
      obtain ⟨fs, h1, h2, h3, h4⟩ := eqK_spec hes
      refine bin_of hx hy (by simpa only [flat] using hc.1) (by simpa only [flat] using hc.2) rfl ?_ g2
      rw [pureRun_guard h3]
      simp only [binOp, pureRun_bind, g1, Option.bind_some]
      rfl
    · exact slowOp_spec h
  · exact slowOp_spec h
theorem s_neq_spec {dst type pos after guard} {t yt : TypeId} {x y : Operand} (h : s_neq P ⟨dst, .binOp .neq t x y yt, type, pos, after, guard⟩ (isBoolT P t) (eqK P t) x y call s st kv kd = some r) :
    Hands call kv kd (evOp P (rdF s) ⟨dst, .binOp .neq t x y yt, type, pos, after, guard⟩ st) r := by
  unfold s_neq at h
  split at h
  · rename_i k a k' b hx hy
    obtain ⟨hc, h'⟩ := needB_spec h
    simp only [decide_eq_true_eq] at hc
    subst hc
    exact bin_of hx hy rfl rfl rfl (by simp only [binOp, Op.intCmp, ne_eq, not_true_eq_false, if_false]; rfl) h'
  · rename_i a b hx hy
    exact bin_of hx hy rfl rfl rfl (by simp only [binOp, Op.stringOp]; rfl) h
  · rename_i a b hx hy
    split at h
    · rename_i hb
      unfold isBoolT at hb
      rw [undQ_eq] at hb
      split at hb
      · rename_i hu
        refine bin_of hx hy rfl rfl rfl ?_ h
        rw [pureRun_bind]
        show pureRun P (binOp .neq t (.bool a) (.bool b)) = _
        simp only [binOp, pureRun_bind, equal_bool hu, Option.bind_some]
        rfl
      · cases hb
    · exact slowOp_spec h
  · rename_i a b hx hy
    split at h
    · rename_i es hes
      obtain ⟨hc, h'⟩ := needB_spec h
      simp only [Bool.and_eq_true] at hc
      obtain ⟨b', g1, g2⟩ := struct_eq hes h'
      obtain ⟨fs, h1, h2, h3, h4⟩ := eqK_spec hes
      refine bin_of hx hy (by simpa only [flat] using hc.1) (by simpa only [flat] using hc.2) rfl ?_ g2
      rw [pureRun_guard h3]
      simp only [binOp, pureRun_bind, g1, Option.bind_some]
      rfl
    · exact slowOp_spec h
  · exact slowOp_spec h
theorem s_cvI_spec {dst type pos after guard} {sT dT : TypeId} {k : IntKind} {x : Operand} (hk : cvT P sT dT = some k) (h : s_cvI P ⟨dst, .convert sT dT x, type, pos, after, guard⟩ k x call s st kv kd = some r) :
    Hands call kv kd (evOp P (rdF s) ⟨dst, .convert sT dT x, type, pos, after, guard⟩ st) r := by
  unfold cvT at hk
  simp only [undQ_eq] at hk
  split at hk
  · rename_i k1 k2 h1 h2
    obtain rfl := Option.some.inj hk
    unfold s_cvI at h
    split at h
    · rename_i k3 n hx
      have hp : pureRun P (convert sT dT (.int k3 n)) = some (.int k2 (cvI k2 n)) := by
        unfold convert
        simp only [pureRun_bind, pureRun_underlying h1, pureRun_underlying h2, Option.bind_some]
        rfl
      simp only [evOp, h1, h2, hx, flat, if_true, hp]
      exact h
    · exact slowOp_spec h
  · cases hk
theorem s_min2_spec {dst type pos after guard} {c : Call} {g : Int → Int → Bool} {b : Builtin} {x y : Operand} (hc1 : c.callee = .builtin b) (hc2 : c.args.toList = [x, y])
    (hb : ∀ k k' m n, builtinS P b c.argTypes type (c.args.map constB) [.int k m, .int k' n] st = some (.val (.int k (if g n m = true then n else m)) st))
    (h : s_min2 P ⟨dst, .call c, type, pos, after, guard⟩ g x y call s st kv kd = some r) : Hands call kv kd (evOp P (rdF s) ⟨dst, .call c, type, pos, after, guard⟩ st) r := by
  unfold s_min2 at h
  split at h
  · rename_i k a k' b hx hy
    simp only [evOp, hc1, hc2, List.map_cons, List.map_nil, hx, hy, hb]
    cases hg : g b a with
    | true => rw [hg] at h; exact h
    | false => rw [hg] at h; exact h
  · exact slowOp_spec h
theorem s_not_spec {dst type pos after guard} {t : TypeId} {x : Operand} (h : s_not P ⟨dst, .unOp .not t x, type, pos, after, guard⟩ x call s st kv kd = some r) : Hands call kv kd (evOp P (rdF s) ⟨dst, .unOp .not t x, type, pos, after, guard⟩ st) r := by
  unfold s_not at h
  split at h
  · rename_i b hx
    simp only [evOp, hx, flat, if_true]
    exact h
  · exact slowOp_spec h
theorem s_len1_spec {dst type pos after guard} {c : Call} {x : Operand} (hc1 : c.callee = .builtin .len) (hc2 : c.args.toList = [x]) (hl : lenK P c.argTypes = 1) (h : s_len1 P ⟨dst, .call c, type, pos, after, guard⟩ x call s st kv kd = some r) :
    Hands call kv kd (evOp P (rdF s) ⟨dst, .call c, type, pos, after, guard⟩ st) r := by
  unfold lenK at hl
  simp only [undQ_eq] at hl
  split at hl
  · rename_i t ht
    split at hl
    · rename_i e hu
      unfold s_len1 at h
      split at h
      · rename_i a n cap hx
        simp only [evOp, hc1, hc2, List.map_cons, List.map_nil, hx, builtinS, ht, hu]
        exact h
      · rename_i tt v hx
        split at h
        · rename_i z hz
          simp only [evOp, hc1, hc2, List.map_cons, List.map_nil, hx, builtinS, ht, hu, hz]
          exact h
        · cases h
      · exact slowOp_spec h
    · cases hl
    · cases hl
  · cases hl
theorem s_len2_spec {dst type pos after guard} {c : Call} {x : Operand} (hc1 : c.callee = .builtin .len) (hc2 : c.args.toList = [x]) (hl : lenK P c.argTypes = 2) (h : s_len2 P ⟨dst, .call c, type, pos, after, guard⟩ x call s st kv kd = some r) :
    Hands call kv kd (evOp P (rdF s) ⟨dst, .call c, type, pos, after, guard⟩ st) r := by
  unfold lenK at hl
  simp only [undQ_eq] at hl
  split at hl
  · rename_i t ht
    split at hl
    · cases hl
    · rename_i hu
      unfold s_len2 at h
      split at h
      · rename_i b hx
        simp only [evOp, hc1, hc2, List.map_cons, List.map_nil, hx, builtinS, ht, hu]
        exact h
      · exact slowOp_spec h
    · cases hl
  · cases hl

theorem s_tail_spec {size : Nat} {x : Value} {xt : TypeDesc} {str : Bool} (hxt : (match xt with | .slice _ => some false | .string => some true | _ => none) = some str) {k : Nat → List Value → Res} (h : s_tail str size st x k = some r) :
    ∃ n new, tailOf st size xt x = some (n, new) ∧ k n new = some r := by
  unfold s_tail at h
  cases str with
  | true =>
    have : xt = .string := by
      split at hxt
      · cases hxt
      · rfl
      · cases hxt
    subst this
    simp only at h
    split at h
    · obtain ⟨hc, h⟩ := needB_spec h
      exact ⟨_, _, by simp only [tailOf, Nat.eq_of_beq_eq_true hc, if_true], h⟩
    · cases h
  | false =>
    have : ∃ e, xt = .slice e := by
      split at hxt
      · exact ⟨_, rfl⟩
      · cases hxt
      · cases hxt
    obtain ⟨e, rfl⟩ := this
    simp only at h
    split at h
    · rename_i a n cap
      obtain ⟨c, e', ex, h1, h2, h3⟩ := cellsF_spec h
      obtain ⟨hc, h3⟩ := needB_spec h3
      have hle : a.off + n * size ≤ c.length := Nat.le_of_ble_eq_true hc
      exact ⟨n, (c.drop a.off).take (n * size), by simp only [tailOf, cellsAt, h1, h2, Option.isSome_none, Bool.false_eq_true, if_false, hle, if_true], h3⟩
    · rename_i n cap
      obtain ⟨hc, h⟩ := needB_spec h
      exact ⟨_, _, by simp only [tailOf, Nat.eq_of_beq_eq_true hc, if_true], h⟩
    · rename_i t v
      split at h
      · rename_i z hz
        obtain ⟨hc, h⟩ := needB_spec h
        exact ⟨_, _, by simp only [tailOf, hz, Nat.eq_of_beq_eq_true hc, if_true], h⟩
      · cases h
    · cases h

theorem s_appendTo_spec {slow : Res} {e : TypeId} {size n : Nat} {new : List Value} {sv : Value} (hsl : slow = some r → ∃ v st', appendTo P st e size n new sv = some (v, st') ∧ kv v st' = some r) (h : s_appendTo slow e size n new st sv kv = some r) :
    ∃ v st', appendTo P st e size n new sv = some (v, st') ∧ kv v st' = some r := by
  unfold s_appendTo at h
  split at h
  · rename_i len cap
    obtain ⟨hc, h'⟩ := needB_spec h
    clear h
    simp only [Bool.and_eq_true] at hc
    have h1 := Nat.eq_of_beq_eq_true hc.1
    have h2 := Nat.eq_of_beq_eq_true hc.2.1
    have h3 := Nat.le_of_ble_eq_true hc.2.2
    subst h1 h2
    simp only [appendTo]
    rw [if_neg (by simp; omega)]
    cases hb : Nat.beq n 0 with
    | true =>
      rw [hb] at h'
      rw [if_pos (Nat.eq_of_beq_eq_true hb)]
      exact ⟨_, _, rfl, h'⟩
    | false =>
      rw [hb] at h'
      rw [if_neg (Nat.ne_of_beq_eq_false hb)]
      exact ⟨_, _, rfl, newF_spec h'⟩
  · rename_i a len cap
    change @Bool.rec (fun _ => Res)
      (needB (Nat.ble (len + n) big) (@Bool.rec (fun _ => Res) (@Bool.rec (fun _ => Res)
        (cellsF st a fun b off c _ _ _ _ => needB (Nat.ble (Nat.add off (len * size)) c.length)
          (newF st (.cells ((c.drop off).take (len * size) ++ new) e false) fun a st => kv (.slice (some a) (len + n) unk) st))
        (@Bool.rec (fun _ => Res) slow (needB (Nat.ble (cap + 1) unk) (kv (.slice (some a) len cap) st)) (Nat.beq n 0)) (Nat.ble (len + n) cap))
        (@Bool.rec (fun _ => Res)
          (cellsF st a fun b off c _ _ _ _ => needB (Nat.ble (Nat.add off (len * size)) c.length)
            (newF st (.cells ((c.drop off).take (len * size) ++ new) e false) fun a st => kv (.slice (some a) (len + n) unk) st))
          (needB (Nat.ble (cap + 1) unk) (kv (.slice (some a) len cap) st)) (Nat.beq n 0)) (Nat.beq cap len)))
      (cellsF st a fun b off c e' ex heap next => needB (and (not ex) (and (Nat.beq e' e) (and (Nat.ble off c.length) (Nat.ble (len + n) big))))
        (@Bool.rec (fun _ => Res)
          (needB (Nat.beq (Nat.add off (len * size)) c.length)
            (newF ⟨setP (path b) heap .dead, next⟩ (.cells ((c.drop off).take (len * size) ++ new) e false) fun a st => kv (.slice (some a) (len + n) unk) st))
          (needB (Nat.ble (Nat.add off (len * size)) c.length) (kv (.slice (some a) len cap) st)) (Nat.beq n 0)))
      (Nat.beq cap unk) = some r at h
    cases hb : Nat.beq cap unk with
    | false =>
      rw [hb] at h
      obtain ⟨hc, h⟩ := needB_spec h
      have hc := Nat.le_of_ble_eq_true hc
      have hne := Nat.ne_of_beq_eq_false hb
      have grow : ¬ len + n ≤ cap → (cellsF st a fun b off c _ _ _ _ => needB (Nat.ble (Nat.add off (len * size)) c.length)
          (newF st (.cells ((c.drop off).take (len * size) ++ new) e false) fun a st => kv (.slice (some a) (len + n) unk) st)) = some r → ∃ v st', appendTo P st e size n new (.slice (some a) len cap) = some (v, st') ∧ kv v st' = some r := by
        intro hnle h
        obtain ⟨c, e', ex, h1, h2, h3⟩ := cellsF_spec h
        obtain ⟨hd, h3⟩ := needB_spec h3
        have hd : a.off + len * size ≤ c.length := Nat.le_of_ble_eq_true hd
        have hcu : cap < unk := by unfold unk; unfold big at hc; omega
        refine ⟨_, _, ?_, newF_spec h3⟩
        simp only [appendTo]
        rw [if_neg (by omega), if_pos hcu, if_neg hnle]
        simp only [cellsAt, h1, h2, Option.isSome_none, Bool.false_eq_true, if_false, hd, if_true]
        rfl
      have same : len + n ≤ cap → Nat.beq n 0 = true → needB (Nat.ble (cap + 1) unk) (kv (.slice (some a) len cap) st) = some r → ∃ v st', appendTo P st e size n new (.slice (some a) len cap) = some (v, st') ∧ kv v st' = some r := by
        intro hle hb3 h
        have hn := Nat.eq_of_beq_eq_true hb3
        obtain ⟨hcu, h⟩ := needB_spec h
        have hcu : cap < unk := Nat.le_of_ble_eq_true hcu
        refine ⟨_, _, ?_, h⟩
        simp only [appendTo]
        rw [if_neg (by omega), if_pos hcu, if_pos hle, if_pos hn]
      cases hb0 : Nat.beq cap len with
      | true =>
        rw [hb0] at h
        have hcl := Nat.eq_of_beq_eq_true hb0
        cases hb3 : Nat.beq n 0 with
        | true =>
          rw [hb3] at h
          exact same (by have := Nat.eq_of_beq_eq_true hb3; omega) hb3 h
        | false =>
          rw [hb3] at h
          exact grow (by have := Nat.ne_of_beq_eq_false hb3; omega) h
      | false =>
        rw [hb0] at h
        cases hb2 : Nat.ble (len + n) cap with
        | true =>
          rw [hb2] at h
          cases hb3 : Nat.beq n 0 with
          | false => rw [hb3] at h; exact hsl h
          | true => rw [hb3] at h; exact same (Nat.le_of_ble_eq_true hb2) hb3 h
        | false =>
          rw [hb2] at h
          exact grow (fun k => by rw [Nat.ble_eq_true_of_le k] at hb2; cases hb2) h
    | true =>
      rw [hb] at h
      have hcap := Nat.eq_of_beq_eq_true hb
      obtain ⟨c, e', ex, h1, h2, h3⟩ := cellsF_spec h
      obtain ⟨hc, h4⟩ := needB_spec h3
      clear h3
      simp only [Bool.and_eq_true, Bool.not_eq_true'] at hc
      obtain ⟨hx, he, ho, hbg⟩ := hc
      have he := Nat.eq_of_beq_eq_true he
      have ho := Nat.le_of_ble_eq_true ho
      have hbg := Nat.le_of_ble_eq_true hbg
      subst hx he
      have hpre : appendTo P st e' size n new (.slice (some a) len cap) = 
        if n = 0 then (if a.off + len * size ≤ c.length then some (.slice (some a) len cap, st) else none) else
        if a.off + (len + (cap - unk)) * size = c.length then
          some (.slice (some (newRow (kill st a.block) ((c.drop a.off).take (len * size) ++ new) e' false).1) (len + n) unk, (newRow (kill st a.block) ((c.drop a.off).take (len * size) ++ new) e' false).2)
        else if cap = unk && a.off + len * size + new.length ≤ c.length then
          match setCells st (a.add (len * size)) new with
          | some st => some (.slice (some a) (len + n) cap, st)
          | none => none
        else if cap = unk && a.off + len * size ≤ c.length then
          some (.slice (some (newRow (kill st a.block) ((c.drop a.off).take (len * size) ++ new) e' false).1) (len + n) unk, (newRow (kill st a.block) ((c.drop a.off).take (len * size) ++ new) e' false).2)
        else none := by
        simp only [appendTo]
        rw [if_neg (by omega), if_neg (by omega), h2]
        simp only
        rw [if_neg (by simp [h1, hcap, ho])]
        rfl
      rw [hpre]
      cases hb3 : Nat.beq n 0 with
      | true =>
        rw [hb3] at h4
        obtain ⟨hd, h4⟩ := needB_spec h4
        have hd : a.off + len * size ≤ c.length := Nat.le_of_ble_eq_true hd
        rw [if_pos (Nat.eq_of_beq_eq_true hb3), if_pos hd]
        exact ⟨_, _, rfl, h4⟩
      | false =>
        rw [hb3] at h4
        obtain ⟨hd, h4⟩ := needB_spec h4
        have hd : a.off + len * size = c.length := Nat.eq_of_beq_eq_true hd
        rw [if_neg (Nat.ne_of_beq_eq_false hb3), if_pos (by rw [hcap, Nat.sub_self, Nat.add_zero]; exact hd)]
        refine ⟨_, _, rfl, ?_⟩
        have h4 := newF_spec h4
        rw [setP_path] at h4
        exact h4
  · exact hsl h
end
end Go.VS
end

section
namespace Go.VS
set_option linter.unusedSimpArgs false
set_option linter.unusedVariables false
section
variable {P : Program}
variable {call : Knot} {s : Trie Value} {o : Oper} {st : St} {kv : Value → St → Res} {kd : Deferred → St → Res} {r : Value × St}

theorem s_pick_spec {dst type pos after guard} {c a b : Operand} (h : s_pick c a b call s st kv kd = some r) : Hands call kv kd (evOp P (rdF s) ⟨dst, .pick c a b, type, pos, after, guard⟩ st) r := by
  unfold s_pick at h
  split at h
  · rename_i t ht
    simp only [evOp, ht]
    cases t <;> exact h
  · cases h

theorem s_append_spec {dst type pos after guard} {c : Call} {x y : Operand} {tx ty e : TypeId} {size : Nat} {str : Bool} (hc1 : c.callee = .builtin .append) (hc2 : c.args.toList = [x, y]) (hc3 : c.argTypes.toList = [tx, ty]) (hk : appK P tx ty = some (e, size, str))
    (h : s_append P ⟨dst, .call c, type, pos, after, guard⟩ e size str x y call s st kv kd = some r) : Hands call kv kd (evOp P (rdF s) ⟨dst, .call c, type, pos, after, guard⟩ st) r := by
  unfold appK at hk
  simp only [undQ_eq, infoQ_eq, zeroQ_eq] at hk
  split at hk
  · rename_i e' xt hs hx
    split at hk
    · rename_i str' ei z hxt hi hz
      split at hk
      · cases hk
      · rename_i hcond
        simp only [Option.some.injEq, Prod.mk.injEq] at hk
        obtain ⟨rfl, rfl, rfl⟩ := hk
        have ht0 : c.argTypes[0]? = some tx := by rw [← Array.getElem?_toList, hc3]; rfl
        have ht1 : c.argTypes[1]? = some ty := by rw [← Array.getElem?_toList, hc3]; rfl
        have hev : evOp P (rdF s) ⟨dst, .call c, type, pos, after, guard⟩ st = match appendS P st tx ty (rdF s x) (rdF s y) with
          | some (v, st) => some (.val v st)
          | none => none := by
          simp only [evOp, hc1, hc2, List.map_cons, List.map_nil, builtinS, ht0, ht1]
          cases appendS P st tx ty (rdF s x) (rdF s y) <;> rfl
        rw [hev]
        have happ : appendS P st tx ty (rdF s x) (rdF s y) = match tailOf st ei.size xt (rdF s y) with
            | some (n, new) => if new.all oneCell then appendTo P st e' ei.size n new (rdF s x) else none
            | none => none := by
          simp only [appendS, hs, hx, hi, hz]
          rw [if_neg hcond]
          cases tailOf st ei.size xt (rdF s y) <;> rfl
        have key : (∃ v st', appendS P st tx ty (rdF s x) (rdF s y) = some (v, st') ∧ kv v st' = some r) → Hands call kv kd (match appendS P st tx ty (rdF s x) (rdF s y) with
          | some (v, st) => some (.val v st)
          | none => none) r := by
          rintro ⟨v, st', h1, h2⟩
          rw [h1]; exact h2
        apply key
        unfold s_append at h
        obtain ⟨n, new, h1, h2⟩ := s_tail_spec hxt h
        obtain ⟨h3, h4⟩ := needB_spec h2
        rw [happ, h1]
        simp only [h3, if_true]
        refine s_appendTo_spec (fun hsl => ?_) h4
        have := slowOp_spec hsl
        rw [hev, happ, h1] at this
        simp only [h3, if_true] at this
        cases hx : appendTo P st e' ei.size n new (rdF s x) with
        | none => rw [hx] at this; exact this.elim
        | some p => rw [hx] at this; exact ⟨p.1, p.2, rfl, this⟩
    · cases hk
  · cases hk

theorem compS_spec (h : (compS P o).run call s st kv kd = some r) : Hands call kv kd (evOp P (rdF s) o st) r := by
  obtain ⟨dst, op, type, pos, after, guard⟩ := o
  unfold compS at h
  simp only at h
  split at h
  · exact s_pick_spec h
  · split at h
    · rename_i hk
      split at h
      · exact s_load1_spec hk h
      · exact opF_spec h
    · exact opF_spec h
  · rename_i t x ix
    split at h
    · rename_i hs
      unfold isStr at hs
      rw [undQ_eq] at hs
      split at hs
      · exact s_index_spec ‹_› h
      · cases hs
    · exact opF_spec h
  · split at h
    · exact s_indexAddr_spec ‹_› h
    · exact opF_spec h
  · split at h
    · rename_i hs
      unfold isStr at hs
      rw [undQ_eq] at hs
      split at hs
      · exact s_slice_string_spec ‹_› h
      · cases hs
    · split at h
      · exact s_slice_spec ‹_› h
      · exact opF_spec h
  · split at h
    · exact s_toString_spec ‹_› h
    · exact s_toBytes_spec ‹_› h
    · split at h
      · exact s_cvI_spec ‹_› h
      · exact slowOp_spec h
  · split at h
    · exact s_shl_spec h
    · exact s_shr_spec h
    · exact s_quo_spec h
    · exact s_rem_spec h
    · exact s_add_spec h
    · exact s_int_spec (f := subI) (hf := fun k a b => by simp only [binOp, Op.intArith, ne_eq, not_true_eq_false, if_false]; rfl) h
    · exact s_int_spec (f := mulI) (hf := fun k a b => by simp only [binOp, Op.intArith, ne_eq, not_true_eq_false, if_false]; rfl) h
    · exact s_int_spec (f := andI) (hf := fun k a b => by simp only [binOp, Op.intBits, ne_eq, not_true_eq_false, if_false]; rfl) h
    · exact s_int_spec (f := orI) (hf := fun k a b => by simp only [binOp, Op.intBits, ne_eq, not_true_eq_false, if_false]; rfl) h
    · exact s_int_spec (f := xorI) (hf := fun k a b => by simp only [binOp, Op.intBits, ne_eq, not_true_eq_false, if_false]; rfl) h
    · exact s_int_spec (f := clrI) (hf := fun k a b => by simp only [binOp, Op.intBits, ne_eq, not_true_eq_false, if_false]; rfl) h
    · exact s_eql_spec h
    · exact s_neq_spec h
    · exact s_cmp_spec (f := ltI) (g := ltS) (str := true) (hf := fun k a b => by simp only [binOp, Op.intCmp, ne_eq, not_true_eq_false, if_false]; rfl) (hg := fun _ a b => by simp only [binOp, Op.stringOp]; rfl) h
    · exact s_cmp_spec (f := leI) (g := leS) (str := true) (hf := fun k a b => by simp only [binOp, Op.intCmp, ne_eq, not_true_eq_false, if_false]; rfl) (hg := fun _ a b => by simp only [binOp, Op.stringOp]; rfl) h
    · exact s_cmp_spec (f := gtI) (g := gtS) (str := true) (hf := fun k a b => by simp only [binOp, Op.intCmp, ne_eq, not_true_eq_false, if_false]; rfl) (hg := fun _ a b => by simp only [binOp, Op.stringOp]; rfl) h
    · exact s_cmp_spec (f := geI) (g := geS) (str := true) (hf := fun k a b => by simp only [binOp, Op.intCmp, ne_eq, not_true_eq_false, if_false]; rfl) (hg := fun _ a b => by simp only [binOp, Op.stringOp]; rfl) h
  · exact s_not_spec h
  · rename_i c
    split at h
    · rename_i h1 h2 h3
      split at h
      · rename_i r' hr
        exact s_append_spec h1 h2 h3 hr h
      · exact opF_spec h
    · rename_i h1 h2
      split at h
      · exact s_len1_spec h1 h2 ‹_› h
      · exact s_len2_spec h1 h2 ‹_› h
      · exact slowOp_spec h
    · rename_i h1 h2
      exact s_min2_spec h1 h2 (g := ltI) (fun k _ m n => by
        have e : (if ltI n m = true then n else m) = minI m n := by simp [minI, ltI]
        rw [e]; rfl) h
    · rename_i h1 h2
      exact s_min2_spec h1 h2 (g := gtI) (fun k _ m n => by
        have e : (if gtI n m = true then n else m) = maxI m n := by simp [maxI, gtI]
        rw [e]; rfl) h
    · exact opF_spec h
  · exact opF_spec h
end
end Go.VS
end

section
namespace Go.VS
noncomputable def engS (P : Program) : Eng := ⟨compS P, fun ct => drawM P (compS P) ct⟩
theorem engS_ok (P : Program) (ct : Ct) : EngOk P ct (engS P) where
  comp := fun h => compS_spec h
  draw := by
    intro call hc ops nt ro s d st k r h
    exact drawM_spec (fun h => compS_spec h) hc h
end Go.VS
end

section
namespace Go.VS
set_option linter.unusedSimpArgs false
set_option linter.unusedVariables false

theorem need_eq {b : Bool} {x y : Res} (h : b = true) (k : x = y) : needB b x = y := by subst h; exact k
theorem ite_t {b : Bool} {x y z : Res} (h : b = true) (k : x = z) : iteB b x y = z := by subst h; exact k
theorem ite_f {b : Bool} {x y z : Res} (h : b = false) (k : y = z) : iteB b x y = z := by subst h; exact k
theorem same_agg : ∀ {l : List Value}, (l.all fun v => match v with | .int _ _ | .bool _ | .string _ | .chan _ => true | _ => false) = true → beqV (.agg ⟨l⟩) (.agg ⟨l⟩) = true
  | l, h => by
    show beqVL l l = true
    induction l with
    | nil => rfl
    | cons v l ih =>
      simp only [List.all_cons, Bool.and_eq_true] at h
      simp only [beqVL, ih h.2, Bool.and_true]
      obtain ⟨h1, _⟩ := h
      cases v <;> first | (simp at h1; done) | simp [beqV]
theorem leaf_eq {v v' : Value} {bs bs' : List Blk} (h : v = v') (k : bs = bs') : (some (v, mkSt bs) : Res) = some (v', mkSt bs') := by rw [h, k]
theorem and_ok {a b : Bool} (h : a = true) (k : b = true) : Bool.and a b = true := by rw [h, k]; rfl
theorem ble_ok {a b : Nat} (h : a ≤ b) : Nat.ble a b = true := Nat.ble_eq_true_of_le h
theorem beq_ok {a b : Nat} (h : a = b) : Nat.beq a b = true := by rw [h]; exact Nat.beq_refl b
theorem inI_ok {i : Int} {n : Nat} (h : 0 ≤ i) (k : i < n) : inI i n = true := by simp [inI, h, k]
theorem cutI_ok {l h : Int} {n : Nat} (h1 : 0 ≤ l) (h2 : l ≤ h) (h3 : h ≤ n) : cutI l h n = true := by simp [cutI, h1, h2, h3]

/-- Bytes as cells. -/
def bc (l : List UInt8) : List Value := l.map fun b => .int .u8 b.toNat
theorem byteCells_bc (s : ByteArray) : byteCells s = bc s.data.toList := rfl
theorem bc_length (l : List UInt8) : (bc l).length = l.length := by simp [bc]
theorem bc_append (a b : List UInt8) : bc (a ++ b) = bc a ++ bc b := by simp [bc]
theorem bc_flat : ∀ (l : List UInt8), flatL (bc l) = true
  | [] => rfl
  | b :: l => by
    show (flat (.int .u8 b.toNat) && flatL (bc l)) = true
    rw [bc_flat l]; rfl
theorem bc_ren (z : Bool) (ρ : Nat → Option Nat) (l : List UInt8) : renL z ρ (bc l) = bc l := renL_flat (bc_flat l)
theorem bc_all (l : List UInt8) : allBytes (bc l) = true := by
  unfold allBytes bc
  rw [List.all_map, List.all_eq_true]
  intro b _
  rfl
theorem byteOf_of (b : UInt8) : byteOf (.int .u8 b.toNat) = b := by
  show UInt8.ofNat (Int.toNat (b.toNat : Int)) = b
  simp
theorem bc_back (l : List UInt8) : (bc l).map byteOf = l := by
  unfold bc
  rw [List.map_map]
  have : (byteOf ∘ fun b : UInt8 => Value.int .u8 b.toNat) = id := by funext b; exact byteOf_of b
  rw [this, List.map_id]
theorem bc_text (l : List UInt8) : bytesT (bc l) = ⟨⟨l⟩⟩ := by unfold bytesT; rw [bc_back]
theorem bc_nth {l : List UInt8} {i : Nat} (h : i < l.length) : nthD (bc l) i = .int .u8 (l[i].toNat) := by
  unfold nthD bc
  rw [List.getD_eq_getElem?_getD, List.getElem?_map, List.getElem?_eq_getElem h]
  rfl
theorem bc_one (l : List UInt8) : (bc l).all oneCell = true := by
  unfold bc
  rw [List.all_map, List.all_eq_true]
  intro b _
  rfl
theorem allBytes_bc : ∀ {c : List Value}, allBytes c = true → (∀ v ∈ c, ∃ b : UInt8, v = .int .u8 b.toNat) → c = bc (c.map byteOf)
  | [], _, _ => rfl
  | v :: c, h, k => by
    obtain ⟨b, rfl⟩ := k v (by simp)
    simp only [allBytes, List.all_cons, Bool.and_eq_true] at h
    have ih := allBytes_bc (c := c) h.2 fun v hv => k v (by simp [hv])
    show _ = Value.int .u8 (byteOf (.int .u8 b.toNat)).toNat :: bc (c.map byteOf)
    rw [byteOf_of, ← ih]
theorem take_all (c : List Value) : takeC (Nat.mul c.length 1) (dropC 0 c) = c := by
  show (c.drop 0).take (c.length * 1) = c
  simp
theorem take_all' (c : List Value) {n : Nat} (h : n = c.length) : takeC n (dropC 0 c) = c := by
  subst h
  show (c.drop 0).take c.length = c
  simp
/-- A cell is a byte. -/
def isByteV (v : Value) : Bool := match v with
  | .int .u8 n => decide (0 ≤ n ∧ n < 256)
  | _ => false
def bytesB (c : List Value) : Bool := c.all isByteV
theorem isByteV_int (n : Int) : isByteV (.int .u8 n) = decide (0 ≤ n ∧ n < 256) := rfl
theorem bytesB_bc : ∀ (l : List UInt8), bytesB (bc l) = true
  | [] => rfl
  | b :: l => by
    have h : bytesB (bc (b :: l)) = (isByteV (.int .u8 b.toNat) && bytesB (bc l)) := by simp only [bytesB, bc, List.map_cons, List.all_cons]
    have := b.toNat_lt
    rw [h, bytesB_bc l, isByteV_int]
    simp only [Bool.and_true, decide_eq_true_eq]
    omega
theorem bc_of : ∀ {c : List Value}, bytesB c = true → c = bc (c.map byteOf)
  | [], _ => rfl
  | v :: c, h => by
    simp only [bytesB, List.all_cons, Bool.and_eq_true] at h
    obtain ⟨h1, h2⟩ := h
    unfold isByteV at h1
    split at h1
    · rename_i n
      simp only [decide_eq_true_eq] at h1
      have ih := bc_of (c := c) h2
      show _ = Value.int .u8 (byteOf (.int .u8 n)).toNat :: bc (c.map byteOf)
      rw [← ih]
      congr 2
      show n = ((UInt8.ofNat n.toNat).toNat : Int)
      simp only [UInt8.toNat_ofNat']
      omega
    · cases h1
theorem wrap64 {n : Int} (h1 : -9223372036854775808 ≤ n) (h2 : n < 9223372036854775808) : IntKind.i64.wrap n = n := by
  have e : IntKind.i64.wrap n = if n % 18446744073709551616 ≥ 9223372036854775808 then n % 18446744073709551616 - 18446744073709551616 else n % 18446744073709551616 := by
    show (if (true && decide (n % (2 ^ 64 : Int) ≥ (2 ^ (64 - 1) : Int))) = true then n % (2 ^ 64 : Int) - (2 ^ 64 : Int) else n % (2 ^ 64 : Int)) = _
    have e1 : (2 : Int) ^ (64 - 1) = 9223372036854775808 := by decide
    have e2 : (2 : Int) ^ 64 = 18446744073709551616 := by decide
    rw [e1, e2]
    simp only [Bool.true_and, decide_eq_true_eq]
  rw [e]
  split <;> omega
theorem wrap8 {n : Int} (h1 : 0 ≤ n) (h2 : n < 256) : IntKind.u8.wrap n = n := by
  have e : IntKind.u8.wrap n = n % 256 := by
    show (if (false && decide (n % (2 ^ 8 : Int) ≥ (2 ^ (8 - 1) : Int))) = true then n % (2 ^ 8 : Int) - (2 ^ 8 : Int) else n % (2 ^ 8 : Int)) = _
    simp
  rw [e]; omega
theorem toList_data (b : ByteArray) : b.toList = b.data.toList := by
  first
    | exact ByteArray.toList_eq b
    | exact Go.ByteArray.toList_eq b
    | exact _root_.ByteArray.toList_eq b
theorem eqS_eq (a b : ByteArray) : eqS a b = (a.data.toList == b.data.toList) := by unfold eqS; rw [toList_data, toList_data]
theorem neS_eq (a b : ByteArray) : neS a b = !(a.data.toList == b.data.toList) := by unfold neS; rw [toList_data, toList_data]
end Go.VS
end

section
namespace Go.VS
set_option linter.unusedSimpArgs false
set_option linter.unusedVariables false
open Go.RowKit
section
variable {P : Program} {ct : Ct}

/-- A part of the memory is taken out and put back: the rest stays. -/
theorem Rel.part {K : Prot} {β : Env} {st st0 : St} {w : World} (h : Rel P K β st w) (hnx : st0.next = st.next) (hsub : ∀ i b, st0.heap.get i = some b → b.live = true → st.heap.get i = some b)
    (hno : ∀ i o, st0.heap.get i ≠ some (.obj o)) :
    ∃ K' : Prot, (∀ k, K k → K' k) ∧ K'.id = K.id ∧ Rel P K' β st0 w ∧ ∀ (β' : Env) (st1 st2 : St) (w' : World), β.le β' → Rel P K' β' st1 w' → Bel K' w w' → st.next ≤ st1.next → (∀ i o, st1.heap.get i ≠ some (.obj o)) →
      st2.next = st1.next → (∀ i b, st2.heap.get i = some b → b.live = true → st1.heap.get i = some b ∨ ((∀ c, st1.heap.get i = some c → c.live = false) ∧ (∀ c, st0.heap.get i = some c → c.live = false) ∧ st.heap.get i = some b)) →
      (∀ i o, st.heap.get i = some (.obj o) → (∀ c, st1.heap.get i = some c → c.live = false) → st2.heap.get i = some (.obj o)) → Rel P K β' st2 w' := by
  obtain ⟨fp, o1, o2⟩ := h.objs
  have hobjs := h.objs
  let gone : Nat → Prop := fun k => ∃ i b l, st.heap.get i = some b ∧ b.live = true ∧ (∀ c, st0.heap.get i = some c → c.live = false) ∧ β (i : Int) = some l ∧ l.virt = false ∧ l.blk = k
  let foot : Nat → Prop := fun k => ∃ i, fp i k
  let K' : Prot := ⟨fun k => K k ∨ gone k ∨ foot k, K.id, fun k => K.nofz k ∨ gone k ∨ foot k, K.obs⟩
  have hr0 : Rel P K' β st0 w := by
    refine ⟨fun k hk => ?_, fun i l hi => by rw [hnx]; exact h.dom i l hi, fun i b hi hb => ?_, fun i j bi bj li lj hi hbi hj hbj => h.inj i j bi bj li lj (hsub i bi hi hbi) hbi (hsub j bj hj hbj) hbj, fun i hi => by rw [hnx]; exact h.res i hi, fun k l hk => ?_, fun k l hk => ?_, ?_⟩
    · rcases hk with hk | ⟨i, b, l, a1, a2, a3, a4, a5, rfl⟩ | ⟨i, hk⟩
      · exact h.base k hk
      · exact (h.dom i l a4).2 a5
      · exact (o2 i k hk).2.1
    · obtain ⟨l, c1, c2, c3⟩ := h.blk i b (hsub i b hi hb) hb
      refine ⟨l, c1, fun hv hK => ?_, c3⟩
      rcases hK with hK | ⟨j, bj, lj, a1, a2, a3, a4, a5, a6⟩ | ⟨j, hK⟩
      · exact c2 hv hK
      · have := h.inj i j b bj l lj (hsub i b hi hb) hb a1 a2 c1 a4 hv a5 a6.symm
        subst this
        have := a3 b hi
        rw [hb] at this; cases this
      · have := (o2 j _ hK).2.2.2.2.2 i b l (hsub i b hi hb) hb c1 hv rfl
        subst this
        obtain ⟨⟨o, ho⟩, _⟩ := o2 i _ hK
        rw [hsub i b hi hb] at ho
        cases ho
        exact hno i o hi
    · rintro (hf | ⟨j, bj, lj, a1, a2, a3, a4, a5, a6⟩ | ⟨j, hK⟩)
      · exact h.nofz k l hk hf
      · exact (h.frz k l hk).2.2 j bj lj a1 a2 a4 a5 a6
      · have := (o2 j k hK).2.2.2.1
        rw [hk] at this; cases this
    · obtain ⟨f1, f2, f3⟩ := h.frz k l hk
      exact ⟨f1, f2, fun j bj lj hj hbj => f3 j bj lj (hsub j bj hj hbj) hbj⟩
    · exact ⟨fun _ _ => False, fun i o hi => absurd hi (hno i o), fun i k hk => hk.elim⟩
  refine ⟨K', fun k hk => Or.inl hk, rfl, hr0, fun β' st1 st2 w' hle h1 hb hnx1 hno1 hnx2 hget hobj => ?_⟩
  have hrest : ∀ (i : Nat) b, st.heap.get i = some b → b.live = true → (∀ c, st0.heap.get i = some c → c.live = false) → ∃ l, β i = some l ∧ β' i = some l ∧ (l.virt = false → ¬ K l.blk ∧ gone l.blk) ∧ BlkR P β' l b w'.heap[l.blk]? := by
    intro i b hi hl hn
    obtain ⟨l, c1, c2, c3⟩ := h.blk i b hi hl
    refine ⟨l, c1, hle _ _ c1, fun hv => ⟨c2 hv, ⟨i, b, l, hi, hl, hn, c1, hv, rfl⟩⟩, ?_⟩
    cases hv : l.virt with
    | true => exact (c3.mono hle).anywhere hv _
    | false => rw [hb.block l.blk (Or.inr (Or.inl ⟨i, b, l, hi, hl, hn, c1, hv, rfl⟩))]; exact c3.mono hle
  refine ⟨fun k hk => Nat.lt_of_lt_of_le (h.base k hk) hb.size, fun i l hi => by rw [hnx2]; exact h1.dom i l hi, fun i b hi hl => ?_, fun i j bi bj li lj hi hbi hj hbj hli hlj v1 v2 e => ?_, fun i hi => by rw [hnx2]; exact h1.res i hi, fun k l hk hf => h1.nofz k l hk (Or.inl hf), fun k l hk => ?_, ?_⟩
  · rcases hget i b hi hl with g | ⟨_, g2, g3⟩
    · obtain ⟨l, c1, c2, c3⟩ := h1.blk i b g hl
      exact ⟨l, c1, fun hv hK => c2 hv (Or.inl hK), c3⟩
    · obtain ⟨l, _, c1, c2, c3⟩ := hrest i b g3 hl g2
      exact ⟨l, c1, fun hv => (c2 hv).1, c3⟩
  · rcases hget i bi hi hbi with g | ⟨_, g2, g3⟩ <;> rcases hget j bj hj hbj with g' | ⟨_, g2', g3'⟩
    · exact h1.inj i j bi bj li lj g hbi g' hbj hli hlj v1 v2 e
    · obtain ⟨l, c0, c1, c2, _⟩ := hrest j bj g3' hbj g2'
      rw [c1] at hlj; obtain rfl := Option.some.inj hlj
      obtain ⟨l', d1, d2, _⟩ := h1.blk i bi g hbi
      rw [d1] at hli; obtain rfl := Option.some.inj hli
      exact absurd (Or.inr (Or.inl (e ▸ (c2 v2).2))) (d2 v1)
    · obtain ⟨l, c0, c1, c2, _⟩ := hrest i bi g3 hbi g2
      rw [c1] at hli; obtain rfl := Option.some.inj hli
      obtain ⟨l', d1, d2, _⟩ := h1.blk j bj g' hbj
      rw [d1] at hlj; obtain rfl := Option.some.inj hlj
      exact absurd (Or.inr (Or.inl (e ▸ (c2 v1).2))) (d2 v2)
    · obtain ⟨l, c0, c1, _⟩ := hrest i bi g3 hbi g2
      obtain ⟨l', c0', c1', _⟩ := hrest j bj g3' hbj g2'
      rw [c1] at hli; obtain rfl := Option.some.inj hli
      rw [c1'] at hlj; obtain rfl := Option.some.inj hlj
      exact h.inj i j bi bj _ _ g3 hbi g3' hbj c0 c0' v1 v2 e
  · obtain ⟨f1, f2, f3⟩ := h1.frz k l hk
    refine ⟨f1, f2, fun j bj lj hj hbj hlj hv => ?_⟩
    rcases hget j bj hj hbj with g | ⟨_, g2, g3⟩
    · exact f3 j bj lj g hbj hlj hv
    · obtain ⟨l', _, c1, c2, _⟩ := hrest j bj g3 hbj g2
      rw [c1] at hlj; obtain rfl := Option.some.inj hlj
      intro e
      exact h1.nofz k l hk (Or.inr (Or.inl (e ▸ (c2 hv).2)))
  · refine ⟨fp, fun i o hi => ?_, fun i k hk => ?_⟩
    · have hi' : st.heap.get i = some (.obj o) := by
        rcases hget i _ hi rfl with g | ⟨_, _, g⟩
        · exact absurd g (hno1 i o)
        · exact g
      obtain ⟨l, a, b, c⟩ := o1 i o hi'
      refine ⟨l, hle _ _ a, b, K.obs.mono _ _ _ _ _ _ _ c (negE_mono hle) hb.size (fun k hk => hb.block k (Or.inr (Or.inr ⟨i, hk⟩))) fun k l hk => ?_⟩
      obtain ⟨_, f2, _⟩ := h.frz k l hk
      obtain ⟨_, f2', _⟩ := h1.frz k l (hle _ _ hk)
      rw [f2, f2']
    · obtain ⟨⟨o, ho⟩, a1, a2, a3, a4, a5⟩ := o2 i k hk
      have hdead : ∀ c, st1.heap.get i = some c → c.live = false := by
        intro c hc
        cases hcl : c.live with
        | false => rfl
        | true =>
          obtain ⟨l', d1, d2, _⟩ := h1.blk i c hc hcl
          obtain ⟨l, e1, e2, e3⟩ := h.blk i _ ho rfl
          have e3 : l.virt = false := e3
          rw [hle _ _ e1] at d1
          obtain rfl := Option.some.inj d1
          refine absurd (Or.inr (Or.inl ⟨i, .obj o, l, ho, rfl, fun c hc => ?_, e1, e3, rfl⟩)) (d2 e3)
          cases hcl : c.live with
          | false => rfl
          | true =>
            have := hsub i c hc hcl
            rw [ho] at this
            obtain rfl := Option.some.inj this
            exact absurd hc (hno i o)
      refine ⟨⟨o, hobj i o ho hdead⟩, Nat.lt_of_lt_of_le a1 hb.size, a2, ?_, a4, fun j bj lj hj hbj hlj hv e => ?_⟩
      · cases hx : β' (Int.negSucc k) with
        | none => rfl
        | some l => exact absurd (Or.inr (Or.inr ⟨i, hk⟩)) (h1.nofz k l hx)
      · rcases hget j bj hj hbj with g | ⟨_, g2, g3⟩
        · obtain ⟨l', d1, d2, _⟩ := h1.blk j bj g hbj
          rw [d1] at hlj; obtain rfl := Option.some.inj hlj
          exact absurd (Or.inr (Or.inr ⟨i, e ▸ hk⟩)) (d2 hv)
        · obtain ⟨l', c0, c1, _⟩ := hrest j bj g3 hbj g2
          rw [c1] at hlj; obtain rfl := Option.some.inj hlj
          exact a5 j bj _ g3 hbj c0 hv e

/-! ### a call, its arguments, all that it reads; what it answers, and leaves -/
structure Memo where
  g : FuncId
  args : List Value
  next : Nat
  pre : List (Nat × Blk)
  v : Value
  next' : Nat
  post : List (Nat × Blk)

/-- Bytes as cells. -/
noncomputable def u8s (l : List Nat) : List Value := @List.rec Nat (fun _ => List Value) [] (fun n _ ih => .int .u8 (.ofNat n) :: ih) l
noncomputable def putM (l : List (Nat × Blk)) : Trie Blk → Trie Blk :=
  @List.rec (Nat × Blk) (fun _ => Trie Blk → Trie Blk) (fun t => t) (fun p _ ih t => ih (setP (path p.1) t p.2)) l
noncomputable def deadM (l : List (Nat × Blk)) : Trie Blk → Trie Blk :=
  @List.rec (Nat × Blk) (fun _ => Trie Blk → Trie Blk) (fun t => t) (fun p _ ih t => ih (setP (path p.1) t .dead)) l
noncomputable def stOf (l : List (Nat × Blk)) (next : Nat) : St := ⟨putM l .leaf, next⟩

def beqE : List MapEntry → List MapEntry → Bool
  | [], [] => true
  | x :: xs, y :: ys => beqV x.key y.key && beqV x.val y.val && Nat.beq x.born y.born && beqE xs ys
  | _, _ => false
def beqB : Blk → Blk → Bool
  | .cells c e x, .cells c' e' x' => Nat.beq e e' && (x == x') && beqVL c c'
  | .map es c, .map es' c' => Nat.beq c c' && beqE es es'
  | _, _ => false
theorem beqE_eq : ∀ {a b : List MapEntry}, beqE a b = true → a = b
  | [], [], _ => rfl
  | [], _ :: _, h => by cases h
  | _ :: _, [], h => by cases h
  | x :: xs, y :: ys, h => by
    simp only [beqE, Bool.and_eq_true] at h
    obtain ⟨⟨⟨h1, h2⟩, h3⟩, h4⟩ := h
    obtain ⟨k, v, b⟩ := x
    obtain ⟨k', v', b'⟩ := y
    simp only at h1 h2 h3
    rw [beqV_eq _ _ h1, beqV_eq _ _ h2, Nat.eq_of_beq_eq_true h3, beqE_eq h4]
theorem beqB_eq {a b : Blk} (h : beqB a b = true) : a = b := by
  unfold beqB at h
  split at h
  · simp only [Bool.and_eq_true, beq_iff_eq] at h
    rw [Nat.eq_of_beq_eq_true h.1.1, h.1.2, beqVL_eq _ _ h.2]
  · simp only [Bool.and_eq_true] at h
    rw [Nat.eq_of_beq_eq_true h.1, beqE_eq h.2]
  · cases h
theorem beqB_live {a b : Blk} (h : beqB a b = true) : a.live = true ∧ a.isObj = false := by
  unfold beqB at h
  split at h <;> first | exact ⟨rfl, rfl⟩ | cases h

noncomputable def hasM (t : Trie Blk) (l : List (Nat × Blk)) : Bool :=
  @List.rec (Nat × Blk) (fun _ => Bool) true (fun p _ ih => match getP (path p.1) t with
    | some b => @Bool.rec (fun _ => Bool) false ih (beqB p.2 b)
    | none => false) l

def lastM (l : List (Nat × Blk)) (i : Nat) (d : Option Blk) : Option Blk := match l with
  | [] => d
  | p :: l => lastM l i (if i = p.1 then some p.2 else d)
theorem putM_get : ∀ (l : List (Nat × Blk)) (t : Trie Blk) (i : Nat), (putM l t).get i = lastM l i (t.get i)
  | [], t, i => rfl
  | p :: l, t, i => by
    show (putM l (setP (path p.1) t p.2)).get i = _
    rw [putM_get l, setP_path, Trie.get_set]
    rfl
theorem deadM_get : ∀ (l : List (Nat × Blk)) (t : Trie Blk) (i : Nat), (deadM l t).get i = if i ∈ l.map (·.1) then some .dead else t.get i
  | [], t, i => by simp [deadM]
  | p :: l, t, i => by
    show (deadM l (setP (path p.1) t .dead)).get i = _
    rw [deadM_get l, setP_path, Trie.get_set]
    by_cases h : i ∈ l.map (·.1)
    · rw [if_pos h, if_pos (by simp only [List.map_cons, List.mem_cons]; exact Or.inr h)]
    · rw [if_neg h]
      by_cases h2 : i = p.1
      · rw [if_pos h2, if_pos (by simp [h2])]
      · rw [if_neg h2, if_neg (by simp only [List.map_cons, List.mem_cons, not_or]; exact ⟨h2, h⟩)]
theorem lastM_cases : ∀ (l : List (Nat × Blk)) (i : Nat) (d : Option Blk), (i ∉ l.map (·.1) ∧ lastM l i d = d) ∨ (i ∈ l.map (·.1) ∧ ∃ b, (i, b) ∈ l ∧ lastM l i d = some b)
  | [], i, d => Or.inl ⟨by simp, rfl⟩
  | p :: l, i, d => by
    simp only [lastM]
    rcases lastM_cases l i (if i = p.1 then some p.2 else d) with ⟨h1, h2⟩ | ⟨h1, b, h2, h3⟩
    · by_cases h : i = p.1
      · refine Or.inr ⟨by simp [h], p.2, by rw [h]; simp, ?_⟩
        rw [h2, if_pos h]
      · refine Or.inl ⟨by simp only [List.map_cons, List.mem_cons, not_or]; exact ⟨h, h1⟩, ?_⟩
        rw [h2, if_neg h]
    · exact Or.inr ⟨by simp only [List.map_cons, List.mem_cons]; exact Or.inr h1, b, List.mem_cons_of_mem _ h2, h3⟩
theorem lastM_any {i : Nat} : ∀ {l : List (Nat × Blk)}, i ∈ l.map (·.1) → ∀ (d d' : Option Blk), lastM l i d = lastM l i d'
  | [], h, _, _ => by cases h
  | p :: l, h, d, d' => by
    simp only [lastM]
    by_cases hp : i = p.1
    · rw [if_pos hp, if_pos hp]
    · rw [if_neg hp, if_neg hp]
      simp only [List.map_cons, List.mem_cons] at h
      exact lastM_any (h.resolve_left hp) d d'
theorem hasM_mem {t : Trie Blk} : ∀ {l : List (Nat × Blk)}, hasM t l = true → ∀ {i b}, (i, b) ∈ l → t.get i = some b ∧ b.live = true ∧ b.isObj = false
  | [], _, i, b, h => by cases h
  | p :: l, hm, i, b, h => by
    change (match getP (path p.1) t with
      | some b => @Bool.rec (fun _ => Bool) false (hasM t l) (beqB p.2 b)
      | none => false) = true at hm
    rw [getP_path] at hm
    split at hm
    · rename_i b' hb'
      cases hq : beqB p.2 b' with
      | false => rw [hq] at hm; cases hm
      | true =>
        rw [hq] at hm
        rcases List.mem_cons.1 h with h | h
        · subst h
          obtain rfl := beqB_eq hq
          exact ⟨hb', beqB_live hq⟩
        · exact hasM_mem hm h
    · cases hm

/-- Does what was reckoned ahead fit here? -/
noncomputable def fitsM (m : Memo) (g : FuncId) (args : List Value) (st : St) : Bool := and (Nat.beq m.next st.next) (and (beqVL m.args args) (hasM st.heap m.pre))
noncomputable def overM (m : Memo) (st : St) : St := ⟨putM m.post (deadM m.pre st.heap), m.next'⟩

def MemoOk (P : Program) (m : Memo) : Prop := ∀ K β w args' cs, VRL β m.args args'.toList → Rel P K β (stOf m.pre m.next) w → CallReach P K β m.g args' .normal cs w m.v (stOf m.post m.next') ∧ m.next ≤ m.next' ∧ ∀ i b, (i, b) ∈ m.post → b.live = true ∧ b.isObj = false

noncomputable def memoCt (l : List Memo) (g : FuncId) (args : List Value) (st : St) (other : Option (DT (Value × St))) : Option (DT (Value × St)) :=
  @List.rec Memo (fun _ => Option (DT (Value × St))) other (fun m _ ih => match and (Nat.beq m.g g) (Nat.beq m.next st.next) with
    | true => some (.ite (fitsM m g args st) (.leaf (m.v, overM m st)) .fail)
    | false => ih) l
noncomputable def addMemo (l : List Memo) (ct : Ct) : Ct where
  call := fun g args st => memoCt l g args st (ct.call g args st)
  loop := ct.loop
  op := ct.op

theorem memo_use {m : Memo} (hm : MemoOk P m) {K : Prot} {β : Env} {st : St} {w : World} {args : List Value} {args' : Array Value} {cs : List Frame} (hf : fitsM m m.g args st = true) (ha : VRL β args args'.toList) (hr : Rel P K β st w) :
    CallReach P K β m.g args' .normal cs w m.v (overM m st) := by
  unfold fitsM at hf
  simp only [Bool.and_eq_true] at hf
  obtain ⟨f1, f2, f3⟩ := hf
  have f1 := Nat.eq_of_beq_eq_true f1
  obtain rfl := beqVL_eq _ _ f2
  have h0 : ∀ i, (stOf m.pre m.next).heap.get i = lastM m.pre i none := by
    intro i
    show (putM m.pre .leaf).get i = _
    rw [putM_get]; rfl
  obtain ⟨K', k1, k2, k3, k4⟩ := hr.part (st0 := stOf m.pre m.next) f1 (fun i b hi _ => by
    rw [h0] at hi
    rcases lastM_cases m.pre i none with ⟨_, e⟩ | ⟨_, b', hb', e⟩
    · rw [e] at hi; cases hi
    · rw [e] at hi; obtain rfl := Option.some.inj hi
      exact (hasM_mem f3 hb').1) (fun i o hi => by
    rw [h0] at hi
    rcases lastM_cases m.pre i none with ⟨_, e⟩ | ⟨_, b', hb', e⟩
    · rw [e] at hi; cases hi
    · rw [e] at hi; obtain rfl := Option.some.inj hi
      have := (hasM_mem f3 hb').2.2
      cases this)
  obtain ⟨⟨β', fr, w', v', c1, c2, c3, c4, c5, c6⟩, hn, hob⟩ := hm K' β w args' cs ha k3
  have h1 : ∀ i, (stOf m.post m.next').heap.get i = lastM m.post i none := by
    intro i
    show (putM m.post .leaf).get i = _
    rw [putM_get]; rfl
  have h2 : ∀ i, (overM m st).heap.get i = lastM m.post i (if i ∈ m.pre.map (·.1) then some .dead else st.heap.get i) := by
    intro i
    show (putM m.post (deadM m.pre st.heap)).get i = _
    rw [putM_get, deadM_get]
  have hno1 : ∀ i o, (stOf m.post m.next').heap.get i ≠ some (.obj o) := by
    intro i o hi
    rw [h1] at hi
    rcases lastM_cases m.post i none with ⟨_, e⟩ | ⟨_, b', hb', e⟩
    · rw [e] at hi; cases hi
    · rw [e] at hi; obtain rfl := Option.some.inj hi
      have := (hob i _ hb').2
      cases this
  refine ⟨β', fr, w', v', c1, c2, k4 β' _ (overM m st) w' c2 c3 c4 (by rw [← f1]; exact hn) hno1 rfl (fun i b hi hl => ?_) (fun i o hi hdead => ?_), c4.mono k1, c5, c6⟩
  · rw [h2] at hi
    rw [h1, h0]
    rcases lastM_cases m.post i (if i ∈ m.pre.map (·.1) then some .dead else st.heap.get i) with ⟨n1, e⟩ | ⟨n1, b', hb', e⟩
    · rw [e] at hi
      have e1 : lastM m.post i none = none := by
        rcases lastM_cases m.post i none with ⟨_, e⟩ | ⟨n, _⟩
        · exact e
        · exact absurd n n1
      by_cases hp : i ∈ m.pre.map (·.1)
      · rw [if_pos hp] at hi
        obtain rfl := Option.some.inj hi
        cases hl
      · rw [if_neg hp] at hi
        refine Or.inr ⟨fun c hc => (by rw [e1] at hc; cases hc), fun c hc => ?_, hi⟩
        rcases lastM_cases m.pre i none with ⟨_, e⟩ | ⟨n, _⟩
        · rw [e] at hc; cases hc
        · exact absurd n hp
    · refine Or.inl ?_
      rw [e] at hi
      rw [← hi]
      rw [← e]; exact lastM_any n1 _ _
  · rw [h2]
    have hnp : i ∉ m.pre.map (·.1) := by
      intro hp
      obtain ⟨⟨j, b⟩, hq, rfl⟩ := List.mem_map.1 hp
      obtain ⟨q1, q2, q3⟩ := hasM_mem f3 hq
      rw [hi] at q1
      obtain rfl := Option.some.inj q1
      cases q3
    rcases lastM_cases m.post i (if i ∈ m.pre.map (·.1) then some .dead else st.heap.get i) with ⟨_, e⟩ | ⟨n1, b', hb', e⟩
    · rw [e, if_neg hnp]; exact hi
    · have := hdead b' (by rw [h1, lastM_any n1 none (if i ∈ m.pre.map (·.1) then some .dead else st.heap.get i)]; exact e)
      rw [(hob i b' hb').1] at this
      cases this

theorem addMemo_ok {l : List Memo} (hct : CtOk P ct) (h : ∀ m ∈ l, MemoOk P m) : CtOk P (addMemo l ct) where
  opc := hct.opc
  op := hct.op
  loop := hct.loop
  call := by
    intro K g args st v st' hl β w args' cs ha hr
    simp only [addMemo] at hl
    induction l with
    | nil => exact hct.call K g args st v st' hl β w args' cs ha hr
    | cons m l ih =>
      change (match and (Nat.beq m.g g) (Nat.beq m.next st.next) with
        | true => some (DT.ite (fitsM m g args st) (.leaf (m.v, overM m st)) .fail)
        | false => memoCt l g args st (ct.call g args st)).bind DT.eval = some (v, st') at hl
      split at hl
      · rename_i hb
        simp only [Bool.and_eq_true] at hb
        obtain rfl := Nat.eq_of_beq_eq_true hb.1
        simp only [Option.bind_some] at hl
        cases hf : fitsM m m.g args st with
        | false => rw [hf] at hl; cases hl
        | true =>
          rw [hf] at hl
          simp only [DT.eval, Option.some.injEq, Prod.mk.injEq] at hl
          obtain ⟨rfl, rfl⟩ := hl
          exact memo_use (h m (by simp)) hf ha hr
      · exact ih (fun m hm => h m (by simp [hm])) hl

/-! ### a call is reckoned -/
noncomputable def kontM (m : Memo) (v : Value) (st : St) : Res :=
  @Bool.rec (fun _ => Res) none (some (.bool true, st)) (and (beqV m.v v) (and (Nat.beq m.next' st.next) (and (hasM st.heap m.post) (Nat.ble m.next m.next'))))
noncomputable def memoQ (P : Program) (E : Eng) (ct : Ct) (n : Nat) (m : Memo) : Bool :=
  match (knotQ P E ct n n).call m.g m.args (stOf m.pre m.next) (kontM m) with
  | some _ => true
  | none => false
theorem MemoOk.of {E : Eng} (hE : EngOk P ct E) (hN : noNum P = true) (hct : CtOk P ct) {n : Nat} {m : Memo} (h : memoQ P E ct n m = true) : MemoOk P m := by
  intro K β w args' cs ha hr
  unfold memoQ at h
  split at h
  · rename_i r hk
    obtain ⟨i, v1, st1, h1, h2⟩ := (knotQ_ok hE n n).call _ _ _ _ _ hk
    obtain ⟨β1, fr, w1, v', a1, a2, a3, a4, a5, a6⟩ := (sound_all hN hct i K).call m.g m.args (stOf m.pre m.next) v1 st1 h1 β w args' .normal cs (Or.inl rfl) ha hr
    unfold kontM at h2
    cases hb : (and (beqV m.v v1) (and (Nat.beq m.next' st1.next) (and (hasM st1.heap m.post) (Nat.ble m.next m.next')))) with
    | false => rw [hb] at h2; cases h2
    | true =>
      simp only [Bool.and_eq_true] at hb
      obtain ⟨b1, b2, b3, b4⟩ := hb
      obtain rfl := beqV_eq _ _ b1
      have b2 := Nat.eq_of_beq_eq_true b2
      refine ⟨⟨β1, fr, w1, v', a1, a2, ?_, a4, a5, a6⟩, Nat.le_of_ble_eq_true b4, fun i b hi => (hasM_mem b3 hi).2⟩
      have hg : ∀ i b, (stOf m.post m.next').heap.get i = some b → st1.heap.get i = some b ∧ b.isObj = false := by
        intro i b hi
        have : (stOf m.post m.next').heap.get i = lastM m.post i none := by
          show (putM m.post .leaf).get i = _
          rw [putM_get]; rfl
        rw [this] at hi
        rcases lastM_cases m.post i none with ⟨_, e⟩ | ⟨_, b', hb', e⟩
        · rw [e] at hi; cases hi
        · rw [e] at hi; obtain rfl := Option.some.inj hi
          obtain ⟨q1, q2, q3⟩ := hasM_mem b3 hb'
          exact ⟨q1, q3⟩
      refine ⟨a3.base, fun i l hi => by show i < m.next' ∧ _; rw [b2]; exact a3.dom i l hi, fun i b hi hl => a3.blk i b (hg i b hi).1 hl, fun i j bi bj li lj hi hbi hj hbj => a3.inj i j bi bj li lj (hg i bi hi).1 hbi (hg j bj hj).1 hbj,
        fun i hi => by show i < m.next' ∧ _; rw [b2]; exact a3.res i hi, a3.nofz, fun k l hk => ?_, ?_⟩
      · obtain ⟨f1, f2, f3⟩ := a3.frz k l hk
        exact ⟨f1, f2, fun j bj lj hj hbj => f3 j bj lj (hg j bj hj).1 hbj⟩
      · exact ⟨fun _ _ => False, fun i o hi => (by have := (hg i _ hi).2; cases this), fun i k hk => hk.elim⟩
  · cases h
theorem memos_nil : ∀ m ∈ ([] : List Memo), MemoOk P m := by simp
theorem memos_cons {m : Memo} {l : List Memo} (h : MemoOk P m) (hl : ∀ m ∈ l, MemoOk P m) : ∀ x ∈ m :: l, MemoOk P x := by
  intro x hx
  rcases List.mem_cons.1 hx with rfl | hx
  · exact h
  · exact hl x hx
end
end Go.VS
end

section
namespace Go.VS
set_option linter.unusedSimpArgs false
set_option linter.unusedVariables false
open Go.RowKit
section
variable {P : Program} {ct : Ct}

/-- A block under other numbers. -/
def renC (ρ : Nat → Option Nat) : Blk → Blk
  | .cells c e x => .cells (renL true ρ c) e x
  | .map es c => .map (renE true ρ es) c
  | .siter s p => .siter s p
  | _ => .dead
theorem renC_rel {ρ : Nat → Option Nat} {β β' : Env} (h : RenOk true ρ β β') {l : Loc} {b : Blk} {o : Option Obj} (r : BlkR P β l b o) : BlkR P β' l (renC ρ b) o := by
  cases b with
  | cells c e x => exact renB_rel h (b := .cells c e x) r
  | map es c => exact renB_rel h (b := .map es c) r
  | siter s p => exact renB_rel h (b := .siter s p) r
  | _ => exact trivial
theorem renC_live {ρ : Nat → Option Nat} {b : Blk} (h : (renC ρ b).live = true) : b.live = true := by cases b <;> first | rfl | cases h
theorem renC_obj {ρ : Nat → Option Nat} {b : Blk} {o : Ob} : renC ρ b ≠ .obj o := by cases b <;> simp [renC]

noncomputable def placeT (st : St) (bs : List Blk) : St := ⟨putL (bs.map (renC (shiftN st.next))) st.next st.heap, st.next + bs.length⟩
noncomputable def killL (l : List Nat) : Trie Blk → Trie Blk := @List.rec Nat (fun _ => Trie Blk → Trie Blk) (fun t => t) (fun i _ ih t => ih (setP (path i) t .dead)) l
theorem killL_get : ∀ (l : List Nat) (t : Trie Blk) (i : Nat), (killL l t).get i = if i ∈ l then some .dead else t.get i
  | [], t, i => by simp [killL]
  | p :: l, t, i => by
    show (killL l (setP (path p) t .dead)).get i = _
    rw [killL_get l, setP_path, Trie.get_set]
    by_cases h : i ∈ l
    · rw [if_pos h, if_pos (List.mem_cons_of_mem _ h)]
    · rw [if_neg h]
      by_cases h2 : i = p
      · rw [if_pos h2, if_pos (by simp [h2])]
      · rw [if_neg h2, if_neg (by simp only [List.mem_cons, not_or]; exact ⟨h2, h⟩)]
theorem placeT_get (st : St) (bs : List Blk) (i : Nat) : (placeT st bs).heap.get i = if st.next ≤ i ∧ i < st.next + bs.length then (bs[i - st.next]?).map (renC (shiftN st.next)) else st.heap.get i := by
  simp only [placeT, putL_get, List.length_map, List.getElem?_map]

theorem swap_rel {K : Prot} {β : Env} {st : St} {w : World} (h : Rel P K β st w) {src : List Nat} (hnd : src.Nodup) (hcells : ∀ b ∈ src, ∃ c e x, st.heap.get b = some (.cells c e x)) :
    ∃ K' : Prot, (∀ k, K k → K' k) ∧ (∀ i, ¬ K'.id i) ∧ Rel P K' (reEnv 0 src β) (mkSt (src.map fun b => renB true (rhoO 0 src) (st.heap.get b))) w ∧
      ∀ (β1 : Env) (bs1 : List Blk) (w1 : World), leN 0 (reEnv 0 src β) β1 → Rel P K' β1 (mkSt bs1) w1 → Bel K' w w1 →
        β.le (placeE st.next β β1) ∧ Rel P K (placeE st.next β β1) (placeT ⟨killL src st.heap, st.next⟩ bs1) w1 ∧ RenOk true (shiftN st.next) β1 (placeE st.next β β1) := by
  let st0 : St := ⟨putM (src.map fun b => (b, (st.heap.get b).getD .dead)) .leaf, st.next⟩
  have h0 : ∀ i, st0.heap.get i = if i ∈ src then st.heap.get i else none := by
    intro i
    show (putM _ .leaf).get i = _
    rw [putM_get]
    rcases lastM_cases (src.map fun b => (b, (st.heap.get b).getD .dead)) i ((Trie.leaf : Trie Blk).get i) with ⟨n, e⟩ | ⟨n, b', hb', e⟩
    · rw [e]
      have : i ∉ src := fun hi => n (by simp only [List.map_map, List.mem_map]; exact ⟨i, hi, rfl⟩)
      rw [if_neg this]; rfl
    · rw [e]
      obtain ⟨j, hj, hje⟩ := List.mem_map.1 hb'
      simp only [Prod.mk.injEq] at hje
      obtain ⟨rfl, rfl⟩ := hje
      obtain ⟨c, e', x, hc⟩ := hcells j hj
      rw [if_pos hj, hc]; rfl
  obtain ⟨K1, k1, k2, k3, k4⟩ := h.part (st0 := st0) rfl (fun i b hi _ => by
    rw [h0] at hi
    split at hi
    · exact hi
    · cases hi) (fun i o hi => by
    rw [h0] at hi
    split at hi
    · rename_i hm
      obtain ⟨c, e', x, hc⟩ := hcells i hm
      rw [hc] at hi; cases hi
    · cases hi)
  let K' : Prot := ⟨K1.blk, fun _ => False, fun k => K1.nofz k ∨ β (Int.negSucc k) = none, K1.obs⟩
  have r0 : Rel P K' β st0 w := ⟨k3.base, k3.dom, k3.blk, k3.inj, fun i hi => hi.elim, fun k l hk hf => hf.elim (k3.nofz k l hk) (fun hf => by rw [hk] at hf; cases hf), k3.frz, k3.objs⟩
  have hmid := canon_mid (N := 0) (src := src) r0 (fun i hi => hi.elim) (Nat.zero_le _) hnd (fun b hb => by
    obtain ⟨c, e, x, hc⟩ := hcells b hb
    exact ⟨c, e, x, by rw [h0, if_pos hb]; exact hc⟩)
  have hms : (src.map fun b => renB true (rhoO 0 src) (st0.heap.get b)) = src.map fun b => renB true (rhoO 0 src) (st.heap.get b) := by
    apply List.map_congr_left
    intro b hb
    rw [h0, if_pos hb]
  refine ⟨K', k1, fun i hi => hi, by rw [← hms]; exact hmid, fun β1 bs1 w1 hle h1 hb => ?_⟩
  have hneg : ∀ k l, β (Int.negSucc k) = some l → β1 (Int.negSucc k) = some l := fun k l hk => hle (Int.negSucc k) l (Int.negSucc_lt_zero k) hk
  have hneg' : ∀ k l, β1 (Int.negSucc k) = some l → β (Int.negSucc k) = some l := by
    intro k l hk
    cases hx : β (Int.negSucc k) with
    | none => exact absurd (Or.inr hx) (h1.nofz k l hk)
    | some l' => rw [hneg k l' hx] at hk; exact hk
  have hple : β.le (placeE st.next β β1) := by
    intro i l hi
    cases i with
    | negSucc k => exact hi
    | ofNat i =>
      have := (h.dom i l hi).1
      show (if i < st.next then β (i : Int) else _) = _
      rw [if_pos this]; exact hi
  have hren : RenOk true (shiftN st.next) β1 (placeE st.next β β1) := by
    refine ⟨fun b b' l hb hl => ?_, fun _ k l hk => hneg' k l hk⟩
    obtain rfl := Option.some.inj hb
    show (if st.next + b < st.next then β ((st.next + b : Nat) : Int) else β1 ((st.next + b - st.next : Nat) : Int)) = _
    rw [if_neg (by omega), show st.next + b - st.next = b by omega]; exact hl
  have hbig : ∀ i, st.next ≤ i → placeE st.next β β1 (i : Int) = β1 ((i - st.next : Nat) : Int) := by
    intro i hi
    show (if i < st.next then β (i : Int) else β1 ((i - st.next : Nat) : Int)) = _
    rw [if_neg (by omega)]
  -- what is put back, by itself
  have hlone : ∀ i b, (placeT ⟨.leaf, st.next⟩ bs1).heap.get i = some b → st.next ≤ i ∧ ∃ b0, (mkSt bs1).heap.get (i - st.next) = some b0 ∧ b = renC (shiftN st.next) b0 := by
    intro i b hi
    rw [placeT_get] at hi
    split at hi
    · rename_i hr
      cases hx : bs1[i - st.next]? with
      | none => rw [hx] at hi; cases hi
      | some b0 =>
        rw [hx] at hi
        exact ⟨hr.1, b0, by rw [mkSt_get]; exact hx, (Option.some.inj hi).symm⟩
    · cases hi
  have rl : Rel P K1 (placeE st.next β β1) (placeT ⟨.leaf, st.next⟩ bs1) w1 := by
    refine ⟨h1.base, fun i l hi => ?_, fun i b hi hl => ?_, fun i j bi bj li lj hi hbi hj hbj hli hlj v1 v2 e => ?_, fun i hi => ?_, fun k l hk => k3.nofz k l hk, fun k l hk => ?_, fun _ _ => False, fun i o hi => ?_, fun i k hk => hk.elim⟩
    · by_cases hin : i < st.next
      · have hi' : β (i : Int) = some l := by
          change (if i < st.next then β (i : Int) else _) = some l at hi
          rwa [if_pos hin] at hi
        obtain ⟨a1, a2⟩ := h.dom i l hi'
        exact ⟨Nat.lt_of_lt_of_le a1 (Nat.le_add_right _ _), fun hv => Nat.lt_of_lt_of_le (a2 hv) hb.size⟩
      · rw [hbig i (by omega)] at hi
        obtain ⟨a1, a2⟩ := h1.dom _ l hi
        have : (mkSt bs1).next = bs1.length := rfl
        exact ⟨by show i < st.next + bs1.length; omega, a2⟩
    · obtain ⟨a1, b0, a2, rfl⟩ := hlone i b hi
      obtain ⟨l, c1, c2, c3⟩ := h1.blk _ b0 a2 (renC_live hl)
      exact ⟨l, by rw [hbig i a1]; exact c1, c2, renC_rel hren c3⟩
    · obtain ⟨a1, b0, a2, rfl⟩ := hlone i bi hi
      obtain ⟨c1, d0, c2, rfl⟩ := hlone j bj hj
      rw [hbig i a1] at hli
      rw [hbig j c1] at hlj
      have := h1.inj _ _ b0 d0 li lj a2 (renC_live hbi) c2 (renC_live hbj) hli hlj v1 v2 e
      omega
    · rw [k2] at hi
      obtain ⟨a1, a2⟩ := h.res i hi
      refine ⟨Nat.lt_of_lt_of_le a1 (Nat.le_add_right _ _), ?_⟩
      show (if i < st.next then β (i : Int) else _) = _
      rw [if_pos a1]; exact a2
    · obtain ⟨f1, f2, f3⟩ := h1.frz k l (hneg k l hk)
      refine ⟨f1, f2, fun j bj lj hj hbj hlj hv => ?_⟩
      obtain ⟨c1, d0, c2, rfl⟩ := hlone j bj hj
      rw [hbig j c1] at hlj
      exact f3 _ d0 lj c2 (renC_live hbj) hlj hv
    · obtain ⟨_, b0, _, e⟩ := hlone i _ hi
      exact (renC_obj e.symm).elim
  refine ⟨hple, k4 _ (placeT ⟨.leaf, st.next⟩ bs1) _ w1 hple rl ⟨hb.os, hb.tape, hb.output, hb.size, hb.block⟩ (Nat.le_add_right _ _) (fun i o hi => ?_) rfl (fun i b hi hl => ?_) (fun i o hi hdead => ?_), hren⟩
  · obtain ⟨_, b0, _, e⟩ := hlone i _ hi
    exact (renC_obj e.symm).elim
  · rw [placeT_get] at hi
    split at hi
    · rename_i hr
      refine Or.inl ?_
      rw [placeT_get, if_pos hr]; exact hi
    · rename_i hr
      have hi : (killL src st.heap).get i = some b := hi
      rw [killL_get] at hi
      split at hi
      · obtain rfl := Option.some.inj hi; cases hl
      · rename_i hns
        refine Or.inr ⟨fun c hc => ?_, fun c hc => ?_, hi⟩
        · rw [placeT_get, if_neg hr] at hc; cases hc
        · rw [h0, if_neg hns] at hc; cases hc
  · obtain ⟨l, hl, _⟩ := h.blk i _ hi rfl
    have hlt := (h.dom i l hl).1
    rw [placeT_get, if_neg (by show ¬ (st.next ≤ i ∧ _); omega)]
    show (killL src st.heap).get i = _
    rw [killL_get, if_neg]
    · exact hi
    · intro hm
      obtain ⟨c, e, x, hc⟩ := hcells i hm
      rw [hi] at hc; cases hc

/-! ### slots under other numbers -/
theorem putTs_ren {g : Value → Value} : ∀ (ts : List Tmp) (vs : List Value) (s s' : Trie Value), (∀ i, (s'.get i).getD undef = g ((s.get i).getD undef)) → ∀ i, ((putTs ts (vs.map g) s').get i).getD undef = g (((putTs ts vs s).get i).getD undef)
  | [], [], s, s', h, i => by simpa [putTs] using h i
  | [], v :: vs, s, s', h, i => by simpa [putTs] using h i
  | t :: ts, [], s, s', h, i => by simpa [putTs] using h i
  | t :: ts, v :: vs, s, s', h, i => by
    simp only [List.map_cons, putTs]
    refine putTs_ren ts vs _ _ (fun j => ?_) i
    rw [setP_path, setP_path, Trie.get_set, Trie.get_set]
    by_cases hj : j = t
    · rw [if_pos hj, if_pos hj]; rfl
    · rw [if_neg hj, if_neg hj]; exact h j
theorem mkS_ren {g : Value → Value} (h1 : g anyV = anyV) (h2 : g undef = undef) (nt : Nat) (L : List Tmp) (vs : List Value) (i : Nat) : ((mkS nt L (vs.map g)).get i).getD undef = g (((mkS nt L vs).get i).getD undef) := by
  unfold mkS
  refine putTs_ren L vs _ _ (fun j => ?_) i
  rw [putL_get]
  split
  · rename_i hj
    simp only [List.length_replicate] at hj
    rw [List.getElem?_replicate, if_pos (by omega)]
    exact h1.symm
  · show undef = g undef
    exact h2.symm
theorem undef_ren {z : Bool} {ρ : Nat → Option Nat} : renV z ρ undef = undef := by
  unfold undef; rfl

/-- The head of a loop that is known wherever it lies: slots that are looked at; lists. -/
noncomputable def canonF (H : Head) (s : Trie Value) (st : St) : Option (List Nat × St × List Value × List Blk) :=
  match virtO H.M s st with
  | none => none
  | some (src, s, st) => match movs 0 src (fun i => getP (path i) st.heap) src with
    | none => none
    | some ms => some (src, st, H.L.map (fun t => renV true (rhoO 0 src) (slotF s t)), ms)

noncomputable def loopCtF (H : Head) (R : LoopFn) (f : Fr) (st : St) : Option (DT (Ex × Trie Value × St)) :=
  match f.defers, f.roundOf, Nat.beq f.ntmps H.nt with
  | [], none, true => match canonF H f.slots st with
    | some r => match R r.2.2.1 r.2.2.2 with
      | some t => some (t.map fun x => (x.1, mkS H.nt H.L (x.2.1.map (renV true (shiftN r.2.1.next))), placeT ⟨killL r.1 r.2.1.heap, r.2.1.next⟩ x.2.2))
      | none => none
    | none => none
  | _, _, _ => none
noncomputable def addLoopF (fid id : Nat) (H : Head) (R : LoopFn) (ct : Ct) : Ct where
  call := ct.call
  loop := fun fid' id' f st => match and (Nat.beq fid' fid) (Nat.beq id' id) with
    | true => loopCtF H R f st
    | false => ct.loop fid' id' f st
  op := ct.op

theorem addLoopF_ok {fid id : Nat} {B : Code} {H : Head} {R : LoopFn} (hN0 : H.N = 0) (hct : CtOk P ct) (h : LoopOk P fid id B H R) : CtOk P (addLoopF fid id H R ct) where
  opc := hct.opc
  op := hct.op
  call := hct.call
  loop := by
    intro K fid' id' c f st e s' st' hl hocc β w fr cs k ht hfid hf hr
    simp only [addLoopF] at hl
    split at hl
    · rename_i hb
      simp only [Bool.and_eq_true] at hb
      obtain rfl := Nat.eq_of_beq_eq_true hb.1
      obtain rfl := Nat.eq_of_beq_eq_true hb.2
      obtain rfl := h.occ c hocc
      unfold loopCtF at hl
      split at hl
      · rename_i hd hro hnt
        have hnt := Nat.eq_of_beq_eq_true hnt
        split at hl
        · rename_i r hc
          obtain ⟨src, st1, vs, bs⟩ := r
          split at hl
          · rename_i t hR
            simp only [Option.bind_some] at hl
            obtain ⟨⟨e1, vs1, bs1⟩, hev, heq⟩ := DT.map_eval hl
            simp only [Prod.mk.injEq] at heq
            obtain ⟨rfl, rfl, rfl⟩ := heq
            have hL : ∀ t ∈ H.L, t < H.nt := fun t ht => by
              have := h.ok
              unfold okL at this
              exact Nat.le_of_ble_eq_true (List.all_eq_true.1 this t ht)
            unfold canonF at hc
            split at hc
            · cases hc
            · rename_i src0 s0 st0 hv
              split at hc
              · cases hc
              · rename_i ms hm
                simp only [Option.some.injEq, Prod.mk.injEq] at hc
                obtain ⟨rfl, rfl, rfl, rfl⟩ := hc
                obtain ⟨β0, b1, b2, b3, b4⟩ := virtO_rel (nt := H.nt) (tmps := fr.tmps) H.M f.slots st _ _ _ hv hr (by rw [← hnt]; exact hf.slots)
                obtain ⟨m1, m2, m3⟩ := movs_spec hm
                simp only [getP_path] at m2 m3
                obtain ⟨K', k1, k2, k3, k4⟩ := swap_rel b2 m1 m2
                have hren : RenOk true (rhoO 0 src0) β0 (reEnv 0 src0 β0) := by
                  refine ⟨fun b b' l hb hl => ?_, fun _ k l h => h⟩
                  unfold rhoO at hb
                  split at hb
                  · rename_i j hj
                    obtain rfl := Option.some.inj hb
                    obtain ⟨k, rfl, hk⟩ := posO_spec _ _ _ _ hj
                    show (if 0 + k < 0 then β0 ((0 + k : Nat) : Int) else match src0[0 + k - 0]? with | some b => β0 (b : Int) | none => none) = _
                    rw [if_neg (by omega), show 0 + k - 0 = k by omega, hk]; exact hl
                  · split at hb
                    · rename_i hle
                      exact absurd (Nat.le_of_ble_eq_true hle) (by omega)
                    · cases hb
                have hslots : SlotsR (reEnv 0 src0 β0) (mkS H.nt H.L (H.L.map fun t => renV true (rhoO 0 src0) (slotF s0 t))) H.nt fr.tmps := by
                  refine ⟨b3.1, fun i => ?_⟩
                  unfold mkS
                  rw [putTs_get _ _ _ (fun t => renV true (rhoO 0 src0) (slotF s0 t)) rfl]
                  split
                  · have := renV_rel hren _ _ (b3.2 i)
                    simpa [slotF_eq] using this
                  · rw [putL_get]
                    split
                    · rename_i hj
                      simp only [List.length_replicate] at hj
                      rw [List.getElem?_replicate, if_pos (by omega)]
                      exact trivial
                    · rename_i hj
                      simp only [List.length_replicate] at hj
                      have hge : fr.tmps.size ≤ i := by rw [b3.1]; omega
                      have : fr.tmps.getD i undef = undef := by simp [Array.getD, Nat.not_lt.2 hge]
                      rw [this]
                      exact VR.flat_refl undef rfl
                have s1 := s_block (P := P) (cs := cs) (w := w) hf.mode ht
                have s2 := s_loop (P := P) (fr := { fr with todo := .code (.loop B) :: .inBlock id' :: k }) (cs := cs) (w := w) hf.mode rfl
                have hdf : fr.defers = [] := by have := hf.defers; rw [hd] at this; exact this
                have hrf : fr.roundOf = none := by have := hf.round; rw [hro] at this; exact this
                obtain ⟨β1, fr1, w1, a1, a2, a3, a4, a5, a6, a7, a8, a9⟩ := h.run _ _ t hR _ _ _ hev K' (reEnv 0 src0 β0) w { fr with todo := .code B :: .inLoop B :: .inBlock id' :: k } cs k (fun i hi => (k2 i hi).elim) rfl hfid ⟨hslots, hdf, hrf, hf.mode⟩ (by rw [m3]; exact k3)
                rw [hN0] at a2
                obtain ⟨c1, c2, c3⟩ := k4 β1 bs1 w1 a2 a3 a4
                refine ⟨_, fr1, w1, .head s1 (.head s2 a1), b1.trans c1, c2, a4.mono k1, ⟨⟨by rw [a5.slots.1]; exact hnt.symm, fun i => ?_⟩, ?_, ?_, a5.mode⟩, a6, a7, a8, a9⟩
                · show VR _ (((mkS H.nt H.L (vs1.map (renV true (shiftN st0.next)))).get i).getD undef) _
                  rw [mkS_ren rfl undef_ren]
                  exact renV_rel c3 _ _ (a5.slots.2 i)
                · show DefsR _ f.defers _
                  rw [hd]; exact a5.defers
                · show RoundOfR _ f.roundOf _
                  rw [hro]; exact a5.round
          · cases hl
        · cases hl
      · cases hl
    · exact hct.loop K fid' id' c f st e s' st' hl hocc β w fr cs k ht hfid hf hr
end
end Go.VS
end

section
namespace Go.VS
set_option linter.unusedSimpArgs false
set_option linter.unusedVariables false
open Go.RowKit
section
variable {P : Program} {ct : Ct}

/-- Where a called function's numbers come back to: the first ones to those that were handed in, the others are new. -/
def backN : List Nat → Nat → Nat → Option Nat
  | [], n, j => some (n + j)
  | b :: l, n, j => match j with
    | 0 => some b
    | j + 1 => backN l n j
theorem backN_lt : ∀ (l : List Nat) (n j : Nat), j < l.length → backN l n j = l[j]?
  | [], n, j, h => by simp at h
  | b :: l, n, 0, h => rfl
  | b :: l, n, j + 1, h => by simpa [backN] using backN_lt l n j (by simpa using h)
theorem backN_ge : ∀ (l : List Nat) (n j : Nat), l.length ≤ j → backN l n j = some (n + (j - l.length))
  | [], n, j, h => rfl
  | b :: l, n, 0, h => by simp at h
  | b :: l, n, j + 1, h => by
    have := backN_ge l n j (by simpa using h)
    simpa [backN, Nat.add_sub_add_right] using this

/-- The first blocks under the old numbers, the others behind. -/
noncomputable def putB (ρ : Nat → Option Nat) (src : List Nat) : List Blk → Nat → Trie Blk → Trie Blk :=
  @List.rec Nat (fun _ => List Blk → Nat → Trie Blk → Trie Blk) (fun bs n t => putL (bs.map (renC ρ)) n t)
    (fun b _ ih bs n t => match bs with
      | x :: bs => ih bs n (setP (path b) t (renC ρ x))
      | [] => t) src
noncomputable def placeB (src : List Nat) (st : St) (bs : List Blk) : St := ⟨putB (backN src st.next) src bs st.next st.heap, st.next + (bs.length - src.length)⟩

theorem putB_get {ρ : Nat → Option Nat} : ∀ (src : List Nat) (bs : List Blk) (n : Nat) (t : Trie Blk) (i : Nat), src.Nodup → src.length ≤ bs.length → (∀ b ∈ src, b < n) →
    (∃ j : Nat, src[j]? = some i ∧ (putB ρ src bs n t).get i = (bs[j]?).map (renC ρ)) ∨ (i ∉ src ∧ (putB ρ src bs n t).get i = if n ≤ i ∧ i < n + (bs.length - src.length) then (bs[i - n + src.length]?).map (renC ρ) else t.get i)
  | [], bs, n, t, i, _, _, _ => by
    refine Or.inr ⟨by simp, ?_⟩
    show (putL (bs.map (renC ρ)) n t).get i = _
    rw [putL_get]
    simp only [List.length_map, List.getElem?_map, List.length_nil, Nat.sub_zero, Nat.add_zero]
  | b :: l, [], n, t, i, _, h, _ => by simp at h
  | b :: l, x :: bs, n, t, i, hnd, h, hlt => by
    obtain ⟨hb, hnd⟩ := List.nodup_cons.1 hnd
    have e : putB ρ (b :: l) (x :: bs) n t = putB ρ l bs n (setP (path b) t (renC ρ x)) := rfl
    rw [e]
    rcases putB_get l bs n (setP (path b) t (renC ρ x)) i hnd (by simpa using h) (fun c hc => hlt c (List.mem_cons_of_mem _ hc)) with ⟨j, h1, h2⟩ | ⟨h1, h2⟩
    · exact Or.inl ⟨j + 1, by simpa using h1, by simpa using h2⟩
    · by_cases hib : i = b
      · subst hib
        refine Or.inl ⟨0, rfl, ?_⟩
        have := hlt i (by simp)
        rw [h2, if_neg (by omega), setP_path, Trie.get_set, if_pos rfl]; rfl
      · refine Or.inr ⟨by simp only [List.mem_cons, not_or]; exact ⟨hib, h1⟩, ?_⟩
        rw [h2, setP_path, Trie.get_set, if_neg hib]
        simp only [List.length_cons, Nat.add_sub_add_right]
        rw [show i - n + (l.length + 1) = (i - n + l.length) + 1 by omega, List.getElem?_cons_succ]

theorem nodup_idx : ∀ {l : List Nat} {i j a : Nat}, l.Nodup → l[i]? = some a → l[j]? = some a → i = j
  | [], i, j, a, _, h, _ => by simp at h
  | x :: l, 0, 0, a, _, _, _ => rfl
  | x :: l, 0, j + 1, a, hnd, h1, h2 => by
    have h1 : x = a := by simpa using h1
    subst h1
    exact absurd (List.mem_of_getElem? (by simpa using h2)) (List.nodup_cons.1 hnd).1
  | x :: l, i + 1, 0, a, hnd, h1, h2 => by
    have h2 : x = a := by simpa using h2
    subst h2
    exact absurd (List.mem_of_getElem? (by simpa using h1)) (List.nodup_cons.1 hnd).1
  | x :: l, i + 1, j + 1, a, hnd, h1, h2 => by
    exact congrArg (· + 1) (nodup_idx (List.nodup_cons.1 hnd).2 (show l[i]? = some a by simpa using h1) (show l[j]? = some a by simpa using h2))

/-- What a call comes to in this memory. -/
def CRM (P : Program) (g : FuncId) (args : List Value) (bs : List Blk) (v : Value) (bs' : List Blk) : Prop :=
  ∀ (K : Prot) (β : Env) (w : World) (args' : Array Value) (cs : List Frame), (∀ i, ¬ K.id i) → VRL β args args'.toList → Rel P K β (mkSt bs) w → CallReach P K β g args' .normal cs w v (mkSt bs') ∧ bs.length ≤ bs'.length

def backE (src : List Nat) (n : Nat) (β β1 : Env) : Env
  | .ofNat i => if i < n then β (i : Int) else β1 ((i - n + src.length : Nat) : Int)
  | .negSucc k => β (.negSucc k)

theorem swapC_rel {K : Prot} {β : Env} {st : St} {w : World} (h : Rel P K β st w) {src : List Nat} (hnd : src.Nodup) (hcells : ∀ b ∈ src, ∃ c e x, st.heap.get b = some (.cells c e x)) :
    ∃ K' : Prot, (∀ k, K k → K' k) ∧ (∀ i, ¬ K'.id i) ∧ Rel P K' (reEnv 0 src β) (mkSt (src.map fun b => renB true (rhoO 0 src) (st.heap.get b))) w ∧
      ∀ (β1 : Env) (bs1 : List Blk) (w1 : World), (reEnv 0 src β).le β1 → src.length ≤ bs1.length → Rel P K' β1 (mkSt bs1) w1 → Bel K' w w1 →
        β.le (backE src st.next β β1) ∧ Rel P K (backE src st.next β β1) (placeB src st bs1) w1 ∧ RenOk true (backN src st.next) β1 (backE src st.next β β1) := by
  let st0 : St := ⟨putM (src.map fun b => (b, (st.heap.get b).getD .dead)) .leaf, st.next⟩
  have h0 : ∀ i, st0.heap.get i = if i ∈ src then st.heap.get i else none := by
    intro i
    show (putM _ .leaf).get i = _
    rw [putM_get]
    rcases lastM_cases (src.map fun b => (b, (st.heap.get b).getD .dead)) i ((Trie.leaf : Trie Blk).get i) with ⟨n, e⟩ | ⟨n, b', hb', e⟩
    · rw [e]
      have : i ∉ src := fun hi => n (by simp only [List.map_map, List.mem_map]; exact ⟨i, hi, rfl⟩)
      rw [if_neg this]; rfl
    · rw [e]
      obtain ⟨j, hj, hje⟩ := List.mem_map.1 hb'
      simp only [Prod.mk.injEq] at hje
      obtain ⟨rfl, rfl⟩ := hje
      obtain ⟨c, e', x, hc⟩ := hcells j hj
      rw [if_pos hj, hc]; rfl
  obtain ⟨K1, k1, k2, k3, k4⟩ := h.part (st0 := st0) rfl (fun i b hi _ => by
    rw [h0] at hi
    split at hi
    · exact hi
    · cases hi) (fun i o hi => by
    rw [h0] at hi
    split at hi
    · rename_i hm
      obtain ⟨c, e', x, hc⟩ := hcells i hm
      rw [hc] at hi; cases hi
    · cases hi)
  let K' : Prot := ⟨K1.blk, fun _ => False, fun k => K1.nofz k ∨ β (Int.negSucc k) = none, K1.obs⟩
  have r0 : Rel P K' β st0 w := ⟨k3.base, k3.dom, k3.blk, k3.inj, fun i hi => hi.elim, fun k l hk hf => hf.elim (k3.nofz k l hk) (fun hf => by rw [hk] at hf; cases hf), k3.frz, k3.objs⟩
  have hmid := canon_mid (N := 0) (src := src) r0 (fun i hi => hi.elim) (Nat.zero_le _) hnd (fun b hb => by
    obtain ⟨c, e, x, hc⟩ := hcells b hb
    exact ⟨c, e, x, by rw [h0, if_pos hb]; exact hc⟩)
  have hms : (src.map fun b => renB true (rhoO 0 src) (st0.heap.get b)) = src.map fun b => renB true (rhoO 0 src) (st.heap.get b) := by
    apply List.map_congr_left
    intro b hb
    rw [h0, if_pos hb]
  have hsrc : ∀ b ∈ src, ∃ l, β (b : Int) = some l ∧ b < st.next := by
    intro b hb
    obtain ⟨c, e, x, hc⟩ := hcells b hb
    obtain ⟨l, hl, _⟩ := h.blk b _ hc rfl
    exact ⟨l, hl, (h.dom b l hl).1⟩
  refine ⟨K', k1, fun i hi => hi, by rw [← hms]; exact hmid, fun β1 bs1 w1 hle hlen h1 hb => ?_⟩
  have hneg : ∀ k l, β (Int.negSucc k) = some l → β1 (Int.negSucc k) = some l := fun k l hk => hle (Int.negSucc k) l hk
  have hneg' : ∀ k l, β1 (Int.negSucc k) = some l → β (Int.negSucc k) = some l := by
    intro k l hk
    cases hx : β (Int.negSucc k) with
    | none => exact absurd (Or.inr hx) (h1.nofz k l hk)
    | some l' => rw [hneg k l' hx] at hk; exact hk
  have hre : ∀ (j b : Nat), src[j]? = some b → β1 (j : Int) = β (b : Int) := by
    intro j b hj
    obtain ⟨l, hl, _⟩ := hsrc b (List.mem_of_getElem? hj)
    rw [hl]
    refine hle j l ?_
    show (if j < 0 then β (j : Int) else match src[j - 0]? with | some b => β (b : Int) | none => none) = _
    rw [if_neg (by omega), Nat.sub_zero, hj]; exact hl
  have hple : β.le (backE src st.next β β1) := by
    intro i l hi
    cases i with
    | negSucc k => exact hi
    | ofNat i =>
      have := (h.dom i l hi).1
      show (if i < st.next then β (i : Int) else _) = _
      rw [if_pos this]; exact hi
  have hold : ∀ i, i < st.next → backE src st.next β β1 (i : Int) = β (i : Int) := by
    intro i hi
    show (if i < st.next then β (i : Int) else _) = _
    rw [if_pos hi]
  have hbig : ∀ i, st.next ≤ i → backE src st.next β β1 (i : Int) = β1 ((i - st.next + src.length : Nat) : Int) := by
    intro i hi
    show (if i < st.next then β (i : Int) else _) = _
    rw [if_neg (by omega)]
  have hren : RenOk true (backN src st.next) β1 (backE src st.next β β1) := by
    refine ⟨fun b b' l hb hl => ?_, fun _ k l hk => hneg' k l hk⟩
    by_cases hbl : b < src.length
    · rw [backN_lt _ _ _ hbl] at hb
      rw [hold b' (hsrc b' (List.mem_of_getElem? hb)).choose_spec.2, ← hre b b' hb]; exact hl
    · rw [backN_ge _ _ _ (by omega)] at hb
      obtain rfl := Option.some.inj hb
      rw [hbig _ (Nat.le_add_right _ _), show st.next + (b - src.length) - st.next + src.length = b by omega]; exact hl
  -- what is put back, by itself: each number stands for one of the call's
  have hfrom : ∀ (t : Trie Blk) (i : Nat) b, (putB (backN src st.next) src bs1 st.next t).get i = some b → (∃ (j : Nat) (b0 : Blk), bs1[j]? = some b0 ∧ b = renC (backN src st.next) b0 ∧ backE src st.next β β1 (i : Int) = β1 (j : Int) ∧ backN src st.next j = some i ∧ (i ∈ src ∨ st.next ≤ i ∧ i < st.next + (bs1.length - src.length))) ∨ (i ∉ src ∧ ¬ (st.next ≤ i ∧ i < st.next + (bs1.length - src.length)) ∧ t.get i = some b) := by
    intro t i b hi
    rcases putB_get src bs1 st.next t i hnd hlen (fun b hb => (hsrc b hb).choose_spec.2) with ⟨j, g1, g2⟩ | ⟨g1, g2⟩
    · rw [g2] at hi
      cases hx : bs1[j]? with
      | none => rw [hx] at hi; cases hi
      | some b0 =>
        rw [hx] at hi
        have hm := List.mem_of_getElem? g1
        refine Or.inl ⟨j, b0, hx, (Option.some.inj hi).symm, ?_, ?_, Or.inl hm⟩
        · rw [hold i (hsrc i hm).choose_spec.2, hre j i g1]
        · rw [backN_lt _ _ _ (List.getElem?_eq_some_iff.1 g1).1]; exact g1
    · rw [g2] at hi
      split at hi
      · rename_i hr
        cases hx : bs1[i - st.next + src.length]? with
        | none => rw [hx] at hi; cases hi
        | some b0 =>
          rw [hx] at hi
          refine Or.inl ⟨_, b0, hx, (Option.some.inj hi).symm, hbig i hr.1, ?_, Or.inr hr⟩
          rw [backN_ge _ _ _ (by omega)]
          congr 1
          omega
      · rename_i hr
        exact Or.inr ⟨g1, hr, hi⟩
  have hlone : ∀ (i : Nat) b, (placeB src ⟨.leaf, st.next⟩ bs1).heap.get i = some b → ∃ (j : Nat) (b0 : Blk), (mkSt bs1).heap.get j = some b0 ∧ b = renC (backN src st.next) b0 ∧ backE src st.next β β1 (i : Int) = β1 (j : Int) ∧ backN src st.next j = some i := by
    intro i b hi
    rcases hfrom .leaf i b hi with ⟨j, b0, g1, g2, g3, g4, _⟩ | ⟨_, _, g⟩
    · exact ⟨j, b0, by rw [mkSt_get]; exact g1, g2, g3, g4⟩
    · cases g
  have hnx : (mkSt bs1).next = bs1.length := rfl
  have rl : Rel P K1 (backE src st.next β β1) (placeB src ⟨.leaf, st.next⟩ bs1) w1 := by
    refine ⟨h1.base, fun i l hi => ?_, fun i b hi hl => ?_, fun i j bi bj li lj hi hbi hj hbj hli hlj v1 v2 e => ?_, fun i hi => ?_, fun k l hk => k3.nofz k l hk, fun k l hk => ?_, fun _ _ => False, fun i o hi => ?_, fun i k hk => hk.elim⟩
    · by_cases hin : i < st.next
      · rw [hold i hin] at hi
        obtain ⟨a1, a2⟩ := h.dom i l hi
        exact ⟨Nat.lt_of_lt_of_le a1 (Nat.le_add_right _ _), fun hv => Nat.lt_of_lt_of_le (a2 hv) hb.size⟩
      · rw [hbig i (by omega)] at hi
        obtain ⟨a1, a2⟩ := h1.dom _ l hi
        exact ⟨by show i < st.next + (bs1.length - src.length); omega, a2⟩
    · obtain ⟨j, b0, a2, rfl, a3, _⟩ := hlone i b hi
      obtain ⟨l, c1, c2, c3⟩ := h1.blk _ b0 a2 (renC_live hl)
      exact ⟨l, by rw [a3]; exact c1, c2, renC_rel hren c3⟩
    · obtain ⟨i', b0, a2, rfl, a3, a4⟩ := hlone i bi hi
      obtain ⟨j', d0, c2, rfl, c3, c4⟩ := hlone j bj hj
      rw [a3] at hli
      rw [c3] at hlj
      have := h1.inj _ _ b0 d0 li lj a2 (renC_live hbi) c2 (renC_live hbj) hli hlj v1 v2 e
      rw [this, c4] at a4
      exact (Option.some.inj a4).symm
    · rw [k2] at hi
      obtain ⟨a1, a2⟩ := h.res i hi
      exact ⟨Nat.lt_of_lt_of_le a1 (Nat.le_add_right _ _), by rw [hold i a1]; exact a2⟩
    · obtain ⟨f1, f2, f3⟩ := h1.frz k l (hneg k l hk)
      refine ⟨f1, f2, fun j bj lj hj hbj hlj hv => ?_⟩
      obtain ⟨j', d0, c2, rfl, c3, _⟩ := hlone j bj hj
      rw [c3] at hlj
      exact f3 _ d0 lj c2 (renC_live hbj) hlj hv
    · obtain ⟨_, b0, _, e, _⟩ := hlone i _ hi
      exact (renC_obj e.symm).elim
  refine ⟨hple, k4 _ (placeB src ⟨.leaf, st.next⟩ bs1) _ w1 hple rl ⟨hb.os, hb.tape, hb.output, hb.size, hb.block⟩ (Nat.le_add_right _ _) (fun i o hi => ?_) rfl (fun i b hi hl => ?_) (fun i o hi hdead => ?_), hren⟩
  · obtain ⟨_, b0, _, e, _⟩ := hlone i _ hi
    exact (renC_obj e.symm).elim
  · have hq := putB_get (ρ := backN src st.next) src bs1 st.next .leaf i hnd hlen (fun b hb => (hsrc b hb).choose_spec.2)
    have hq2 := putB_get (ρ := backN src st.next) src bs1 st.next st.heap i hnd hlen (fun b hb => (hsrc b hb).choose_spec.2)
    have hi : (putB (backN src st.next) src bs1 st.next st.heap).get i = some b := hi
    rcases hq2 with ⟨j, g1, g2⟩ | ⟨g1, g2⟩
    · refine Or.inl ?_
      rcases hq with ⟨j', g1', g2'⟩ | ⟨g1', _⟩
      · have : j' = j := nodup_idx hnd g1' g1
        subst this
        show (putB _ src bs1 st.next .leaf).get i = _
        rw [g2', ← g2]; exact hi
      · exact absurd (List.mem_of_getElem? g1) g1'
    · rcases hq with ⟨j', g1', g2'⟩ | ⟨g1', g2'⟩
      · exact absurd (List.mem_of_getElem? g1') g1
      · rw [g2] at hi
        split at hi
        · rename_i hr
          refine Or.inl ?_
          show (putB _ src bs1 st.next .leaf).get i = _
          rw [g2', if_pos hr]; exact hi
        · rename_i hr
          refine Or.inr ⟨fun c hc => ?_, fun c hc => ?_, hi⟩
          · have hc : (putB _ src bs1 st.next .leaf).get i = some c := hc
            rw [g2', if_neg hr] at hc; cases hc
          · rw [h0, if_neg g1] at hc; cases hc
  · obtain ⟨l, hl, _⟩ := h.blk i _ hi rfl
    have hlt := (h.dom i l hl).1
    show (putB _ src bs1 st.next st.heap).get i = _
    rcases putB_get (ρ := backN src st.next) src bs1 st.next st.heap i hnd hlen (fun b hb => (hsrc b hb).choose_spec.2) with ⟨j, g1, g2⟩ | ⟨g1, g2⟩
    · obtain ⟨c, e, x, hc⟩ := hcells i (List.mem_of_getElem? g1)
      rw [hi] at hc; cases hc
    · rw [g2, if_neg (by omega)]; exact hi

/-- The blocks that arguments point to. -/
noncomputable def numsA (l : List Value) : List Nat :=
  @List.rec Value (fun _ => List Nat) [] (fun v _ ih => match v with
    | .slice (some a) _ _ => @Bool.rec (fun _ => List Nat) (a.block :: ih) ih (hasN ih a.block)
    | .pointer (some a) => @Bool.rec (fun _ => List Nat) (a.block :: ih) ih (hasN ih a.block)
    | _ => ih) l
abbrev CallFnM := List Value → List Blk → Option (DT (Value × List Blk))
noncomputable def callCtM (R : CallFnM) (args : List Value) (st : St) : Option (DT (Value × St)) :=
  match movs 0 (numsA args) (fun i => getP (path i) st.heap) (numsA args) with
  | some ms => match R (args.map (renV true (rhoO 0 (numsA args)))) ms with
    | some t => some (t.map fun x => (renV true (backN (numsA args) st.next) x.1, placeB (numsA args) st x.2))
    | none => none
  | none => none
noncomputable def addCallM (g : FuncId) (R : CallFnM) (ct : Ct) : Ct where
  call := fun g' args st => match Nat.beq g' g with
    | true => match callCtM R args st with
      | some t => some t
      | none => ct.call g' args st
    | false => ct.call g' args st
  loop := ct.loop
  op := ct.op
structure CallOkM (P : Program) (g : FuncId) (R : CallFnM) : Prop where
  run : ∀ args bs t, R args bs = some t → ∀ v bs', t.eval = some (v, bs') → CRM P g args bs v bs'
theorem ren_ok (src : List Nat) (β : Env) : RenOk true (rhoO 0 src) β (reEnv 0 src β) := by
  refine ⟨fun b b' l hb hl => ?_, fun _ k l h => h⟩
  unfold rhoO at hb
  split at hb
  · rename_i j hj
    obtain rfl := Option.some.inj hb
    obtain ⟨k, rfl, hk⟩ := posO_spec _ _ _ _ hj
    show (if 0 + k < 0 then β ((0 + k : Nat) : Int) else match src[0 + k - 0]? with | some b => β (b : Int) | none => none) = _
    rw [if_neg (by omega), show 0 + k - 0 = k by omega, hk]; exact hl
  · split at hb
    · rename_i hle
      exact absurd (Nat.le_of_ble_eq_true hle) (by omega)
    · cases hb
theorem addCallM_ok {g : FuncId} {R : CallFnM} (hct : CtOk P ct) (h : CallOkM P g R) : CtOk P (addCallM g R ct) where
  opc := hct.opc
  op := hct.op
  loop := hct.loop
  call := by
    intro K g' args st v st' hl β w args' cs ha hr
    simp only [addCallM] at hl
    split at hl
    · rename_i hb
      obtain rfl := Nat.eq_of_beq_eq_true hb
      split at hl
      · rename_i t0 hcall
        unfold callCtM at hcall
        split at hcall
        · rename_i ms hm
          split at hcall
          · rename_i t hR
            obtain rfl := Option.some.inj hcall
            simp only [Option.bind_some] at hl
            obtain ⟨⟨v1, bs1⟩, hev, heq⟩ := DT.map_eval hl
            simp only [Prod.mk.injEq] at heq
            obtain ⟨rfl, rfl⟩ := heq
            obtain ⟨m1, m2, m3⟩ := movs_spec hm
            simp only [getP_path] at m2 m3
            obtain ⟨K', k1, k2, k3, k4⟩ := swapC_rel hr m1 m2
            have ha' : VRL (reEnv 0 (numsA args) β) (args.map (renV true (rhoO 0 (numsA args)))) args'.toList := ha.mapr fun v _ x hx => renV_rel (ren_ok _ _) v x hx
            obtain ⟨⟨β1, fr, w1, v', a1, a2, a3, a4, a5, a6⟩, a7⟩ := h.run _ _ t hR v1 bs1 hev K' _ w args' cs k2 ha' (by rw [m3]; exact k3)
            rw [m3, List.length_map] at a7
            obtain ⟨c1, c2, c3⟩ := k4 β1 bs1 w1 a2 a7 a3 a4
            exact ⟨_, fr, w1, v', a1, c1, c2, a4.mono k1, renV_rel c3 _ _ a5, a6⟩
          · cases hcall
        · cases hcall
      · exact hct.call K _ args st v st' hl β w args' cs ha hr
    · exact hct.call K g' args st v st' hl β w args' cs ha hr

/-! ### a call in a memory, by the evaluator -/
/-- 'new': the new blocks that are kept, in order. -/
noncomputable def callQM (P : Program) (E : Eng) (ct : Ct) (n : Nat) (g : FuncId) (args : List Value) (bs : List Blk) (new : List Nat) : Res :=
  (knotQ P E ct n n).call g args (mkSt bs) fun v st => match movs bs.length new (fun i => getP (path i) st.heap) new with
    | some ms => @Bool.rec (fun _ => Res) none (some (renV true (rhoO bs.length new) v, mkSt (rigid bs.length new (fun i => getP (path i) st.heap) bs.length 0 ++ ms))) (Nat.ble bs.length st.next)
    | none => none
theorem CRM.of {E : Eng} (hE : EngOk P ct E) (hN : noNum P = true) (hct : CtOk P ct) {n : Nat} {g : FuncId} {args : List Value} {bs : List Blk} {new : List Nat} {v : Value} {bs' : List Blk} (h : callQM P E ct n g args bs new = some (v, mkSt bs')) (hlen : bs.length ≤ bs'.length) : CRM P g args bs v bs' := by
  intro K β w args' cs hid ha hr
  refine ⟨?_, hlen⟩
  unfold callQM at h
  obtain ⟨m, v1, st1, h1, h2⟩ := (knotQ_ok hE n n).call _ _ _ _ _ h
  obtain ⟨β1, fr, w1, v', a1, a2, a3, a4, a5, a6⟩ := (sound_all hN hct m K).call g args (mkSt bs) v1 st1 h1 β w args' .normal cs (Or.inl rfl) ha hr
  split at h2
  · rename_i ms hm
    cases hb : Nat.ble bs.length st1.next with
    | false => rw [hb] at h2; cases h2
    | true =>
      rw [hb] at h2
      simp only [Option.some.injEq, Prod.mk.injEq] at h2
      obtain ⟨rfl, hst⟩ := h2
      obtain ⟨m1, m2, m3⟩ := movs_spec hm
      simp only [getP_path] at m2 m3 hst
      have hmid := canon_mid (N := bs.length) (src := new) a3 (fun i hi => (hid i hi).elim) (Nat.le_of_ble_eq_true hb) m1 m2
      have hren : RenOk true (rhoO bs.length new) β1 (reEnv bs.length new β1) := by
        refine ⟨fun b b' l hb hl => ?_, fun _ k l h => h⟩
        unfold rhoO at hb
        split at hb
        · rename_i j hj
          obtain rfl := Option.some.inj hb
          obtain ⟨k, rfl, hk⟩ := posO_spec _ _ _ _ hj
          show (if bs.length + k < bs.length then β1 ((bs.length + k : Nat) : Int) else match new[bs.length + k - bs.length]? with | some b => β1 (b : Int) | none => none) = _
          rw [if_neg (by omega), show bs.length + k - bs.length = k by omega, hk]; exact hl
        · split at hb
          · rename_i hle
            obtain rfl := Option.some.inj hb
            have : b < bs.length := Nat.le_of_ble_eq_true hle
            show (if b < bs.length then β1 (b : Int) else _) = _
            rw [if_pos this]; exact hl
          · cases hb
      refine ⟨reEnv bs.length new β1, fr, w1, v', a1, fun i l hi => ?_, ?_, a4, renV_rel hren _ _ a5, a6⟩
      · cases i with
        | negSucc k => exact a2 _ _ hi
        | ofNat i =>
          have : i < bs.length := (hr.dom i l hi).1
          show (if i < bs.length then β1 (i : Int) else _) = _
          rw [if_pos this]; exact a2 _ _ hi
      · rw [← hst, m3]; exact hmid
  · cases h2
end
end Go.VS
end

section
namespace Go.VS
set_option linter.unusedSimpArgs false
set_option linter.unusedVariables false
section
variable {P : Program} {K : Prot} {β : Env} {st : St} {w : World}

theorem shift_rel (hr : Rel P K β st w) {a : Addr} {c : List Value} {e : TypeId} {len : Nat} {v' : Value} (hg : st.heap.get a.block = some (.cells c e false)) (ho : a.off ≤ c.length) (hv : VR β (.slice (some a) len unk) v') :
    ∃ β', β.le β' ∧ Rel P K β' (newRow (kill st a.block) (c.drop a.off) e false).2 w ∧ VR β' (.slice (some (newRow (kill st a.block) (c.drop a.off) e false).1) len unk) v' := by
  simp only [VR] at hv
  obtain ⟨hs, l, hl, hsl⟩ := hv
  obtain ⟨l', k1, hbk⟩ := hr.get_cells hg
  obtain rfl : l' = l := by rw [k1] at hl; exact Option.some.inj hl
  rcases hbk with ⟨hvt, hc, _⟩ | ⟨hvt, k2, cc, f, k3, k4, k5, k6, k7, k8, k9⟩
  · subst hc
    have hk := hr.kill a.block (by intro o e; rw [hg] at e; cases e)
    have hv := hk.virt e 0 0
    refine ⟨_, hk.le_put _, by rw [List.drop_nil]; exact hv, ⟨rfl, _, put_same _ _ _, ?_⟩⟩
    unfold SliceR at hsl ⊢
    rw [if_pos hvt] at hsl
    rw [if_pos rfl]
    exact ⟨hsl.1, rfl, Or.inr rfl, hsl.2.2.2⟩
  · unfold SliceR at hsl
    rw [if_neg (by simp [hvt]), if_neg (by simp), if_pos rfl] at hsl
    refine ⟨β.put st.next ⟨l'.blk, l'.base + a.off, l'.total - a.off, l'.esize, none, false⟩, hr.le_put _, hr.move hg rfl rfl rfl k1 hvt rfl rfl rfl (fun _ _ => rfl) ?_, ⟨rfl, _, put_same _ _ _, ?_⟩⟩
    · refine BlkR.mono (hr.le_put _) (Or.inr ⟨rfl, cc, f, k3, k4, by show l'.base + a.off + (l'.total - a.off) ≤ _; omega, by rw [List.length_drop]; show _ ≤ l'.total - a.off; omega, fun h => (by cases h), ?_, k9⟩)
      have hh := k8.drop a.off
      rw [List.drop_take, List.drop_drop] at hh
      rw [List.length_drop]
      exact hh
    · unfold SliceR
      rw [if_neg (by simp), if_neg (by simp), if_pos rfl]
      refine ⟨?_, Nat.zero_le _⟩
      rw [hsl.1]
      show _ = Value.slice (some ⟨l'.blk, l'.base + a.off + 0, none⟩) len ((l'.total - a.off - 0) / l'.esize)
      rfl

/-! ### the operation -/
noncomputable def needT {α : Type} (b : Bool) (t : DT α) : DT α := .ite b t .fail
theorem needT_spec {α : Type} {b : Bool} {t : DT α} {r : α} (h : (needT b t).eval = some r) : b = true ∧ t.eval = some r := by
  cases b with
  | true => exact ⟨rfl, h⟩
  | false => cases h
noncomputable def tailT {α : Type} (str : Bool) (size : Nat) (st : St) (x : Value) (k : Nat → List Value → DT α) : DT α := match str with
  | false => match x with
    | .slice (some a) n _ => match a.spot, getP (path a.block) st.heap with
      | none, some (.cells c _ _) => needT (Nat.ble (Nat.add a.off (Nat.mul n size)) c.length) (k n (takeC (Nat.mul n size) (dropC a.off c)))
      | _, _ => .fail
    | .slice none n _ => needT (Nat.beq n 0) (k 0 [])
    | .iface t v => match fzOf (.iface t v) with
      | some z => needT (Nat.beq z.sz size) (k z.n z.cells)
      | none => .fail
    | _ => .fail
  | true => match x with
    | .string b => needT (Nat.beq size 1) (k b.size (byteCells b))
    | _ => .fail
theorem tailT_spec {α : Type} {str : Bool} {size : Nat} {x : Value} {k : Nat → List Value → DT α} {r : α} {xt : TypeDesc} (hxt : (match xt with | .slice _ => some false | .string => some true | _ => none) = some str) (h : (tailT str size st x k).eval = some r) :
    ∃ n new, tailOf st size xt x = some (n, new) ∧ (k n new).eval = some r := by
  unfold tailT at h
  split at h
  · have hx : ∃ e, xt = .slice e := by
      cases xt <;> simp at hxt ⊢
    obtain ⟨e, rfl⟩ := hx
    split at h
    · rename_i a n cap
      split at h
      · rename_i c e' ex hs hg
        rw [getP_path] at hg
        obtain ⟨hle, h3⟩ := needT_spec h
        have hle : a.off + n * size ≤ c.length := Nat.le_of_ble_eq_true hle
        exact ⟨n, (c.drop a.off).take (n * size), by simp only [tailOf, cellsAt, hs, hg, Option.isSome_none, Bool.false_eq_true, if_false, hle, if_true], h3⟩
      · cases h
    · rename_i n cap
      obtain ⟨hc, h⟩ := needT_spec h
      exact ⟨_, _, by simp only [tailOf, Nat.eq_of_beq_eq_true hc, if_true], h⟩
    · rename_i t v
      split at h
      · rename_i z hz
        obtain ⟨hc, h⟩ := needT_spec h
        exact ⟨_, _, by simp only [tailOf, hz, Nat.eq_of_beq_eq_true hc, if_true], h⟩
      · cases h
    · cases h
  · have hx : xt = .string := by
      cases xt <;> simp at hxt ⊢
    subst hx
    split at h
    · rename_i b
      obtain ⟨hc, h⟩ := needT_spec h
      exact ⟨_, _, by simp only [tailOf, Nat.eq_of_beq_eq_true hc, if_true], h⟩
    · cases h
noncomputable def oldC (off : Nat) (c : List Value) : List Value := match off with
  | 0 => c
  | k + 1 => dropC (k + 1) c
theorem oldC_eq (off : Nat) (c : List Value) : oldC off c = c.drop off := by cases off <;> rfl
noncomputable def appT (e : TypeId) (size n : Nat) (new : List Value) (st : St) (s : Value) : Option (DT (Value × St)) := match s with
  | .slice none len cap => some (needT (and (Nat.beq len 0) (and (Nat.beq cap 0) (Nat.ble n big))) (.leaf (.slice (some ⟨st.next, 0, none⟩) n unk, ⟨setP (path st.next) st.heap (.cells new e false), Nat.succ st.next⟩)))
  | .slice (some a) len cap => match Nat.beq cap unk with
    | true => match a.spot, getP (path a.block) st.heap with
      | none, some (.cells c e' ex) => some (needT (and (not ex) (Nat.beq e' e)) (needT (Nat.ble (Nat.add len n) big) (needT (Nat.beq (Nat.add a.off (Nat.mul len size)) c.length)
          (.leaf (.slice (some ⟨st.next, 0, none⟩) (Nat.add len n) unk, ⟨setP (path st.next) (setP (path a.block) st.heap .dead) (.cells (List.append (oldC a.off c) new) e false), Nat.succ st.next⟩)))))
      | _, _ => none
    | false => none
  | _ => none
noncomputable def symOp (P : Program) (o : Oper) (ρ : Operand → Value) (st : St) : Option (DT (Value × St)) := match o.op with
  | .call c => match c.callee, c.args.toList, c.argTypes.toList with
    | .builtin .append, [x, y], [tx, ty] => match appK P tx ty with
      | some r => match appT r.1 r.2.1 0 [] st (ρ x) with
        | some _ => some (tailT r.2.2 r.2.1 st (ρ y) fun n new => match appT r.1 r.2.1 n new st (ρ x) with
          | some t => needT (new.all oneCell) t
          | none => .fail)
        | none => none
      | none => none
    | _, _, _ => none
  | _ => none

theorem symOp_ok (hN : noNum P = true) (o : Oper) (ρ : Operand → Value) (st : St) (v : Value) (st' : St) (h : (symOp P o ρ st).bind DT.eval = some (v, st')) :
    isDefer o.op = false ∧ ∀ (K : Prot) (β : Env) (w : World) (ρ' : Operand → Value), (∀ x, VR β (ρ x) (ρ' x)) → Rel P K β st w → OutR P K β st w ((execOp ρ' o).run P w) (.val v st') := by
  obtain ⟨dst, op, type, pos, after, guard⟩ := o
  unfold symOp at h
  simp only at h
  split at h
  · rename_i c
    refine ⟨rfl, fun K β w ρ' hρ hr => ?_⟩
    split at h
    · rename_i x y tx ty hc1 hc2 hc3
      split at h
      · rename_i rr hk
        obtain ⟨e, size, str⟩ := rr
        simp only at h
        split at h
        · simp only [Option.bind_some] at h
          unfold appK at hk
          simp only [undQ_eq, infoQ_eq, zeroQ_eq] at hk
          split at hk
          · rename_i e' xt hs hx
            split at hk
            · rename_i str' ei z hxt hi hz
              split at hk
              · cases hk
              · rename_i hcond
                simp only [Option.some.injEq, Prod.mk.injEq] at hk
                obtain ⟨rfl, rfl, rfl⟩ := hk
                have ht0 : c.argTypes[0]? = some tx := by rw [← Array.getElem?_toList, hc3]; rfl
                have ht1 : c.argTypes[1]? = some ty := by rw [← Array.getElem?_toList, hc3]; rfl
                have hev : evOp P ρ ⟨dst, .call c, type, pos, after, guard⟩ st = match appendS P st tx ty (ρ x) (ρ y) with
                  | some (v, st) => some (.val v st)
                  | none => none := by
                  simp only [evOp, hc1, hc2, List.map_cons, List.map_nil, builtinS, ht0, ht1]
                  cases appendS P st tx ty (ρ x) (ρ y) <;> rfl
                have happ : appendS P st tx ty (ρ x) (ρ y) = match tailOf st ei.size xt (ρ y) with
                    | some (n, new) => if new.all oneCell then appendTo P st e' ei.size n new (ρ x) else none
                    | none => none := by
                  simp only [appendS, hs, hx, hi, hz]
                  rw [if_neg hcond]
                  cases tailOf st ei.size xt (ρ y) <;> rfl
                obtain ⟨n, new, h1, h2⟩ := tailT_spec hxt h
                split at h2
                · rename_i t happT
                  obtain ⟨hone, h3⟩ := needT_spec h2
                  obtain ⟨new', hsrc, hnew⟩ := tailOf_src hr (hρ y) hx h1 hone
                  have hlen : new.length = n * ei.size := by rw [hnew.length, hsrc.newsLen]
                  have hev2 : evOp P ρ ⟨dst, .call c, type, pos, after, guard⟩ st = match appendTo P st e' ei.size n new (ρ x) with
                      | some (v, st) => some (.val v st)
                      | none => none := by
                    rw [hev, happ, h1]
                    simp only [hone, if_true]
                  unfold appT at happT
                  split at happT
                  · rename_i len cap hsx
                    obtain rfl := Option.some.inj happT
                    obtain ⟨hc, h3⟩ := needT_spec h3
                    simp only [DT.eval, Option.some.injEq, Prod.mk.injEq] at h3
                    obtain ⟨rfl, rfl⟩ := h3
                    simp only [Bool.and_eq_true] at hc
                    have c1 := Nat.eq_of_beq_eq_true hc.1
                    have c2 := Nat.eq_of_beq_eq_true hc.2.1
                    have c3 := Nat.le_of_ble_eq_true hc.2.2
                    subst c1 c2
                    have hst : (⟨setP (path st.next) st.heap (.cells new e' false), Nat.succ st.next⟩ : St) = (newRow st new e' false).2 := by rw [setP_path]; rfl
                    rw [hst]
                    by_cases hn : n = 0
                    · subst hn
                      have : new = [] := List.eq_nil_of_length_eq_zero (by omega)
                      subst this
                      have hap : appendTo P st e' ei.size 0 [] (ρ x) = some (.slice none 0 0, st) := by
                        rw [hsx]; simp only [appendTo]
                        rw [if_neg (by simp)]; rfl
                      rw [hap] at hev2
                      obtain ⟨β', w', v', r1, r2, r3, r4, r5⟩ := evOp_sound hN hr hρ hev2
                      refine ⟨_, w', v', r1, r2.trans (r3.le_put _), r3.virt e' 0 0, ⟨rfl, _, put_same _ _ _, ?_⟩, r5⟩
                      unfold SliceR
                      rw [if_pos rfl]
                      exact ⟨rfl, rfl, Or.inr rfl, r4⟩
                    · have hap : appendTo P st e' ei.size n new (ρ x) = some (.slice (some (newRow st new e' false).1) n unk, (newRow st new e' false).2) := by
                        rw [hsx]; simp only [appendTo]
                        rw [if_neg (by simp; omega), if_neg hn]
                      rw [hap] at hev2
                      exact evOp_sound hN hr hρ hev2
                  · rename_i a len cap hsx
                    split at happT
                    · rename_i hcap
                      have hcap := Nat.eq_of_beq_eq_true hcap
                      subst hcap
                      split at happT
                      · rename_i c0 e0 ex hsp hg
                        rw [getP_path] at hg
                        obtain rfl := Option.some.inj happT
                        obtain ⟨d1, h3⟩ := needT_spec h3
                        obtain ⟨d2, h3⟩ := needT_spec h3
                        obtain ⟨d3, h3⟩ := needT_spec h3
                        simp only [DT.eval, Option.some.injEq, Prod.mk.injEq] at h3
                        obtain ⟨rfl, rfl⟩ := h3
                        simp only [Bool.and_eq_true, Bool.not_eq_true'] at d1
                        obtain ⟨rfl, d1⟩ := d1
                        have d1 := Nat.eq_of_beq_eq_true d1
                        have d2 : len + n ≤ big := Nat.le_of_ble_eq_true d2
                        have d3 : a.off + len * ei.size = c0.length := Nat.eq_of_beq_eq_true d3
                        subst d1
                        have hst : (⟨setP (path st.next) (setP (path a.block) st.heap .dead) (.cells (List.append (oldC a.off c0) new) e0 false), Nat.succ st.next⟩ : St) = (newRow (kill st a.block) (c0.drop a.off ++ new) e0 false).2 := by
                          rw [setP_path, setP_path, oldC_eq]; rfl
                        have htk : (c0.drop a.off).take (len * ei.size) = c0.drop a.off := List.take_of_length_le (by rw [List.length_drop]; omega)
                        rw [hst]
                        by_cases hn : n = 0
                        · subst hn
                          have : new = [] := List.eq_nil_of_length_eq_zero (by omega)
                          subst this
                          have hap : appendTo P st e0 ei.size 0 [] (ρ x) = some (.slice (some a) len unk, st) := by
                            rw [hsx]; simp only [appendTo]
                            rw [if_neg (by omega), if_neg (by omega), hg]
                            simp only
                            rw [if_neg (by simp [hsp]; omega), if_pos trivial, if_pos (by omega)]
                          rw [hap] at hev2
                          obtain ⟨β', w', v', r1, r2, r3, r4, r5⟩ := evOp_sound hN hr hρ hev2
                          obtain ⟨β2, q1, q2, q3⟩ := shift_rel r3 hg (by omega) r4
                          rw [List.append_nil]
                          exact ⟨β2, w', v', r1, r2.trans q1, q2, q3, r5⟩
                        · have hap : appendTo P st e0 ei.size n new (ρ x) = some (.slice (some (newRow (kill st a.block) (c0.drop a.off ++ new) e0 false).1) (len + n) unk, (newRow (kill st a.block) (c0.drop a.off ++ new) e0 false).2) := by
                            rw [hsx]; simp only [appendTo]
                            rw [if_neg (by omega), if_neg (by omega), hg]
                            simp only
                            rw [if_neg (by simp [hsp]; omega), if_neg hn, if_pos (by rw [Nat.sub_self, Nat.add_zero]; exact d3), htk]
                          rw [hap] at hev2
                          exact evOp_sound hN hr hρ hev2
                      · cases happT
                    · cases happT
                  · cases happT
                · cases h2
            · cases hk
          · cases hk
        · cases h
      · cases h
    · cases h
  · cases h
/-- Known operations. -/
noncomputable def symCt (P : Program) : Ct := ⟨fun _ _ _ => none, fun _ _ _ _ => none, symOp P⟩
theorem symOp_congr (o : Oper) (ρ ρ' : Operand → Value) (st : St) (h : ∀ x ∈ o.op.operands, ρ x = ρ' x) : symOp P o ρ st = symOp P o ρ' st := by
  obtain ⟨dst, op, type, pos, after, guard⟩ := o
  cases op <;> first | rfl | skip
  rename_i c
  have hargs : ∀ x ∈ c.args.toList, ρ x = ρ' x := fun x hx => h x (by simp [Op.operands, Call.operands]; exact (by first | exact Or.inr (by simpa using hx) | exact Or.inl (by simpa using hx)))
  unfold symOp
  simp only
  split
  · rename_i x y tx ty h1 h2 h3
    rw [h2] at hargs
    rw [hargs x (by simp), hargs y (by simp)]
  · rfl
theorem symCt_ok (hN : noNum P = true) : CtOk P (symCt P) := ⟨fun _ _ _ _ _ _ h => (by cases h), fun _ _ _ _ _ _ _ _ _ h => (by cases h), symOp_congr, fun K o ρ st v st' h => ⟨(symOp_ok hN o ρ st v st' h).1, (symOp_ok hN o ρ st v st' h).2 K⟩⟩
/-- An engine at which the first of min's two must be the less. -/
noncomputable def s_minF (o : Oper) (x y : Operand) : OpT := fun call s st kv kd => match rdF s x, rdF s y with
  | .int k a, .int _ b => needB (leI a b) (kv (.int k a) st)
  | _, _ => none
noncomputable def compMn (P : Program) (o : Oper) : OpFn := match o.op with
  | .call c => match c.callee, c.args.toList with
    | .builtin .min, [x, y] => ⟨s_minF o x y⟩
    | _, _ => compS P o
  | _ => compS P o
theorem compMn_spec {call : Knot} {s : Trie Value} {o : Oper} {kv : Value → St → Res} {kd : Deferred → St → Res} {r : Value × St} (h : (compMn P o).run call s st kv kd = some r) : Hands call kv kd (evOp P (rdF s) o st) r := by
  obtain ⟨dst, op, type, pos, after, guard⟩ := o
  unfold compMn at h
  simp only at h
  split at h
  · rename_i c
    split at h
    · rename_i x y h1 h2
      change s_minF ⟨dst, .call c, type, pos, after, guard⟩ x y call s st kv kd = some r at h
      unfold s_minF at h
      split at h
      · rename_i k a k' b hx hy
        obtain ⟨hle, h⟩ := needB_spec h
        have hle : a ≤ b := of_decide_eq_true hle
        have hb : builtinS P .min c.argTypes type (c.args.map constB) [.int k a, .int k' b] st = some (.val (.int k (minI a b)) st) := rfl
        have e : minI a b = a := by unfold minI; rw [if_neg (by omega)]
        rw [e] at hb
        simp only [evOp, h1, h2, List.map_cons, List.map_nil, hx, hy, hb]
        exact h
      · cases h
    · exact compS_spec h
  · exact compS_spec h
noncomputable def engMn (P : Program) : Eng := ⟨compMn P, fun ct => drawM P (compMn P) ct⟩
theorem engMn_ok (P : Program) (ct : Ct) : EngOk P ct (engMn P) where
  comp := fun h => compMn_spec h
  draw := by
    intro call hc ops nt ro s d st k r h
    exact drawM_spec (fun h => compMn_spec h) hc h
end
end Go.VS
end

section
namespace Go.VS.Tryd
set_option linter.unusedSimpArgs false
set_option linter.unusedVariables false
set_option maxRecDepth 1000000
open Go.VS
noncomputable abbrev P : Program := Go.Proofs.Tryd.prog
noncomputable abbrev E : Eng := engS P
theorem noNum : VS.noNum P = true := by kernel_rfl
theorem engOk (ct : Ct) : EngOk P ct E := engS_ok P ct
theorem ok_of {ct : Ct} (hct : CtOk P ct) {g n : Nat} {R : CallFn} (h : ∀ args t, R args = some t → ∀ v bs, t.eval = some (v, bs) → callQ P E ct n g args = some (v, mkSt bs)) : CallOkR P g R :=
  ⟨fun args t hR v bs hev => CR.of (engOk ct) noNum hct (h args t hR v bs hev)⟩

def sl (b n : Nat) : Value := .slice (some ⟨b, 0, none⟩) n unk
def atB (v : Value) (b n : Nat) : Bool := match v with
  | .slice (some a) n' c => a.block == b && a.off == 0 && a.spot.isNone && n' == n && c == unk
  | _ => false
theorem atB_eq {v : Value} {b n : Nat} (h : atB v b n = true) : v = sl b n := by
  unfold atB at h
  split at h
  · rename_i a n' c
    simp only [Bool.and_eq_true, beq_iff_eq, Option.isNone_iff_eq_none] at h
    obtain ⟨⟨⟨⟨h1, h2⟩, h3⟩, h4⟩, h5⟩ := h
    obtain ⟨bb, oo, ss⟩ := a
    simp only at h1 h2 h3
    subst h1 h2 h3 h4 h5
    rfl
  · cases h
theorem atB_sl (b n : Nat) : atB (sl b n) b n = true := by simp [atB, sl]
/-! ### a tree of cases is walked by simp: what is needed is found by the discharger -/
theorem need_true {b : Bool} {x : Res} (h : b = true) : needB b x = x := by subst h; rfl
theorem ite_true {b : Bool} {x y : Res} (h : b = true) : iteB b x y = x := by subst h; rfl
theorem ite_false {b : Bool} {x y : Res} (h : b = false) : iteB b x y = y := by subst h; rfl
theorem ite_tt {x y : Res} : iteB true x y = x := rfl
theorem ite_ff {x y : Res} : iteB false x y = y := rfl
theorem not_tt : notB true = false := rfl
theorem not_ff : notB false = true := rfl
theorem ble_iff {a b : Nat} : Nat.ble a b = true ↔ a ≤ b := by rw [Nat.ble_eq]
theorem beq_iff {a b : Nat} : Nat.beq a b = true ↔ a = b := by rw [Nat.beq_eq]
theorem bool_and {a b : Bool} : Bool.and a b = true ↔ a = true ∧ b = true := by cases a <;> cases b <;> simp
theorem in_iff {i : Int} {n : Nat} : inI i n = true ↔ 0 ≤ i ∧ i < n := by unfold inI; simp
theorem cut_iff {l h : Int} {n : Nat} : cutI l h n = true ↔ 0 ≤ l ∧ l ≤ h ∧ h ≤ n := by unfold cutI; simp
theorem beqS (s : ByteArray) : beqV (.string s) (.string s) = true := by simp [beqV]
theorem beqI (k : IntKind) (n : Int) : beqV (.int k n) (.int k n) = true := by simp [beqV]
theorem beqBo (b : Bool) : beqV (.bool b) (.bool b) = true := by simp [beqV]
theorem oldC_zero (c : List Value) : oldC 0 c = c := rfl
theorem take_bc {x : List UInt8} {n : Nat} (h : n = x.length) : takeC (Nat.mul n 1) (dropC 0 (bc x)) = bc x := by
  subst h
  have := take_all (bc x)
  rw [bc_length] at this
  exact this
theorem app_bc (a b : List UInt8) : List.append (bc a) (bc b) = bc (a ++ b) := (bc_append a b).symm
theorem one_bc : [Value.int .u8 (1 : Int)] = bc [1] := rfl
theorem zero_bc : [Value.int .u8 (0 : Int)] = bc [0] := rfl
theorem size_eq (s : ByteArray) : s.size = s.data.toList.length := by rw [Array.length_toList]; rfl
end Go.VS.Tryd
end

section
namespace Go.VS.Tryd
set_option linter.unusedSimpArgs false
set_option linter.unusedVariables false
set_option maxRecDepth 1000000
open Go.VS
/-! ### plain -/
theorem dec_plain (x : Int) : callQ P E noCt 50 13 [.int .u8 x] =
  (iteB (Go.VS.gtI x (32 : Int))
   (iteB (Go.VS.ltI x (127 : Int))
    (iteB (Go.VS.neI x (34 : Int))
     (some ((Go.Value.bool (Go.VS.neI x (92 : Int))), (Go.VS.mkSt [])))
     (some ((Go.Value.bool Bool.false), (Go.VS.mkSt []))))
    (some ((Go.Value.bool Bool.false), (Go.VS.mkSt []))))
   (some ((Go.Value.bool Bool.false), (Go.VS.mkSt [])))) := by kernel_rfl
def plainM (x : Int) : Bool := gtI x 32 && ltI x 127 && neI x 34 && neI x 92
def Rplain : CallFn
  | [.int .u8 x] => some (.leaf (.bool (plainM x), []))
  | _ => none
theorem plain_ok : CallOkR P 13 Rplain := by
  refine ok_of (noCt_ok P) (n := 50) fun args t hR v bs hev => ?_
  unfold Rplain at hR
  split at hR
  · rename_i x
    obtain rfl := Option.some.inj hR
    simp only [DT.eval, Option.some.injEq, Prod.mk.injEq] at hev
    obtain ⟨rfl, rfl⟩ := hev
    rw [dec_plain]
    unfold plainM
    cases gtI x 32 <;> cases ltI x 127 <;> cases neI x 34 <;> rfl
  · cases hR

theorem dec_digit (x : Int) : callQ P E noCt 50 14 [.int .u8 x] =
  (iteB (Go.VS.geI x (48 : Int))
   (iteB (Go.VS.leI x (57 : Int))
    (some ((Go.Value.tuple (Array.mk [(Go.Value.int Go.IntKind.u8 (Go.VS.subI Go.IntKind.u8 x (48 : Int))), (Go.Value.bool Bool.true)])), (Go.VS.mkSt [])))
    (iteB (Go.VS.geI x (97 : Int))
     (iteB (Go.VS.leI x (102 : Int))
      (some ((Go.Value.tuple (Array.mk [(Go.Value.int Go.IntKind.u8 (Go.VS.addI Go.IntKind.u8 (Go.VS.subI Go.IntKind.u8 x (97 : Int)) (10 : Int))), (Go.Value.bool Bool.true)])), (Go.VS.mkSt [])))
      (some ((Go.Value.tuple (Array.mk [(Go.Value.int Go.IntKind.u8 (0 : Int)), (Go.Value.bool Bool.false)])), (Go.VS.mkSt []))))
     (some ((Go.Value.tuple (Array.mk [(Go.Value.int Go.IntKind.u8 (0 : Int)), (Go.Value.bool Bool.false)])), (Go.VS.mkSt [])))))
   (iteB (Go.VS.geI x (97 : Int))
    (iteB (Go.VS.leI x (102 : Int))
     (some ((Go.Value.tuple (Array.mk [(Go.Value.int Go.IntKind.u8 (Go.VS.addI Go.IntKind.u8 (Go.VS.subI Go.IntKind.u8 x (97 : Int)) (10 : Int))), (Go.Value.bool Bool.true)])), (Go.VS.mkSt [])))
     (some ((Go.Value.tuple (Array.mk [(Go.Value.int Go.IntKind.u8 (0 : Int)), (Go.Value.bool Bool.false)])), (Go.VS.mkSt []))))
    (some ((Go.Value.tuple (Array.mk [(Go.Value.int Go.IntKind.u8 (0 : Int)), (Go.Value.bool Bool.false)])), (Go.VS.mkSt []))))) := by kernel_rfl
def digV (x : Int) : Int := bif geI x 48 && leI x 57 then subI .u8 x 48 else bif geI x 97 && leI x 102 then addI .u8 (subI .u8 x 97) 10 else 0
def digB (x : Int) : Bool := (geI x 48 && leI x 57) || (geI x 97 && leI x 102)
def Rdigit : CallFn
  | [.int .u8 x] => some (.leaf (.tuple ⟨[.int .u8 (digV x), .bool (digB x)]⟩, []))
  | _ => none
theorem digit_ok : CallOkR P 14 Rdigit := by
  refine ok_of (noCt_ok P) (n := 50) fun args t hR v bs hev => ?_
  unfold Rdigit at hR
  split at hR
  · rename_i x
    obtain rfl := Option.some.inj hR
    simp only [DT.eval, Option.some.injEq, Prod.mk.injEq] at hev
    obtain ⟨rfl, rfl⟩ := hev
    rw [dec_digit]
    unfold digV digB
    cases geI x 48 <;> cases leI x 57 <;> cases geI x 97 <;> cases leI x 102 <;> rfl
  · cases hR

def hexD : ByteArray := ⟨#[48, 49, 50, 51, 52, 53, 54, 55, 56, 57, 97, 98, 99, 100, 101, 102]⟩
end Go.VS.Tryd
end

section
namespace Go.VS.Tryd
set_option linter.unusedSimpArgs false
set_option linter.unusedVariables false
set_option maxRecDepth 1000000
open Go.VS

noncomputable def ct1 : Ct := addCall P 13 Rplain (addCall P 14 Rdigit noCt)
theorem ct1_ok : CtOk P ct1 := addCall_ok (addCall_ok (noCt_ok P) digit_ok) plain_ok

noncomputable def Hword : Head := ⟨1, 33, [3, 9, 10, 11], [(3, 5)]⟩
noncomputable def Bword : Code := (loopAt P 11 0).getD .skip
theorem Bword_eq : loopAt P 11 0 = some Bword := by kernel_rfl
theorem Bword_occ : Occ P 11 (.block 0 (.loop Bword)) := loopAt_has Bword_eq

theorem dec_word (cb c : List Value) (m : Nat) (z i : Int) : roundQ P E ct1 50 11 Bword Hword [.slice (some ⟨1, 0, none⟩) c.length unk, .slice (some ⟨0, 0, none⟩) m unk, .int .i64 z, .int .i64 i] [.cells cb 5 false, .cells c 5 false] =
  (iteB (Go.VS.ltI i z)
   (needB (Go.VS.inI i m)
    (needB (Bool.and (Nat.ble (Nat.add (Nat.add 0 (Go.VS.atN i 1)) 1) (List.length cb)) (Go.VS.etaB (Go.VS.Eta.int Go.IntKind.u8) (Go.VS.nthD cb (Nat.add 0 (Go.VS.atN i 1)))))
     (iteB (Go.VS.Tryd.plainM (Go.VS.asI (Go.VS.nthD cb (Nat.add 0 (Go.VS.atN i 1)))))
      (needB (Bool.and (Bool.not Bool.false) (Bool.and (Nat.beq 5 5) (Bool.and (Nat.ble 0 (List.length c)) (Nat.ble (Nat.add (List.length c) 1) 4194304))))
       (needB (Nat.beq (Nat.add 0 (Nat.mul (List.length c) 1)) (List.length c))
        (some ((Go.Value.tuple (Array.mk [(Go.Value.int Go.IntKind.i64 (0 : Int)), (Go.Value.slice (Option.some (Go.Addr.mk 1 0 none)) (Nat.add (List.length c) 1) 18446744073709551616), (Go.Value.slice (Option.some (Go.Addr.mk 0 0 none)) m 18446744073709551616), (Go.Value.int Go.IntKind.i64 z), (Go.Value.int Go.IntKind.i64 (Go.VS.addI Go.IntKind.i64 i (1 : Int)))])), (Go.VS.mkSt [(Go.VS.Blk.cells (Go.VS.renL Bool.true (Go.VS.rhoO 1 [3]) cb) 5 Bool.false), (Go.VS.Blk.cells (Go.VS.renL Bool.true (Go.VS.rhoO 1 [3]) (List.append (Go.VS.takeC (Nat.mul (List.length c) 1) (Go.VS.dropC 0 c)) [(Go.Value.int Go.IntKind.u8 (Go.VS.asI (Go.VS.nthD cb (Nat.add 0 (Go.VS.atN i 1)))))])) 5 Bool.false)])))))
      (needB (Go.VS.inI (Go.VS.shrI Go.IntKind.u8 (Go.VS.asI (Go.VS.nthD cb (Nat.add 0 (Go.VS.atN i 1)))) (4 : Int)) 16)
       (needB (Go.VS.inI (Go.VS.andI Go.IntKind.u8 (Go.VS.asI (Go.VS.nthD cb (Nat.add 0 (Go.VS.atN i 1)))) (15 : Int)) 16)
        (needB (Bool.and (Bool.not Bool.false) (Bool.and (Nat.beq 5 5) (Bool.and (Nat.ble 0 (List.length c)) (Nat.ble (Nat.add (List.length c) 3) 4194304))))
         (needB (Nat.beq (Nat.add 0 (Nat.mul (List.length c) 1)) (List.length c))
          (some ((Go.Value.tuple (Array.mk [(Go.Value.int Go.IntKind.i64 (0 : Int)), (Go.Value.slice (Option.some (Go.Addr.mk 1 0 none)) (Nat.add (List.length c) 3) 18446744073709551616), (Go.Value.slice (Option.some (Go.Addr.mk 0 0 none)) m 18446744073709551616), (Go.Value.int Go.IntKind.i64 z), (Go.Value.int Go.IntKind.i64 (Go.VS.addI Go.IntKind.i64 i (1 : Int)))])), (Go.VS.mkSt [(Go.VS.Blk.cells (Go.VS.renL Bool.true (Go.VS.rhoO 1 [12]) cb) 5 Bool.false), (Go.VS.Blk.cells (Go.VS.renL Bool.true (Go.VS.rhoO 1 [12]) (List.append (Go.VS.takeC (Nat.mul (List.length c) 1) (Go.VS.dropC 0 c)) [(Go.Value.int Go.IntKind.u8 (92 : Int)), (Go.Value.int Go.IntKind.u8 (Go.VS.bAt (ByteArray.mk #[48, 49, 50, 51, 52, 53, 54, 55, 56, 57, 97, 98, 99, 100, 101, 102]) (Go.VS.shrI Go.IntKind.u8 (Go.VS.asI (Go.VS.nthD cb (Nat.add 0 (Go.VS.atN i 1)))) (4 : Int)))), (Go.Value.int Go.IntKind.u8 (Go.VS.bAt (ByteArray.mk #[48, 49, 50, 51, 52, 53, 54, 55, 56, 57, 97, 98, 99, 100, 101, 102]) (Go.VS.andI Go.IntKind.u8 (Go.VS.asI (Go.VS.nthD cb (Nat.add 0 (Go.VS.atN i 1)))) (15 : Int))))])) 5 Bool.false)]))))))))))
   (some ((Go.Value.tuple (Array.mk [(Go.Value.int Go.IntKind.i64 (1 : Int)), (Go.Value.slice (Option.some (Go.Addr.mk 1 0 none)) (List.length c) 18446744073709551616), (Go.Value.slice (Option.some (Go.Addr.mk 0 0 none)) m 18446744073709551616), (Go.Value.int Go.IntKind.i64 z), (Go.Value.int Go.IntKind.i64 i)])), (Go.VS.mkSt [(Go.VS.Blk.cells (Go.VS.renL Bool.true (Go.VS.rhoO 1 [1]) cb) 5 Bool.false), (Go.VS.Blk.cells (Go.VS.renL Bool.true (Go.VS.rhoO 1 [1]) c) 5 Bool.false)])))) := by kernel_rfl

/-! ### the model -/
def hxU (i : Int) : UInt8 := hexD.data.toList.getD i.toNat 0
theorem bAt_hx (i : Int) : bAt hexD i = ((hxU i).toNat : Int) := rfl
/-- A byte in a word. -/
def enc (b : UInt8) : List UInt8 := match plainM b.toNat with
  | true => [b]
  | false => [92, hxU (shrI .u8 b.toNat 4), hxU (andI .u8 b.toNat 15)]
def encL (l : List UInt8) : List UInt8 := l.flatMap enc
theorem encL_cons (b : UInt8) (l : List UInt8) : encL (b :: l) = enc b ++ encL l := List.flatMap_cons
theorem shr_lt : ∀ n : Fin 256, inI (shrI .u8 (n.val : Int) 4) 16 = true := by decide +kernel
theorem and_lt : ∀ n : Fin 256, inI (andI .u8 (n.val : Int) 15) 16 = true := by decide +kernel
theorem shr_ok (b : UInt8) : inI (shrI .u8 (b.toNat : Int) 4) 16 = true := shr_lt ⟨b.toNat, b.toNat_lt⟩
theorem and_ok' (b : UInt8) : inI (andI .u8 (b.toNat : Int) 15) 16 = true := and_lt ⟨b.toNat, b.toNat_lt⟩
theorem enc_length (b : UInt8) : (enc b).length ≤ 3 := by unfold enc; split <;> simp


theorem nth_ok {l : List UInt8} {i : Nat} (h : i < l.length) : nthD (bc l) (Nat.add 0 (atN (i : Int) 1)) = .int .u8 (l[i].toNat) := by
  have e : Nat.add 0 (atN (i : Int) 1) = i := by simp [atN]
  rw [e]; exact bc_nth h

theorem word_again {l : List UInt8} {i : Nat} {c : List Value} (h : i < l.length) (hc : flatL c = true) (hb : c.length + 3 ≤ 4194304) (hl : l.length < 9223372036854775807) :
    roundQ P E ct1 50 11 Bword Hword [sl 1 c.length, sl 0 l.length, .int .i64 l.length, .int .i64 i] [.cells (bc l) 5 false, .cells c 5 false] =
      some (.tuple ⟨exV .normal :: [sl 1 (c ++ bc (enc l[i])).length, sl 0 l.length, .int .i64 l.length, .int .i64 ((i + 1 : Nat) : Int)]⟩, mkSt [.cells (bc l) 5 false, .cells (c ++ bc (enc l[i])) 5 false]) := by
  unfold sl
  rw [dec_word]
  have hw : addI .i64 (i : Int) 1 = ((i + 1 : Nat) : Int) := by
    unfold addI
    rw [wrap64 (by omega) (by omega)]; omega
  refine ite_t (by simp [ltI, h]) ?_
  refine need_eq (inI_ok (by omega) (by omega)) ?_
  refine need_eq (and_ok (ble_ok (by rw [bc_length]; simp [atN]; omega)) (by rw [nth_ok h]; rfl)) ?_
  simp only [nth_ok h, asI]
  cases hp : plainM (l[i].toNat : Int) with
  | true =>
    have he : enc l[i] = [l[i]] := by unfold enc; rw [hp]
    refine ite_t rfl ?_
    refine need_eq (and_ok rfl (and_ok rfl (and_ok (ble_ok (Nat.zero_le _)) (ble_ok (by simp; omega))))) ?_
    refine need_eq (beq_ok (by simp)) ?_
    refine leaf_eq ?_ ?_
    · rw [he, hw]; simp [exV, bc, unk]
    · simp only [bc_ren, take_all, renL_flat hc, renL_append, he]
      rw [show c.append [Value.int .u8 (l[i].toNat : Int)] = c ++ bc [l[i]] from rfl, renL_append, renL_flat hc, bc_ren]
  | false =>
    have he : enc l[i] = [92, hxU (shrI .u8 l[i].toNat 4), hxU (andI .u8 l[i].toNat 15)] := by unfold enc; rw [hp]
    refine ite_f rfl ?_
    refine need_eq (shr_ok _) ?_
    refine need_eq (and_ok' _) ?_
    refine need_eq (and_ok rfl (and_ok rfl (and_ok (ble_ok (Nat.zero_le _)) (ble_ok (by simp; omega))))) ?_
    refine need_eq (beq_ok (by simp)) ?_
    refine leaf_eq ?_ ?_
    · rw [he, hw]; simp [exV, bc, unk]
    · simp only [bc_ren, take_all, he]
      have e : ∀ x : List Value, x = bc [92, hxU (shrI .u8 l[i].toNat 4), hxU (andI .u8 l[i].toNat 15)] → renL true (rhoO 1 [12]) (c.append x) = c ++ bc [92, hxU (shrI .u8 l[i].toNat 4), hxU (andI .u8 l[i].toNat 15)] := by
        intro x hx
        rw [hx, show c.append (bc [92, hxU (shrI .u8 l[i].toNat 4), hxU (andI .u8 l[i].toNat 15)]) = c ++ bc _ from rfl, renL_append, renL_flat hc, bc_ren]
      exact congrArg (fun x => [Blk.cells (bc l) 5 false, Blk.cells x 5 false]) (e _ rfl)

theorem word_stop {l : List UInt8} {c : List Value} (hc : flatL c = true) :
    roundQ P E ct1 50 11 Bword Hword [sl 1 c.length, sl 0 l.length, .int .i64 l.length, .int .i64 (l.length : Int)] [.cells (bc l) 5 false, .cells c 5 false] =
      some (.tuple ⟨exV (.exit 0) :: [sl 1 c.length, sl 0 l.length, .int .i64 l.length, .int .i64 l.length]⟩, mkSt [.cells (bc l) 5 false, .cells c 5 false]) := by
  unfold sl
  rw [dec_word]
  refine ite_f (by simp [ltI]) ?_
  refine leaf_eq ?_ ?_
  · simp [exV, unk]
  · simp only [bc_ren, renL_flat hc]

theorem word_loop (l : List UInt8) (hl : l.length < 9223372036854775807) : ∀ (k i : Nat) (c : List Value), i + k = l.length → flatL c = true → c.length + 3 * k ≤ 4194304 →
    LR P 11 0 Bword Hword [sl 1 c.length, sl 0 l.length, .int .i64 l.length, .int .i64 i] [.cells (bc l) 5 false, .cells c 5 false] .normal
      [sl 1 (c ++ bc (encL (l.drop i))).length, sl 0 l.length, .int .i64 l.length, .int .i64 l.length] [.cells (bc l) 5 false, .cells (c ++ bc (encL (l.drop i))) 5 false]
  | 0, i, c, hi, hc, hb => by
    have : i = l.length := by omega
    subst this
    have e : c ++ bc (encL (l.drop l.length)) = c := by simp [encL, bc]
    rw [e]
    exact LR.stop (engOk ct1) noNum ct1_ok Bword_occ (by kernel_rfl) (e := .exit 0) (word_stop hc) (by intro h; cases h)
  | k + 1, i, c, hi, hc, hb => by
    have hlt : i < l.length := by omega
    have hr := word_again hlt hc (by omega) hl
    have hlen := enc_length l[i]
    have ih := word_loop l hl k (i + 1) (c ++ bc (enc l[i])) (by omega) (by rw [flatL_append, hc, bc_flat]; rfl) (by rw [List.length_append, bc_length]; omega)
    have e : c ++ bc (enc l[i]) ++ bc (encL (l.drop (i + 1))) = c ++ bc (encL (l.drop i)) := by
      rw [List.drop_eq_getElem_cons hlt, encL_cons, bc_append, List.append_assoc]
    rw [e] at ih
    exact LR.again (engOk ct1) noNum ct1_ok Bword_occ (by kernel_rfl) hr ih
end Go.VS.Tryd
end

section
namespace Go.VS.Tryd
set_option linter.unusedSimpArgs false
set_option linter.unusedVariables false
set_option maxRecDepth 1000000
open Go.VS


def wordC (v1 v2 : Value) (z i : Int) (cb : List Value) (e1 : TypeId) (c : List Value) (e2 : TypeId) : Bool :=
  atB v1 1 c.length && atB v2 0 cb.length && z == cb.length && i == 0 && bytesB cb && flatL c && e1 == 5 && e2 == 5 && Nat.ble (c.length + 3 * cb.length) 4194304
def Rword : LoopFn := fun vs bs => match vs, bs with
  | [v1, v2, .int .i64 z, .int .i64 i], [.cells cb e1 false, .cells c e2 false] => some (.ite (wordC v1 v2 z i cb e1 c e2)
      (.leaf (.normal, [sl 1 (c ++ bc (encL (cb.map byteOf))).length, sl 0 cb.length, .int .i64 cb.length, .int .i64 cb.length], [.cells cb 5 false, .cells (c ++ bc (encL (cb.map byteOf))) 5 false])) .fail)
  | _, _ => none

theorem word_loopOk : LoopOk P 11 0 Bword Hword Rword where
  occ := loopAt_occ Bword_eq
  ok := by kernel_rfl
  run := by
    intro vs bs t hR e vs' bs' hev
    unfold Rword at hR
    split at hR
    · rename_i v1 v2 z i cb e1 c e2
      obtain rfl := Option.some.inj hR
      cases hc : wordC v1 v2 z i cb e1 c e2 with
      | false => rw [hc] at hev; cases hev
      | true =>
        rw [hc] at hev
        simp only [DT.eval, Option.some.injEq, Prod.mk.injEq] at hev
        obtain ⟨rfl, rfl, rfl⟩ := hev
        simp only [wordC, Bool.and_eq_true, beq_iff_eq] at hc
        obtain ⟨⟨⟨⟨⟨⟨⟨⟨h1, h2⟩, h3⟩, h4⟩, h5⟩, h6⟩, h7⟩, h8⟩, h9⟩ := hc
        have h9 := Nat.le_of_ble_eq_true h9
        rw [atB_eq h1, atB_eq h2]
        subst h3 h4 h7 h8
        have hcb := bc_of h5
        have hlen : (cb.map byteOf).length = cb.length := by simp
        have := word_loop (cb.map byteOf) (by omega) cb.length 0 c (by omega) h6 (by omega)
        rw [← hcb, hlen, List.drop_zero] at this
        exact this
    · cases hR

noncomputable def ct2 : Ct := addLoop 11 0 Hword Rword ct1
theorem ct2_ok : CtOk P ct2 := addLoop_ok ct1_ok word_loopOk

theorem dec_Word (s : ByteArray) : callQ P E ct2 50 11 [.string s] =
  (iteB (Go.VS.eqS s (ByteArray.mk #[]))
   (some ((Go.Value.string (ByteArray.mk #[34, 34])), (Go.VS.mkSt [])))
   (needB (Nat.ble (ByteArray.size s) 4194304)
    (needB (Go.VS.Tryd.wordC (Go.Value.slice (Option.some (Go.Addr.mk 1 0 none)) 0 18446744073709551616) (Go.Value.slice (Option.some (Go.Addr.mk 0 0 none)) (ByteArray.size s) 18446744073709551616) (Go.VS.lenI (ByteArray.size s)) (0 : Int) (Go.VS.renL Bool.true (Go.VS.rhoO 1 [1]) (Go.byteCells s)) 5 [] 5)
     (needB (Bool.and (Nat.ble (Nat.add 0 (List.length (HAppend.hAppend [] (Go.VS.bc (Go.VS.Tryd.encL (List.map Go.VS.byteOf (Go.VS.renL Bool.true (Go.VS.rhoO 1 [1]) (Go.byteCells s)))))))) (List.length (HAppend.hAppend [] (Go.VS.bc (Go.VS.Tryd.encL (List.map Go.VS.byteOf (Go.VS.renL Bool.true (Go.VS.rhoO 1 [1]) (Go.byteCells s)))))))) (Go.VS.allBytes (Go.VS.takeC (List.length (HAppend.hAppend [] (Go.VS.bc (Go.VS.Tryd.encL (List.map Go.VS.byteOf (Go.VS.renL Bool.true (Go.VS.rhoO 1 [1]) (Go.byteCells s))))))) (Go.VS.dropC 0 (HAppend.hAppend [] (Go.VS.bc (Go.VS.Tryd.encL (List.map Go.VS.byteOf (Go.VS.renL Bool.true (Go.VS.rhoO 1 [1]) (Go.byteCells s))))))))))
      (some ((Go.Value.string (Go.VS.bytesT (Go.VS.takeC (List.length (HAppend.hAppend [] (Go.VS.bc (Go.VS.Tryd.encL (List.map Go.VS.byteOf (Go.VS.renL Bool.true (Go.VS.rhoO 1 [1]) (Go.byteCells s))))))) (Go.VS.dropC 0 (HAppend.hAppend [] (Go.VS.bc (Go.VS.Tryd.encL (List.map Go.VS.byteOf (Go.VS.renL Bool.true (Go.VS.rhoO 1 [1]) (Go.byteCells s)))))))))), (Go.VS.mkSt []))))))) := by kernel_rfl

/-- The word of bytes. -/
def wordM (l : List UInt8) : List UInt8 := match l with
  | [] => [34, 34]
  | l => encL l
def RWord : CallFn
  | [.string s] => some (.ite (Nat.ble (3 * s.size) 4194304) (.leaf (.string ⟨⟨wordM s.data.toList⟩⟩, [])) .fail)
  | _ => none
theorem takeC_self (c : List Value) : takeC c.length (dropC 0 c) = c := take_all' c rfl
theorem word_ok : CallOkR P 11 RWord := by
  refine ok_of ct2_ok (n := 50) fun args t hR v bs hev => ?_
  unfold RWord at hR
  split at hR
  · rename_i s
    obtain rfl := Option.some.inj hR
    cases hc : Nat.ble (3 * s.size) 4194304 with
    | false => rw [hc] at hev; cases hev
    | true =>
      rw [hc] at hev
      simp only [DT.eval, Option.some.injEq, Prod.mk.injEq] at hev
      obtain ⟨rfl, rfl⟩ := hev
      have hsz := Nat.le_of_ble_eq_true hc
      have hlen : s.data.toList.length = s.size := by simp
      rw [dec_Word]
      cases hs : s.data.toList with
      | nil =>
        refine ite_t (by rw [eqS_eq, hs]; rfl) ?_
        rfl
      | cons b l =>
        refine ite_f (by rw [eqS_eq, hs]; rfl) ?_
        refine need_eq (ble_ok (by omega)) ?_
        simp only [byteCells_bc, bc_ren, bc_back, List.nil_append, takeC_self, bc_text]
        refine need_eq ?_ ?_
        · have h1 : atB (.slice (some ⟨1, 0, none⟩) 0 18446744073709551616) 1 ([] : List Value).length = true := atB_sl 1 0
          have h2 : atB (.slice (some ⟨0, 0, none⟩) s.size 18446744073709551616) 0 (bc s.data.toList).length = true := by rw [bc_length, hlen]; exact atB_sl 0 s.size
          have h3 : (lenI s.size == ((bc s.data.toList).length : Int)) = true := by rw [bc_length, hlen]; simp [lenI]
          have h9 : Nat.ble (([] : List Value).length + 3 * (bc s.data.toList).length) 4194304 = true := ble_ok (by rw [bc_length, hlen]; simpa using hsz)
          unfold wordC
          rw [h1, h2, h3, bytesB_bc, h9]
          rfl
        refine need_eq (and_ok (ble_ok (by simp)) (bc_all _)) ?_
        rw [hs]
        rfl
  · cases hR
end Go.VS.Tryd
end

section
namespace Go.VS.Tryd
set_option linter.unusedSimpArgs false
set_option linter.unusedVariables false
set_option maxRecDepth 1000000
open Go.VS

theorem bAt_nth {s : ByteArray} {i : Nat} (h : i < s.data.toList.length) : bAt s (i : Int) = ((s.data.toList[i]).toNat : Int) := by
  unfold bAt
  rw [Int.toNat_natCast, List.getD_eq_getElem?_getD, List.getElem?_eq_getElem h]
  rfl

noncomputable def ct3 : Ct := addCall P 11 RWord ct2
theorem ct3_ok : CtOk P ct3 := addCall_ok ct2_ok word_ok
end Go.VS.Tryd
end

section
namespace Go.VS.Tryd
set_option linter.unusedSimpArgs false
set_option linter.unusedVariables false
set_option maxRecDepth 1000000
open Go.VS

noncomputable def Hbytes : Head := ⟨0, 86, [0, 4, 5, 6], [(4, 5)]⟩
noncomputable def Bbytes : Code := (loopAt P 8 0).getD .skip
theorem Bbytes_eq : loopAt P 8 0 = some Bbytes := by kernel_rfl
theorem Bbytes_occ : Occ P 8 (.block 0 (.loop Bbytes)) := loopAt_has Bbytes_eq

theorem dec_bytes (s : ByteArray) (c : List Value) (i : Int) : roundQ P E ct1 50 8 Bbytes Hbytes [.string s, .slice (some ⟨0, 0, none⟩) c.length unk, .bool false, .int .i64 i] [.cells c 5 false] =
  (iteB (Go.VS.ltI i (Go.VS.lenI (ByteArray.size s)))
   (needB (Go.VS.inI i (ByteArray.size s))
    (iteB (Go.VS.Tryd.plainM (Go.VS.bAt s i))
     (needB (Bool.and (Bool.not Bool.false) (Bool.and (Nat.beq 5 5) (Bool.and (Nat.ble 0 (List.length c)) (Nat.ble (Nat.add (List.length c) 1) 4194304))))
      (needB (Nat.beq (Nat.add 0 (Nat.mul (List.length c) 1)) (List.length c))
       (some ((Go.Value.tuple (Array.mk [(Go.Value.int Go.IntKind.i64 (0 : Int)), (Go.Value.string s), (Go.Value.slice (Option.some (Go.Addr.mk 0 0 none)) (Nat.add (List.length c) 1) 18446744073709551616), (Go.Value.bool Bool.false), (Go.Value.int Go.IntKind.i64 (Go.VS.addI Go.IntKind.i64 i (1 : Int)))])), (Go.VS.mkSt [(Go.VS.Blk.cells (Go.VS.renL Bool.true (Go.VS.rhoO 0 [2]) (List.append (Go.VS.takeC (Nat.mul (List.length c) 1) (Go.VS.dropC 0 c)) [(Go.Value.int Go.IntKind.u8 (Go.VS.bAt s i))])) 5 Bool.false)])))))
     (iteB (Go.VS.eqI (Go.VS.bAt s i) (92 : Int))
      (iteB (Go.VS.ltI (Go.VS.addI Go.IntKind.i64 i (2 : Int)) (Go.VS.lenI (ByteArray.size s)))
       (needB (Go.VS.inI (Go.VS.addI Go.IntKind.i64 i (1 : Int)) (ByteArray.size s))
        (needB (Go.VS.inI (Go.VS.addI Go.IntKind.i64 i (2 : Int)) (ByteArray.size s))
         (iteB (Go.VS.notB (Go.VS.Tryd.digB (Go.VS.bAt s (Go.VS.addI Go.IntKind.i64 i (1 : Int)))))
          (some ((Go.Value.tuple (Array.mk [(Go.Value.int Go.IntKind.i64 (1 : Int)), (Go.Value.string s), (Go.Value.slice (Option.some (Go.Addr.mk 0 0 none)) (List.length c) 18446744073709551616), (Go.Value.bool Bool.true), (Go.Value.int Go.IntKind.i64 i)])), (Go.VS.mkSt [(Go.VS.Blk.cells (Go.VS.renL Bool.true (Go.VS.rhoO 0 [0]) c) 5 Bool.false)])))
          (iteB (Go.VS.notB (Go.VS.Tryd.digB (Go.VS.bAt s (Go.VS.addI Go.IntKind.i64 i (2 : Int)))))
           (some ((Go.Value.tuple (Array.mk [(Go.Value.int Go.IntKind.i64 (1 : Int)), (Go.Value.string s), (Go.Value.slice (Option.some (Go.Addr.mk 0 0 none)) (List.length c) 18446744073709551616), (Go.Value.bool Bool.true), (Go.Value.int Go.IntKind.i64 i)])), (Go.VS.mkSt [(Go.VS.Blk.cells (Go.VS.renL Bool.true (Go.VS.rhoO 0 [0]) c) 5 Bool.false)])))
           (iteB (Go.VS.Tryd.plainM (Go.VS.orI Go.IntKind.u8 (Go.VS.shlI Go.IntKind.u8 (Go.VS.Tryd.digV (Go.VS.bAt s (Go.VS.addI Go.IntKind.i64 i (1 : Int)))) (4 : Int)) (Go.VS.Tryd.digV (Go.VS.bAt s (Go.VS.addI Go.IntKind.i64 i (2 : Int))))))
            (some ((Go.Value.tuple (Array.mk [(Go.Value.int Go.IntKind.i64 (1 : Int)), (Go.Value.string s), (Go.Value.slice (Option.some (Go.Addr.mk 0 0 none)) (List.length c) 18446744073709551616), (Go.Value.bool Bool.true), (Go.Value.int Go.IntKind.i64 i)])), (Go.VS.mkSt [(Go.VS.Blk.cells (Go.VS.renL Bool.true (Go.VS.rhoO 0 [0]) c) 5 Bool.false)])))
            (needB (Bool.and (Bool.not Bool.false) (Bool.and (Nat.beq 5 5) (Bool.and (Nat.ble 0 (List.length c)) (Nat.ble (Nat.add (List.length c) 1) 4194304))))
             (needB (Nat.beq (Nat.add 0 (Nat.mul (List.length c) 1)) (List.length c))
              (some ((Go.Value.tuple (Array.mk [(Go.Value.int Go.IntKind.i64 (0 : Int)), (Go.Value.string s), (Go.Value.slice (Option.some (Go.Addr.mk 0 0 none)) (Nat.add (List.length c) 1) 18446744073709551616), (Go.Value.bool Bool.false), (Go.Value.int Go.IntKind.i64 (Go.VS.addI Go.IntKind.i64 (Go.VS.addI Go.IntKind.i64 i (2 : Int)) (1 : Int)))])), (Go.VS.mkSt [(Go.VS.Blk.cells (Go.VS.renL Bool.true (Go.VS.rhoO 0 [2]) (List.append (Go.VS.takeC (Nat.mul (List.length c) 1) (Go.VS.dropC 0 c)) [(Go.Value.int Go.IntKind.u8 (Go.VS.orI Go.IntKind.u8 (Go.VS.shlI Go.IntKind.u8 (Go.VS.Tryd.digV (Go.VS.bAt s (Go.VS.addI Go.IntKind.i64 i (1 : Int)))) (4 : Int)) (Go.VS.Tryd.digV (Go.VS.bAt s (Go.VS.addI Go.IntKind.i64 i (2 : Int))))))])) 5 Bool.false)]))))))))))
       (some ((Go.Value.tuple (Array.mk [(Go.Value.int Go.IntKind.i64 (1 : Int)), (Go.Value.string s), (Go.Value.slice (Option.some (Go.Addr.mk 0 0 none)) (List.length c) 18446744073709551616), (Go.Value.bool Bool.true), (Go.Value.int Go.IntKind.i64 i)])), (Go.VS.mkSt [(Go.VS.Blk.cells (Go.VS.renL Bool.true (Go.VS.rhoO 0 [0]) c) 5 Bool.false)]))))
      (some ((Go.Value.tuple (Array.mk [(Go.Value.int Go.IntKind.i64 (1 : Int)), (Go.Value.string s), (Go.Value.slice (Option.some (Go.Addr.mk 0 0 none)) (List.length c) 18446744073709551616), (Go.Value.bool Bool.true), (Go.Value.int Go.IntKind.i64 i)])), (Go.VS.mkSt [(Go.VS.Blk.cells (Go.VS.renL Bool.true (Go.VS.rhoO 0 [0]) c) 5 Bool.false)]))))))
   (some ((Go.Value.tuple (Array.mk [(Go.Value.int Go.IntKind.i64 (1 : Int)), (Go.Value.string s), (Go.Value.slice (Option.some (Go.Addr.mk 0 0 none)) (List.length c) 18446744073709551616), (Go.Value.bool Bool.false), (Go.Value.int Go.IntKind.i64 i)])), (Go.VS.mkSt [(Go.VS.Blk.cells (Go.VS.renL Bool.true (Go.VS.rhoO 0 [0]) c) 5 Bool.false)])))) := by kernel_rfl

/-! ### the model -/
def hv (h l : UInt8) : Int := orI .u8 (shlI .u8 (digV h.toNat) 4) (digV l.toNat)
def goodH (h l : UInt8) : Bool := digB h.toNat && digB l.toNat && !plainM (hv h l)
def byteH (h l : UInt8) : UInt8 := UInt8.ofNat (hv h l).toNat
theorem wrap_u8 (n : Int) : IntKind.u8.wrap n = n % 256 := by
  show (if (false && decide (n % (2 ^ 8 : Int) ≥ (2 ^ (8 - 1) : Int))) = true then n % (2 ^ 8 : Int) - (2 ^ 8 : Int) else n % (2 ^ 8 : Int)) = _
  simp
theorem byteH_eq (h l : UInt8) : ((byteH h l).toNat : Int) = hv h l := by
  unfold byteH
  have h1 : 0 ≤ hv h l ∧ hv h l < 256 := by
    unfold hv orI
    rw [wrap_u8]
    omega
  generalize hv h l = n at h1
  simp only [UInt8.toNat_ofNat']
  omega
/-- Bytes of a word: what they are, whether it stops at a fault, and how many are left then. -/
def decL : List UInt8 → List UInt8 × Bool × Nat
  | [] => ([], false, 0)
  | x :: r => match plainM x.toNat with
    | true => (x :: (decL r).1, (decL r).2)
    | false => match eqI x.toNat 92, r with
      | true, h :: l :: r' => match goodH h l with
        | true => (byteH h l :: (decL r').1, (decL r').2)
        | false => ([], true, r'.length + 3)
      | _, r => ([], true, r.length + 1)

section
variable {s : ByteArray} {i : Nat} {c : List Value}
theorem addI_nat {i k : Nat} (h : i + k < 9223372036854775808) : addI .i64 (i : Int) (k : Int) = ((i + k : Nat) : Int) := by
  unfold addI
  rw [wrap64 (by omega) (by omega)]; omega

theorem bytes_plain (h : i < s.data.toList.length) (hc : flatL c = true) (hb : c.length + 1 ≤ 4194304) (hl : s.size < 9223372036854775800) (hp : plainM (s.data.toList[i].toNat : Int) = true) :
    roundQ P E ct1 50 8 Bbytes Hbytes [.string s, sl 0 c.length, .bool false, .int .i64 i] [.cells c 5 false] =
      some (.tuple ⟨exV .normal :: [.string s, sl 0 (c ++ bc [s.data.toList[i]]).length, .bool false, .int .i64 ((i + 1 : Nat) : Int)]⟩, mkSt [.cells (c ++ bc [s.data.toList[i]]) 5 false]) := by
  unfold sl
  have hsz : s.data.toList.length = s.size := by simp
  have hx : (i : Int) < (s.size : Int) := by omega
  have hw := addI_nat (i := i) (k := 1) (by omega)
  rw [dec_bytes]
  refine ite_t (decide_eq_true hx) ?_
  refine need_eq (inI_ok (by omega) hx) ?_
  rw [bAt_nth h]
  refine ite_t hp ?_
  refine need_eq (and_ok rfl (and_ok rfl (and_ok (ble_ok (Nat.zero_le _)) (ble_ok (by simp; omega))))) ?_
  refine need_eq (beq_ok (by simp)) ?_
  refine leaf_eq ?_ ?_
  · rw [show addI .i64 (i : Int) 1 = ((i + 1 : Nat) : Int) from hw]; simp [exV, bc, unk]
  · simp only [take_all]
    have e : ∀ x : List Value, x = bc [s.data.toList[i]] → renL true (rhoO 0 [2]) (c.append x) = c ++ bc [s.data.toList[i]] := by
      intro x hx
      rw [hx, show c.append (bc [s.data.toList[i]]) = c ++ bc _ from rfl, renL_append, renL_flat hc, bc_ren]
    exact congrArg (fun x => [Blk.cells x 5 false]) (e _ rfl)

theorem bytes_end (hc : flatL c = true) (h : i = s.size) :
    roundQ P E ct1 50 8 Bbytes Hbytes [.string s, sl 0 c.length, .bool false, .int .i64 i] [.cells c 5 false] =
      some (.tuple ⟨exV (.exit 0) :: [.string s, sl 0 c.length, .bool false, .int .i64 i]⟩, mkSt [.cells c 5 false]) := by
  unfold sl
  rw [dec_bytes]
  refine ite_f (by subst h; simp [ltI, lenI]) ?_
  refine leaf_eq (by simp [exV, unk]) ?_
  simp only [renL_flat hc]

theorem bad_leaf (hc : flatL c = true) : (some ((Go.Value.tuple (Array.mk [(Go.Value.int Go.IntKind.i64 (1 : Int)), (Go.Value.string s), (Go.Value.slice (Option.some (Go.Addr.mk 0 0 none)) (List.length c) 18446744073709551616), (Go.Value.bool Bool.true), (Go.Value.int Go.IntKind.i64 (i : Int))])), (Go.VS.mkSt [(Go.VS.Blk.cells (Go.VS.renL Bool.true (Go.VS.rhoO 0 [0]) c) 5 Bool.false)])) : Res) =
    some (.tuple ⟨exV (.exit 0) :: [.string s, sl 0 c.length, .bool true, .int .i64 i]⟩, mkSt [.cells c 5 false]) := by
  refine leaf_eq (by simp [exV, unk, sl]) ?_
  simp only [renL_flat hc]

theorem bytes_other (h : i < s.data.toList.length) (hc : flatL c = true) (hp : plainM (s.data.toList[i].toNat : Int) = false) (hb : eqI (s.data.toList[i].toNat : Int) 92 = false ∨ s.data.toList.length ≤ i + 2) (hl : s.size < 9223372036854775800) :
    roundQ P E ct1 50 8 Bbytes Hbytes [.string s, sl 0 c.length, .bool false, .int .i64 i] [.cells c 5 false] =
      some (.tuple ⟨exV (.exit 0) :: [.string s, sl 0 c.length, .bool true, .int .i64 i]⟩, mkSt [.cells c 5 false]) := by
  have hsz : s.data.toList.length = s.size := by simp
  have hx : (i : Int) < (s.size : Int) := by omega
  have hw2 := addI_nat (i := i) (k := 2) (by omega)
  have hd := dec_bytes s c i
  unfold sl
  rw [hd]
  refine ite_t (decide_eq_true hx) ?_
  refine need_eq (inI_ok (by omega) hx) ?_
  rw [bAt_nth h]
  refine ite_f hp ?_
  cases he : eqI (s.data.toList[i].toNat : Int) 92 with
  | false => exact ite_f rfl (bad_leaf hc)
  | true =>
    refine ite_t rfl ?_
    have hb : s.data.toList.length ≤ i + 2 := hb.resolve_left (by rw [he]; decide)
    refine ite_f ?_ (bad_leaf hc)
    rw [show addI .i64 (i : Int) 2 = ((i + 2 : Nat) : Int) from hw2]
    refine decide_eq_false ?_
    show ¬ ((i + 2 : Nat) : Int) < (s.size : Int)
    omega

theorem bytes_pair (h2 : i + 2 < s.data.toList.length) (hc : flatL c = true) (hb : c.length + 1 ≤ 4194304) (hp : plainM (s.data.toList[i].toNat : Int) = false) (he : eqI (s.data.toList[i].toNat : Int) 92 = true) (hl : s.size < 9223372036854775800) :
    roundQ P E ct1 50 8 Bbytes Hbytes [.string s, sl 0 c.length, .bool false, .int .i64 i] [.cells c 5 false] =
      match goodH s.data.toList[i + 1] s.data.toList[i + 2] with
      | true => some (.tuple ⟨exV .normal :: [.string s, sl 0 (c ++ bc [byteH s.data.toList[i + 1] s.data.toList[i + 2]]).length, .bool false, .int .i64 ((i + 3 : Nat) : Int)]⟩, mkSt [.cells (c ++ bc [byteH s.data.toList[i + 1] s.data.toList[i + 2]]) 5 false])
      | false => some (.tuple ⟨exV (.exit 0) :: [.string s, sl 0 c.length, .bool true, .int .i64 i]⟩, mkSt [.cells c 5 false]) := by
  have hsz : s.data.toList.length = s.size := by simp
  have hx : (i : Int) < (s.size : Int) := by omega
  have hw1 : addI .i64 (i : Int) 1 = ((i + 1 : Nat) : Int) := addI_nat (i := i) (k := 1) (by omega)
  have hw2 : addI .i64 (i : Int) 2 = ((i + 2 : Nat) : Int) := addI_nat (i := i) (k := 2) (by omega)
  have hw3 : addI .i64 ((i + 2 : Nat) : Int) 1 = ((i + 3 : Nat) : Int) := addI_nat (i := i + 2) (k := 1) (by omega)
  have hx1 : ((i + 1 : Nat) : Int) < (s.size : Int) := by omega
  have hx2 : ((i + 2 : Nat) : Int) < (s.size : Int) := by omega
  have hd := dec_bytes s c i
  rw [hw1, hw2, hw3, bAt_nth (show i < s.data.toList.length by omega), bAt_nth (show i + 1 < s.data.toList.length by omega), bAt_nth h2] at hd
  unfold sl
  rw [hd]
  refine ite_t (decide_eq_true hx) ?_
  refine need_eq (inI_ok (by omega) hx) ?_
  refine ite_f hp ?_
  refine ite_t he ?_
  refine ite_t (decide_eq_true hx2) ?_
  refine need_eq (inI_ok (by omega) hx1) ?_
  refine need_eq (inI_ok (by omega) hx2) ?_
  unfold goodH
  cases d1 : digB (s.data.toList[i + 1].toNat : Int) with
  | false => exact ite_t rfl (bad_leaf hc)
  | true =>
    refine ite_f rfl ?_
    cases d2 : digB (s.data.toList[i + 2].toNat : Int) with
    | false => exact ite_t rfl (bad_leaf hc)
    | true =>
      refine ite_f rfl ?_
      cases d3 : plainM (hv s.data.toList[i + 1] s.data.toList[i + 2]) with
      | true => exact ite_t d3 (bad_leaf hc)
      | false =>
        refine ite_f d3 ?_
        refine need_eq (and_ok rfl (and_ok rfl (and_ok (ble_ok (Nat.zero_le _)) (ble_ok (by simp; omega))))) ?_
        refine need_eq (beq_ok (by simp)) ?_
        refine leaf_eq ?_ ?_
        · simp [exV, bc, unk]
        · simp only [take_all]
          have e : ∀ x : List Value, x = bc [byteH s.data.toList[i + 1] s.data.toList[i + 2]] → renL true (rhoO 0 [2]) (c.append x) = c ++ bc [byteH s.data.toList[i + 1] s.data.toList[i + 2]] := by
            intro x hx
            rw [hx, show c.append (bc [byteH s.data.toList[i + 1] s.data.toList[i + 2]]) = c ++ bc _ from rfl, renL_append, renL_flat hc, bc_ren]
          refine congrArg (fun x => [Blk.cells x 5 false]) (e _ ?_)
          show [Value.int .u8 (hv s.data.toList[i + 1] s.data.toList[i + 2])] = [Value.int .u8 ((byteH s.data.toList[i + 1] s.data.toList[i + 2]).toNat : Int)]
          rw [byteH_eq]
end
end Go.VS.Tryd
end

section
namespace Go.VS.Tryd
set_option linter.unusedSimpArgs false
set_option linter.unusedVariables false
set_option maxRecDepth 1000000
open Go.VS

theorem decL_plain {x : UInt8} {r : List UInt8} (h : plainM x.toNat = true) : decL (x :: r) = (x :: (decL r).1, (decL r).2) := by
  rw [decL.eq_def]; simp only [h]
theorem decL_pair {x h l : UInt8} {r : List UInt8} (hp : plainM x.toNat = false) (he : eqI x.toNat 92 = true) : decL (x :: h :: l :: r) = match goodH h l with
    | true => (byteH h l :: (decL r).1, (decL r).2)
    | false => ([], true, r.length + 3) := by
  rw [decL.eq_def]; simp only [hp, he] <;> cases goodH h l <;> rfl
theorem decL_other {x : UInt8} {r : List UInt8} (hp : plainM x.toNat = false) (ho : eqI x.toNat 92 = false ∨ r.length < 2) : decL (x :: r) = ([], true, r.length + 1) := by
  rw [decL.eq_def]
  simp only [hp]
  cases he : eqI x.toNat 92 with
  | false => cases r with
    | nil => rfl
    | cons a r => cases r <;> rfl
  | true =>
    have : r.length < 2 := ho.resolve_left (by rw [he]; decide)
    cases r with
    | nil => rfl
    | cons a r => cases r with
      | nil => rfl
      | cons b r => simp at this; omega

theorem bytes_loop (s : ByteArray) (hl : s.size < 9223372036854775800) : ∀ (k i : Nat) (c : List Value), i + k = s.size → flatL c = true → c.length + k ≤ 4194304 →
    LR P 8 0 Bbytes Hbytes [.string s, sl 0 c.length, .bool false, .int .i64 i] [.cells c 5 false] .normal
      [.string s, sl 0 (c ++ bc (decL (s.data.toList.drop i)).1).length, .bool (decL (s.data.toList.drop i)).2.1, .int .i64 ((s.size - (decL (s.data.toList.drop i)).2.2 : Nat) : Int)] [.cells (c ++ bc (decL (s.data.toList.drop i)).1) 5 false] := by
  intro k
  induction k using Nat.strongRecOn with
  | _ k ih =>
    intro i c hi hc hb
    have hsz : s.data.toList.length = s.size := by simp
    have stop : ∀ {vs1 : List Value} {bs1 : List Blk}, roundQ P E ct1 50 8 Bbytes Hbytes [.string s, sl 0 c.length, .bool false, .int .i64 i] [.cells c 5 false] = some (.tuple ⟨exV (.exit 0) :: vs1⟩, mkSt bs1) →
        LR P 8 0 Bbytes Hbytes [.string s, sl 0 c.length, .bool false, .int .i64 i] [.cells c 5 false] .normal vs1 bs1 :=
      fun h => LR.stop (engOk ct1) noNum ct1_ok Bbytes_occ (by kernel_rfl) (e := .exit 0) h (by intro h; cases h)
    by_cases hk : k = 0
    · subst hk
      have e : s.data.toList.drop i = [] := List.drop_of_length_le (by omega)
      rw [e]
      have := stop (bytes_end hc (by omega))
      simpa [decL, bc, hi] using (by simpa using (show i = s.size by omega) ▸ this)
    · have hlt : i < s.data.toList.length := by omega
      rw [List.drop_eq_getElem_cons hlt]
      cases hp : plainM (s.data.toList[i].toNat : Int) with
      | true =>
        have := ih (k - 1) (by omega) (i + 1) (c ++ bc [s.data.toList[i]]) (by omega) (by rw [flatL_append, hc, bc_flat]; rfl) (by rw [List.length_append, bc_length]; simp; omega)
        rw [decL_plain hp]
        have e : ∀ q, c ++ bc [s.data.toList[i]] ++ bc q = c ++ bc (s.data.toList[i] :: q) := by
          intro q; rw [List.append_assoc, ← bc_append]; rfl
        rw [e] at this
        exact LR.again (engOk ct1) noNum ct1_ok Bbytes_occ (by kernel_rfl) (bytes_plain hlt hc (by omega) hl hp) this
      | false =>
        have hrest : (s.data.toList.drop (i + 1)).length = k - 1 := by rw [List.length_drop]; omega
        by_cases ho : eqI (s.data.toList[i].toNat : Int) 92 = false ∨ s.data.toList.length ≤ i + 2
        · have := stop (bytes_other hlt hc hp ho hl)
          rw [decL_other hp (ho.imp id fun h => by rw [hrest]; omega)]
          have e : s.size - ((s.data.toList.drop (i + 1)).length + 1) = i := by rw [hrest]; omega
          simp only [e]
          have e2 : c ++ bc [] = c := by simp [bc]
          rw [e2]
          exact this
        · have he : eqI (s.data.toList[i].toNat : Int) 92 = true := by
            cases h : eqI (s.data.toList[i].toNat : Int) 92 with
            | true => rfl
            | false => exact absurd (Or.inl h) ho
          have h2 : i + 2 < s.data.toList.length := by
            have : ¬ s.data.toList.length ≤ i + 2 := fun h => ho (Or.inr h)
            omega
          have hr := bytes_pair h2 hc (by omega) hp he hl
          rw [List.drop_eq_getElem_cons (show i + 1 < s.data.toList.length by omega), List.drop_eq_getElem_cons h2, decL_pair hp he]
          have hrest3 : (s.data.toList.drop (i + 3)).length = k - 3 := by rw [List.length_drop]; omega
          cases hg : goodH s.data.toList[i + 1] s.data.toList[i + 2] with
          | true =>
            rw [hg] at hr
            have := ih (k - 3) (by omega) (i + 3) (c ++ bc [byteH s.data.toList[i + 1] s.data.toList[i + 2]]) (by omega) (by rw [flatL_append, hc, bc_flat]; rfl) (by rw [List.length_append, bc_length]; simp; omega)
            have e : ∀ q, c ++ bc [byteH s.data.toList[i + 1] s.data.toList[i + 2]] ++ bc q = c ++ bc (byteH s.data.toList[i + 1] s.data.toList[i + 2] :: q) := by
              intro q; rw [List.append_assoc, ← bc_append]; rfl
            rw [e] at this
            exact LR.again (engOk ct1) noNum ct1_ok Bbytes_occ (by kernel_rfl) hr this
          | false =>
            rw [hg] at hr
            have := stop hr
            have e : s.size - ((s.data.toList.drop (i + 3)).length + 3) = i := by rw [hrest3]; omega
            simp only [e]
            have e2 : c ++ bc [] = c := by simp [bc]
            rw [e2]
            exact this

def bytesC (s : ByteArray) (v1 : Value) (bad : Bool) (i : Int) (c : List Value) (e1 : TypeId) : Bool :=
  atB v1 0 c.length && !bad && i == 0 && flatL c && e1 == 5 && Nat.ble (c.length + s.size) 4194304
def RbytesL : LoopFn := fun vs bs => match vs, bs with
  | [.string s, v1, .bool bad, .int .i64 i], [.cells c e1 false] => some (.ite (bytesC s v1 bad i c e1)
      (.leaf (.normal, [.string s, sl 0 (c ++ bc (decL s.data.toList).1).length, .bool (decL s.data.toList).2.1, .int .i64 ((s.size - (decL s.data.toList).2.2 : Nat) : Int)], [.cells (c ++ bc (decL s.data.toList).1) 5 false])) .fail)
  | _, _ => none

theorem bytes_loopOk : LoopOk P 8 0 Bbytes Hbytes RbytesL where
  occ := loopAt_occ Bbytes_eq
  ok := by kernel_rfl
  run := by
    intro vs bs t hR e vs' bs' hev
    unfold RbytesL at hR
    split at hR
    · rename_i s v1 bad i c e1
      obtain rfl := Option.some.inj hR
      cases hc : bytesC s v1 bad i c e1 with
      | false => rw [hc] at hev; cases hev
      | true =>
        rw [hc] at hev
        simp only [DT.eval, Option.some.injEq, Prod.mk.injEq] at hev
        obtain ⟨rfl, rfl, rfl⟩ := hev
        simp only [bytesC, Bool.and_eq_true, beq_iff_eq, Bool.not_eq_true'] at hc
        obtain ⟨⟨⟨⟨⟨h1, h2⟩, h3⟩, h4⟩, h5⟩, h6⟩ := hc
        have h6 := Nat.le_of_ble_eq_true h6
        rw [atB_eq h1]
        subst h2 h3 h5
        have := bytes_loop s (by omega) s.size 0 c (by omega) h4 (by omega)
        rw [List.drop_zero] at this
        exact this
    · cases hR

noncomputable def ct4 : Ct := addLoop 8 0 Hbytes RbytesL ct3
theorem ct4_ok : CtOk P ct4 := addLoop_ok ct3_ok bytes_loopOk
theorem dec_Bytes (s : ByteArray) : callQ P E ct4 50 8 [.string s] =
  (iteB (Go.VS.eqS s (ByteArray.mk #[34, 34]))
   (some ((Go.Value.tuple (Array.mk [(Go.Value.string (ByteArray.mk #[])), (Go.Value.int Go.IntKind.i64 (0 : Int))])), (Go.VS.mkSt [])))
   (needB (Go.VS.Tryd.bytesC s (Go.Value.slice (Option.some (Go.Addr.mk 0 0 none)) 0 18446744073709551616) Bool.false (0 : Int) [] 5)
    (iteB (Prod.fst (Prod.snd (Go.VS.Tryd.decL (Array.toList (ByteArray.data s)))))
     (some ((Go.Value.tuple (Array.mk [(Go.Value.string (ByteArray.mk #[])), (Go.Value.int Go.IntKind.i64 (5 : Int))])), (Go.VS.mkSt [])))
     (iteB (Go.VS.eqI (Go.VS.lenI (List.length (HAppend.hAppend [] (Go.VS.bc (Prod.fst (Go.VS.Tryd.decL (Array.toList (ByteArray.data s)))))))) (0 : Int))
      (some ((Go.Value.tuple (Array.mk [(Go.Value.string (ByteArray.mk #[])), (Go.Value.int Go.IntKind.i64 (5 : Int))])), (Go.VS.mkSt [])))
      (needB (Bool.and (Nat.ble (Nat.add 0 (List.length (HAppend.hAppend [] (Go.VS.bc (Prod.fst (Go.VS.Tryd.decL (Array.toList (ByteArray.data s)))))))) (List.length (HAppend.hAppend [] (Go.VS.bc (Prod.fst (Go.VS.Tryd.decL (Array.toList (ByteArray.data s)))))))) (Go.VS.allBytes (Go.VS.takeC (List.length (HAppend.hAppend [] (Go.VS.bc (Prod.fst (Go.VS.Tryd.decL (Array.toList (ByteArray.data s))))))) (Go.VS.dropC 0 (HAppend.hAppend [] (Go.VS.bc (Prod.fst (Go.VS.Tryd.decL (Array.toList (ByteArray.data s))))))))))
       (some ((Go.Value.tuple (Array.mk [(Go.Value.string (Go.VS.bytesT (Go.VS.takeC (List.length (HAppend.hAppend [] (Go.VS.bc (Prod.fst (Go.VS.Tryd.decL (Array.toList (ByteArray.data s))))))) (Go.VS.dropC 0 (HAppend.hAppend [] (Go.VS.bc (Prod.fst (Go.VS.Tryd.decL (Array.toList (ByteArray.data s)))))))))), (Go.Value.int Go.IntKind.i64 (0 : Int))])), (Go.VS.mkSt [])))))))) := by kernel_rfl

/-- The bytes of a word, and the error. -/
def bytesM (w : List UInt8) : List UInt8 × Int := match w == [34, 34] with
  | true => ([], 0)
  | false => match (decL w).2.1, (decL w).1 with
    | true, _ => ([], 5)
    | false, [] => ([], 5)
    | false, l => (l, 0)
def RBytes : CallFn
  | [.string s] => some (.ite (Nat.ble s.size 4194304) (.leaf (.tuple ⟨[.string ⟨⟨(bytesM s.data.toList).1⟩⟩, .int .i64 (bytesM s.data.toList).2]⟩, [])) .fail)
  | _ => none
theorem Bytes_ok : CallOkR P 8 RBytes := by
  refine ok_of ct4_ok (n := 50) fun args t hR v bs hev => ?_
  unfold RBytes at hR
  split at hR
  · rename_i s
    obtain rfl := Option.some.inj hR
    cases hc : Nat.ble s.size 4194304 with
    | false => rw [hc] at hev; cases hev
    | true =>
      rw [hc] at hev
      simp only [DT.eval, Option.some.injEq, Prod.mk.injEq] at hev
      obtain ⟨rfl, rfl⟩ := hev
      have hsz := Nat.le_of_ble_eq_true hc
      rw [dec_Bytes]
      unfold bytesM
      cases hq : s.data.toList == [34, 34] with
      | true => exact ite_t (by rw [eqS_eq]; exact hq) rfl
      | false =>
        refine ite_f (by rw [eqS_eq]; exact hq) ?_
        refine need_eq ?_ ?_
        · have h1 : atB (.slice (some ⟨0, 0, none⟩) 0 18446744073709551616) 0 ([] : List Value).length = true := atB_sl 0 0
          have h9 : Nat.ble (([] : List Value).length + s.size) 4194304 = true := ble_ok (by simpa using hsz)
          unfold bytesC
          rw [h1, h9]
          rfl
        simp only [List.nil_append, takeC_self, bc_text]
        generalize decL s.data.toList = q
        obtain ⟨out, bad, left⟩ := q
        cases bad with
        | true => exact ite_t rfl rfl
        | false =>
          refine ite_f rfl ?_
          cases out with
          | nil => exact ite_t rfl rfl
          | cons b l =>
            refine ite_f ?_ ?_
            · rw [bc_length]
              show ((((b :: l).length : Nat) : Int) == 0) = false
              simp only [List.length_cons, beq_eq_false_iff_ne, ne_eq]
              omega
            refine need_eq (and_ok (ble_ok (by simp)) (bc_all _)) rfl
  · cases hR
end Go.VS.Tryd
end

section
namespace Go.VS.Tryd
set_option linter.unusedSimpArgs false
set_option linter.unusedVariables false
set_option maxRecDepth 1000000
open Go.VS

theorem hx_dig : ∀ n : Fin 256, digB (n.val : Int) = true → hxU (digV (n.val : Int)) = UInt8.ofNat n.val := by decide +kernel
theorem mix_hi : ∀ a b : Fin 16, shrI .u8 (orI .u8 (shlI .u8 (a.val : Int) 4) (b.val : Int)) 4 = (a.val : Int) := by decide +kernel
theorem mix_lo : ∀ a b : Fin 16, andI .u8 (orI .u8 (shlI .u8 (a.val : Int) 4) (b.val : Int)) 15 = (b.val : Int) := by decide +kernel
theorem back_dig : ∀ n : Fin 256, digB ((hxU (shrI .u8 (n.val : Int) 4)).toNat : Int) = true ∧ digB ((hxU (andI .u8 (n.val : Int) 15)).toNat : Int) = true ∧ hv (hxU (shrI .u8 (n.val : Int) 4)) (hxU (andI .u8 (n.val : Int) 15)) = (n.val : Int) := by decide +kernel

theorem plain92 : plainM ((92 : UInt8).toNat : Int) = false := by decide
theorem eq92 : eqI ((92 : UInt8).toNat : Int) 92 = true := by decide
theorem eqI_92 {x : UInt8} (h : eqI x.toNat 92 = true) : x = 92 := by
  unfold eqI at h
  have : (x.toNat : Int) = 92 := by simpa using h
  have h2 : x.toNat = (92 : UInt8).toNat := by
    have : x.toNat = 92 := by omega
    rw [this]; rfl
  exact UInt8.toNat_inj.1 h2
theorem neI_plain {x : UInt8} (h : plainM x.toNat = true) : neI x.toNat 92 = true := by
  unfold plainM at h
  simp only [Bool.and_eq_true] at h
  exact h.2
theorem neI_92 {x : UInt8} (h : eqI x.toNat 92 = true) : neI x.toNat 92 = false := by
  unfold eqI at h
  unfold neI
  simp only [bne, h, Bool.not_true]

/-- What is read to its end without a fault has this word, and the answer reads it alike. -/
theorem byteH_back (b : UInt8) : byteH (hxU (shrI .u8 b.toNat 4)) (hxU (andI .u8 b.toNat 15)) = b := by
  have := (back_dig ⟨b.toNat, b.toNat_lt⟩).2.2
  simp only at this
  unfold byteH
  rw [this]
  simp
/-- A word is read without a fault. -/
theorem decL_word : ∀ (l : List UInt8), decL (encL l) = (l, false, 0)
  | [] => by show decL [] = _; rw [decL.eq_def]
  | b :: l => by
    rw [encL_cons]
    unfold enc
    cases hp : plainM b.toNat with
    | true =>
      show decL (b :: encL l) = _
      rw [decL_plain hp, decL_word l]
    | false =>
      show decL (92 :: hxU (shrI .u8 b.toNat 4) :: hxU (andI .u8 b.toNat 15) :: encL l) = _
      rw [decL_pair plain92 eq92]
      have hg : goodH (hxU (shrI .u8 b.toNat 4)) (hxU (andI .u8 b.toNat 15)) = true := by
        obtain ⟨h1, h2, h3⟩ := back_dig ⟨b.toNat, b.toNat_lt⟩
        simp only at h1 h2 h3
        unfold goodH
        rw [h1, h2, h3, hp]; rfl
      rw [hg, decL_word l, byteH_back]

end Go.VS.Tryd
end

section
namespace Go.VS.Tryd
set_option linter.unusedSimpArgs false
set_option linter.unusedVariables false
set_option maxRecDepth 1000000
open Go.VS
theorem dec_Check (p : Bool) (k v : ByteArray) : callQ P E noCt 50 6 [.agg ⟨[.bool p, .string k, .string v]⟩] =
  (iteB (Go.VS.ltI (Go.VS.lenI (ByteArray.size k)) (1 : Int))
   (some ((Go.Value.int Go.IntKind.i64 (2 : Int)), (Go.VS.mkSt [])))
   (iteB (Go.VS.gtI (Go.VS.lenI (ByteArray.size k)) (16 : Int))
    (some ((Go.Value.int Go.IntKind.i64 (2 : Int)), (Go.VS.mkSt [])))
    (iteB (Go.VS.gtI (Go.VS.lenI (ByteArray.size v)) (32 : Int))
     (some ((Go.Value.int Go.IntKind.i64 (2 : Int)), (Go.VS.mkSt [])))
     (iteB (Go.VS.notB p)
      (iteB (Go.VS.neS v (ByteArray.mk #[]))
       (some ((Go.Value.int Go.IntKind.i64 (2 : Int)), (Go.VS.mkSt [])))
       (some ((Go.Value.int Go.IntKind.i64 (0 : Int)), (Go.VS.mkSt []))))
      (some ((Go.Value.int Go.IntKind.i64 (0 : Int)), (Go.VS.mkSt []))))))) := by kernel_rfl
/-- May a put (or delete) be? -/
def opOk (p : Bool) (k v : ByteArray) : Bool := decide (1 ≤ k.size) && decide (k.size ≤ 16) && decide (v.size ≤ 32) && (p || v.data.toList == [])
def RcheckV (O : Bool → ByteArray → ByteArray → Bool) : CallFn
  | [.agg ⟨[.bool p, .string k, .string v]⟩] => some (.ite (O p k v) (.leaf (.int .i64 0, [])) (.leaf (.int .i64 2, [])))
  | _ => none
def Rcheck : CallFn := RcheckV opOk
theorem check_tree (p : Bool) (k v : ByteArray) : iteB (ltI (lenI k.size) 1) (some (.int .i64 2, mkSt [])) (iteB (gtI (lenI k.size) 16) (some (.int .i64 2, mkSt [])) (iteB (gtI (lenI v.size) 32) (some (.int .i64 2, mkSt []))
    (iteB (notB p) (iteB (neS v ⟨#[]⟩) (some (.int .i64 2, mkSt [])) (some (.int .i64 0, mkSt []))) (some (.int .i64 0, mkSt []))))) = (some (.int .i64 (match opOk p k v with | true => 0 | false => 2), mkSt []) : Res) := by
  unfold opOk
  by_cases h1 : 1 ≤ k.size
  · refine ite_f (by show decide ((k.size : Int) < 1) = false; exact decide_eq_false (by omega)) ?_
    by_cases h2 : k.size ≤ 16
    · refine ite_f (by simp [gtI, lenI]; omega) ?_
      by_cases h3 : v.size ≤ 32
      · refine ite_f (by simp [gtI, lenI]; omega) ?_
        rw [decide_eq_true h1, decide_eq_true h2, decide_eq_true h3]
        cases p with
        | true => exact ite_f rfl rfl
        | false =>
          refine ite_t rfl ?_
          cases h4 : v.data.toList == [] with
          | true => exact ite_f (by rw [neS_eq]; show (!(v.data.toList == [])) = false; rw [h4]; rfl) rfl
          | false => exact ite_t (by rw [neS_eq]; show (!(v.data.toList == [])) = true; rw [h4]; rfl) rfl
      · rw [decide_eq_false h3]
        exact ite_t (by simp [gtI, lenI]; omega) (by simp)
    · rw [decide_eq_false h2]
      exact ite_t (by simp [gtI, lenI]; omega) (by simp)
  · rw [decide_eq_false h1]
    exact ite_t (by show decide ((k.size : Int) < 1) = true; exact decide_eq_true (by omega)) (by simp)
theorem check_any {F : Nat} (h : ∀ p k v, callQ P E noCt 50 F [.agg ⟨[.bool p, .string k, .string v]⟩] = some (.int .i64 (match opOk p k v with | true => 0 | false => 2), mkSt [])) : CallOkR P F Rcheck := by
  refine ok_of (noCt_ok P) (n := 50) fun args t hR v bs hev => ?_
  unfold Rcheck RcheckV at hR
  split at hR
  · rename_i p k w
    obtain rfl := Option.some.inj hR
    rw [h]
    cases hc : opOk p k w <;> rw [hc] at hev <;> (simp only [DT.eval, Option.some.injEq, Prod.mk.injEq] at hev; obtain ⟨rfl, rfl⟩ := hev; rfl)
  · cases hR
theorem Check_ok : CallOkR P 6 Rcheck := check_any fun p k v => by rw [dec_Check]; exact check_tree p k v
noncomputable def ctS : Ct := symCt P
theorem ctS_ok : CtOk P ctS := symCt_ok noNum
theorem opOk_of {p : Bool} {k v : ByteArray} (h : opOk p k v = true) : 1 ≤ k.size ∧ k.size ≤ 16 ∧ v.size ≤ 32 ∧ (p = true ∨ v.data.toList = []) := by
  unfold opOk at h
  simp only [Bool.and_eq_true, decide_eq_true_eq, Bool.or_eq_true, beq_iff_eq] at h
  exact ⟨h.1.1.1, h.1.1.2, h.1.2, h.2⟩
/-- The examples that each law asks first. -/
def RlivesB : CallFn
  | [] => some (.leaf (.bool true, []))
  | _ => none
theorem lives_run : callQ P E noCt 1000 4 [] = some (.bool true, mkSt []) := by kernel_rfl
theorem lives_ok : CallOkR P 4 RlivesB := by
  refine ok_of (noCt_ok P) (n := 1000) fun args t hR v bs hev => ?_
  unfold RlivesB at hR
  split at hR
  · obtain rfl := Option.some.inj hR
    simp only [DT.eval, Option.some.injEq, Prod.mk.injEq] at hev
    obtain ⟨rfl, rfl⟩ := hev
    exact lives_run
  · cases hR
def RWordV (W : ByteArray → ByteArray) : CallFn
  | [.string s] => some (.ite (Nat.ble (3 * s.size) 4194304) (.leaf (.string (W s), [])) .fail)
  | _ => none
def RBytesV (B : ByteArray → ByteArray) (Z : ByteArray → Int) : CallFn
  | [.string s] => some (.ite (Nat.ble s.size 4194304) (.leaf (.tuple ⟨[.string (B s), .int .i64 (Z s)]⟩, [])) .fail)
  | _ => none
def wordT (s : ByteArray) : ByteArray := ⟨⟨wordM s.data.toList⟩⟩
def unT (s : ByteArray) : ByteArray := ⟨⟨(bytesM s.data.toList).1⟩⟩
def unE (s : ByteArray) : Int := (bytesM s.data.toList).2
theorem RWord_eq : RWord = RWordV wordT := rfl
theorem RBytes_eq : RBytes = RBytesV unT unE := rfl
theorem ba_eq (s : ByteArray) : (⟨⟨s.data.toList⟩⟩ : ByteArray) = s := rfl
theorem decL_quotes : (decL [34, 34]).2.1 = true := by
  rw [decL_other (x := 34) (r := [34]) (by decide) (Or.inl (by decide))]
theorem unT_word (s : ByteArray) : unT (wordT s) = s ∧ unE (wordT s) = 0 := by
  unfold unT unE wordT
  cases hs : s.data.toList with
  | nil =>
    refine ⟨?_, rfl⟩
    show (⟨⟨[]⟩⟩ : ByteArray) = s
    rw [← ba_eq s, hs]
  | cons x l =>
    have hw : wordM (x :: l) = encL (x :: l) := rfl
    have hd := decL_word (x :: l)
    have hne : (encL (x :: l) == [34, 34]) = false := by
      cases hq : encL (x :: l) == [34, 34] with
      | false => rfl
      | true =>
        have := decL_quotes
        rw [← eq_of_beq hq, hd] at this
        cases this
    have hb : bytesM (encL (x :: l)) = (x :: l, 0) := by
      unfold bytesM
      rw [hne, hd]
    rw [hw, hb]
    refine ⟨?_, rfl⟩
    rw [← ba_eq s, hs]
theorem hx_ne : ∀ n : Fin 256, hxU (shrI .u8 (n.val : Int) 4) ≠ 32 ∧ hxU (andI .u8 (n.val : Int) 15) ≠ 32 := by decide +kernel
theorem enc_blank (b : UInt8) : ∀ x ∈ enc b, x ≠ 32 := by
  intro x hx
  unfold enc at hx
  split at hx
  · rename_i hp
    simp only [List.mem_singleton] at hx
    subst hx
    rintro rfl
    revert hp; decide
  · have := hx_ne ⟨b.toNat, b.toNat_lt⟩
    simp only [List.mem_cons, List.not_mem_nil, or_false] at hx
    rcases hx with rfl | rfl | rfl
    · decide
    · exact this.1
    · exact this.2
theorem word_no32 (s : ByteArray) : ∀ x ∈ wordM s.data.toList, x ≠ 32 := by
  intro x hx
  cases hs : s.data.toList with
  | nil =>
    rw [hs] at hx
    have hx : x ∈ ([34, 34] : List UInt8) := hx
    simp only [List.mem_cons, List.not_mem_nil, or_false, or_self] at hx
    subst hx; decide
  | cons y l =>
    rw [hs] at hx
    have hx : x ∈ encL (y :: l) := hx
    unfold encL at hx
    rw [List.mem_flatMap] at hx
    obtain ⟨b, _, hb⟩ := hx
    exact enc_blank b x hb
theorem ne_self (x : Int) : neI x x = false := by simp [neI]
theorem eq_self (x : Int) : eqI x x = true := by simp [eqI]
theorem eqB_self (b : Bool) : eqB b b = true := by simp [eqB]
theorem eqS_self (s : ByteArray) : eqS s s = true := by rw [eqS_eq]; exact beq_self_eq_true _
theorem neS_self (s : ByteArray) : neS s s = false := by rw [neS_eq, beq_self_eq_true]; rfl
theorem encL_length : ∀ l : List UInt8, (encL l).length ≤ 3 * l.length
  | [] => by simp [encL]
  | b :: l => by
    rw [encL_cons, List.length_append]
    have := enc_length b
    have := encL_length l
    simp only [List.length_cons]; omega
theorem word_size (s : ByteArray) : (wordT s).size ≤ 3 * s.size + 2 := by
  show (wordM s.data.toList).length ≤ _
  rw [size_eq s]
  cases s.data.toList with
  | nil => show ([34, 34] : List UInt8).length ≤ _; simp
  | cons x l => have := encL_length (x :: l); show (encL (x :: l)).length ≤ _; omega
end Go.VS.Tryd
end

section
namespace Go.VS.Tryd
set_option linter.unusedSimpArgs false
set_option linter.unusedVariables false
set_option maxRecDepth 1000000
open Go.VS
noncomputable def ctTv (O : Bool → ByteArray → ByteArray → Bool) (W : ByteArray → ByteArray) : Ct := addCall P 11 (RWordV W) (addCall P 6 (RcheckV O) ctS)
noncomputable def ctT : Ct := ctTv opOk wordT
theorem ctT_ok : CtOk P ctT := addCall_ok (addCall_ok ctS_ok Check_ok) word_ok
theorem dec_Text (O : Bool → ByteArray → ByteArray → Bool) (W : ByteArray → ByteArray) (p : Bool) (k v : ByteArray) : callQ P E (ctTv O W) 50 5 [.agg ⟨[.bool p, .string k, .string v]⟩] =
  (iteB (O p k v)
   (iteB (Go.VS.notB p)
    (needB (Nat.ble (HMul.hMul 3 (ByteArray.size k)) 4194304)
     (needB (Go.VS.fitS (ByteArray.mk #[100, 101, 108, 32]) (W k))
      (some ((Go.Value.tuple (Array.mk [(Go.Value.string (Go.VS.catS (ByteArray.mk #[100, 101, 108, 32]) (W k))), (Go.Value.int Go.IntKind.i64 (0 : Int))])), (Go.VS.mkSt [])))))
    (needB (Nat.ble (HMul.hMul 3 (ByteArray.size k)) 4194304)
     (needB (Go.VS.fitS (ByteArray.mk #[112, 117, 116, 32]) (W k))
      (needB (Go.VS.fitS (Go.VS.catS (ByteArray.mk #[112, 117, 116, 32]) (W k)) (ByteArray.mk #[32]))
       (needB (Nat.ble (HMul.hMul 3 (ByteArray.size v)) 4194304)
        (needB (Go.VS.fitS (Go.VS.catS (Go.VS.catS (ByteArray.mk #[112, 117, 116, 32]) (W k)) (ByteArray.mk #[32])) (W v))
         (needB (Go.VS.beqV (Go.Value.string v) (Go.Value.string v))
          (some ((Go.Value.tuple (Array.mk [(Go.Value.string (Go.VS.catS (Go.VS.catS (Go.VS.catS (ByteArray.mk #[112, 117, 116, 32]) (W k)) (ByteArray.mk #[32])) (W v))), (Go.Value.int Go.IntKind.i64 (0 : Int))])), (Go.VS.mkSt []))))))))))
   (some ((Go.Value.tuple (Array.mk [(Go.Value.string (ByteArray.mk #[])), (Go.Value.int Go.IntKind.i64 (2 : Int))])), (Go.VS.mkSt [])))) := by kernel_rfl
/-! ### strings.Count, strings.Index -/
def RcountV (A B : ByteArray → Bool) : CallFn
  | [.string s, .string ⟨⟨[c]⟩⟩] => match Nat.beq c.toNat 32 with
    | true => some (.ite (A s) (.leaf (.int .i64 2, [])) (.ite (B s) (.leaf (.int .i64 1, [])) .fail))
    | false => none
  | _ => none
def count2 (s : ByteArray) : Bool := Lib.countByte s.data.toList 32 == 2
def count1 (s : ByteArray) : Bool := Lib.countByte s.data.toList 32 == 1
theorem count_ok : CallOkR P 18 (RcountV count2 count1) := by
  refine ⟨fun args t hR v bs hev => ?_⟩
  unfold RcountV at hR
  split at hR
  · rename_i s c
    split at hR
    · rename_i hc
      have hc : c = 32 := UInt8.toNat_inj.1 (by have := Nat.eq_of_beq_eq_true hc; exact this)
      subst hc
      obtain rfl := Option.some.inj hR
      have key : ∀ n : Int, Lib.countByte s.data.toList 32 = n → CR P 18 [.string s, .string ⟨⟨[32]⟩⟩] (.int .i64 n) [] := by
        intro n hn
        refine CR.ofCalls rfl fun w args' ha => ?_
        simp only [VRL] at ha
        obtain ⟨y, ys, e, hy, z, zs, rfl, hz, rfl⟩ := ha
        have hy : y = .string s := hy
        have hz : z = .string ⟨⟨[32]⟩⟩ := hz
        subst hy hz
        obtain ⟨l⟩ := args'
        simp only at e
        subst e
        exact (Go.Proofs.Tryd.strings_Count_one s 32 w).mono fun e w' ⟨h1, h2⟩ => ⟨by rw [h1, hn], by rw [h2]; exact Go.RowKit.Below.refl _ _⟩
      cases h2 : count2 s with
      | true =>
        rw [h2] at hev
        simp only [DT.eval, Option.some.injEq, Prod.mk.injEq] at hev
        obtain ⟨rfl, rfl⟩ := hev
        exact key 2 (by
          have : Lib.countByte s.data.toList 32 = 2 := by simpa [count2] using h2
          rw [this]; rfl)
      | false =>
        cases h1 : count1 s with
        | true =>
          rw [h2, h1] at hev
          simp only [DT.eval, Option.some.injEq, Prod.mk.injEq] at hev
          obtain ⟨rfl, rfl⟩ := hev
          exact key 1 (by
          have : Lib.countByte s.data.toList 32 = 1 := by simpa [count1] using h1
          rw [this]; rfl)
        | false => rw [h2, h1] at hev; cases hev
    · cases hR
  · cases hR
def RindexV (X : ByteArray → Int) : CallFn
  | [.string s, .string ⟨⟨[c]⟩⟩] => match Nat.beq c.toNat 32 with
    | true => some (.leaf (.int .i64 (X s), []))
    | false => none
  | _ => none
def idx32 (s : ByteArray) : Int := Lib.indexByte s.data.toList 32
theorem index_ok : CallOkR P 19 (RindexV idx32) := by
  refine ⟨fun args t hR v bs hev => ?_⟩
  unfold RindexV at hR
  split at hR
  · rename_i s c
    split at hR
    · rename_i hc
      have hc : c = 32 := UInt8.toNat_inj.1 (by have := Nat.eq_of_beq_eq_true hc; exact this)
      subst hc
      obtain rfl := Option.some.inj hR
      simp only [DT.eval, Option.some.injEq, Prod.mk.injEq] at hev
      obtain ⟨rfl, rfl⟩ := hev
      refine CR.ofCalls rfl fun w args' ha => ?_
      simp only [VRL] at ha
      obtain ⟨y, ys, e, hy, z, zs, rfl, hz, rfl⟩ := ha
      have hy : y = .string s := hy
      have hz : z = .string ⟨⟨[32]⟩⟩ := hz
      subst hy hz
      obtain ⟨l⟩ := args'
      simp only at e
      subst e
      exact (Go.Proofs.Tryd.strings_Index_one s 32 w).mono fun e w' ⟨h1, h2⟩ => ⟨h1, by rw [h2]; exact Go.RowKit.Below.refl _ _⟩
    · cases hR
  · cases hR
def RTextV (O : Bool → ByteArray → ByteArray → Bool) (T : Bool → ByteArray → ByteArray → ByteArray) : CallFn
  | [.agg ⟨[.bool p, .string k, .string v]⟩] => some (.ite (O p k v) (.leaf (.tuple ⟨[.string (T p k v), .int .i64 0]⟩, [])) (.leaf (.tuple ⟨[.string ⟨#[]⟩, .int .i64 2]⟩, [])))
  | _ => none
noncomputable def ctXv (O : Bool → ByteArray → ByteArray → Bool) (T : Bool → ByteArray → ByteArray → ByteArray) (U : ByteArray → ByteArray) (Y : ByteArray → Int) (A B : ByteArray → Bool) (X : ByteArray → Int) : Ct :=
  addCall P 18 (RcountV A B) (addCall P 19 (RindexV X) (addCall P 8 (RBytesV U Y) (addCall P 6 (RcheckV O) (addCall P 5 (RTextV O T) (addCall P 4 RlivesB ctS)))))
theorem dec_opTexts (O : Bool → ByteArray → ByteArray → Bool) (T : Bool → ByteArray → ByteArray → ByteArray) (U : ByteArray → ByteArray) (Y : ByteArray → Int) (A B : ByteArray → Bool) (X : ByteArray → Int) (p : Bool) (k v : ByteArray) (p' : Bool) (k' v' : ByteArray) : callQ P (engMn P) (ctXv O T U Y A B X) 200 3 [.agg ⟨[.bool p, .string k, .string v]⟩, .agg ⟨[.bool p', .string k', .string v']⟩] =
  (iteB (O p k v)
   (iteB (O p' k' v')
    (iteB (A (T p k v))
     (needB (Go.VS.leI (3 : Int) (Go.VS.addI Go.IntKind.i64 (Go.VS.lenI (ByteArray.size (T p k v))) (1 : Int)))
      (iteB (Go.VS.ltI (X (T p k v)) (0 : Int))
       (iteB (Go.VS.notB (Go.VS.eqB p (Go.VS.eqS (T p k v) (ByteArray.mk #[112, 117, 116]))))
        (some ((Go.Value.bool Bool.false), (Go.VS.mkSt [])))
        (iteB (Go.VS.notB p)
         (iteB (Go.VS.neS (T p k v) (ByteArray.mk #[100, 101, 108]))
          (some ((Go.Value.bool Bool.false), (Go.VS.mkSt [])))
          (iteB (Go.VS.notB p)
           (some ((Go.Value.bool Bool.false), (Go.VS.mkSt [])))
           (needB p
            (some ((Go.Value.bool Bool.false), (Go.VS.mkSt []))))))
         (iteB (Go.VS.notB p)
          (some ((Go.Value.bool Bool.false), (Go.VS.mkSt [])))
          (needB p
           (some ((Go.Value.bool Bool.false), (Go.VS.mkSt [])))))))
       (needB (Go.VS.cutI (0 : Int) (Go.VS.addI Go.IntKind.i64 (X (T p k v)) (0 : Int)) (ByteArray.size (T p k v)))
        (needB (Go.VS.cutI (Go.VS.addI Go.IntKind.i64 (X (T p k v)) (1 : Int)) (Go.VS.lenI (ByteArray.size (T p k v))) (ByteArray.size (T p k v)))
         (iteB (Go.VS.ltI (X (Go.VS.cutS (T p k v) (Go.VS.addI Go.IntKind.i64 (X (T p k v)) (1 : Int)) (Go.VS.lenI (ByteArray.size (T p k v))))) (0 : Int))
          (iteB (Go.VS.notB (Go.VS.eqB p (Go.VS.eqS (Go.VS.cutS (T p k v) (0 : Int) (Go.VS.addI Go.IntKind.i64 (X (T p k v)) (0 : Int))) (ByteArray.mk #[112, 117, 116]))))
           (some ((Go.Value.bool Bool.false), (Go.VS.mkSt [])))
           (iteB (Go.VS.notB p)
            (iteB (Go.VS.neS (Go.VS.cutS (T p k v) (0 : Int) (Go.VS.addI Go.IntKind.i64 (X (T p k v)) (0 : Int))) (ByteArray.mk #[100, 101, 108]))
             (some ((Go.Value.bool Bool.false), (Go.VS.mkSt [])))
             (iteB p
              (some ((Go.Value.bool Bool.false), (Go.VS.mkSt [])))
              (needB (Nat.ble (ByteArray.size (Go.VS.cutS (T p k v) (Go.VS.addI Go.IntKind.i64 (X (T p k v)) (1 : Int)) (Go.VS.lenI (ByteArray.size (T p k v))))) 4194304)
               (iteB (Go.VS.neI (Y (Go.VS.cutS (T p k v) (Go.VS.addI Go.IntKind.i64 (X (T p k v)) (1 : Int)) (Go.VS.lenI (ByteArray.size (T p k v))))) (0 : Int))
                (some ((Go.Value.bool Bool.false), (Go.VS.mkSt [])))
                (iteB (Go.VS.neS (U (Go.VS.cutS (T p k v) (Go.VS.addI Go.IntKind.i64 (X (T p k v)) (1 : Int)) (Go.VS.lenI (ByteArray.size (T p k v))))) k)
                 (some ((Go.Value.bool Bool.false), (Go.VS.mkSt [])))
                 (iteB p
                  none
                  (some ((Go.Value.bool (Go.VS.eqB (Go.VS.eqS (T p k v) (T p' k' v')) (Bool.and (Go.VS.eqB p p') (Bool.and (Go.VS.eqS k k') (Bool.and (Go.VS.eqS v v') Bool.true))))), (Go.VS.mkSt [])))))))))
            (iteB p
             (some ((Go.Value.bool Bool.false), (Go.VS.mkSt [])))
             (needB (Nat.ble (ByteArray.size (Go.VS.cutS (T p k v) (Go.VS.addI Go.IntKind.i64 (X (T p k v)) (1 : Int)) (Go.VS.lenI (ByteArray.size (T p k v))))) 4194304)
              (iteB (Go.VS.neI (Y (Go.VS.cutS (T p k v) (Go.VS.addI Go.IntKind.i64 (X (T p k v)) (1 : Int)) (Go.VS.lenI (ByteArray.size (T p k v))))) (0 : Int))
               (some ((Go.Value.bool Bool.false), (Go.VS.mkSt [])))
               (iteB (Go.VS.neS (U (Go.VS.cutS (T p k v) (Go.VS.addI Go.IntKind.i64 (X (T p k v)) (1 : Int)) (Go.VS.lenI (ByteArray.size (T p k v))))) k)
                (some ((Go.Value.bool Bool.false), (Go.VS.mkSt [])))
                (iteB p
                 none
                 (some ((Go.Value.bool (Go.VS.eqB (Go.VS.eqS (T p k v) (T p' k' v')) (Bool.and (Go.VS.eqB p p') (Bool.and (Go.VS.eqS k k') (Bool.and (Go.VS.eqS v v') Bool.true))))), (Go.VS.mkSt []))))))))))
          (needB (Go.VS.cutI (0 : Int) (Go.VS.addI Go.IntKind.i64 (X (Go.VS.cutS (T p k v) (Go.VS.addI Go.IntKind.i64 (X (T p k v)) (1 : Int)) (Go.VS.lenI (ByteArray.size (T p k v))))) (0 : Int)) (ByteArray.size (Go.VS.cutS (T p k v) (Go.VS.addI Go.IntKind.i64 (X (T p k v)) (1 : Int)) (Go.VS.lenI (ByteArray.size (T p k v))))))
           (needB (Go.VS.cutI (Go.VS.addI Go.IntKind.i64 (X (Go.VS.cutS (T p k v) (Go.VS.addI Go.IntKind.i64 (X (T p k v)) (1 : Int)) (Go.VS.lenI (ByteArray.size (T p k v))))) (1 : Int)) (Go.VS.lenI (ByteArray.size (Go.VS.cutS (T p k v) (Go.VS.addI Go.IntKind.i64 (X (T p k v)) (1 : Int)) (Go.VS.lenI (ByteArray.size (T p k v)))))) (ByteArray.size (Go.VS.cutS (T p k v) (Go.VS.addI Go.IntKind.i64 (X (T p k v)) (1 : Int)) (Go.VS.lenI (ByteArray.size (T p k v))))))
            (iteB (Go.VS.notB (Go.VS.eqB p (Go.VS.eqS (Go.VS.cutS (T p k v) (0 : Int) (Go.VS.addI Go.IntKind.i64 (X (T p k v)) (0 : Int))) (ByteArray.mk #[112, 117, 116]))))
             (some ((Go.Value.bool Bool.false), (Go.VS.mkSt [])))
             (iteB (Go.VS.notB p)
              (iteB (Go.VS.neS (Go.VS.cutS (T p k v) (0 : Int) (Go.VS.addI Go.IntKind.i64 (X (T p k v)) (0 : Int))) (ByteArray.mk #[100, 101, 108]))
               (some ((Go.Value.bool Bool.false), (Go.VS.mkSt [])))
               (iteB (Go.VS.notB p)
                (some ((Go.Value.bool Bool.false), (Go.VS.mkSt [])))
                (needB (Nat.ble (ByteArray.size (Go.VS.cutS (Go.VS.cutS (T p k v) (Go.VS.addI Go.IntKind.i64 (X (T p k v)) (1 : Int)) (Go.VS.lenI (ByteArray.size (T p k v)))) (0 : Int) (Go.VS.addI Go.IntKind.i64 (X (Go.VS.cutS (T p k v) (Go.VS.addI Go.IntKind.i64 (X (T p k v)) (1 : Int)) (Go.VS.lenI (ByteArray.size (T p k v))))) (0 : Int)))) 4194304)
                 (iteB (Go.VS.neI (Y (Go.VS.cutS (Go.VS.cutS (T p k v) (Go.VS.addI Go.IntKind.i64 (X (T p k v)) (1 : Int)) (Go.VS.lenI (ByteArray.size (T p k v)))) (0 : Int) (Go.VS.addI Go.IntKind.i64 (X (Go.VS.cutS (T p k v) (Go.VS.addI Go.IntKind.i64 (X (T p k v)) (1 : Int)) (Go.VS.lenI (ByteArray.size (T p k v))))) (0 : Int)))) (0 : Int))
                  (some ((Go.Value.bool Bool.false), (Go.VS.mkSt [])))
                  (iteB (Go.VS.neS (U (Go.VS.cutS (Go.VS.cutS (T p k v) (Go.VS.addI Go.IntKind.i64 (X (T p k v)) (1 : Int)) (Go.VS.lenI (ByteArray.size (T p k v)))) (0 : Int) (Go.VS.addI Go.IntKind.i64 (X (Go.VS.cutS (T p k v) (Go.VS.addI Go.IntKind.i64 (X (T p k v)) (1 : Int)) (Go.VS.lenI (ByteArray.size (T p k v))))) (0 : Int)))) k)
                   (some ((Go.Value.bool Bool.false), (Go.VS.mkSt [])))
                   (iteB p
                    (needB (Nat.ble (ByteArray.size (Go.VS.cutS (Go.VS.cutS (T p k v) (Go.VS.addI Go.IntKind.i64 (X (T p k v)) (1 : Int)) (Go.VS.lenI (ByteArray.size (T p k v)))) (Go.VS.addI Go.IntKind.i64 (X (Go.VS.cutS (T p k v) (Go.VS.addI Go.IntKind.i64 (X (T p k v)) (1 : Int)) (Go.VS.lenI (ByteArray.size (T p k v))))) (1 : Int)) (Go.VS.lenI (ByteArray.size (Go.VS.cutS (T p k v) (Go.VS.addI Go.IntKind.i64 (X (T p k v)) (1 : Int)) (Go.VS.lenI (ByteArray.size (T p k v)))))))) 4194304)
                     (iteB (Go.VS.neI (Y (Go.VS.cutS (Go.VS.cutS (T p k v) (Go.VS.addI Go.IntKind.i64 (X (T p k v)) (1 : Int)) (Go.VS.lenI (ByteArray.size (T p k v)))) (Go.VS.addI Go.IntKind.i64 (X (Go.VS.cutS (T p k v) (Go.VS.addI Go.IntKind.i64 (X (T p k v)) (1 : Int)) (Go.VS.lenI (ByteArray.size (T p k v))))) (1 : Int)) (Go.VS.lenI (ByteArray.size (Go.VS.cutS (T p k v) (Go.VS.addI Go.IntKind.i64 (X (T p k v)) (1 : Int)) (Go.VS.lenI (ByteArray.size (T p k v)))))))) (0 : Int))
                      (some ((Go.Value.bool Bool.false), (Go.VS.mkSt [])))
                      (iteB (Go.VS.neS (U (Go.VS.cutS (Go.VS.cutS (T p k v) (Go.VS.addI Go.IntKind.i64 (X (T p k v)) (1 : Int)) (Go.VS.lenI (ByteArray.size (T p k v)))) (Go.VS.addI Go.IntKind.i64 (X (Go.VS.cutS (T p k v) (Go.VS.addI Go.IntKind.i64 (X (T p k v)) (1 : Int)) (Go.VS.lenI (ByteArray.size (T p k v))))) (1 : Int)) (Go.VS.lenI (ByteArray.size (Go.VS.cutS (T p k v) (Go.VS.addI Go.IntKind.i64 (X (T p k v)) (1 : Int)) (Go.VS.lenI (ByteArray.size (T p k v)))))))) v)
                       (some ((Go.Value.bool Bool.false), (Go.VS.mkSt [])))
                       (some ((Go.Value.bool (Go.VS.eqB (Go.VS.eqS (T p k v) (T p' k' v')) (Bool.and (Go.VS.eqB p p') (Bool.and (Go.VS.eqS k k') (Bool.and (Go.VS.eqS v v') Bool.true))))), (Go.VS.mkSt []))))))
                    (some ((Go.Value.bool (Go.VS.eqB (Go.VS.eqS (T p k v) (T p' k' v')) (Bool.and (Go.VS.eqB p p') (Bool.and (Go.VS.eqS k k') (Bool.and (Go.VS.eqS v v') Bool.true))))), (Go.VS.mkSt [])))))))))
              (iteB (Go.VS.notB p)
               (some ((Go.Value.bool Bool.false), (Go.VS.mkSt [])))
               (needB (Nat.ble (ByteArray.size (Go.VS.cutS (Go.VS.cutS (T p k v) (Go.VS.addI Go.IntKind.i64 (X (T p k v)) (1 : Int)) (Go.VS.lenI (ByteArray.size (T p k v)))) (0 : Int) (Go.VS.addI Go.IntKind.i64 (X (Go.VS.cutS (T p k v) (Go.VS.addI Go.IntKind.i64 (X (T p k v)) (1 : Int)) (Go.VS.lenI (ByteArray.size (T p k v))))) (0 : Int)))) 4194304)
                (iteB (Go.VS.neI (Y (Go.VS.cutS (Go.VS.cutS (T p k v) (Go.VS.addI Go.IntKind.i64 (X (T p k v)) (1 : Int)) (Go.VS.lenI (ByteArray.size (T p k v)))) (0 : Int) (Go.VS.addI Go.IntKind.i64 (X (Go.VS.cutS (T p k v) (Go.VS.addI Go.IntKind.i64 (X (T p k v)) (1 : Int)) (Go.VS.lenI (ByteArray.size (T p k v))))) (0 : Int)))) (0 : Int))
                 (some ((Go.Value.bool Bool.false), (Go.VS.mkSt [])))
                 (iteB (Go.VS.neS (U (Go.VS.cutS (Go.VS.cutS (T p k v) (Go.VS.addI Go.IntKind.i64 (X (T p k v)) (1 : Int)) (Go.VS.lenI (ByteArray.size (T p k v)))) (0 : Int) (Go.VS.addI Go.IntKind.i64 (X (Go.VS.cutS (T p k v) (Go.VS.addI Go.IntKind.i64 (X (T p k v)) (1 : Int)) (Go.VS.lenI (ByteArray.size (T p k v))))) (0 : Int)))) k)
                  (some ((Go.Value.bool Bool.false), (Go.VS.mkSt [])))
                  (iteB p
                   (needB (Nat.ble (ByteArray.size (Go.VS.cutS (Go.VS.cutS (T p k v) (Go.VS.addI Go.IntKind.i64 (X (T p k v)) (1 : Int)) (Go.VS.lenI (ByteArray.size (T p k v)))) (Go.VS.addI Go.IntKind.i64 (X (Go.VS.cutS (T p k v) (Go.VS.addI Go.IntKind.i64 (X (T p k v)) (1 : Int)) (Go.VS.lenI (ByteArray.size (T p k v))))) (1 : Int)) (Go.VS.lenI (ByteArray.size (Go.VS.cutS (T p k v) (Go.VS.addI Go.IntKind.i64 (X (T p k v)) (1 : Int)) (Go.VS.lenI (ByteArray.size (T p k v)))))))) 4194304)
                    (iteB (Go.VS.neI (Y (Go.VS.cutS (Go.VS.cutS (T p k v) (Go.VS.addI Go.IntKind.i64 (X (T p k v)) (1 : Int)) (Go.VS.lenI (ByteArray.size (T p k v)))) (Go.VS.addI Go.IntKind.i64 (X (Go.VS.cutS (T p k v) (Go.VS.addI Go.IntKind.i64 (X (T p k v)) (1 : Int)) (Go.VS.lenI (ByteArray.size (T p k v))))) (1 : Int)) (Go.VS.lenI (ByteArray.size (Go.VS.cutS (T p k v) (Go.VS.addI Go.IntKind.i64 (X (T p k v)) (1 : Int)) (Go.VS.lenI (ByteArray.size (T p k v)))))))) (0 : Int))
                     (some ((Go.Value.bool Bool.false), (Go.VS.mkSt [])))
                     (iteB (Go.VS.neS (U (Go.VS.cutS (Go.VS.cutS (T p k v) (Go.VS.addI Go.IntKind.i64 (X (T p k v)) (1 : Int)) (Go.VS.lenI (ByteArray.size (T p k v)))) (Go.VS.addI Go.IntKind.i64 (X (Go.VS.cutS (T p k v) (Go.VS.addI Go.IntKind.i64 (X (T p k v)) (1 : Int)) (Go.VS.lenI (ByteArray.size (T p k v))))) (1 : Int)) (Go.VS.lenI (ByteArray.size (Go.VS.cutS (T p k v) (Go.VS.addI Go.IntKind.i64 (X (T p k v)) (1 : Int)) (Go.VS.lenI (ByteArray.size (T p k v)))))))) v)
                      (some ((Go.Value.bool Bool.false), (Go.VS.mkSt [])))
                      (some ((Go.Value.bool (Go.VS.eqB (Go.VS.eqS (T p k v) (T p' k' v')) (Bool.and (Go.VS.eqB p p') (Bool.and (Go.VS.eqS k k') (Bool.and (Go.VS.eqS v v') Bool.true))))), (Go.VS.mkSt []))))))
                   (some ((Go.Value.bool (Go.VS.eqB (Go.VS.eqS (T p k v) (T p' k' v')) (Bool.and (Go.VS.eqB p p') (Bool.and (Go.VS.eqS k k') (Bool.and (Go.VS.eqS v v') Bool.true))))), (Go.VS.mkSt [])))))))))))))))))
     (needB (B (T p k v))
      (needB (Go.VS.leI (2 : Int) (Go.VS.addI Go.IntKind.i64 (Go.VS.lenI (ByteArray.size (T p k v))) (1 : Int)))
       (iteB (Go.VS.ltI (X (T p k v)) (0 : Int))
        (iteB (Go.VS.notB (Go.VS.eqB p (Go.VS.eqS (T p k v) (ByteArray.mk #[112, 117, 116]))))
         (some ((Go.Value.bool Bool.false), (Go.VS.mkSt [])))
         (iteB (Go.VS.notB p)
          (iteB (Go.VS.neS (T p k v) (ByteArray.mk #[100, 101, 108]))
           (some ((Go.Value.bool Bool.false), (Go.VS.mkSt [])))
           (iteB (Go.VS.notB p)
            (some ((Go.Value.bool Bool.false), (Go.VS.mkSt [])))
            (needB p
             (some ((Go.Value.bool Bool.false), (Go.VS.mkSt []))))))
          (iteB (Go.VS.notB p)
           (some ((Go.Value.bool Bool.false), (Go.VS.mkSt [])))
           (needB p
            (some ((Go.Value.bool Bool.false), (Go.VS.mkSt [])))))))
        (needB (Go.VS.cutI (0 : Int) (Go.VS.addI Go.IntKind.i64 (X (T p k v)) (0 : Int)) (ByteArray.size (T p k v)))
         (needB (Go.VS.cutI (Go.VS.addI Go.IntKind.i64 (X (T p k v)) (1 : Int)) (Go.VS.lenI (ByteArray.size (T p k v))) (ByteArray.size (T p k v)))
          (iteB (Go.VS.notB (Go.VS.eqB p (Go.VS.eqS (Go.VS.cutS (T p k v) (0 : Int) (Go.VS.addI Go.IntKind.i64 (X (T p k v)) (0 : Int))) (ByteArray.mk #[112, 117, 116]))))
           (some ((Go.Value.bool Bool.false), (Go.VS.mkSt [])))
           (iteB (Go.VS.notB p)
            (iteB (Go.VS.neS (Go.VS.cutS (T p k v) (0 : Int) (Go.VS.addI Go.IntKind.i64 (X (T p k v)) (0 : Int))) (ByteArray.mk #[100, 101, 108]))
             (some ((Go.Value.bool Bool.false), (Go.VS.mkSt [])))
             (iteB p
              (some ((Go.Value.bool Bool.false), (Go.VS.mkSt [])))
              (needB (Nat.ble (ByteArray.size (Go.VS.cutS (T p k v) (Go.VS.addI Go.IntKind.i64 (X (T p k v)) (1 : Int)) (Go.VS.lenI (ByteArray.size (T p k v))))) 4194304)
               (iteB (Go.VS.neI (Y (Go.VS.cutS (T p k v) (Go.VS.addI Go.IntKind.i64 (X (T p k v)) (1 : Int)) (Go.VS.lenI (ByteArray.size (T p k v))))) (0 : Int))
                (some ((Go.Value.bool Bool.false), (Go.VS.mkSt [])))
                (iteB (Go.VS.neS (U (Go.VS.cutS (T p k v) (Go.VS.addI Go.IntKind.i64 (X (T p k v)) (1 : Int)) (Go.VS.lenI (ByteArray.size (T p k v))))) k)
                 (some ((Go.Value.bool Bool.false), (Go.VS.mkSt [])))
                 (iteB p
                  none
                  (some ((Go.Value.bool (Go.VS.eqB (Go.VS.eqS (T p k v) (T p' k' v')) (Bool.and (Go.VS.eqB p p') (Bool.and (Go.VS.eqS k k') (Bool.and (Go.VS.eqS v v') Bool.true))))), (Go.VS.mkSt [])))))))))
            (iteB p
             (some ((Go.Value.bool Bool.false), (Go.VS.mkSt [])))
             (needB (Nat.ble (ByteArray.size (Go.VS.cutS (T p k v) (Go.VS.addI Go.IntKind.i64 (X (T p k v)) (1 : Int)) (Go.VS.lenI (ByteArray.size (T p k v))))) 4194304)
              (iteB (Go.VS.neI (Y (Go.VS.cutS (T p k v) (Go.VS.addI Go.IntKind.i64 (X (T p k v)) (1 : Int)) (Go.VS.lenI (ByteArray.size (T p k v))))) (0 : Int))
               (some ((Go.Value.bool Bool.false), (Go.VS.mkSt [])))
               (iteB (Go.VS.neS (U (Go.VS.cutS (T p k v) (Go.VS.addI Go.IntKind.i64 (X (T p k v)) (1 : Int)) (Go.VS.lenI (ByteArray.size (T p k v))))) k)
                (some ((Go.Value.bool Bool.false), (Go.VS.mkSt [])))
                (iteB p
                 none
                 (some ((Go.Value.bool (Go.VS.eqB (Go.VS.eqS (T p k v) (T p' k' v')) (Bool.and (Go.VS.eqB p p') (Bool.and (Go.VS.eqS k k') (Bool.and (Go.VS.eqS v v') Bool.true))))), (Go.VS.mkSt []))))))))))))))))
    (iteB (A (T p k v))
     (needB (Go.VS.leI (3 : Int) (Go.VS.addI Go.IntKind.i64 (Go.VS.lenI (ByteArray.size (T p k v))) (1 : Int)))
      (iteB (Go.VS.ltI (X (T p k v)) (0 : Int))
       (iteB (Go.VS.notB (Go.VS.eqB p (Go.VS.eqS (T p k v) (ByteArray.mk #[112, 117, 116]))))
        (some ((Go.Value.bool Bool.false), (Go.VS.mkSt [])))
        (iteB (Go.VS.notB p)
         (iteB (Go.VS.neS (T p k v) (ByteArray.mk #[100, 101, 108]))
          (some ((Go.Value.bool Bool.false), (Go.VS.mkSt [])))
          (iteB (Go.VS.notB p)
           (some ((Go.Value.bool Bool.false), (Go.VS.mkSt [])))
           (needB p
            (some ((Go.Value.bool Bool.false), (Go.VS.mkSt []))))))
         (iteB (Go.VS.notB p)
          (some ((Go.Value.bool Bool.false), (Go.VS.mkSt [])))
          (needB p
           (some ((Go.Value.bool Bool.false), (Go.VS.mkSt [])))))))
       (needB (Go.VS.cutI (0 : Int) (Go.VS.addI Go.IntKind.i64 (X (T p k v)) (0 : Int)) (ByteArray.size (T p k v)))
        (needB (Go.VS.cutI (Go.VS.addI Go.IntKind.i64 (X (T p k v)) (1 : Int)) (Go.VS.lenI (ByteArray.size (T p k v))) (ByteArray.size (T p k v)))
         (iteB (Go.VS.ltI (X (Go.VS.cutS (T p k v) (Go.VS.addI Go.IntKind.i64 (X (T p k v)) (1 : Int)) (Go.VS.lenI (ByteArray.size (T p k v))))) (0 : Int))
          (iteB (Go.VS.notB (Go.VS.eqB p (Go.VS.eqS (Go.VS.cutS (T p k v) (0 : Int) (Go.VS.addI Go.IntKind.i64 (X (T p k v)) (0 : Int))) (ByteArray.mk #[112, 117, 116]))))
           (some ((Go.Value.bool Bool.false), (Go.VS.mkSt [])))
           (iteB (Go.VS.notB p)
            (iteB (Go.VS.neS (Go.VS.cutS (T p k v) (0 : Int) (Go.VS.addI Go.IntKind.i64 (X (T p k v)) (0 : Int))) (ByteArray.mk #[100, 101, 108]))
             (some ((Go.Value.bool Bool.false), (Go.VS.mkSt [])))
             (iteB p
              (some ((Go.Value.bool Bool.false), (Go.VS.mkSt [])))
              (needB (Nat.ble (ByteArray.size (Go.VS.cutS (T p k v) (Go.VS.addI Go.IntKind.i64 (X (T p k v)) (1 : Int)) (Go.VS.lenI (ByteArray.size (T p k v))))) 4194304)
               (iteB (Go.VS.neI (Y (Go.VS.cutS (T p k v) (Go.VS.addI Go.IntKind.i64 (X (T p k v)) (1 : Int)) (Go.VS.lenI (ByteArray.size (T p k v))))) (0 : Int))
                (some ((Go.Value.bool Bool.false), (Go.VS.mkSt [])))
                (iteB (Go.VS.neS (U (Go.VS.cutS (T p k v) (Go.VS.addI Go.IntKind.i64 (X (T p k v)) (1 : Int)) (Go.VS.lenI (ByteArray.size (T p k v))))) k)
                 (some ((Go.Value.bool Bool.false), (Go.VS.mkSt [])))
                 (iteB p
                  none
                  (some ((Go.Value.bool Bool.true), (Go.VS.mkSt [])))))))))
            (iteB p
             (some ((Go.Value.bool Bool.false), (Go.VS.mkSt [])))
             (needB (Nat.ble (ByteArray.size (Go.VS.cutS (T p k v) (Go.VS.addI Go.IntKind.i64 (X (T p k v)) (1 : Int)) (Go.VS.lenI (ByteArray.size (T p k v))))) 4194304)
              (iteB (Go.VS.neI (Y (Go.VS.cutS (T p k v) (Go.VS.addI Go.IntKind.i64 (X (T p k v)) (1 : Int)) (Go.VS.lenI (ByteArray.size (T p k v))))) (0 : Int))
               (some ((Go.Value.bool Bool.false), (Go.VS.mkSt [])))
               (iteB (Go.VS.neS (U (Go.VS.cutS (T p k v) (Go.VS.addI Go.IntKind.i64 (X (T p k v)) (1 : Int)) (Go.VS.lenI (ByteArray.size (T p k v))))) k)
                (some ((Go.Value.bool Bool.false), (Go.VS.mkSt [])))
                (iteB p
                 none
                 (some ((Go.Value.bool Bool.true), (Go.VS.mkSt []))))))))))
          (needB (Go.VS.cutI (0 : Int) (Go.VS.addI Go.IntKind.i64 (X (Go.VS.cutS (T p k v) (Go.VS.addI Go.IntKind.i64 (X (T p k v)) (1 : Int)) (Go.VS.lenI (ByteArray.size (T p k v))))) (0 : Int)) (ByteArray.size (Go.VS.cutS (T p k v) (Go.VS.addI Go.IntKind.i64 (X (T p k v)) (1 : Int)) (Go.VS.lenI (ByteArray.size (T p k v))))))
           (needB (Go.VS.cutI (Go.VS.addI Go.IntKind.i64 (X (Go.VS.cutS (T p k v) (Go.VS.addI Go.IntKind.i64 (X (T p k v)) (1 : Int)) (Go.VS.lenI (ByteArray.size (T p k v))))) (1 : Int)) (Go.VS.lenI (ByteArray.size (Go.VS.cutS (T p k v) (Go.VS.addI Go.IntKind.i64 (X (T p k v)) (1 : Int)) (Go.VS.lenI (ByteArray.size (T p k v)))))) (ByteArray.size (Go.VS.cutS (T p k v) (Go.VS.addI Go.IntKind.i64 (X (T p k v)) (1 : Int)) (Go.VS.lenI (ByteArray.size (T p k v))))))
            (iteB (Go.VS.notB (Go.VS.eqB p (Go.VS.eqS (Go.VS.cutS (T p k v) (0 : Int) (Go.VS.addI Go.IntKind.i64 (X (T p k v)) (0 : Int))) (ByteArray.mk #[112, 117, 116]))))
             (some ((Go.Value.bool Bool.false), (Go.VS.mkSt [])))
             (iteB (Go.VS.notB p)
              (iteB (Go.VS.neS (Go.VS.cutS (T p k v) (0 : Int) (Go.VS.addI Go.IntKind.i64 (X (T p k v)) (0 : Int))) (ByteArray.mk #[100, 101, 108]))
               (some ((Go.Value.bool Bool.false), (Go.VS.mkSt [])))
               (iteB (Go.VS.notB p)
                (some ((Go.Value.bool Bool.false), (Go.VS.mkSt [])))
                (needB (Nat.ble (ByteArray.size (Go.VS.cutS (Go.VS.cutS (T p k v) (Go.VS.addI Go.IntKind.i64 (X (T p k v)) (1 : Int)) (Go.VS.lenI (ByteArray.size (T p k v)))) (0 : Int) (Go.VS.addI Go.IntKind.i64 (X (Go.VS.cutS (T p k v) (Go.VS.addI Go.IntKind.i64 (X (T p k v)) (1 : Int)) (Go.VS.lenI (ByteArray.size (T p k v))))) (0 : Int)))) 4194304)
                 (iteB (Go.VS.neI (Y (Go.VS.cutS (Go.VS.cutS (T p k v) (Go.VS.addI Go.IntKind.i64 (X (T p k v)) (1 : Int)) (Go.VS.lenI (ByteArray.size (T p k v)))) (0 : Int) (Go.VS.addI Go.IntKind.i64 (X (Go.VS.cutS (T p k v) (Go.VS.addI Go.IntKind.i64 (X (T p k v)) (1 : Int)) (Go.VS.lenI (ByteArray.size (T p k v))))) (0 : Int)))) (0 : Int))
                  (some ((Go.Value.bool Bool.false), (Go.VS.mkSt [])))
                  (iteB (Go.VS.neS (U (Go.VS.cutS (Go.VS.cutS (T p k v) (Go.VS.addI Go.IntKind.i64 (X (T p k v)) (1 : Int)) (Go.VS.lenI (ByteArray.size (T p k v)))) (0 : Int) (Go.VS.addI Go.IntKind.i64 (X (Go.VS.cutS (T p k v) (Go.VS.addI Go.IntKind.i64 (X (T p k v)) (1 : Int)) (Go.VS.lenI (ByteArray.size (T p k v))))) (0 : Int)))) k)
                   (some ((Go.Value.bool Bool.false), (Go.VS.mkSt [])))
                   (iteB p
                    (needB (Nat.ble (ByteArray.size (Go.VS.cutS (Go.VS.cutS (T p k v) (Go.VS.addI Go.IntKind.i64 (X (T p k v)) (1 : Int)) (Go.VS.lenI (ByteArray.size (T p k v)))) (Go.VS.addI Go.IntKind.i64 (X (Go.VS.cutS (T p k v) (Go.VS.addI Go.IntKind.i64 (X (T p k v)) (1 : Int)) (Go.VS.lenI (ByteArray.size (T p k v))))) (1 : Int)) (Go.VS.lenI (ByteArray.size (Go.VS.cutS (T p k v) (Go.VS.addI Go.IntKind.i64 (X (T p k v)) (1 : Int)) (Go.VS.lenI (ByteArray.size (T p k v)))))))) 4194304)
                     (iteB (Go.VS.neI (Y (Go.VS.cutS (Go.VS.cutS (T p k v) (Go.VS.addI Go.IntKind.i64 (X (T p k v)) (1 : Int)) (Go.VS.lenI (ByteArray.size (T p k v)))) (Go.VS.addI Go.IntKind.i64 (X (Go.VS.cutS (T p k v) (Go.VS.addI Go.IntKind.i64 (X (T p k v)) (1 : Int)) (Go.VS.lenI (ByteArray.size (T p k v))))) (1 : Int)) (Go.VS.lenI (ByteArray.size (Go.VS.cutS (T p k v) (Go.VS.addI Go.IntKind.i64 (X (T p k v)) (1 : Int)) (Go.VS.lenI (ByteArray.size (T p k v)))))))) (0 : Int))
                      (some ((Go.Value.bool Bool.false), (Go.VS.mkSt [])))
                      (iteB (Go.VS.neS (U (Go.VS.cutS (Go.VS.cutS (T p k v) (Go.VS.addI Go.IntKind.i64 (X (T p k v)) (1 : Int)) (Go.VS.lenI (ByteArray.size (T p k v)))) (Go.VS.addI Go.IntKind.i64 (X (Go.VS.cutS (T p k v) (Go.VS.addI Go.IntKind.i64 (X (T p k v)) (1 : Int)) (Go.VS.lenI (ByteArray.size (T p k v))))) (1 : Int)) (Go.VS.lenI (ByteArray.size (Go.VS.cutS (T p k v) (Go.VS.addI Go.IntKind.i64 (X (T p k v)) (1 : Int)) (Go.VS.lenI (ByteArray.size (T p k v)))))))) v)
                       (some ((Go.Value.bool Bool.false), (Go.VS.mkSt [])))
                       (some ((Go.Value.bool Bool.true), (Go.VS.mkSt []))))))
                    (some ((Go.Value.bool Bool.true), (Go.VS.mkSt [])))))))))
              (iteB (Go.VS.notB p)
               (some ((Go.Value.bool Bool.false), (Go.VS.mkSt [])))
               (needB (Nat.ble (ByteArray.size (Go.VS.cutS (Go.VS.cutS (T p k v) (Go.VS.addI Go.IntKind.i64 (X (T p k v)) (1 : Int)) (Go.VS.lenI (ByteArray.size (T p k v)))) (0 : Int) (Go.VS.addI Go.IntKind.i64 (X (Go.VS.cutS (T p k v) (Go.VS.addI Go.IntKind.i64 (X (T p k v)) (1 : Int)) (Go.VS.lenI (ByteArray.size (T p k v))))) (0 : Int)))) 4194304)
                (iteB (Go.VS.neI (Y (Go.VS.cutS (Go.VS.cutS (T p k v) (Go.VS.addI Go.IntKind.i64 (X (T p k v)) (1 : Int)) (Go.VS.lenI (ByteArray.size (T p k v)))) (0 : Int) (Go.VS.addI Go.IntKind.i64 (X (Go.VS.cutS (T p k v) (Go.VS.addI Go.IntKind.i64 (X (T p k v)) (1 : Int)) (Go.VS.lenI (ByteArray.size (T p k v))))) (0 : Int)))) (0 : Int))
                 (some ((Go.Value.bool Bool.false), (Go.VS.mkSt [])))
                 (iteB (Go.VS.neS (U (Go.VS.cutS (Go.VS.cutS (T p k v) (Go.VS.addI Go.IntKind.i64 (X (T p k v)) (1 : Int)) (Go.VS.lenI (ByteArray.size (T p k v)))) (0 : Int) (Go.VS.addI Go.IntKind.i64 (X (Go.VS.cutS (T p k v) (Go.VS.addI Go.IntKind.i64 (X (T p k v)) (1 : Int)) (Go.VS.lenI (ByteArray.size (T p k v))))) (0 : Int)))) k)
                  (some ((Go.Value.bool Bool.false), (Go.VS.mkSt [])))
                  (iteB p
                   (needB (Nat.ble (ByteArray.size (Go.VS.cutS (Go.VS.cutS (T p k v) (Go.VS.addI Go.IntKind.i64 (X (T p k v)) (1 : Int)) (Go.VS.lenI (ByteArray.size (T p k v)))) (Go.VS.addI Go.IntKind.i64 (X (Go.VS.cutS (T p k v) (Go.VS.addI Go.IntKind.i64 (X (T p k v)) (1 : Int)) (Go.VS.lenI (ByteArray.size (T p k v))))) (1 : Int)) (Go.VS.lenI (ByteArray.size (Go.VS.cutS (T p k v) (Go.VS.addI Go.IntKind.i64 (X (T p k v)) (1 : Int)) (Go.VS.lenI (ByteArray.size (T p k v)))))))) 4194304)
                    (iteB (Go.VS.neI (Y (Go.VS.cutS (Go.VS.cutS (T p k v) (Go.VS.addI Go.IntKind.i64 (X (T p k v)) (1 : Int)) (Go.VS.lenI (ByteArray.size (T p k v)))) (Go.VS.addI Go.IntKind.i64 (X (Go.VS.cutS (T p k v) (Go.VS.addI Go.IntKind.i64 (X (T p k v)) (1 : Int)) (Go.VS.lenI (ByteArray.size (T p k v))))) (1 : Int)) (Go.VS.lenI (ByteArray.size (Go.VS.cutS (T p k v) (Go.VS.addI Go.IntKind.i64 (X (T p k v)) (1 : Int)) (Go.VS.lenI (ByteArray.size (T p k v)))))))) (0 : Int))
                     (some ((Go.Value.bool Bool.false), (Go.VS.mkSt [])))
                     (iteB (Go.VS.neS (U (Go.VS.cutS (Go.VS.cutS (T p k v) (Go.VS.addI Go.IntKind.i64 (X (T p k v)) (1 : Int)) (Go.VS.lenI (ByteArray.size (T p k v)))) (Go.VS.addI Go.IntKind.i64 (X (Go.VS.cutS (T p k v) (Go.VS.addI Go.IntKind.i64 (X (T p k v)) (1 : Int)) (Go.VS.lenI (ByteArray.size (T p k v))))) (1 : Int)) (Go.VS.lenI (ByteArray.size (Go.VS.cutS (T p k v) (Go.VS.addI Go.IntKind.i64 (X (T p k v)) (1 : Int)) (Go.VS.lenI (ByteArray.size (T p k v)))))))) v)
                      (some ((Go.Value.bool Bool.false), (Go.VS.mkSt [])))
                      (some ((Go.Value.bool Bool.true), (Go.VS.mkSt []))))))
                   (some ((Go.Value.bool Bool.true), (Go.VS.mkSt [])))))))))))))))))
     (needB (B (T p k v))
      (needB (Go.VS.leI (2 : Int) (Go.VS.addI Go.IntKind.i64 (Go.VS.lenI (ByteArray.size (T p k v))) (1 : Int)))
       (iteB (Go.VS.ltI (X (T p k v)) (0 : Int))
        (iteB (Go.VS.notB (Go.VS.eqB p (Go.VS.eqS (T p k v) (ByteArray.mk #[112, 117, 116]))))
         (some ((Go.Value.bool Bool.false), (Go.VS.mkSt [])))
         (iteB (Go.VS.notB p)
          (iteB (Go.VS.neS (T p k v) (ByteArray.mk #[100, 101, 108]))
           (some ((Go.Value.bool Bool.false), (Go.VS.mkSt [])))
           (iteB (Go.VS.notB p)
            (some ((Go.Value.bool Bool.false), (Go.VS.mkSt [])))
            (needB p
             (some ((Go.Value.bool Bool.false), (Go.VS.mkSt []))))))
          (iteB (Go.VS.notB p)
           (some ((Go.Value.bool Bool.false), (Go.VS.mkSt [])))
           (needB p
            (some ((Go.Value.bool Bool.false), (Go.VS.mkSt [])))))))
        (needB (Go.VS.cutI (0 : Int) (Go.VS.addI Go.IntKind.i64 (X (T p k v)) (0 : Int)) (ByteArray.size (T p k v)))
         (needB (Go.VS.cutI (Go.VS.addI Go.IntKind.i64 (X (T p k v)) (1 : Int)) (Go.VS.lenI (ByteArray.size (T p k v))) (ByteArray.size (T p k v)))
          (iteB (Go.VS.notB (Go.VS.eqB p (Go.VS.eqS (Go.VS.cutS (T p k v) (0 : Int) (Go.VS.addI Go.IntKind.i64 (X (T p k v)) (0 : Int))) (ByteArray.mk #[112, 117, 116]))))
           (some ((Go.Value.bool Bool.false), (Go.VS.mkSt [])))
           (iteB (Go.VS.notB p)
            (iteB (Go.VS.neS (Go.VS.cutS (T p k v) (0 : Int) (Go.VS.addI Go.IntKind.i64 (X (T p k v)) (0 : Int))) (ByteArray.mk #[100, 101, 108]))
             (some ((Go.Value.bool Bool.false), (Go.VS.mkSt [])))
             (iteB p
              (some ((Go.Value.bool Bool.false), (Go.VS.mkSt [])))
              (needB (Nat.ble (ByteArray.size (Go.VS.cutS (T p k v) (Go.VS.addI Go.IntKind.i64 (X (T p k v)) (1 : Int)) (Go.VS.lenI (ByteArray.size (T p k v))))) 4194304)
               (iteB (Go.VS.neI (Y (Go.VS.cutS (T p k v) (Go.VS.addI Go.IntKind.i64 (X (T p k v)) (1 : Int)) (Go.VS.lenI (ByteArray.size (T p k v))))) (0 : Int))
                (some ((Go.Value.bool Bool.false), (Go.VS.mkSt [])))
                (iteB (Go.VS.neS (U (Go.VS.cutS (T p k v) (Go.VS.addI Go.IntKind.i64 (X (T p k v)) (1 : Int)) (Go.VS.lenI (ByteArray.size (T p k v))))) k)
                 (some ((Go.Value.bool Bool.false), (Go.VS.mkSt [])))
                 (iteB p
                  none
                  (some ((Go.Value.bool Bool.true), (Go.VS.mkSt [])))))))))
            (iteB p
             (some ((Go.Value.bool Bool.false), (Go.VS.mkSt [])))
             (needB (Nat.ble (ByteArray.size (Go.VS.cutS (T p k v) (Go.VS.addI Go.IntKind.i64 (X (T p k v)) (1 : Int)) (Go.VS.lenI (ByteArray.size (T p k v))))) 4194304)
              (iteB (Go.VS.neI (Y (Go.VS.cutS (T p k v) (Go.VS.addI Go.IntKind.i64 (X (T p k v)) (1 : Int)) (Go.VS.lenI (ByteArray.size (T p k v))))) (0 : Int))
               (some ((Go.Value.bool Bool.false), (Go.VS.mkSt [])))
               (iteB (Go.VS.neS (U (Go.VS.cutS (T p k v) (Go.VS.addI Go.IntKind.i64 (X (T p k v)) (1 : Int)) (Go.VS.lenI (ByteArray.size (T p k v))))) k)
                (some ((Go.Value.bool Bool.false), (Go.VS.mkSt [])))
                (iteB p
                 none
                 (some ((Go.Value.bool Bool.true), (Go.VS.mkSt [])))))))))))))))))
   (iteB (O p' k' v')
    (iteB (O p k v)
     (some ((Go.Value.bool (Go.VS.eqI (0 : Int) (2 : Int))), (Go.VS.mkSt [])))
     (some ((Go.Value.bool (Go.VS.eqI (2 : Int) (2 : Int))), (Go.VS.mkSt []))))
    (iteB (O p k v)
     (some ((Go.Value.bool (Go.VS.eqI (0 : Int) (2 : Int))), (Go.VS.mkSt [])))
     (some ((Go.Value.bool (Go.VS.eqI (2 : Int) (2 : Int))), (Go.VS.mkSt [])))))) := by kernel_rfl
end Go.VS.Tryd
end

section
namespace Go.VS.Tryd
set_option linter.unusedSimpArgs false
set_option linter.unusedVariables false
set_option maxRecDepth 1000000
open Go.VS
def wordL (s : ByteArray) : List UInt8 := wordM s.data.toList
def textL (p : Bool) (k v : ByteArray) : List UInt8 := bif p then [112, 117, 116] ++ 32 :: (wordL k ++ 32 :: wordL v) else [100, 101, 108] ++ 32 :: wordL k
def textT (p : Bool) (k v : ByteArray) : ByteArray := ⟨⟨textL p k v⟩⟩
theorem catS_eq (a b : List UInt8) : catS ⟨⟨a⟩⟩ ⟨⟨b⟩⟩ = ⟨⟨a ++ b⟩⟩ := by
  unfold catS
  apply ByteArray.ext
  rw [ByteArray.data_append]
  simp
theorem cutS_eq (l : List UInt8) (a b : Int) : cutS ⟨⟨l⟩⟩ a b = ⟨⟨(l.take b.toNat).drop a.toNat⟩⟩ := by
  unfold cutS
  apply ByteArray.ext
  rw [ByteArray.data_extract]
  apply Array.ext'
  rw [Array.toList_extract]
  simp [List.extract, List.drop_take]
theorem idx_app : ∀ {x y : List UInt8}, (∀ b ∈ x, b ≠ 32) → Lib.indexByte (x ++ 32 :: y) 32 = (x.length : Int)
  | [], y, _ => by simp [Lib.indexByte]
  | b :: x, y, h => by
    have ih := idx_app (x := x) (y := y) fun c hc => h c (by simp [hc])
    have hb : b ≠ 32 := h b (by simp)
    simp only [List.cons_append, Lib.indexByte, ih]
    rw [if_neg (by simpa using hb)]
    simp
    try omega
theorem count_none {x : List UInt8} (h : ∀ b ∈ x, b ≠ 32) : x.count 32 = 0 := List.count_eq_zero.2 fun hm => h 32 hm rfl
theorem Text_run (p : Bool) (k v : ByteArray) : callQ P E ctT 50 5 [.agg ⟨[.bool p, .string k, .string v]⟩] = some (match opOk p k v with | true => .tuple ⟨[.string (textT p k v), .int .i64 0]⟩ | false => .tuple ⟨[.string ⟨#[]⟩, .int .i64 2]⟩, mkSt []) := by
  unfold ctT
  rw [dec_Text]
  cases ho : opOk p k v with
  | false => exact ite_f rfl rfl
  | true =>
    refine ite_t rfl ?_
    obtain ⟨h1, h2, h3, h4⟩ := opOk_of ho
    have wk := word_size k
    have wv := word_size v
    have ek : wordT k = ⟨⟨wordL k⟩⟩ := rfl
    have ev : wordT v = ⟨⟨wordL v⟩⟩ := rfl
    have sk : (wordL k).length = (wordT k).size := rfl
    have sv : (wordL v).length = (wordT v).size := rfl
    have fit : ∀ a b : List UInt8, a.length + b.length ≤ 1000 → fitS ⟨⟨a⟩⟩ ⟨⟨b⟩⟩ = true := fun a b h => ble_ok (by show a.length + b.length ≤ _; omega)
    rw [ek, ev]
    simp only [catS_eq, show (ByteArray.mk #[112, 117, 116, 32]) = ⟨⟨[112, 117, 116, 32]⟩⟩ from rfl, show (ByteArray.mk #[100, 101, 108, 32]) = ⟨⟨[100, 101, 108, 32]⟩⟩ from rfl, show (ByteArray.mk #[32]) = ⟨⟨[32]⟩⟩ from rfl]
    cases p <;> simp only [ite_tt, ite_ff, not_tt, not_ff, beqS]
    · simp (disch := first | rfl | (refine fit _ _ ?_; simp only [List.length_append, List.length_cons, List.length_nil] <;> omega) | (refine ble_ok ?_; omega)) only [need_true]
      rfl
    · simp (disch := first | rfl | (refine fit _ _ ?_; simp only [List.length_append, List.length_cons, List.length_nil] <;> omega) | (refine ble_ok ?_; omega)) only [need_true]
      refine leaf_eq ?_ rfl
      simp [textT, textL]
theorem Text_ok : CallOkR P 5 (RTextV opOk textT) := by
  refine ok_of ctT_ok (n := 50) fun args t hR v bs hev => ?_
  unfold RTextV at hR
  split at hR
  · rename_i p k w
    obtain rfl := Option.some.inj hR
    rw [Text_run]
    cases ho : opOk p k w with
    | true =>
      rw [ho] at hev
      simp only [DT.eval, Option.some.injEq, Prod.mk.injEq] at hev
      obtain ⟨rfl, rfl⟩ := hev; rfl
    | false =>
      rw [ho] at hev
      simp only [DT.eval, Option.some.injEq, Prod.mk.injEq] at hev
      obtain ⟨rfl, rfl⟩ := hev; rfl
  · cases hR
noncomputable def ctX : Ct := ctXv opOk textT unT unE count2 count1 idx32
theorem ctX_ok : CtOk P ctX := addCall_ok (addCall_ok (addCall_ok (addCall_ok (addCall_ok (addCall_ok ctS_ok lives_ok) Text_ok) Check_ok) Bytes_ok) index_ok) count_ok
/-! ### one cut -/
theorem cut_facts {x y : List UInt8} (hx : ∀ b ∈ x, b ≠ 32) (hl : x.length + y.length ≤ 1000) : idx32 ⟨⟨x ++ 32 :: y⟩⟩ = (x.length : Int) ∧ addI .i64 (x.length : Int) 0 = x.length ∧ addI .i64 (x.length : Int) 1 = ((x.length + 1 : Nat) : Int) ∧
    cutS ⟨⟨x ++ 32 :: y⟩⟩ 0 x.length = ⟨⟨x⟩⟩ ∧ cutS ⟨⟨x ++ 32 :: y⟩⟩ ((x.length + 1 : Nat) : Int) (lenI (ByteArray.size ⟨⟨x ++ 32 :: y⟩⟩)) = ⟨⟨y⟩⟩ ∧ cutI 0 x.length (ByteArray.size ⟨⟨x ++ 32 :: y⟩⟩) = true ∧ cutI ((x.length + 1 : Nat) : Int) (lenI (ByteArray.size ⟨⟨x ++ 32 :: y⟩⟩)) (ByteArray.size ⟨⟨x ++ 32 :: y⟩⟩) = true ∧ ltI (x.length : Int) 0 = false := by
  have hs : ByteArray.size ⟨⟨x ++ 32 :: y⟩⟩ = x.length + y.length + 1 := by show (x ++ 32 :: y).length = _; simp; omega
  have e : x ++ 32 :: y = (x ++ [32]) ++ y := by simp
  refine ⟨idx_app hx, ?_, ?_, ?_, ?_, ?_, ?_, ?_⟩
  · unfold addI; rw [wrap64 (by omega) (by omega)]; omega
  · unfold addI; rw [wrap64 (by omega) (by omega)]; omega
  · rw [cutS_eq]
    simp
  · rw [cutS_eq, hs]
    unfold lenI
    rw [Int.toNat_natCast, Int.toNat_natCast, List.take_of_length_le (by simp; omega), e, List.drop_left' (by simp)]
  · exact cutI_ok (by omega) (by omega) (by rw [hs]; omega)
  · rw [hs]; exact cutI_ok (by omega) (by unfold lenI; omega) (by unfold lenI; omega)
  · exact decide_eq_false (by omega)
end Go.VS.Tryd
end

section
namespace Go.VS.Tryd
set_option linter.unusedSimpArgs false
set_option linter.unusedVariables false
set_option maxRecDepth 1000000
open Go.VS
theorem engMnOk (ct : Ct) : EngOk P ct (engMn P) := engMn_ok P ct
theorem word_inj {k k' : ByteArray} (h : wordL k = wordL k') : k = k' := by
  have e : wordT k = wordT k' := by show (⟨⟨wordL k⟩⟩ : ByteArray) = ⟨⟨wordL k'⟩⟩; rw [h]
  rw [← (unT_word k).1, ← (unT_word k').1, e]
theorem no32 (k : ByteArray) : ∀ b ∈ wordL k, b ≠ 32 := word_no32 k
theorem text_inj {p p' : Bool} {k v k' v' : ByteArray} (h : opOk p k v = true) (h' : opOk p' k' v' = true) (e : textT p k v = textT p' k' v') : p = p' ∧ k = k' ∧ v = v' := by
  have e : textL p k v = textL p' k' v' := by
    have := congrArg (fun s : ByteArray => s.data.toList) e
    exact this
  obtain ⟨_, _, _, a4⟩ := opOk_of h
  obtain ⟨_, _, _, b4⟩ := opOk_of h'
  cases p <;> cases p'
  · have e : wordL k = wordL k' := by simpa [textL] using e
    refine ⟨rfl, word_inj e, ?_⟩
    have a4 : v.data.toList = [] := by rcases a4 with h | h; cases h; exact h
    have b4 : v'.data.toList = [] := by rcases b4 with h | h; cases h; exact h
    rw [← ba_eq v, ← ba_eq v', a4, b4]
  · simp [textL] at e
  · simp [textL] at e
  · have e : wordL k ++ 32 :: wordL v = wordL k' ++ 32 :: wordL v' := by simpa [textL] using e
    have hl : (wordL k).length = (wordL k').length := by
      have a := idx_app (y := wordL v) (no32 k)
      have b := idx_app (y := wordL v') (no32 k')
      rw [e, b] at a
      omega
    obtain ⟨e1, e2⟩ := List.append_inj e hl
    simp only [List.cons.injEq, true_and] at e2
    exact ⟨rfl, word_inj e1, word_inj e2⟩
/-- Are two ops the same? -/
theorem same_op (p p' : Bool) (k v k' v' : ByteArray) : Bool.and (eqB p p') (Bool.and (eqS k k') (Bool.and (eqS v v') true)) = decide (p = p' ∧ k = k' ∧ v = v') := by
  have hs : ∀ a b : ByteArray, eqS a b = decide (a = b) := by
    intro a b
    rw [eqS_eq]
    cases h : a.data.toList == b.data.toList with
    | true => rw [decide_eq_true (by rw [← ba_eq a, ← ba_eq b, eq_of_beq h])]
    | false => rw [decide_eq_false (by rintro rfl; rw [beq_self_eq_true] at h; cases h)]
  rw [hs, hs]
  have hb : eqB p p' = decide (p = p') := by cases p <;> cases p' <;> rfl
  rw [hb]
  by_cases h1 : p = p' <;> by_cases h2 : k = k' <;> by_cases h3 : v = v' <;> simp [h1, h2, h3]
theorem eqS_dec (a b : ByteArray) : eqS a b = decide (a = b) := by
  rw [eqS_eq]
  cases h : a.data.toList == b.data.toList with
  | true => rw [decide_eq_true (by rw [← ba_eq a, ← ba_eq b, eq_of_beq h])]
  | false => rw [decide_eq_false (by rintro rfl; rw [beq_self_eq_true] at h; cases h)]
theorem last_eq {p p' : Bool} {k v k' v' : ByteArray} (h : opOk p k v = true) (h' : opOk p' k' v' = true) : eqB (eqS (textT p k v) (textT p' k' v')) (Bool.and (eqB p p') (Bool.and (eqS k k') (Bool.and (eqS v v') true))) = true := by
  rw [same_op, eqS_dec]
  have : decide (textT p k v = textT p' k' v') = decide (p = p' ∧ k = k' ∧ v = v') := by
    by_cases e : textT p k v = textT p' k' v'
    · rw [decide_eq_true e, decide_eq_true (text_inj h h' e)]
    · rw [decide_eq_false e, decide_eq_false]
      rintro ⟨rfl, rfl, rfl⟩
      exact e rfl
  rw [this]
  simp [eqB]
theorem opTexts_run (p : Bool) (k v : ByteArray) (p' : Bool) (k' v' : ByteArray) : callQ P (engMn P) ctX 200 3 [.agg ⟨[.bool p, .string k, .string v]⟩, .agg ⟨[.bool p', .string k', .string v']⟩] = some (.bool true, mkSt []) := by
  unfold ctX
  rw [dec_opTexts]
  cases ho : opOk p k v with
  | false => cases ho' : opOk p' k' v' <;> simp only [ite_tt, ite_ff] <;> rfl
  | true =>
    obtain ⟨h1, h2, h3, h4⟩ := opOk_of ho
    have lst := fun h' => last_eq (p' := p') (k' := k') (v' := v') ho h'
    have wk := word_size k
    have wv := word_size v
    have sk : (wordL k).length = (wordT k).size := rfl
    have sv : (wordL v).length = (wordT v).size := rfl
    have uk : unT ⟨⟨wordL k⟩⟩ = k ∧ unE ⟨⟨wordL k⟩⟩ = 0 := unT_word k
    have uv : unT ⟨⟨wordL v⟩⟩ = v ∧ unE ⟨⟨wordL v⟩⟩ = 0 := unT_word v
    have bk : Nat.ble (ByteArray.size ⟨⟨wordL k⟩⟩) 4194304 = true := ble_ok (by show (wordL k).length ≤ _; omega)
    have bv : Nat.ble (ByteArray.size ⟨⟨wordL v⟩⟩) 4194304 = true := ble_ok (by show (wordL v).length ≤ _; omega)
    have nk := no32 k
    have nv := no32 v
    have ck : (wordL k).count 32 = 0 := count_none nk
    have cv : (wordL v).count 32 = 0 := count_none nv
    cases p with
    | true =>
      obtain ⟨x, hx⟩ : ∃ x : List UInt8, x = [112, 117, 116] := ⟨_, rfl⟩
      have hT : textT true k v = ⟨⟨x ++ 32 :: (wordL k ++ 32 :: wordL v)⟩⟩ := by rw [hx]; rfl
      have hw : eqS ⟨⟨x⟩⟩ (ByteArray.mk #[112, 117, 116]) = true := by rw [hx]; exact eqS_self _
      have hxl : x.length = 3 := by rw [hx]; rfl
      have hc2 : count2 ⟨⟨x ++ 32 :: (wordL k ++ 32 :: wordL v)⟩⟩ = true := by
        unfold count2 Lib.countByte
        show ((x ++ 32 :: (wordL k ++ 32 :: wordL v)).count 32 == 2) = true
        rw [List.count_append, List.count_cons_self, List.count_append, List.count_cons_self, ck, cv, hx]; rfl
      have hsz : ByteArray.size ⟨⟨x ++ 32 :: (wordL k ++ 32 :: wordL v)⟩⟩ = x.length + (wordL k).length + (wordL v).length + 2 := by show (x ++ 32 :: (wordL k ++ 32 :: wordL v)).length = _; simp; omega
      have hle : leI 3 (addI .i64 (lenI (ByteArray.size ⟨⟨x ++ 32 :: (wordL k ++ 32 :: wordL v)⟩⟩)) 1) = true := by
        rw [hsz]; unfold leI addI lenI
        rw [wrap64 (by omega) (by omega)]
        exact decide_eq_true (by omega)
      obtain ⟨a1, a2, a3, a4, a5, a6, a7, a8⟩ := cut_facts (x := x) (y := wordL k ++ 32 :: wordL v) (by rw [hx]; decide) (by simp; omega)
      obtain ⟨b1, b2, b3, b4, b5, b6, b7, b8⟩ := cut_facts (x := wordL k) (y := wordL v) nk (by omega)
      rw [hT] at lst
      simp only [hT, hc2, hle, a1, a2, a3, a4, a5, a6, a7, a8, b1, b2, b3, b4, b5, b6, b7, b8, hw, uk, uv, bk, bv, ite_tt, ite_ff, not_tt, not_ff, ne_self, neS_self, eqB_self, need_true]
      cases ho' : opOk p' k' v' with
      | true =>
        have := lst ho'
        simp only [ite_tt, ite_ff, this, need_true]
      | false => simp only [ite_tt, ite_ff, need_true]
    | false =>
      obtain ⟨x, hx⟩ : ∃ x : List UInt8, x = [100, 101, 108] := ⟨_, rfl⟩
      have hT : textT false k v = ⟨⟨x ++ 32 :: wordL k⟩⟩ := by rw [hx]; rfl
      have hw : eqS ⟨⟨x⟩⟩ (ByteArray.mk #[112, 117, 116]) = false := by rw [hx, eqS_eq]; rfl
      have hw2 : neS ⟨⟨x⟩⟩ (ByteArray.mk #[100, 101, 108]) = false := by rw [hx]; exact neS_self _
      have hxl : x.length = 3 := by rw [hx]; rfl
      have hcount : (x ++ 32 :: wordL k).count 32 = 1 := by
        rw [List.count_append, List.count_cons_self, ck, hx]; rfl
      have hc2 : count2 ⟨⟨x ++ 32 :: wordL k⟩⟩ = false := by
        unfold count2 Lib.countByte
        show ((x ++ 32 :: wordL k).count 32 == 2) = false
        rw [hcount]; rfl
      have hc1 : count1 ⟨⟨x ++ 32 :: wordL k⟩⟩ = true := by
        unfold count1 Lib.countByte
        show ((x ++ 32 :: wordL k).count 32 == 1) = true
        rw [hcount]; rfl
      have hsz : ByteArray.size ⟨⟨x ++ 32 :: wordL k⟩⟩ = x.length + (wordL k).length + 1 := by show (x ++ 32 :: wordL k).length = _; simp; omega
      have hle : leI 2 (addI .i64 (lenI (ByteArray.size ⟨⟨x ++ 32 :: wordL k⟩⟩)) 1) = true := by
        rw [hsz]; unfold leI addI lenI
        rw [wrap64 (by omega) (by omega)]
        exact decide_eq_true (by omega)
      obtain ⟨a1, a2, a3, a4, a5, a6, a7, a8⟩ := cut_facts (x := x) (y := wordL k) (by rw [hx]; decide) (by omega)
      have hff : eqB false false = true := rfl
      rw [hT] at lst
      simp only [hT, hc2, hc1, hle, a1, a2, a3, a4, a5, a6, a7, a8, hw, hw2, uk, bk, ite_tt, ite_ff, not_tt, not_ff, ne_self, neS_self, hff, need_true]
      cases ho' : opOk p' k' v' with
      | true =>
        have := lst ho'
        simp only [ite_tt, ite_ff, this, need_true]
      | false => simp only [ite_tt, ite_ff, need_true]
end Go.VS.Tryd
end
