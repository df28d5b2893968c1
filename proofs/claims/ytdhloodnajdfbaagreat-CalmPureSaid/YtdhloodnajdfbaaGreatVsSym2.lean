/- Operations on values of unknown content come to what the plain evaluator comes to. No conditions. -/
import Derived.Test.YtdhloodnajdfbaaGreatVsSym
namespace Go.VS
set_option linter.unusedSimpArgs false
set_option linter.unusedVariables false
section
variable {P : Program}
variable {call : Knot} {s : Trie Value} {st : St} {kv : Value → St → Res} {kd : Deferred → St → Res} {r : Value × St}

theorem byte_at (b : ByteArray) (n : Nat) (h : n < b.size) : b[n]? = some (b.data.toList.getD n 0) := by
  have h1 : b[n]? = some b[n] := by simp [h]
  rw [h1]
  congr 1
  have h2 : n < b.data.toList.length := by simpa using h
  rw [List.getD_eq_getElem?_getD, List.getElem?_eq_getElem h2]
  rfl

theorem s_index_spec {dst type pos after guard} {t : TypeId} {x ix : Operand} (hu : P.underlying t = some .string) (h : s_index x ix call s st kv kd = some r) :
    Hands call kv kd (evOp P (rdF s) ⟨dst, .index t x ix, type, pos, after, guard⟩ st) r := by
  unfold s_index at h
  split at h
  · rename_i b hx
    split at h
    · rename_i k i hi
      obtain ⟨hc, h⟩ := needB_spec h
      simp only [inI, cutI, decide_eq_true_eq] at hc
      have hlt : i.toNat < b.size := by omega
      simp only [evOp, hu, hx, hi, hc.1, if_true, byte_at b _ hlt]
      exact h
    · cases h
  · cases h

theorem s_indexAddr_spec {dst type pos after guard} {t : TypeId} {x ix : Operand} {n : Nat} (hn : sliceElem P t = some n) (h : s_indexAddr n x ix call s st kv kd = some r) :
    Hands call kv kd (evOp P (rdF s) ⟨dst, .indexAddr t x ix, type, pos, after, guard⟩ st) r := by
  unfold sliceElem at hn
  rw [undQ_eq] at hn
  split at hn
  · rename_i e hu
    rw [sizeQ_eq] at hn
    unfold s_indexAddr at h
    split at h
    · rename_i a len cap hx
      split at h
      · rename_i k i hi
        obtain ⟨hc, h⟩ := needB_spec h
        simp only [inI, cutI, decide_eq_true_eq] at hc
        simp only [evOp, hu, hx, hi, hn, hc, and_self, if_true]
        rw [addS_eq] at h
        exact h
      · cases h
    · rename_i tt v hx
      split at h
      · rename_i z hz
        split at h
        · rename_i k i hi
          obtain ⟨hc, h⟩ := needB_spec h
          simp only [inI, cutI, Bool.and_eq_true, decide_eq_true_eq] at hc
          have h1 := Nat.eq_of_beq_eq_true hc.1
          simp only [evOp, hu, hx, hi, hn, hz, h1, hc.2, and_self, if_true]
          exact h
        · cases h
      · cases h
    · cases h
  · cases hn

theorem eta_eq {e : Eta} {v : Value} (h : etaB e v = true) : ∀ (hz : ∀ n, e = .slice n → ∃ z, fzOf v = some z), etaV e v = v ∨ ∃ n, e = .slice n := by
  intro _
  cases e with
  | int k =>
    simp only [etaB, isI] at h
    split at h
    · simp only [decide_eq_true_eq] at h; subst h; exact Or.inl rfl
    · cases h
  | string =>
    simp only [etaB, isS] at h
    split at h
    · exact Or.inl rfl
    · cases h
  | bool =>
    simp only [etaB, isB] at h
    split at h
    · exact Or.inl rfl
    · cases h
  | slice n => exact Or.inr ⟨n, rfl⟩

theorem fzOf_form {v : Value} {z : FzV} (h : fzOf v = some z) : v = mkFz z.sz z.n z.cap z.cells := by
  unfold fzOf at h
  split at h
  · rename_i t n b c
    split at h
    · rename_i ht
      have ht : FZ + 1 ≤ t := Nat.le_of_ble_eq_true ht
      obtain rfl := Option.some.inj h
      unfold mkFz
      have : FZ + (t - FZ) = t := Nat.add_sub_cancel' (Nat.le_of_succ_le ht)
      rw [this]
    · cases h
  · cases h

theorem eta_same {e : Eta} {v : Value} (h : etaB e v = true) : etaV e v = v := by
  cases e with
  | slice n =>
    simp only [etaB, isZ] at h
    split at h
    · rename_i z hz
      have := Nat.eq_of_beq_eq_true h
      simp only [etaV, zN, zB, zC, hz]
      rw [← this]
      exact (fzOf_form hz).symm
    · cases h
  | _ =>
    rcases eta_eq h (fun n e => by cases e) with h | ⟨n, e⟩
    · exact h
    · cases e

theorem nthD_get {c : List Value} {n : Nat} (h : n + 1 ≤ c.length) : c[n]? = some (nthD c n) := by
  unfold nthD
  rw [List.getD_eq_getElem?_getD, List.getElem?_eq_getElem h]
  rfl

theorem take_one {c : List Value} {n : Nat} {v : Value} (h : c[n]? = some v) : (c.drop n).take 1 = [v] := by
  have := (List.getElem?_eq_some_iff.1 h)
  obtain ⟨hl, e⟩ := this
  rw [List.drop_eq_getElem_cons hl, e]
  rfl

theorem s_load1_spec {dst type pos after guard} {t : TypeId} {x : Operand} {e : Eta} (hk : loadK P t = some none) (h : s_load1 e x call s st kv kd = some r) :
    Hands call kv kd (evOp P (rdF s) ⟨dst, .load t x, type, pos, after, guard⟩ st) r := by
  unfold loadK at hk
  rw [undQ_eq, infoQ_eq, isAggQ_eq] at hk
  split at hk
  · rename_i d i hu hi
    have hag : isAggB P t = false := by
      cases hb : isAggB P t with
      | false => rfl
      | true => rw [hb] at hk; cases hk
    unfold s_load1 at h
    split at h
    · rename_i a hx
      obtain ⟨c, e', ex, h1, h2, h3⟩ := cellsF_spec h
      have go : ∀ v, c[a.off]? = some v → kv v st = some r → Hands call kv kd (evOp P (rdF s) ⟨dst, .load t x, type, pos, after, guard⟩ st) r := by
        intro v hv hk
        have hl : a.off + 1 ≤ c.length := (List.getElem?_eq_some_iff.1 hv).1
        have : loadV P st t a = some v := by
          simp only [loadV, hu, hi, hag, Bool.false_eq_true, if_false, cellsAt, h1, h2, Option.isSome_none, hl, if_true, take_one hv]
        simp only [evOp, hx, this]
        exact hk
      cases ex with
      | false =>
        obtain ⟨hc, h3⟩ := needB_spec h3
        simp only [Bool.and_eq_true] at hc
        rw [eta_same hc.2] at h3
        exact go _ (nthD_get (Nat.le_of_ble_eq_true hc.1)) h3
      | true =>
        simp only at h3
        rw [nthF_eq] at h3
        split at h3
        · rename_i v hv
          exact go v hv h3
        · cases h3
    · rename_i tt v hx
      split at h
      · rename_i off c hfp
        obtain ⟨hc, h⟩ := needB_spec h
        simp only [Bool.and_eq_true] at hc
        rw [eta_same hc.2] at h
        simp only [evOp, hx, hfp, loadC, hu, hi, hag, Bool.false_eq_true, if_false, nthD_get (Nat.le_of_ble_eq_true hc.1)]
        exact h
      · cases h
    · cases h
  · cases hk

theorem intK_spec {o : Option Operand} {d : Int} {k : Int → Res} (h : intK s o d k = some r) : (o = none ∧ k d = some r) ∨ ∃ x kk i, o = some x ∧ rdF s x = .int kk i ∧ k i = some r := by
  unfold intK at h
  split at h
  · exact Or.inl ⟨rfl, h⟩
  · split at h
    · exact Or.inr ⟨_, _, _, rfl, ‹_›, h⟩
    · cases h

theorem bound_of {o : Option Operand} {y d : Nat} {i : Int} (h : (o = none ∧ i = d) ∨ ∃ x kk, o = some x ∧ rdF s x = .int kk i) (h1 : 0 ≤ i) (h2 : i ≤ y) : optBound (o.map (rdF s)) y d = some i.toNat := by
  rcases h with ⟨rfl, rfl⟩ | ⟨x, kk, rfl, hx⟩
  · simp [optBound]
  · simp only [Option.map_some, optBound, hx, boundOf, h1, h2, and_self, if_true]

theorem two_spec {lo hi : Option Operand} {dh : Nat} {k : Int → Int → Res} (h : (intK s hi dh fun h => intK s lo 0 fun l => k h l) = some r) :
    ∃ h l : Int, ((hi = none ∧ h = dh) ∨ ∃ x kk, hi = some x ∧ rdF s x = .int kk h) ∧ ((lo = none ∧ l = (0 : Nat)) ∨ ∃ x kk, lo = some x ∧ rdF s x = .int kk l) ∧ k h l = some r := by
  rcases intK_spec h with ⟨e, h⟩ | ⟨x, kk, i, e, hx, h⟩ <;> rcases intK_spec h with ⟨e', h⟩ | ⟨x', kk', i', e', hx', h⟩
  · exact ⟨_, _, Or.inl ⟨e, rfl⟩, Or.inl ⟨e', rfl⟩, h⟩
  · exact ⟨_, _, Or.inl ⟨e, rfl⟩, Or.inr ⟨x', kk', e', hx'⟩, h⟩
  · exact ⟨_, _, Or.inr ⟨x, kk, e, hx⟩, Or.inl ⟨e', rfl⟩, h⟩
  · exact ⟨_, _, Or.inr ⟨x, kk, e, hx⟩, Or.inr ⟨x', kk', e', hx'⟩, h⟩

theorem s_slice_string_spec {dst type pos after guard} {t : TypeId} {x : Operand} {lo hi : Option Operand} (hu : P.underlying t = some .string)
    (h : s_sliceS x lo hi call s st kv kd = some r) : Hands call kv kd (evOp P (rdF s) ⟨dst, .slice t x lo hi none, type, pos, after, guard⟩ st) r := by
  unfold s_sliceS at h
  split at h
  · rename_i b hx
    obtain ⟨h0, l0, hh, hl, h⟩ := two_spec h
    obtain ⟨hc, h⟩ := needB_spec h
    simp only [inI, cutI, decide_eq_true_eq] at hc
    have e1 := bound_of hh (y := b.size) (by omega) (by omega)
    have e2 := bound_of hl (y := h0.toNat) (by omega) (by omega)
    simp only [evOp, hu, hx, Option.map_none, Option.isSome_none, Bool.false_eq_true, if_false, e1, e2]
    exact h
  · cases h

theorem s_slice_spec {dst type pos after guard} {t : TypeId} {x : Operand} {lo hi : Option Operand} {n : Nat} (hn : sliceElem P t = some n) 
    (h : s_slice P ⟨dst, .slice t x lo hi none, type, pos, after, guard⟩ n x lo hi call s st kv kd = some r) : Hands call kv kd (evOp P (rdF s) ⟨dst, .slice t x lo hi none, type, pos, after, guard⟩ st) r := by
  unfold sliceElem at hn
  rw [undQ_eq] at hn
  split at hn
  · rename_i e hu
    rw [sizeQ_eq] at hn
    unfold s_slice at h
    split at h
    · rename_i tt v hx
      split at h
      · rename_i z hz
        obtain ⟨h0, l0, hh, hl, h⟩ := two_spec h
        obtain ⟨hc, h⟩ := needB_spec h
        simp only [inI, cutI, Bool.and_eq_true, decide_eq_true_eq] at hc
        have h1 := Nat.eq_of_beq_eq_true hc.1
        have e1 := bound_of hh (y := z.n) (by omega) (by omega)
        have e2 := bound_of hl (y := h0.toNat) (by omega) (by omega)
        simp only [evOp, hu, hx, hz, hn, h1, if_true, sliceZ, Option.map_none, e1, e2]
        rw [← h1]
        unfold capS at h
        exact h
      · cases h
    · rename_i a len cap hx
      cases hb : Nat.beq cap unk with
      | false => rw [hb] at h; exact slowOp_spec h
      | true =>
        rw [hb] at h
        have hcap := Nat.eq_of_beq_eq_true hb
        obtain ⟨c, e', ex, h1, h2, h3⟩ := cellsF_spec h
        obtain ⟨hc, h3⟩ := needB_spec h3
        simp only [Bool.and_eq_true] at hc
        obtain ⟨hc1, hc2, hc3⟩ := hc
        have hc1 := Nat.le_of_ble_eq_true hc1
        have hc2 := Nat.le_of_ble_eq_true hc2
        have hc3 := Nat.eq_of_beq_eq_true hc3
        obtain ⟨h0, l0, hh, hl, h3⟩ := two_spec h3
        obtain ⟨hd, h3⟩ := needB_spec h3
        simp only [cutI, decide_eq_true_eq] at hd
        have hd : 0 ≤ l0 ∧ l0 ≤ h0 ∧ h0 ≤ (((c.length - a.off) / n : Nat) : Int) := hd
        change @Bool.rec (fun _ => Res) (@Bool.rec (fun _ => Res) (kv (.slice (some a) 0 (unk + l0.toNat)) st) (kv (.slice (some a) 0 unk) st) (Nat.beq l0.toNat 0)) (kv (.slice (some (addS a (l0.toNat * n))) (h0.toNat - l0.toNat) unk) st) (Nat.ble (l0.toNat + 1) ((c.length - a.off) / n)) = some r at h3
        have hroom : room P st a n = some ((c.length - a.off) / n) := by
          unfold room
          rw [h2]
          simp only
          rw [if_neg (by simp; omega), if_pos hc1]
        have e1 := bound_of hh (y := (c.length - a.off) / n) (by omega) (by omega)
        have e2 := bound_of hl (y := h0.toNat) (by omega) (by omega)
        have hs : sliceS P st n a len cap (lo.map (rdF s)) (hi.map (rdF s)) none = some (if l0.toNat < (c.length - a.off) / n then .slice (some (a.add (l0.toNat * n))) (h0.toNat - l0.toNat) unk else if l0.toNat = 0 then .slice (some a) 0 unk else .slice (some a) 0 (unk + l0.toNat)) := by
          unfold sliceS
          rw [if_neg (by omega), if_pos hcap, hroom]
          simp only [e1, e2]
          split
          · rfl
          · rename_i hlt
            rw [if_neg (by simp; omega)]
            split <;> rfl
        simp only [evOp, hu, hx, hn, Option.map_none, hs]
        cases hb1 : Nat.ble (l0.toNat + 1) ((c.length - a.off) / n) with
        | true =>
          rw [hb1] at h3
          rw [if_pos (show l0.toNat < (c.length - a.off) / n from Nat.le_of_ble_eq_true hb1)]
          rw [addS_eq] at h3
          exact h3
        | false =>
          rw [hb1] at h3
          have hnl : ¬ l0.toNat < (c.length - a.off) / n := fun k => by rw [Nat.ble_eq_true_of_le k] at hb1; cases hb1
          rw [if_neg hnl]
          cases hb2 : Nat.beq l0.toNat 0 with
          | true => rw [hb2] at h3; rw [if_pos (Nat.eq_of_beq_eq_true hb2)]; exact h3
          | false => rw [hb2] at h3; rw [if_neg (Nat.ne_of_beq_eq_false hb2)]; exact h3
    · exact slowOp_spec h
  · cases hn

theorem s_toString_spec {dst type pos after guard} {sT dT : TypeId} {x : Operand} (hk : cvK P sT dT = 1) (h : s_toString P ⟨dst, .convert sT dT x, type, pos, after, guard⟩ x call s st kv kd = some r) :
    Hands call kv kd (evOp P (rdF s) ⟨dst, .convert sT dT x, type, pos, after, guard⟩ st) r := by
  unfold cvK at hk
  rw [undQ_eq, undQ_eq] at hk
  split at hk
  · rename_i e hs hd
    rw [undQ_eq] at hk
    split at hk
    · rename_i he
      unfold s_toString at h
      split at h
      · rename_i a n cap hx
        obtain ⟨c, e', ex, h1, h2, h3⟩ := cellsF_spec h
        obtain ⟨hc, h3⟩ := needB_spec h3
        simp only [Bool.and_eq_true] at hc
        have hle : a.off + n ≤ c.length := Nat.le_of_ble_eq_true hc.1
        simp only [evOp, hs, hd, hx, he, cellsAt, h1, h2, Option.isSome_none, Bool.false_eq_true, if_false, hle, if_true]
        have hb : bytesOf ((c.drop a.off).take n) = some (((c.drop a.off).take n).map byteOf) := bytesOf_all hc.2
        rw [hb]
        exact h3
      · rename_i tt v hx
        split at h
        · rename_i z hz
          obtain ⟨hc, h⟩ := needB_spec h
          simp only [Bool.and_eq_true] at hc
          have h1 := Nat.eq_of_beq_eq_true hc.1
          simp only [evOp, hs, hd, hx, he, hz, h1, if_true, bytesOf_all hc.2]
          exact h
        · cases h
      · exact slowOp_spec h
    · cases hk
  · split at hk <;> cases hk
  · cases hk

theorem s_toBytes_spec {dst type pos after guard} {sT dT : TypeId} {x : Operand} (hk : cvK P sT dT = 2) (h : s_toBytes (elemQ P dT) x call s st kv kd = some r) :
    Hands call kv kd (evOp P (rdF s) ⟨dst, .convert sT dT x, type, pos, after, guard⟩ st) r := by
  unfold cvK at hk
  unfold elemQ at h
  rw [undQ_eq, undQ_eq] at hk
  split at hk
  · split at hk <;> cases hk
  · rename_i e hs hd
    rw [undQ_eq, sizeQ_eq] at hk
    split at hk
    · rename_i he hn
      rw [undQ_eq, hd] at h
      simp only at h
      unfold s_toBytes at h
      split at h
      · rename_i b hx
        obtain ⟨hc, h⟩ := needB_spec h
        have hc := Nat.le_of_ble_eq_true hc
        have h := newF_spec h
        have h1 : esz P e = 1 := by
          unfold sizeOfT at hn
          unfold esz
          rw [hn]; rfl
        simp only [evOp, hs, hd, hx, he, h1, newRow]
        rw [if_neg (by simp; omega)]
        exact h
      · cases h
    · cases hk
  · cases hk

theorem bin_of {dst type pos after guard} {op : BinOp} {t yt : TypeId} {x y : Operand} {vx vy v : Value} (hx : rdF s x = vx) (hy : rdF s y = vy) (f1 : flat vx = true) (f2 : flat vy = true) (f3 : flat v = true)
    (hp : pureRun P (do eqGuard op t x y vx vy; binOp op t vx vy) = some v) (h : kv v st = some r) : Hands call kv kd (evOp P (rdF s) ⟨dst, .binOp op t x y yt, type, pos, after, guard⟩ st) r := by
  simp only [evOp, hx, hy, f1, f2, Bool.and_self, if_true, hp, f3]
  exact h

theorem s_shl_spec {dst type pos after guard} {t yt : TypeId} {x y : Operand} (h : s_shl P ⟨dst, .binOp .shl t x y yt, type, pos, after, guard⟩ x y call s st kv kd = some r) :
    Hands call kv kd (evOp P (rdF s) ⟨dst, .binOp .shl t x y yt, type, pos, after, guard⟩ st) r := by
  unfold s_shl at h
  split at h
  · rename_i k a k' b hx hy
    obtain ⟨hc, h⟩ := needB_spec h
    simp only [posI, decide_eq_true_eq] at hc
    have hb : ¬ b < 0 := by omega
    refine bin_of hx hy rfl rfl rfl ?_ h
    simp only [binOp, Op.shift, if_neg hb]
    rfl
  · exact slowOp_spec h
theorem s_shr_spec {dst type pos after guard} {t yt : TypeId} {x y : Operand} (h : s_shr P ⟨dst, .binOp .shr t x y yt, type, pos, after, guard⟩ x y call s st kv kd = some r) :
    Hands call kv kd (evOp P (rdF s) ⟨dst, .binOp .shr t x y yt, type, pos, after, guard⟩ st) r := by
  unfold s_shr at h
  split at h
  · rename_i k a k' b hx hy
    obtain ⟨hc, h⟩ := needB_spec h
    simp only [posI, decide_eq_true_eq] at hc
    have hb : ¬ b < 0 := by omega
    refine bin_of hx hy rfl rfl rfl ?_ h
    simp only [binOp, Op.shift, if_neg hb]
    rfl
  · exact slowOp_spec h
theorem s_quo_spec {dst type pos after guard} {t yt : TypeId} {x y : Operand} (h : s_quo P ⟨dst, .binOp .quo t x y yt, type, pos, after, guard⟩ x y call s st kv kd = some r) :
    Hands call kv kd (evOp P (rdF s) ⟨dst, .binOp .quo t x y yt, type, pos, after, guard⟩ st) r := by
  unfold s_quo at h
  split at h
  · rename_i k a k' b hx hy
    obtain ⟨hc, h'⟩ := needB_spec h
    simp only [nonzI, Bool.and_eq_true, decide_eq_true_eq, Bool.not_eq_true', decide_eq_false_iff_not] at hc
    obtain ⟨rfl, hb⟩ := hc
    refine bin_of hx hy rfl rfl rfl ?_ h'
    simp only [binOp, Op.intDiv, if_neg hb, ne_eq, not_true_eq_false, if_false]
    rfl
  · exact slowOp_spec h
theorem s_rem_spec {dst type pos after guard} {t yt : TypeId} {x y : Operand} (h : s_rem P ⟨dst, .binOp .rem t x y yt, type, pos, after, guard⟩ x y call s st kv kd = some r) :
    Hands call kv kd (evOp P (rdF s) ⟨dst, .binOp .rem t x y yt, type, pos, after, guard⟩ st) r := by
  unfold s_rem at h
  split at h
  · rename_i k a k' b hx hy
    obtain ⟨hc, h'⟩ := needB_spec h
    simp only [nonzI, Bool.and_eq_true, decide_eq_true_eq, Bool.not_eq_true', decide_eq_false_iff_not] at hc
    obtain ⟨rfl, hb⟩ := hc
    refine bin_of hx hy rfl rfl rfl ?_ h'
    simp only [binOp, Op.intDiv, if_neg hb, ne_eq, not_true_eq_false, if_false]
    rfl
  · exact slowOp_spec h
theorem s_add_spec {dst type pos after guard} {t yt : TypeId} {x y : Operand} (h : s_add P ⟨dst, .binOp .add t x y yt, type, pos, after, guard⟩ x y call s st kv kd = some r) :
    Hands call kv kd (evOp P (rdF s) ⟨dst, .binOp .add t x y yt, type, pos, after, guard⟩ st) r := by
  unfold s_add at h
  split at h
  · rename_i a b hx hy
    obtain ⟨hc, h⟩ := needB_spec h
    simp only [fitS, decide_eq_true_eq] at hc
    refine bin_of hx hy rfl rfl rfl ?_ h
    simp only [binOp, Op.stringOp]
    rw [if_neg (by
      have : IntKind.i64.max = 9223372036854775807 := by decide
      rw [this]; omega)]
    rfl
  · rename_i k a k' b hx hy
    obtain ⟨hc, h'⟩ := needB_spec h
    simp only [decide_eq_true_eq] at hc
    subst hc
    refine bin_of hx hy rfl rfl rfl ?_ h'
    simp only [binOp, Op.intArith, ne_eq, not_true_eq_false, if_false]
    rfl
  · exact slowOp_spec h
theorem s_int_spec {dst type pos after guard} {op : BinOp} {t yt : TypeId} {x y : Operand} {f : IntKind → Int → Int → Int} (hf : ∀ k a b, pureRun P (do eqGuard op t x y (.int k a) (.int k b); binOp op t (.int k a) (.int k b)) = some (.int k (f k a b)))
    (h : s_int P ⟨dst, .binOp op t x y yt, type, pos, after, guard⟩ f x y call s st kv kd = some r) : Hands call kv kd (evOp P (rdF s) ⟨dst, .binOp op t x y yt, type, pos, after, guard⟩ st) r := by
  unfold s_int at h
  split at h
  · rename_i k a k' b hx hy
    obtain ⟨hc, h'⟩ := needB_spec h
    simp only [decide_eq_true_eq] at hc
    subst hc
    exact bin_of hx hy rfl rfl rfl (hf _ _ _) h'
  · exact slowOp_spec h
theorem s_cmp_spec {dst type pos after guard} {op : BinOp} {t yt : TypeId} {x y : Operand} {f : Int → Int → Bool} {g : ByteArray → ByteArray → Bool} {str : Bool}
    (hf : ∀ k a b, pureRun P (do eqGuard op t x y (.int k a) (.int k b); binOp op t (.int k a) (.int k b)) = some (.bool (f a b)))
    (hg : str = true → ∀ a b, pureRun P (do eqGuard op t x y (.string a) (.string b); binOp op t (.string a) (.string b)) = some (.bool (g a b)))
    (h : s_cmp P ⟨dst, .binOp op t x y yt, type, pos, after, guard⟩ f g str x y call s st kv kd = some r) : Hands call kv kd (evOp P (rdF s) ⟨dst, .binOp op t x y yt, type, pos, after, guard⟩ st) r := by
  unfold s_cmp at h
  split at h
  · rename_i k a k' b hx hy
    obtain ⟨hc, h'⟩ := needB_spec h
    simp only [decide_eq_true_eq] at hc
    subst hc
    exact bin_of hx hy rfl rfl rfl (hf _ _ _) h'
  · rename_i a b hx hy
    cases str with
    | true => exact bin_of hx hy rfl rfl rfl (hg rfl _ _) h
    | false => exact slowOp_spec h
  · exact slowOp_spec h
theorem pureRun_bind {α γ : Type} : ∀ (s : Sem α) (f : α → Sem γ), pureRun P (s >>= f) = (pureRun P s).bind fun a => pureRun P (f a)
  | .pure a, f => rfl
  | .program k, f => pureRun_bind (k P) f
  | .mark m k, f => pureRun_bind k f
  | .load .., _ => rfl
  | .store .., _ => rfl
  | .new .., _ => rfl
  | .shape .., _ => rfl
  | .freeze .., _ => rfl
  | .frozen .., _ => rfl
  | .getObj .., _ => rfl
  | .setObj .., _ => rfl
  | .choose .., _ => rfl
  | .sys .., _ => rfl
  | .halt .., _ => rfl
theorem pureRun_pure {α : Type} (a : α) : pureRun P (pure a) = some a := rfl
theorem pureRun_program : pureRun P program = some P := rfl
theorem pureRun_underlying {t : TypeId} {d : TypeDesc} (h : P.underlying t = some d) : pureRun P (underlying t) = some d := by
  unfold underlying
  rw [pureRun_bind, pureRun_program]
  simp only [Option.bind_some, h]
  rfl
theorem pureRun_part {t : TypeId} {e : Eta} (h : etaOf P t = some e) {xs : List Value} {i : Nat} {x : Value} (hx : xs[i]? = some x) : pureRun P (part t ⟨xs⟩ i) = some x := by
  unfold etaOf at h
  simp only [undQ_eq] at h
  have hd : ∃ d, P.underlying t = some d ∧ (∀ fs, d ≠ .struct fs) ∧ ∀ n e, d ≠ .array n e := by
    split at h
    · rename_i k hu; exact ⟨_, hu, fun _ h => (by cases h), fun _ _ h => (by cases h)⟩
    · rename_i hu; exact ⟨_, hu, fun _ h => (by cases h), fun _ _ h => (by cases h)⟩
    · rename_i hu; exact ⟨_, hu, fun _ h => (by cases h), fun _ _ h => (by cases h)⟩
    · rename_i e hu; exact ⟨_, hu, fun _ h => (by cases h), fun _ _ h => (by cases h)⟩
    · cases h
  obtain ⟨d, hu, h1, h2⟩ := hd
  have hagg : pureRun P (isAgg t) = some false := by
    unfold isAgg
    rw [pureRun_bind, pureRun_underlying hu]
    simp only [Option.bind_some]
    cases d <;> first
      | rfl
      | exact absurd rfl (h1 _)
      | exact absurd rfl (h2 _ _)
  unfold part
  rw [pureRun_bind, hagg]
  have hx' : (⟨xs⟩ : Array Value)[i]? = some x := by simpa using hx
  simp only [Option.bind_some, Bool.false_eq_true, if_false, hx']
  rfl
theorem eqE_spec {e : Eta} {x y : Value} {k : Bool → Res} {f : Field} {d : Nat} (hf : etaOf P f.type = some e) (h : eqE e x y k = some r) : ∃ b, pureRun P (Op.equalIn (d + 1) f.type x y) = some b ∧ k b = some r := by
  unfold etaOf at hf
  simp only [undQ_eq] at hf
  unfold eqE at h
  split at hf
  · rename_i kd hu
    obtain rfl := Option.some.inj hf
    simp only at h
    split at h
    · rename_i a m b n
      obtain ⟨hc, h'⟩ := needB_spec h
      simp only [decide_eq_true_eq] at hc
      subst hc
      refine ⟨_, ?_, h'⟩
      simp only [Op.equalIn, pureRun_bind, pureRun_underlying hu, Option.bind_some, if_true]
      rfl
    · cases h
  · rename_i hu
    obtain rfl := Option.some.inj hf
    simp only at h
    split at h
    · rename_i a b
      refine ⟨_, ?_, h⟩
      simp only [Op.equalIn, pureRun_bind, pureRun_underlying hu, Option.bind_some]
      rw [show eqS a b = (a == b) from (beq_toListBytes a b).symm]
      rfl
    · cases h
  · rename_i hu
    obtain rfl := Option.some.inj hf
    simp only at h
    split at h
    · rename_i a b
      refine ⟨_, ?_, h⟩
      simp only [Op.equalIn, pureRun_bind, pureRun_underlying hu, Option.bind_some]
      rfl
    · cases h
  · split at hf
    · obtain rfl := Option.some.inj hf
      cases h
    · cases hf
  · cases hf
theorem eqC_spec {d : Nat} : ∀ {fs : List Field} {i : Nat} {es : List Eta}, etaFs P fs i = some es → ∀ {xs ys : List Value} {k : Bool → Res} {r}, eqC es (xs.drop i) (ys.drop i) k = some r → ∃ b, pureRun P (Op.eqFields (d + 1) ⟨xs⟩ ⟨ys⟩ fs) = some b ∧ k b = some r
  | [], i, es, h, xs, ys, k, r, hk => by
    obtain rfl := Option.some.inj (h : some [] = some es)
    exact ⟨true, rfl, hk⟩
  | f :: fs, i, es, h, xs, ys, k, r, hk => by
    change (match and (Nat.beq f.offset i) (f.name != "_"), etaOf P f.type, etaFs P fs (i + 1) with
      | true, some (.slice _), _ => none
      | true, some e, some es => some (e :: es)
      | _, _, _ => none) = some es at h
    cases hb : and (Nat.beq f.offset i) (f.name != "_") with
    | false => rw [hb] at h; cases h
    | true =>
    cases he : etaOf P f.type with
    | none => rw [hb, he] at h; cases h
    | some e =>
    cases hes : etaFs P fs (i + 1) with
    | none => rw [hb, he, hes] at h; cases e <;> cases h
    | some es' =>
      rw [hb, he, hes] at h
      have h : e :: es' = es := by cases e <;> first | exact Option.some.inj h | cases h
      subst h
      simp only [Bool.and_eq_true, bne_iff_ne, ne_eq] at hb
      obtain ⟨hoff, hname⟩ := hb
      have hoff := Nat.eq_of_beq_eq_true hoff
      change (match xs.drop i with
        | x :: xs' => match ys.drop i with
          | y :: ys' => eqE e x y fun b => eqC es' xs' ys' fun r => k (and b r)
          | [] => none
        | [] => none) = some r at hk
      split at hk
      · rename_i x xs' hxs
        split at hk
        · rename_i y ys' hys
          have hx : xs[i]? = some x := by rw [← List.head?_drop, hxs]; rfl
          have hy : ys[i]? = some y := by rw [← List.head?_drop, hys]; rfl
          have hx' : xs' = xs.drop (i + 1) := by rw [← List.tail_drop, hxs]; rfl
          have hy' : ys' = ys.drop (i + 1) := by rw [← List.tail_drop, hys]; rfl
          obtain ⟨b, h1, h2⟩ := eqE_spec (d := d) he hk
          rw [hx', hy'] at h2
          obtain ⟨b', h3, h4⟩ := eqC_spec (d := d) hes h2
          refine ⟨b && b', ?_, h4⟩
          simp only [Op.eqFields, if_pos hname, pureRun_bind, hoff, pureRun_part he hx, pureRun_part he hy, Option.bind_some, h1]
          cases b with
          | false => rfl
          | true => exact h3
        · cases hk
      · cases hk
theorem pureRun_equalIn_struct {d : Nat} {t : TypeId} {xs ys : Array Value} {fs : Array Field} (ht : P.underlying t = some (.struct fs)) (hp : P.stoodInHeld t = false) :
    pureRun P (Op.equalIn (d + 1) t (.agg xs) (.agg ys)) = pureRun P (Op.eqFields d xs ys fs.toList) := by
  simp only [Op.equalIn, pureRun_bind, pureRun_underlying ht, pureRun_program, Option.bind_some, hp, Bool.false_eq_true, if_false]
  rw [← Array.forIn_toList]
  generalize fs.toList = l
  clear ht
  induction l with
  | nil => rfl
  | cons f l ih =>
    simp only [List.forIn_cons, Op.eqFields, pureRun_bind]
    split
    · simp only [pureRun_bind]
      cases pureRun P (part f.type xs f.offset) with
      | none => rfl
      | some a =>
        simp only [Option.bind_some]
        cases pureRun P (part f.type ys f.offset) with
        | none => rfl
        | some b =>
          simp only [Option.bind_some]
          cases pureRun P (Op.equalIn d f.type a b) with
          | none => rfl
          | some r =>
            simp only [Option.bind_some]
            cases r with
            | false => rfl
            | true => exact ih
    · exact ih
theorem pureRun_guard {op : BinOp} {t : TypeId} {x y : Operand} {xs ys : Array Value} {s : Sem Value} (hm : P.eqGuardType P.depth t = false) : pureRun P (do eqGuard op t x y (.agg xs) (.agg ys); s) = pureRun P s := by
  rw [pureRun_bind]
  have : pureRun P (eqGuard op t x y (.agg xs) (.agg ys)) = some () := by
    cases op <;> first
      | rfl
      | (unfold eqGuard; simp only [pureRun_bind, pureRun_program, Option.bind_some, hm, Bool.not_true, Bool.false_eq_true, if_false, Bool.not_false, if_true]; rfl)
  rw [this]; rfl
theorem eqK_spec {t : TypeId} {es : List Eta} (h : eqK P t = some es) : ∃ fs, P.underlying t = some (.struct fs) ∧ P.stoodInHeld t = false ∧ P.eqGuardType P.depth t = false ∧ etaFs P fs.toList 0 = some es := by
  unfold eqK at h
  simp only [undQ_eq] at h
  split at h
  · rename_i fs hu
    split at h
    · cases h
    · rename_i hg
      simp only [Bool.or_eq_false_iff] at hg
      exact ⟨fs, hu, hg.1, hg.2, h⟩
  · cases h
theorem struct_eq {t : TypeId} {es : List Eta} (h : eqK P t = some es) {xs ys : Array Value} {k : Bool → Res} {r} (hk : eqC es xs.toList ys.toList k = some r) : ∃ b, pureRun P (Op.equal t (.agg xs) (.agg ys)) = some b ∧ k b = some r := by
  obtain ⟨fs, h1, h2, h3, h4⟩ := eqK_spec h
  obtain ⟨b, g1, g2⟩ := eqC_spec (d := 9998) h4 (xs := xs.toList) (ys := ys.toList) hk
  exact ⟨b, by unfold Op.equal Op.maxDepth; rw [pureRun_equalIn_struct h1 h2]; exact g1, g2⟩
theorem equal_bool {t : TypeId} (hu : P.underlying t = some .bool) (a b : Bool) : pureRun P (Op.equal t (.bool a) (.bool b)) = some (a == b) := by
  unfold Op.equal Op.maxDepth
  show pureRun P (Op.equalIn (9999 + 1) t (.bool a) (.bool b)) = _
  unfold Op.equalIn
  rw [pureRun_bind, pureRun_underlying hu]
  rfl
theorem s_eql_spec {dst type pos after guard} {t yt : TypeId} {x y : Operand} (h : s_eql P ⟨dst, .binOp .eql t x y yt, type, pos, after, guard⟩ (isBoolT P t) (eqK P t) x y call s st kv kd = some r) :
    Hands call kv kd (evOp P (rdF s) ⟨dst, .binOp .eql t x y yt, type, pos, after, guard⟩ st) r := by
  unfold s_eql at h
  split at h
  · rename_i k a k' b hx hy
    obtain ⟨hc, h'⟩ := needB_spec h
    simp only [decide_eq_true_eq] at hc
    subst hc
    exact bin_of hx hy rfl rfl rfl (by simp only [binOp, Op.intCmp, ne_eq, not_true_eq_false, if_false]; rfl) h'
  · rename_i a b hx hy
    exact bin_of hx hy rfl rfl rfl (by simp only [binOp, Op.stringOp]; rfl) h
  · rename_i a b hx hy
    split at h
    · rename_i hb
      unfold isBoolT at hb
      rw [undQ_eq] at hb
      split at hb
      · rename_i hu
        refine bin_of hx hy rfl rfl rfl ?_ h
        rw [pureRun_bind]
        show pureRun P (binOp .eql t (.bool a) (.bool b)) = _
        simp only [binOp, pureRun_bind, equal_bool hu, Option.bind_some]
        rfl
      · cases hb
    · exact slowOp_spec h
  · rename_i a b hx hy
    split at h
    · rename_i es hes
      obtain ⟨hc, h'⟩ := needB_spec h
      simp only [Bool.and_eq_true] at hc
      obtain ⟨b', g1, g2⟩ := struct_eq hes h'
      obtain ⟨fs, h1, h2, h3, h4⟩ := eqK_spec hes
      refine bin_of hx hy (by simpa only [flat] using hc.1) (by simpa only [flat] using hc.2) rfl ?_ g2
      rw [pureRun_guard h3]
      simp only [binOp, pureRun_bind, g1, Option.bind_some]
      rfl
    · exact slowOp_spec h
  · exact slowOp_spec h
theorem s_neq_spec {dst type pos after guard} {t yt : TypeId} {x y : Operand} (h : s_neq P ⟨dst, .binOp .neq t x y yt, type, pos, after, guard⟩ (isBoolT P t) (eqK P t) x y call s st kv kd = some r) :
    Hands call kv kd (evOp P (rdF s) ⟨dst, .binOp .neq t x y yt, type, pos, after, guard⟩ st) r := by
  unfold s_neq at h
  split at h
  · rename_i k a k' b hx hy
    obtain ⟨hc, h'⟩ := needB_spec h
    simp only [decide_eq_true_eq] at hc
    subst hc
    exact bin_of hx hy rfl rfl rfl (by simp only [binOp, Op.intCmp, ne_eq, not_true_eq_false, if_false]; rfl) h'
  · rename_i a b hx hy
    exact bin_of hx hy rfl rfl rfl (by simp only [binOp, Op.stringOp]; rfl) h
  · rename_i a b hx hy
    split at h
    · rename_i hb
      unfold isBoolT at hb
      rw [undQ_eq] at hb
      split at hb
      · rename_i hu
        refine bin_of hx hy rfl rfl rfl ?_ h
        rw [pureRun_bind]
        show pureRun P (binOp .neq t (.bool a) (.bool b)) = _
        simp only [binOp, pureRun_bind, equal_bool hu, Option.bind_some]
        rfl
      · cases hb
    · exact slowOp_spec h
  · rename_i a b hx hy
    split at h
    · rename_i es hes
      obtain ⟨hc, h'⟩ := needB_spec h
      simp only [Bool.and_eq_true] at hc
      obtain ⟨b', g1, g2⟩ := struct_eq hes h'
      obtain ⟨fs, h1, h2, h3, h4⟩ := eqK_spec hes
      refine bin_of hx hy (by simpa only [flat] using hc.1) (by simpa only [flat] using hc.2) rfl ?_ g2
      rw [pureRun_guard h3]
      simp only [binOp, pureRun_bind, g1, Option.bind_some]
      rfl
    · exact slowOp_spec h
  · exact slowOp_spec h
theorem s_cvI_spec {dst type pos after guard} {sT dT : TypeId} {k : IntKind} {x : Operand} (hk : cvT P sT dT = some k) (h : s_cvI P ⟨dst, .convert sT dT x, type, pos, after, guard⟩ k x call s st kv kd = some r) :
    Hands call kv kd (evOp P (rdF s) ⟨dst, .convert sT dT x, type, pos, after, guard⟩ st) r := by
  unfold cvT at hk
  simp only [undQ_eq] at hk
  split at hk
  · rename_i k1 k2 h1 h2
    obtain rfl := Option.some.inj hk
    unfold s_cvI at h
    split at h
    · rename_i k3 n hx
      have hp : pureRun P (convert sT dT (.int k3 n)) = some (.int k2 (cvI k2 n)) := by
        unfold convert
        simp only [pureRun_bind, pureRun_underlying h1, pureRun_underlying h2, Option.bind_some]
        rfl
      simp only [evOp, h1, h2, hx, flat, if_true, hp]
      exact h
    · exact slowOp_spec h
  · cases hk
theorem s_min2_spec {dst type pos after guard} {c : Call} {f : Int → Int → Int} {b : Builtin} {x y : Operand} (hc1 : c.callee = .builtin b) (hc2 : c.args.toList = [x, y])
    (hb : ∀ k k' m n, builtinS P b c.argTypes type (c.args.map constB) [.int k m, .int k' n] st = some (.val (.int k (f m n)) st))
    (h : s_min2 P ⟨dst, .call c, type, pos, after, guard⟩ f x y call s st kv kd = some r) : Hands call kv kd (evOp P (rdF s) ⟨dst, .call c, type, pos, after, guard⟩ st) r := by
  unfold s_min2 at h
  split at h
  · rename_i k a k' b hx hy
    simp only [evOp, hc1, hc2, List.map_cons, List.map_nil, hx, hy, hb]
    exact h
  · exact slowOp_spec h
theorem s_not_spec {dst type pos after guard} {t : TypeId} {x : Operand} (h : s_not P ⟨dst, .unOp .not t x, type, pos, after, guard⟩ x call s st kv kd = some r) : Hands call kv kd (evOp P (rdF s) ⟨dst, .unOp .not t x, type, pos, after, guard⟩ st) r := by
  unfold s_not at h
  split at h
  · rename_i b hx
    simp only [evOp, hx, flat, if_true]
    exact h
  · exact slowOp_spec h
theorem s_len1_spec {dst type pos after guard} {c : Call} {x : Operand} (hc1 : c.callee = .builtin .len) (hc2 : c.args.toList = [x]) (hl : lenK P c.argTypes = 1) (h : s_len1 P ⟨dst, .call c, type, pos, after, guard⟩ x call s st kv kd = some r) :
    Hands call kv kd (evOp P (rdF s) ⟨dst, .call c, type, pos, after, guard⟩ st) r := by
  unfold lenK at hl
  simp only [undQ_eq] at hl
  split at hl
  · rename_i t ht
    split at hl
    · rename_i e hu
      unfold s_len1 at h
      split at h
      · rename_i a n cap hx
        simp only [evOp, hc1, hc2, List.map_cons, List.map_nil, hx, builtinS, ht, hu]
        exact h
      · rename_i tt v hx
        split at h
        · rename_i z hz
          simp only [evOp, hc1, hc2, List.map_cons, List.map_nil, hx, builtinS, ht, hu, hz]
          exact h
        · cases h
      · exact slowOp_spec h
    · cases hl
    · cases hl
  · cases hl
theorem s_len2_spec {dst type pos after guard} {c : Call} {x : Operand} (hc1 : c.callee = .builtin .len) (hc2 : c.args.toList = [x]) (hl : lenK P c.argTypes = 2) (h : s_len2 P ⟨dst, .call c, type, pos, after, guard⟩ x call s st kv kd = some r) :
    Hands call kv kd (evOp P (rdF s) ⟨dst, .call c, type, pos, after, guard⟩ st) r := by
  unfold lenK at hl
  simp only [undQ_eq] at hl
  split at hl
  · rename_i t ht
    split at hl
    · cases hl
    · rename_i hu
      unfold s_len2 at h
      split at h
      · rename_i b hx
        simp only [evOp, hc1, hc2, List.map_cons, List.map_nil, hx, builtinS, ht, hu]
        exact h
      · exact slowOp_spec h
    · cases hl
  · cases hl

theorem s_tail_spec {size : Nat} {x : Value} {xt : TypeDesc} {str : Bool} (hxt : (match xt with | .slice _ => some false | .string => some true | _ => none) = some str) {k : Nat → List Value → Res} (h : s_tail str size st x k = some r) :
    ∃ n new, tailOf st size xt x = some (n, new) ∧ k n new = some r := by
  unfold s_tail at h
  cases str with
  | true =>
    have : xt = .string := by
      split at hxt
      · cases hxt
      · rfl
      · cases hxt
    subst this
    simp only at h
    split at h
    · obtain ⟨hc, h⟩ := needB_spec h
      exact ⟨_, _, by simp only [tailOf, Nat.eq_of_beq_eq_true hc, if_true], h⟩
    · cases h
  | false =>
    have : ∃ e, xt = .slice e := by
      split at hxt
      · exact ⟨_, rfl⟩
      · cases hxt
      · cases hxt
    obtain ⟨e, rfl⟩ := this
    simp only at h
    split at h
    · rename_i a n cap
      obtain ⟨c, e', ex, h1, h2, h3⟩ := cellsF_spec h
      obtain ⟨hc, h3⟩ := needB_spec h3
      have hle : a.off + n * size ≤ c.length := Nat.le_of_ble_eq_true hc
      exact ⟨n, (c.drop a.off).take (n * size), by simp only [tailOf, cellsAt, h1, h2, Option.isSome_none, Bool.false_eq_true, if_false, hle, if_true], h3⟩
    · rename_i n cap
      obtain ⟨hc, h⟩ := needB_spec h
      exact ⟨_, _, by simp only [tailOf, Nat.eq_of_beq_eq_true hc, if_true], h⟩
    · rename_i t v
      split at h
      · rename_i z hz
        obtain ⟨hc, h⟩ := needB_spec h
        exact ⟨_, _, by simp only [tailOf, hz, Nat.eq_of_beq_eq_true hc, if_true], h⟩
      · cases h
    · cases h

theorem s_appendTo_spec {slow : Res} {e : TypeId} {size n : Nat} {new : List Value} {sv : Value} (hsl : slow = some r → ∃ v st', appendTo P st e size n new sv = some (v, st') ∧ kv v st' = some r) (h : s_appendTo slow e size n new st sv kv = some r) :
    ∃ v st', appendTo P st e size n new sv = some (v, st') ∧ kv v st' = some r := by
  unfold s_appendTo at h
  split at h
  · rename_i len cap
    obtain ⟨hc, h'⟩ := needB_spec h
    clear h
    simp only [Bool.and_eq_true] at hc
    have h1 := Nat.eq_of_beq_eq_true hc.1
    have h2 := Nat.eq_of_beq_eq_true hc.2.1
    have h3 := Nat.le_of_ble_eq_true hc.2.2
    subst h1 h2
    simp only [appendTo]
    rw [if_neg (by simp; omega)]
    cases hb : Nat.beq n 0 with
    | true =>
      rw [hb] at h'
      rw [if_pos (Nat.eq_of_beq_eq_true hb)]
      exact ⟨_, _, rfl, h'⟩
    | false =>
      rw [hb] at h'
      rw [if_neg (Nat.ne_of_beq_eq_false hb)]
      exact ⟨_, _, rfl, newF_spec h'⟩
  · rename_i a len cap
    change @Bool.rec (fun _ => Res)
      (needB (Nat.ble (len + n) big) (@Bool.rec (fun _ => Res)
        (cellsF st a fun b off c _ _ _ _ => needB (Nat.ble (Nat.add off (len * size)) c.length)
          (newF st (.cells ((c.drop off).take (len * size) ++ new) e false) fun a st => kv (.slice (some a) (len + n) unk) st))
        (@Bool.rec (fun _ => Res) slow (needB (Nat.ble (cap + 1) unk) (kv (.slice (some a) len cap) st)) (Nat.beq n 0)) (Nat.ble (len + n) cap)))
      (cellsF st a fun b off c e' ex heap next => needB (and (not ex) (and (Nat.beq e' e) (and (Nat.ble off c.length) (Nat.ble (len + n) big))))
        (@Bool.rec (fun _ => Res)
          (needB (Nat.beq (Nat.add off (len * size)) c.length)
            (newF ⟨setP (path b) heap .dead, next⟩ (.cells ((c.drop off).take (len * size) ++ new) e false) fun a st => kv (.slice (some a) (len + n) unk) st))
          (needB (Nat.ble (Nat.add off (len * size)) c.length) (kv (.slice (some a) len cap) st)) (Nat.beq n 0)))
      (Nat.beq cap unk) = some r at h
    cases hb : Nat.beq cap unk with
    | false =>
      rw [hb] at h
      obtain ⟨hc, h⟩ := needB_spec h
      have hc := Nat.le_of_ble_eq_true hc
      have hne := Nat.ne_of_beq_eq_false hb
      cases hb2 : Nat.ble (len + n) cap with
      | true =>
        rw [hb2] at h
        have hle := Nat.le_of_ble_eq_true hb2
        cases hb3 : Nat.beq n 0 with
        | false => rw [hb3] at h; exact hsl h
        | true =>
          rw [hb3] at h
          have hn := Nat.eq_of_beq_eq_true hb3
          obtain ⟨hcu, h⟩ := needB_spec h
          have hcu : cap < unk := Nat.le_of_ble_eq_true hcu
          refine ⟨_, _, ?_, h⟩
          simp only [appendTo]
          rw [if_neg (by omega), if_pos hcu, if_pos hle, if_pos hn]
      | false =>
        rw [hb2] at h
        have hnle : ¬ len + n ≤ cap := fun k => by rw [Nat.ble_eq_true_of_le k] at hb2; cases hb2
        obtain ⟨c, e', ex, h1, h2, h3⟩ := cellsF_spec h
        obtain ⟨hd, h3⟩ := needB_spec h3
        have hd : a.off + len * size ≤ c.length := Nat.le_of_ble_eq_true hd
        have hcu : cap < unk := by unfold unk; unfold big at hc; omega
        refine ⟨_, _, ?_, newF_spec h3⟩
        simp only [appendTo]
        rw [if_neg (by omega), if_pos hcu, if_neg hnle]
        simp only [cellsAt, h1, h2, Option.isSome_none, Bool.false_eq_true, if_false, hd, if_true]
        rfl
    | true =>
      rw [hb] at h
      have hcap := Nat.eq_of_beq_eq_true hb
      obtain ⟨c, e', ex, h1, h2, h3⟩ := cellsF_spec h
      obtain ⟨hc, h4⟩ := needB_spec h3
      clear h3
      simp only [Bool.and_eq_true, Bool.not_eq_true'] at hc
      obtain ⟨hx, he, ho, hbg⟩ := hc
      have he := Nat.eq_of_beq_eq_true he
      have ho := Nat.le_of_ble_eq_true ho
      have hbg := Nat.le_of_ble_eq_true hbg
      subst hx he
      have hpre : appendTo P st e' size n new (.slice (some a) len cap) = 
        if n = 0 then (if a.off + len * size ≤ c.length then some (.slice (some a) len cap, st) else none) else
        if a.off + (len + (cap - unk)) * size = c.length then
          some (.slice (some (newRow (kill st a.block) ((c.drop a.off).take (len * size) ++ new) e' false).1) (len + n) unk, (newRow (kill st a.block) ((c.drop a.off).take (len * size) ++ new) e' false).2)
        else if cap = unk && a.off + len * size + new.length ≤ c.length then
          match setCells st (a.add (len * size)) new with
          | some st => some (.slice (some a) (len + n) cap, st)
          | none => none
        else if cap = unk && a.off + len * size ≤ c.length then
          some (.slice (some (newRow (kill st a.block) ((c.drop a.off).take (len * size) ++ new) e' false).1) (len + n) unk, (newRow (kill st a.block) ((c.drop a.off).take (len * size) ++ new) e' false).2)
        else none := by
        simp only [appendTo]
        rw [if_neg (by omega), if_neg (by omega), h2]
        simp only
        rw [if_neg (by simp [h1, hcap, ho])]
        rfl
      rw [hpre]
      cases hb3 : Nat.beq n 0 with
      | true =>
        rw [hb3] at h4
        obtain ⟨hd, h4⟩ := needB_spec h4
        have hd : a.off + len * size ≤ c.length := Nat.le_of_ble_eq_true hd
        rw [if_pos (Nat.eq_of_beq_eq_true hb3), if_pos hd]
        exact ⟨_, _, rfl, h4⟩
      | false =>
        rw [hb3] at h4
        obtain ⟨hd, h4⟩ := needB_spec h4
        have hd : a.off + len * size = c.length := Nat.eq_of_beq_eq_true hd
        rw [if_neg (Nat.ne_of_beq_eq_false hb3), if_pos (by rw [hcap, Nat.sub_self, Nat.add_zero]; exact hd)]
        refine ⟨_, _, rfl, ?_⟩
        have h4 := newF_spec h4
        rw [setP_path] at h4
        exact h4
  · exact hsl h
end
end Go.VS
