/- Plain laws of what trees of cases speak of. No conditions. -/
import Derived.Test.YtdhloodnajdfbaaGreatVsSymDraw
import Derived.Laws.Strings
namespace Go.VS
set_option linter.unusedSimpArgs false
set_option linter.unusedVariables false

theorem need_eq {b : Bool} {x y : Res} (h : b = true) (k : x = y) : needB b x = y := by subst h; exact k
theorem ite_t {b : Bool} {x y z : Res} (h : b = true) (k : x = z) : iteB b x y = z := by subst h; exact k
theorem ite_f {b : Bool} {x y z : Res} (h : b = false) (k : y = z) : iteB b x y = z := by subst h; exact k
theorem same_agg : ∀ {l : List Value}, (l.all fun v => match v with | .int _ _ | .bool _ | .string _ | .chan _ => true | _ => false) = true → beqV (.agg ⟨l⟩) (.agg ⟨l⟩) = true
  | l, h => by
    show beqVL l l = true
    induction l with
    | nil => rfl
    | cons v l ih =>
      simp only [List.all_cons, Bool.and_eq_true] at h
      simp only [beqVL, ih h.2, Bool.and_true]
      obtain ⟨h1, _⟩ := h
      cases v <;> first | (simp at h1; done) | simp [beqV]
theorem leaf_eq {v v' : Value} {bs bs' : List Blk} (h : v = v') (k : bs = bs') : (some (v, mkSt bs) : Res) = some (v', mkSt bs') := by rw [h, k]
theorem and_ok {a b : Bool} (h : a = true) (k : b = true) : Bool.and a b = true := by rw [h, k]; rfl
theorem ble_ok {a b : Nat} (h : a ≤ b) : Nat.ble a b = true := Nat.ble_eq_true_of_le h
theorem beq_ok {a b : Nat} (h : a = b) : Nat.beq a b = true := by rw [h]; exact Nat.beq_refl b
theorem inI_ok {i : Int} {n : Nat} (h : 0 ≤ i) (k : i < n) : inI i n = true := by simp [inI, h, k]
theorem cutI_ok {l h : Int} {n : Nat} (h1 : 0 ≤ l) (h2 : l ≤ h) (h3 : h ≤ n) : cutI l h n = true := by simp [cutI, h1, h2, h3]

/-- Bytes as cells. -/
def bc (l : List UInt8) : List Value := l.map fun b => .int .u8 b.toNat
theorem byteCells_bc (s : ByteArray) : byteCells s = bc s.data.toList := rfl
theorem bc_length (l : List UInt8) : (bc l).length = l.length := by simp [bc]
theorem bc_append (a b : List UInt8) : bc (a ++ b) = bc a ++ bc b := by simp [bc]
theorem bc_flat : ∀ (l : List UInt8), flatL (bc l) = true
  | [] => rfl
  | b :: l => by
    show (flat (.int .u8 b.toNat) && flatL (bc l)) = true
    rw [bc_flat l]; rfl
theorem bc_ren (z : Bool) (ρ : Nat → Option Nat) (l : List UInt8) : renL z ρ (bc l) = bc l := renL_flat (bc_flat l)
theorem bc_all (l : List UInt8) : allBytes (bc l) = true := by
  unfold allBytes bc
  rw [List.all_map, List.all_eq_true]
  intro b _
  rfl
theorem byteOf_of (b : UInt8) : byteOf (.int .u8 b.toNat) = b := by
  show UInt8.ofNat (Int.toNat (b.toNat : Int)) = b
  simp
theorem bc_back (l : List UInt8) : (bc l).map byteOf = l := by
  unfold bc
  rw [List.map_map]
  have : (byteOf ∘ fun b : UInt8 => Value.int .u8 b.toNat) = id := by funext b; exact byteOf_of b
  rw [this, List.map_id]
theorem bc_text (l : List UInt8) : bytesT (bc l) = ⟨⟨l⟩⟩ := by unfold bytesT; rw [bc_back]
theorem bc_nth {l : List UInt8} {i : Nat} (h : i < l.length) : nthD (bc l) i = .int .u8 (l[i].toNat) := by
  unfold nthD bc
  rw [List.getD_eq_getElem?_getD, List.getElem?_map, List.getElem?_eq_getElem h]
  rfl
theorem bc_one (l : List UInt8) : (bc l).all oneCell = true := by
  unfold bc
  rw [List.all_map, List.all_eq_true]
  intro b _
  rfl
theorem allBytes_bc : ∀ {c : List Value}, allBytes c = true → (∀ v ∈ c, ∃ b : UInt8, v = .int .u8 b.toNat) → c = bc (c.map byteOf)
  | [], _, _ => rfl
  | v :: c, h, k => by
    obtain ⟨b, rfl⟩ := k v (by simp)
    simp only [allBytes, List.all_cons, Bool.and_eq_true] at h
    have ih := allBytes_bc (c := c) h.2 fun v hv => k v (by simp [hv])
    show _ = Value.int .u8 (byteOf (.int .u8 b.toNat)).toNat :: bc (c.map byteOf)
    rw [byteOf_of, ← ih]
theorem take_all (c : List Value) : takeC (Nat.mul c.length 1) (dropC 0 c) = c := by
  show (c.drop 0).take (c.length * 1) = c
  simp
theorem take_all' (c : List Value) {n : Nat} (h : n = c.length) : takeC n (dropC 0 c) = c := by
  subst h
  show (c.drop 0).take c.length = c
  simp
/-- A cell is a byte. -/
def isByteV (v : Value) : Bool := match v with
  | .int .u8 n => decide (0 ≤ n ∧ n < 256)
  | _ => false
def bytesB (c : List Value) : Bool := c.all isByteV
theorem isByteV_int (n : Int) : isByteV (.int .u8 n) = decide (0 ≤ n ∧ n < 256) := rfl
theorem bytesB_bc : ∀ (l : List UInt8), bytesB (bc l) = true
  | [] => rfl
  | b :: l => by
    have h : bytesB (bc (b :: l)) = (isByteV (.int .u8 b.toNat) && bytesB (bc l)) := by simp only [bytesB, bc, List.map_cons, List.all_cons]
    have := b.toNat_lt
    rw [h, bytesB_bc l, isByteV_int]
    simp only [Bool.and_true, decide_eq_true_eq]
    omega
theorem bc_of : ∀ {c : List Value}, bytesB c = true → c = bc (c.map byteOf)
  | [], _ => rfl
  | v :: c, h => by
    simp only [bytesB, List.all_cons, Bool.and_eq_true] at h
    obtain ⟨h1, h2⟩ := h
    unfold isByteV at h1
    split at h1
    · rename_i n
      simp only [decide_eq_true_eq] at h1
      have ih := bc_of (c := c) h2
      show _ = Value.int .u8 (byteOf (.int .u8 n)).toNat :: bc (c.map byteOf)
      rw [← ih]
      congr 2
      show n = ((UInt8.ofNat n.toNat).toNat : Int)
      simp only [UInt8.toNat_ofNat']
      omega
    · cases h1
theorem wrap64 {n : Int} (h1 : -9223372036854775808 ≤ n) (h2 : n < 9223372036854775808) : IntKind.i64.wrap n = n := by
  have e : IntKind.i64.wrap n = if n % 18446744073709551616 ≥ 9223372036854775808 then n % 18446744073709551616 - 18446744073709551616 else n % 18446744073709551616 := by
    show (if (true && decide (n % (2 ^ 64 : Int) ≥ (2 ^ (64 - 1) : Int))) = true then n % (2 ^ 64 : Int) - (2 ^ 64 : Int) else n % (2 ^ 64 : Int)) = _
    have e1 : (2 : Int) ^ (64 - 1) = 9223372036854775808 := by decide
    have e2 : (2 : Int) ^ 64 = 18446744073709551616 := by decide
    rw [e1, e2]
    simp only [Bool.true_and, decide_eq_true_eq]
  rw [e]
  split <;> omega
theorem wrap8 {n : Int} (h1 : 0 ≤ n) (h2 : n < 256) : IntKind.u8.wrap n = n := by
  have e : IntKind.u8.wrap n = n % 256 := by
    show (if (false && decide (n % (2 ^ 8 : Int) ≥ (2 ^ (8 - 1) : Int))) = true then n % (2 ^ 8 : Int) - (2 ^ 8 : Int) else n % (2 ^ 8 : Int)) = _
    simp
  rw [e]; omega
theorem toList_data (b : ByteArray) : b.toList = b.data.toList := by
  first
    | exact ByteArray.toList_eq b
    | exact Go.ByteArray.toList_eq b
    | exact _root_.ByteArray.toList_eq b
theorem eqS_eq (a b : ByteArray) : eqS a b = (a.data.toList == b.data.toList) := by unfold eqS; rw [toList_data, toList_data]
theorem neS_eq (a b : ByteArray) : neS a b = !(a.data.toList == b.data.toList) := by unfold neS; rw [toList_data, toList_data]
end Go.VS
