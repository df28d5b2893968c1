/- Memory under other numbers stands for the same. No conditions. -/
import Derived.Test.YtbdeppefllcocaaVsCanon
namespace Go.VS
set_option linter.unusedSimpArgs false
set_option linter.unusedVariables false
open Go.RowKit
section
variable {P : Program} {K : Prot} {w : World}

theorem virtO_rel {nt : Nat} {tmps : Array Value} : ∀ (M : List (Tmp × TypeId)) (s : Trie Value) (st : St) (src : List Nat) (s' : Trie Value) (st' : St), virtO M s st = some (src, s', st') → ∀ {β : Env}, Rel P K β st w → SlotsR β s nt tmps →
    ∃ β1, β.le β1 ∧ Rel P K β1 st' w ∧ SlotsR β1 s' nt tmps ∧ st.next ≤ st'.next
  | [], s, st, src, s', st', h, β, hr, hs => by
    simp [virtO] at h
    obtain ⟨_, rfl, rfl⟩ := h
    exact ⟨β, Env.le.refl _, hr, hs, Nat.le_refl _⟩
  | m :: M, s, st, src, s', st', h, β, hr, hs => by
    simp only [virtO] at h
    split at h
    · split at h
      · rename_i r hv
        simp only [Option.some.injEq, Prod.mk.injEq] at h
        obtain ⟨r1, r2, r3⟩ := r
        simp only [Prod.mk.injEq] at h
        obtain ⟨_, rfl, rfl⟩ := h
        exact virtO_rel M s st r1 r2 r3 hv hr hs
      · cases h
    · rename_i hslot
      split at h
      · rename_i r hv
        simp only [Option.some.injEq, Prod.mk.injEq] at h
        obtain ⟨r1, r2, r3⟩ := r
        simp only [Prod.mk.injEq] at h
        obtain ⟨_, rfl, rfl⟩ := h
        rw [setP_path, setP_path] at hv
        rw [slotF_eq] at hslot
        have h1 := hs.2 m.1
        rw [hslot] at h1
        have h1 : tmps.getD m.1 undef = .slice none 0 0 := h1
        have hv1 := hr.virt m.2 0 (esz P m.2)
        have hle := hr.le_put ⟨0, 0, 0, esz P m.2, none, true⟩
        obtain ⟨β1, k1, k2, k3, k4⟩ := virtO_rel M _ _ r1 r2 r3 hv hv1 (nt := nt) (tmps := tmps) ⟨hs.1, fun i => by
          rw [Trie.get_set]
          by_cases hi : i = m.1
          · subst hi
            rw [if_pos rfl, h1]
            refine ⟨rfl, _, put_same _ _ _, ?_⟩
            unfold SliceR
            rw [if_pos rfl]
            exact ⟨rfl, rfl, Or.inr rfl, rfl⟩
          · rw [if_neg hi]; exact (hs.2 i).mono hle⟩
        exact ⟨β1, hle.trans k1, k2, k3, Nat.le_of_succ_le k4⟩
      · cases h
    · cases h

def reEnv (N : Nat) (src : List Nat) (β : Env) : Env
  | .ofNat i => if i < N then β (i : Int) else match src[i - N]? with
    | some b => β (b : Int)
    | none => none
  | .negSucc k => β (.negSucc k)

theorem renB_live {z : Bool} {ρ : Nat → Option Nat} {b : Option Blk} (h : (renB z ρ b).live = true) : ∃ b0, b = some b0 ∧ b0.live = true := by
  unfold renB at h
  split at h <;> first | exact ⟨_, rfl, rfl⟩ | cases h

theorem renE_rel {z : Bool} {ρ : Nat → Option Nat} {β β' : Env} (h : RenOk z ρ β β') : ∀ {a b : List MapEntry}, ERL β a b → ERL β' (renE z ρ a) b
  | [], _, e => e
  | x :: xs, _, ⟨y, ys, e, hb, hk, hv, hr⟩ => ⟨y, ys, e, hb, renV_rel h _ _ hk, renV_rel h _ _ hv, renE_rel h hr⟩

theorem renB_rel {z : Bool} {ρ : Nat → Option Nat} {β β' : Env} (h : RenOk z ρ β β') {l : Loc} {b : Blk} {o : Option Obj} (r : BlkR P β l b o) : BlkR P β' l (renB z ρ (some b)) o := by
  cases b with
  | cells c e x =>
    obtain ⟨h1, h2, h3⟩ | ⟨hv, cc, f, h1, h2, h3, h4, h5, h6, h7⟩ := r
    · subst h2; exact Or.inl ⟨h1, rfl, h3⟩
    · exact Or.inr ⟨hv, cc, f, h1, h2, h3, by rw [renL_length]; exact h4, fun hx => by rw [renL_length]; exact h5 hx, by rw [renL_length]; exact renL_rel h _ _ h6, h7⟩
  | map es c => obtain ⟨hv, es', h1, h2⟩ := r; exact ⟨hv, es', h1, renE_rel h h2⟩
  | siter s p => exact r
  | obj o => cases z with
    | true => exact r
    | false => trivial
  | _ => trivial

theorem renB_obj {ρ : Nat → Option Nat} {b : Option Blk} {o : Ob} : renB true ρ b = .obj o ↔ b = some (.obj o) := by
  unfold renB
  split <;> simp
  rename_i h
  exact h o

theorem canon_mid {N : Nat} {src : List Nat} {β : Env} {st : St} (hr : Rel P K β st w) (hid : ∀ i, K.id i → i < N) (hN : N ≤ st.next) (hnd : src.Nodup) (hcells : ∀ b ∈ src, ∃ c e x, st.heap.get b = some (.cells c e x)) :
    Rel P K (reEnv N src β) (mkSt (rigid N src (fun i => st.heap.get i) N 0 ++ src.map fun b => renB true (rhoO N src) (st.heap.get b))) w := by
  -- where a number comes from
  have hget : ∀ i b, (mkSt (rigid N src (fun i => st.heap.get i) N 0 ++ src.map fun b => renB true (rhoO N src) (st.heap.get b))).heap.get i = some b → b.live = true →
      ∃ j b0, st.heap.get j = some b0 ∧ b0.live = true ∧ b = renB true (rhoO N src) (some b0) ∧ reEnv N src β (i : Int) = β (j : Int) ∧ ((i < N ∧ j = i ∧ i ∉ src) ∨ (N ≤ i ∧ src[i - N]? = some j)) := by
    intro i b hi hb
    rw [mkSt_get] at hi
    by_cases hiN : i < N
    · rw [List.getElem?_append_left (by rw [rigid_length]; exact hiN), rigid_get, if_pos hiN, Nat.zero_add] at hi
      by_cases his : i ∈ src
      · rw [if_pos his] at hi; cases hi; cases hb
      · rw [if_neg his] at hi
        obtain rfl := Option.some.inj hi
        obtain ⟨b0, e0, l0⟩ := renB_live hb
        refine ⟨i, b0, e0, l0, by rw [e0], ?_, Or.inl ⟨hiN, rfl, his⟩⟩
        show (if i < N then β (i : Int) else _) = _
        rw [if_pos hiN]
    · rw [List.getElem?_append_right (by rw [rigid_length]; omega), rigid_length, List.getElem?_map] at hi
      cases hsj : src[i - N]? with
      | none => rw [hsj] at hi; cases hi
      | some j =>
        rw [hsj] at hi
        obtain rfl := Option.some.inj hi
        obtain ⟨b0, e0, l0⟩ := renB_live hb
        refine ⟨j, b0, e0, l0, by show renB true _ (st.heap.get j) = _; rw [e0], ?_, Or.inr ⟨by omega, rfl⟩⟩
        show (if i < N then β (i : Int) else _) = _
        rw [if_neg hiN]
        show (match src[i - N]? with | some b => β (b : Int) | none => none) = _
        rw [hsj]
  have hren : RenOk true (rhoO N src) β (reEnv N src β) := by
    refine ⟨fun b b' l hb hl => ?_, fun _ k l h => h⟩
    unfold rhoO at hb
    split at hb
    · rename_i j hj
      obtain rfl := Option.some.inj hb
      obtain ⟨k, rfl, hk⟩ := posO_spec _ _ _ _ hj
      show (if N + k < N then β ((N + k : Nat) : Int) else match src[N + k - N]? with | some b => β (b : Int) | none => none) = _
      rw [if_neg (by omega), show N + k - N = k by omega, hk]; exact hl
    · split at hb
      · rename_i hle
        obtain rfl := Option.some.inj hb
        have : b < N := Nat.le_of_ble_eq_true hle
        show (if b < N then β (b : Int) else _) = _
        rw [if_pos this]; exact hl
      · cases hb
  have hlen : (mkSt (rigid N src (fun i => st.heap.get i) N 0 ++ src.map fun b => renB true (rhoO N src) (st.heap.get b))).next = N + src.length := by
    simp [mkSt, rigid_length]
  refine ⟨hr.base, fun i l hi => ?_, fun i b hi hb => ?_, fun i j bi bj li lj hi hbi hj hbj hli hlj v1 v2 e => ?_, fun i hi => ?_, fun k l hk => hr.nofz k l hk, fun k l hk => ?_, ?_⟩
  · rw [hlen]
    change (if i < N then β (i : Int) else match src[i - N]? with | some b => β (b : Int) | none => none) = some l at hi
    by_cases hiN : i < N
    · rw [if_pos hiN] at hi
      exact ⟨by omega, (hr.dom i l hi).2⟩
    · rw [if_neg hiN] at hi
      cases hsj : src[i - N]? with
      | none => rw [hsj] at hi; cases hi
      | some j =>
        rw [hsj] at hi
        have := (List.getElem?_eq_some_iff.1 hsj).1
        exact ⟨by omega, (hr.dom j l hi).2⟩
  · obtain ⟨j, b0, g1, g2, g3, g4, _⟩ := hget i b hi hb
    obtain ⟨l, m1, m2, m3⟩ := hr.blk j b0 g1 g2
    exact ⟨l, by rw [g4]; exact m1, m2, by rw [g3]; exact renB_rel hren m3⟩
  · obtain ⟨i', b1, g1, g2, g3, g4, g5⟩ := hget i bi hi hbi
    obtain ⟨j', b2, f1, f2, f3, f4, f5⟩ := hget j bj hj hbj
    rw [g4] at hli
    rw [f4] at hlj
    have := hr.inj i' j' b1 b2 li lj g1 g2 f1 f2 hli hlj v1 v2 e
    subst this
    rcases g5 with ⟨q1, q2, q3⟩ | ⟨q1, q2⟩ <;> rcases f5 with ⟨p1, p2, p3⟩ | ⟨p1, p2⟩
    · omega
    · exact absurd (List.mem_of_getElem? p2) (q2 ▸ q3)
    · exact absurd (List.mem_of_getElem? q2) (p2 ▸ p3)
    · have h1 := (List.getElem?_eq_some_iff.1 q2).1
      have h2 := (List.getElem?_eq_some_iff.1 p2).1
      have := (List.getElem?_inj h1 hnd).1 (q2.trans p2.symm)
      omega
  · have hiN := hid i hi
    refine ⟨by rw [hlen]; omega, ?_⟩
    show (if i < N then β (i : Int) else _) = _
    rw [if_pos hiN]; exact (hr.res i hi).2
  · obtain ⟨f1, f2, f3⟩ := hr.frz k l hk
    refine ⟨f1, f2, fun j bj lj hj hbj hlj hv => ?_⟩
    obtain ⟨j', b0, g1, g2, _, g4, _⟩ := hget j bj hj hbj
    rw [g4] at hlj
    exact f3 j' b0 lj g1 g2 hlj hv
  · obtain ⟨fp, q1, q2⟩ := hr.objs
    have hobj : ∀ i o, (mkSt (rigid N src (fun i => st.heap.get i) N 0 ++ src.map fun b => renB true (rhoO N src) (st.heap.get b))).heap.get i = some (.obj o) ↔ (i < N ∧ st.heap.get i = some (.obj o)) := by
      intro i o
      constructor
      · intro hi
        obtain ⟨j, b0, g1, g2, g3, g4, g5⟩ := hget i _ hi rfl
        have g3 := renB_obj.1 g3.symm
        cases g3
        rcases g5 with ⟨p1, p2, p3⟩ | ⟨p1, p2⟩
        · subst p2; exact ⟨p1, g1⟩
        · obtain ⟨c, e, x, hc⟩ := hcells j (List.mem_of_getElem? p2)
          rw [hc] at g1; cases g1
      · rintro ⟨h1, h2⟩
        have hns : i ∉ src := by
          intro hm
          obtain ⟨c, e, x, hc⟩ := hcells i hm
          rw [hc] at h2; cases h2
        rw [mkSt_get, List.getElem?_append_left (by rw [rigid_length]; exact h1), rigid_get, if_pos h1, Nat.zero_add, if_neg hns, h2]
        rfl
    refine ⟨fun i k => i < N ∧ fp i k, fun i o hi => ?_, fun i k hk => ?_⟩
    · obtain ⟨h1, h2⟩ := (hobj i o).1 hi
      obtain ⟨l, a, b, c⟩ := q1 i o h2
      refine ⟨l, ?_, ⟨h1, b⟩, ?_⟩
      · show (if i < N then β (i : Int) else _) = _
        rw [if_pos h1]; exact a
      · have : (fun k => i < N ∧ fp i k) = fp i := by funext k; simp [h1]
        show K.obs.rel o _ l.blk (fun k => i < N ∧ fp i k) w
        rw [this]
        exact K.obs.mono _ _ _ _ _ _ _ c (by
          intro z l hz
          cases z with
          | ofNat _ => cases hz
          | negSucc k => exact hz) (Nat.le_refl _) (fun _ _ => rfl) (fun _ _ _ => rfl)
    · obtain ⟨hiN, hk⟩ := hk
      obtain ⟨⟨o, ho⟩, a1, a2, a3, a4, a5⟩ := q2 i k hk
      refine ⟨⟨o, (hobj i o).2 ⟨hiN, ho⟩⟩, a1, a2, a3, fun j hj => a4 j hj.2, fun j bj lj hj hbj hlj hv e => ?_⟩
      obtain ⟨j', b0, g1, g2, g3, g4, g5⟩ := hget j bj hj hbj
      rw [g4] at hlj
      have := a5 j' b0 lj g1 g2 hlj hv e
      subst this
      rcases g5 with ⟨p1, p2, p3⟩ | ⟨p1, p2⟩
      · exact p2.symm
      · obtain ⟨c, e, x, hc⟩ := hcells j' (List.mem_of_getElem? p2)
        rw [hc] at ho; cases ho

theorem putTs_get : ∀ (ts : List Tmp) (vs : List Value) (s : Trie Value) (f : Nat → Value), vs = ts.map f → ∀ i, (putTs ts vs s).get i = if i ∈ ts then some (f i) else s.get i
  | [], [], s, f, h, i => by simp [putTs]
  | t :: ts, [], s, f, h, i => by simp at h
  | [], v :: vs, s, f, h, i => by simp at h
  | t :: ts, v :: vs, s, f, h, i => by
    simp only [List.map_cons, List.cons.injEq] at h
    simp only [putTs]
    rw [putTs_get ts vs _ f h.2, setP_path, Trie.get_set]
    by_cases h1 : i ∈ ts
    · rw [if_pos h1, if_pos (List.mem_cons_of_mem _ h1)]
    · rw [if_neg h1]
      by_cases h2 : i = t
      · subst h2; rw [if_pos rfl, if_pos (by simp), h.1]
      · rw [if_neg h2, if_neg (by simp [h1, h2])]

/-- What the form keeps stands for the same. -/
theorem canon_rel {H : Head} {s : Trie Value} {st : St} {vs : List Value} {bs : List Blk} (h : canonO H s st = some (vs, bs)) {β : Env} {tmps : Array Value} (hr : Rel P K β st w) (hs : SlotsR β s H.nt tmps) (hid : ∀ i, K.id i → i < H.N) (hL : ∀ t ∈ H.L, t < H.nt) :
    ∃ β', leN H.N β β' ∧ Rel P K β' (mkSt bs) w ∧ SlotsR β' (mkS H.nt H.L vs) H.nt tmps := by
  unfold canonO at h
  split at h
  · cases h
  · rename_i src s1 st1 hv
    split at h
    · cases h
    · rename_i ms hm
      split at h
      · rename_i hle
        simp only [Option.some.injEq, Prod.mk.injEq] at h
        obtain ⟨rfl, rfl⟩ := h
        obtain ⟨β1, k1, k2, k3, k4⟩ := virtO_rel H.M s st src s1 st1 hv hr hs
        obtain ⟨m1, m2, m3⟩ := movs_spec hm
        simp only [getP_path] at m2 m3 ⊢
        subst m3
        have hren : RenOk true (rhoO H.N src) β1 (reEnv H.N src β1) := by
          refine ⟨fun b b' l hb hl => ?_, fun _ k l h => h⟩
          unfold rhoO at hb
          split at hb
          · rename_i j hj
            obtain rfl := Option.some.inj hb
            obtain ⟨k, rfl, hk⟩ := posO_spec _ _ _ _ hj
            show (if H.N + k < H.N then β1 ((H.N + k : Nat) : Int) else match src[H.N + k - H.N]? with | some b => β1 (b : Int) | none => none) = _
            rw [if_neg (by omega), show H.N + k - H.N = k by omega, hk]; exact hl
          · split at hb
            · rename_i hle
              obtain rfl := Option.some.inj hb
              have : b < H.N := Nat.le_of_ble_eq_true hle
              show (if b < H.N then β1 (b : Int) else _) = _
              rw [if_pos this]; exact hl
            · cases hb
        refine ⟨reEnv H.N src β1, fun i l hi hl => ?_, canon_mid k2 hid (Nat.le_of_ble_eq_true hle) m1 m2, k3.1, fun i => ?_⟩
        · have := k1 i l hl
          cases i with
          | negSucc k => exact this
          | ofNat i =>
            show (if i < H.N then β1 (i : Int) else _) = _
            rw [if_pos (by simpa using hi)]; exact this
        · unfold mkS
          rw [putTs_get H.L _ _ _ rfl]
          by_cases hi : i ∈ H.L
          · rw [if_pos hi, slotF_eq]
            exact renV_rel hren _ _ (k3.2 i)
          · rw [if_neg hi, putL_get]
            by_cases hin : i < H.nt
            · rw [if_pos (by simp; exact hin)]
              simp only [Nat.sub_zero, List.getElem?_replicate, hin, if_true, Option.getD_some]
              exact trivial
            · rw [if_neg (by simp; omega)]
              simp only [Trie.get, Option.getD_none]
              have : tmps.getD i undef = undef := by
                have := k3.1
                simp [Array.getD_eq_getD_getElem?, show ¬ i < tmps.size by omega]
              rw [this]
              exact VR.flat_refl _ (by decide)
      · cases h
end
end Go.VS
