/- Acks may come late, twice or out of order without harm, and more acks always leave more room. Conditions: none. -/
import Derived.Test.YtbdeppefllcocaaRows
import Derived.WalkKit
import Derived.ProofKit
import Derived.OpenShut
import Derived.Lib.Hide
import Derived.Test.YtbdeppefllcocaaLeash
namespace Go.Proofs.Ytbdeppefllcocaa.leashOrder
open Go.ChangeShapes Go.WideShapes Go.ChangeAt Go.RowKit
set_option linter.unusedVariables false      -- a walk need not use every 'w<i>' (that an integer argument fits its kind)

theorem own : ownKnob Try.prog.godebug = none := by kernel_rfl

/-! ### STEP 1: THE WALK: the Go text returns true. 'Grown w w'': the world has at most new blocks (Derived/RowKit3.lean). Part the cases AHEAD of 'go_enter' where a test parts the walk; take each callee by a contract of your own. -/
set_option maxRecDepth 100000 in
set_option maxHeartbeats 4000000 in
theorem walk (a0 : Int) (a1 : Int) (a2 : Int) (a3 : Int) (a4 : Int) (w0 : (Lit.int .i64 a0).wf = true) (w1 : (Lit.int .i64 a1).wf = true) (w2 : (Lit.int .i64 a2).wf = true) (w3 : (Lit.int .i64 a3).wf = true) (w4 : (Lit.int .i64 a4).wf = true) (w : World) :
    Calls Try.prog 6 #[.int .i64 a0, .int .i64 a1, .int .i64 a2, .int .i64 a3, .int .i64 a4] w fun e w' => e = .returned (.bool true) ∧ Grown w w' := by
  rcases Lsh.outE_cases a0 a1 with ⟨ho, he, hv⟩ | ⟨ho, he, hv⟩
  · obtain ⟨a, ha⟩ : ∃ a, Lsh.ackV a0 a1 a3 = a := ⟨_, rfl⟩
    obtain ⟨one, h1⟩ : ∃ a', Lsh.ackV a0 a a4 = a' := ⟨_, rfl⟩
    obtain ⟨two, h2⟩ : ∃ a', Lsh.ackV a0 a1 a4 = a' := ⟨_, rfl⟩
    obtain ⟨x, hx⟩ : ∃ x, Lsh.roomV a0 a1 a2 = x := ⟨_, rfl⟩
    obtain ⟨y, hy⟩ : ∃ x, Lsh.roomV a0 a a2 = x := ⟨_, rfl⟩
    obtain ⟨z, hz⟩ : ∃ x, Lsh.roomV a0 a1 (a2 + 1) = x := ⟨_, rfl⟩
    obtain ⟨q, hq⟩ : ∃ x, Lsh.adm a0 a1 a2 = x := ⟨_, rfl⟩
    have ha' : a = max a1 (min a3 a0) := by rw [← ha]; unfold Lsh.ackV; rw [if_pos ho]
    have hoo := ho
    obtain ⟨b1, b2, b3, b4⟩ := hoo
    have hoa : Lsh.Okay a0 a := ⟨b1, b2, by omega, by omega⟩
    have hb : Lsh.ackV a0 a a3 = a := by unfold Lsh.ackV; rw [if_pos hoa]; omega
    have hc : Lsh.ackV a0 a a1 = a := by unfold Lsh.ackV; rw [if_pos hoa]; omega
    have hea : Lsh.outE a0 a = 0 := by unfold Lsh.outE; rw [if_pos hoa]
    have h2' : two = max a1 (min a4 a0) := by rw [← h2]; unfold Lsh.ackV; rw [if_pos ho]
    have h1' : one = max a (min a4 a0) := by rw [← h1]; unfold Lsh.ackV; rw [if_pos hoa]
    have hot : Lsh.Okay a0 two := ⟨b1, b2, by omega, by omega⟩
    have het : Lsh.outE a0 two = 0 := by unfold Lsh.outE; rw [if_pos hot]
    have h3 : Lsh.ackV a0 two a3 = one := by unfold Lsh.ackV; rw [if_pos hot]; omega
    have ba : a1 ≤ a := by omega
    have ba' : a ≤ a0 := by omega
    rcases Lsh.chk_cases a2 with ⟨hk, hn, hn'⟩ | ⟨hk, hn⟩
    · have ex : Lsh.roomE a0 a1 a2 = 0 := by unfold Lsh.roomE; simp [hk, ho]
      have ey : Lsh.roomE a0 a a2 = 0 := by unfold Lsh.roomE; simp [hk, hoa]
      have hx' : x = min (max (a2 - (a0 - a1)) 0) (1048576 - a0) := by rw [← hx]; unfold Lsh.roomV; simp [hk, ho]
      have hy' : y = min (max (a2 - (a0 - a)) 0) (1048576 - a0) := by rw [← hy]; unfold Lsh.roomV; simp [hk, hoa]
      have xy : x ≤ y := by omega
      obtain ⟨g, hg⟩ : ∃ g, Lsh.roomE a0 a1 (a2 + 1) = g := ⟨_, rfl⟩
      have xz : (g = 0 ∧ x ≤ z) ∨ g = 2 := by
        rcases Lsh.chk_cases (a2 + 1) with ⟨hk1, _⟩ | ⟨hk1, _⟩
        · left
          refine ⟨by rw [← hg]; unfold Lsh.roomE; simp [hk1, ho], ?_⟩
          have : z = min (max (a2 + 1 - (a0 - a1)) 0) (1048576 - a0) := by rw [← hz]; unfold Lsh.roomV; simp [hk1, ho]
          omega
        · right; rw [← hg]; unfold Lsh.roomE; simp [hk1]
      have xq : (0 < x ∧ q = 0) ∨ (x ≤ 0 ∧ (q = 8 ∨ q = 2)) := by
        by_cases h0 : 0 < x
        · left; exact ⟨h0, by have := Lsh.adm_yes a0 a1 a2 0 hk ho (by omega) (by omega); simpa [hq] using this⟩
        · right; exact ⟨by omega, by have := Lsh.adm_no a0 a1 a2 0 hk ho (by omega); simpa [hq] using this⟩
      have He := Lib.hid he; have Ha := Lib.hid ha; have Hea := Lib.hid hea; have Hb := Lib.hid hb; have Hc := Lib.hid hc; have H1 := Lib.hid h1; have H2 := Lib.hid h2; have Het := Lib.hid het; have H3 := Lib.hid h3; have Hx := Lib.hid hx; have Hy := Lib.hid hy; have Hz := Lib.hid hz; have Hq := Lib.hid hq; have Ex := Lib.hid ex; have Ey := Lib.hid ey; have Hg := Lib.hid hg; have XZ := Lib.hid xz; have XQ := Lib.hid xq
      clear he hv ha hea hb hc h1 h2 het h3 hx hy hz hq ex ey hg hk hx' hy' ha' h2' h1' ho hoa hot xz xq
      rcases XQ.out with ⟨x0, q0⟩ | ⟨x0, q0 | q0⟩ <;> rcases XZ.out with ⟨g0, xz⟩ | g0
      all_goals
        subst q0 g0
        clear XZ XQ
        go_enter Try.func6, Try.ntmps6
        go_wp2_with (go_at_call 15; refine (Lsh.lives_any _).mono ?_; rintro e w' ⟨rfl, rfl⟩)
        refine (Lsh.ack_any _ _ _ _).mono ?_; rintro e w' ⟨rfl, rfl⟩; rw [Ha.out, He.out]
        go_wp2_with fail
        refine (Lsh.ack_any _ _ _ _).mono ?_; rintro e w' ⟨rfl, rfl⟩; rw [Hb.out, Hea.out]
        go_wp2_with fail
        refine (Lsh.ack_any _ _ _ _).mono ?_; rintro e w' ⟨rfl, rfl⟩; rw [Hc.out, Hea.out]
        go_wp2_with fail
        refine (Lsh.ack_any _ _ _ _).mono ?_; rintro e w' ⟨rfl, rfl⟩; rw [H1.out, Hea.out]
        go_wp2_with fail
        refine (Lsh.ack_any _ _ _ _).mono ?_; rintro e w' ⟨rfl, rfl⟩; rw [H2.out, He.out]
        go_wp2_with fail
        refine (Lsh.ack_any _ _ _ _).mono ?_; rintro e w' ⟨rfl, rfl⟩; rw [H3.out, Het.out]
        go_wp2_with fail
        refine (Lsh.room_any _ _ _ _).mono ?_; rintro e w' ⟨rfl, rfl⟩; rw [Hx.out, Ex.out]
        go_wp2_with fail
        refine (Lsh.room_any _ _ _ _).mono ?_; rintro e w' ⟨rfl, rfl⟩; rw [Hy.out, Ey.out]
        go_wp2_with fail
        refine (Lsh.room_any _ _ _ _).mono ?_; rintro e w' ⟨rfl, rfl⟩; rw [Hz.out, Hg.out]
        go_wp2_with fail
        refine (Lsh.admit_any _ _ _ _).mono ?_; rintro e w' ⟨rfl, rfl⟩; rw [Hq.out]
        go_wp2
        go_ret
        exact ⟨congrArg (fun b => Ending.returned (.bool b)) (show _ = true by first | rfl | (simp; omega)), Grown.refl _⟩
    · have ex : Lsh.roomE a0 a1 a2 = 2 := by unfold Lsh.roomE; simp [hk]
      have ey : Lsh.roomE a0 a a2 = 2 := by unfold Lsh.roomE; simp [hk]
      have hx' : Lsh.roomV a0 a1 a2 = 0 := by unfold Lsh.roomV; simp [hk]
      have He := Lib.hid he; have Ha := Lib.hid ha; have Hea := Lib.hid hea; have Hb := Lib.hid hb; have Hc := Lib.hid hc; have H1 := Lib.hid h1; have H2 := Lib.hid h2; have Het := Lib.hid het; have H3 := Lib.hid h3; have Hx := Lib.hid hx'; have Hy := Lib.hid hy; have Ex := Lib.hid ex; have Ey := Lib.hid ey
      clear he hv ha hea hb hc h1 h2 het h3 hx hy hz hq ex ey hk hx' ha' h2' h1' ho hoa hot hn
      go_enter Try.func6, Try.ntmps6
      go_wp2_with (go_at_call 15; refine (Lsh.lives_any _).mono ?_; rintro e w' ⟨rfl, rfl⟩)
      refine (Lsh.ack_any _ _ _ _).mono ?_; rintro e w' ⟨rfl, rfl⟩; rw [Ha.out, He.out]
      go_wp2_with fail
      refine (Lsh.ack_any _ _ _ _).mono ?_; rintro e w' ⟨rfl, rfl⟩; rw [Hb.out, Hea.out]
      go_wp2_with fail
      refine (Lsh.ack_any _ _ _ _).mono ?_; rintro e w' ⟨rfl, rfl⟩; rw [Hc.out, Hea.out]
      go_wp2_with fail
      refine (Lsh.ack_any _ _ _ _).mono ?_; rintro e w' ⟨rfl, rfl⟩; rw [H1.out, Hea.out]
      go_wp2_with fail
      refine (Lsh.ack_any _ _ _ _).mono ?_; rintro e w' ⟨rfl, rfl⟩; rw [H2.out, He.out]
      go_wp2_with fail
      refine (Lsh.ack_any _ _ _ _).mono ?_; rintro e w' ⟨rfl, rfl⟩; rw [H3.out, Het.out]
      go_wp2_with fail
      refine (Lsh.room_any _ _ _ _).mono ?_; rintro e w' ⟨rfl, rfl⟩; rw [Hx.out, Ex.out]
      go_wp2_with fail
      refine (Lsh.room_any _ _ _ _).mono ?_; rintro e w' ⟨rfl, rfl⟩; rw [Hy.out, Ey.out]
      go_wp2
      go_ret
      exact ⟨rfl, Grown.refl _⟩
  · have hx : Lsh.ackV a0 a1 a3 = 0 := by unfold Lsh.ackV; rw [if_neg ho]
    have He := Lib.hid he; have Hv := Lib.hid hv; have Hx := Lib.hid hx
    clear he hv hx ho
    go_enter Try.func6, Try.ntmps6
    go_wp2_with (go_at_call 15; refine (Lsh.lives_any _).mono ?_; rintro e w' ⟨rfl, rfl⟩)
    refine (Lsh.ack_any _ _ _ _).mono ?_; rintro e w' ⟨rfl, rfl⟩; rw [Hx.out, He.out]
    go_wp2_with fail
    refine (Lsh.out_any _ _ _).mono ?_; rintro e w' ⟨rfl, rfl⟩; rw [Hv.out, He.out]
    go_wp2
    go_ret
    exact ⟨rfl, Grown.refl _⟩

/-! ### THE ROW's STEP: WRITTEN OUT: LEAVE IT -/
set_option maxRecDepth 100000 in
theorem lifted (os : Os) (started : os.Started) (H : Type) (enc : TypeId × Value → H) :
    ReturnsInHanded {} Try.checked os 6 .any (Rows.leashOrderSpec.pre6 enc Try.prog Try.f6 Rows.leashOrderRow.domain false) (Rows.leashOrderSpec.post enc Try.prog Try.f6 false true false false) := by
  refine returnsInHanded_of_change (C := Try.checked) own started (by kernel_rfl) Try.func6
    (ChangeSpec.witness6 (enc := enc) (C := Try.checked) false ⟨#[], #[.int .i64 0, .int .i64 0, .int .i64 0, .int .i64 0, .int .i64 0], []⟩ 8 (by kernel_rfl) (by kernel_rfl) (by kernel_rfl) (by kernel_rfl)) ?_
  intro W base args ds gs before hval0 hW hcnd _
  have hval : ∀ (j : Nat) t v, Try.f6.params[j]? = some t → args[j]? = some v → Value.okWide Try.prog W .any base t v := hval0
  have hW' := hW
  obtain ⟨p, q, hA0, hV, rfl, hfz, hnd⟩ := hW
  have hA : DataW.TrodAll enc Try.prog W 0 (fun _ => true) true Try.f6.params.toList args.toList ds p := hA0
  rw [Try.params6] at hA hval
  obtain ⟨v0, vs0, d0, ds0, p0, q0, hargs, rfl, rfl, h0, r0⟩ := trodAll_cons hA
  obtain ⟨v1, vs1, d1, ds1, p1, q1, rfl, rfl, rfl, h1, r1⟩ := trodAll_cons r0
  obtain ⟨v2, vs2, d2, ds2, p2, q2, rfl, rfl, rfl, h2, r2⟩ := trodAll_cons r1
  obtain ⟨v3, vs3, d3, ds3, p3, q3, rfl, rfl, rfl, h3, r3⟩ := trodAll_cons r2
  obtain ⟨v4, vs4, d4, ds4, p4, q4, rfl, rfl, rfl, h4, r4⟩ := trodAll_cons r3
  obtain ⟨rfl, rfl, rfl⟩ := trodAll_nil r4
  obtain rfl : args = #[v0, v1, v2, v3, v4] := by cases args; simp_all
  obtain ⟨rfl, rfl⟩ := trodVars_none hV
  obtain ⟨a0, rfl, rfl, rfl, w0⟩ := open_int Try.underlying3 (hval 0 3 v0 rfl rfl) h0
  obtain ⟨a1, rfl, rfl, rfl, w1⟩ := open_int Try.underlying3 (hval 1 3 v1 rfl rfl) h1
  obtain ⟨a2, rfl, rfl, rfl, w2⟩ := open_int Try.underlying3 (hval 2 3 v2 rfl rfl) h2
  obtain ⟨a3, rfl, rfl, rfl, w3⟩ := open_int Try.underlying3 (hval 3 3 v3 rfl rfl) h3
  obtain ⟨a4, rfl, rfl, rfl, w4⟩ := open_int Try.underlying3 (hval 4 3 v4 rfl rfl) h4
  clear hA0 hval0
  simp only [List.append_nil] at hW'
  refine (walk a0 a1 a2 a3 a4 w0 w1 w2 w3 w4 W).mono fun e W' ⟨he, hg⟩ => ?_
  subst he
  exact ⟨_, rfl, post_of_same (pa := []) (pv := []) hW' (fun _ _ _ => (trodAll_cons_mk (shut_bool Try.underlying4 _) trodAll_mk0)) (fun sp _ => (trodAll_cons_mk (shut_int Try.underlying3 w0) (trodAll_cons_mk (shut_int Try.underlying3 w1) (trodAll_cons_mk (shut_int Try.underlying3 w2) (trodAll_cons_mk (shut_int Try.underlying3 w3) (trodAll_cons_mk (shut_int Try.underlying3 w4) trodAll_mk0)))))) (fun _ _ => rfl) rfl
    (hg.frame _) hg.2.1 (ok_one (by kernel_rfl) rfl (okWide_bool_mk Try.underlying4 _))⟩

theorem over : Rows.leashOrderRow.holds Try.pinned (OpenSpec.ofChange Rows.leashOrderSpec) :=
  OpenClaim.holds_of_wide 6 Try.f6 rfl rfl rfl rfl rfl rfl rfl ⟨rfl, rfl, rfl, rfl, rfl⟩ rfl rfl rfl rfl rfl (by kernel_rfl) Try.func6 (by kernel_rfl)
    (of_decide_eq_true (by kernel_rfl)) (by unfold Func.isWrapper; first | (rw [if_pos (by decide +kernel)]; kernel_rfl) | (rw [if_neg (by decide +kernel)]; exact ⟨rfl, rfl⟩))
    (fun os started H enc _ => lifted os started H enc)

/-- ████ THE STATEMENT ████ -/
theorem proved : Rows.LeashOrderSaid :=
  over
#print axioms proved
end Go.Proofs.Ytbdeppefllcocaa.leashOrder
