/- Commits never run further ahead of their acks than the leash allows. Conditions: none. -/
import Derived.Test.YtbdeppefllcocaaRows
import Derived.WalkKit
import Derived.ProofKit
import Derived.OpenShut
import Derived.Carry
import Derived.Lib.Hide
import Derived.Test.YtbdeppefllcocaaLeash
namespace Go.Proofs.Ytbdeppefllcocaa.leashHolds
open Go.ChangeShapes Go.WideShapes Go.ChangeAt Go.RowKit
set_option linter.unusedVariables false

theorem own : ownKnob Try.prog.godebug = none := by kernel_rfl
theorem laidOut : laidOutB Try.prog = true := by kernel_rfl
theorem cells3 : Try.prog.cellsOf 3 = 1 := by kernel_rfl

theorem adm_room (x a n : Int) (hc : Lsh.chk n = 0) (ho : Lsh.Okay x a) (hx : x ≤ 400) (hd : x - a ≤ n) : Lsh.roomV x a n = n - (x - a) ∧ ((0 < n - (x - a) ∧ Lsh.adm x a n = 0) ∨ (n - (x - a) = 0 ∧ Lsh.adm x a n = 8)) := by
  have A : Lsh.roomV x a n = min (max (n - (x - a)) 0) (1048576 - x) := by unfold Lsh.roomV; simp [hc, ho]
  rcases Lsh.chk_cases n with ⟨_, hn, hn'⟩ | ⟨h, _⟩
  · obtain ⟨h1, h2, h3, h4⟩ := id ho
    refine ⟨by omega, ?_⟩
    by_cases h0 : 0 < n - (x - a)
    · left; exact ⟨h0, by have := Lsh.adm_yes x a n 0 hc ho (by omega) (by omega); simpa using this⟩
    · right; refine ⟨by omega, ?_⟩
      unfold Lsh.adm; rw [if_neg (by omega), if_neg (by simpa using ho), if_pos (by omega)]
  · omega

set_option maxRecDepth 100000 in
set_option maxHeartbeats 4000000 in
theorem walk (m : Int) (ba off len cap : Nat) (zs : List Int) (w1 : (Lit.int .i64 m).wf = true) (hz : ∀ n ∈ zs, (Lit.int .i64 n).wf = true) (hl : len ≤ zs.length) (w : World)
    (hc : ∀ i, i < len → w.cell? ⟨ba, off + i, none⟩ = some (.int .i64 (zs.getD i 0))) (b : Option Addr) (hb : len = 0 ∨ b = some ⟨ba, off, none⟩) (hm : len ≤ 9223372036854775807) :
    Calls Try.prog 5 #[.int .i64 m, .slice b len cap] w fun e w' => e = .returned (.bool true) ∧ w = w' := by
  rcases Lsh.chk_cases m with ⟨hk, hn, hn'⟩ | ⟨hk, hn⟩
  · have HK := Lib.hid hk; clear hk
    have HB := Lib.hid hb; clear hb
    have HC := Lib.hid hc; clear hc
    have HZ := Lib.hid hz; clear hz
    by_cases h400 : len ≤ 400
    · go_enter Try.func5, Try.ntmps5
      go_wp2_with (go_at_call 15; refine (Lsh.lives_any _).mono ?_; rintro e w' ⟨rfl, rfl⟩)
      refine (Lsh.check_any _ _).mono ?_; rintro e w' ⟨rfl, rfl⟩; rw [HK.out]
      go_wp2_with fail
      go_loop [5, 6, 7, 9] (fun e a i _ => ∃ x y k : Int, 0 ≤ k ∧ k ≤ len ∧ e = .int .i64 x ∧ a = .int .i64 y ∧ i = .int .i64 k ∧ 0 ≤ y ∧ y ≤ x ∧ x ≤ k ∧ x - y ≤ m) (fun _ _ i _ => len - (intOf i).toNat)
      case atStart => exact ⟨0, 0, 0, by omega, by omega, rfl, rfl, rfl, by omega, by omega, by omega, by omega⟩
      case round =>
        obtain ⟨x, y, k, hk0, hk1, rfl, rfl, rfl, hy0, hyx, hxk, hxy⟩ := hrel
        by_cases hlt : k < len
        · have ho : Lsh.Okay x y := ⟨by omega, by omega, by omega, by omega⟩
          obtain ⟨hr, hq⟩ := adm_room x y m HK.out ho (by omega) hxy
          have hoe : Lsh.outE x y = 0 := by unfold Lsh.outE; rw [if_pos ho]
          have hov : Lsh.outV x y = x - y := by unfold Lsh.outV; rw [if_pos ho]
          have hre : Lsh.roomE x y m = 0 := by unfold Lsh.roomE; simp [HK.out, ho]
          obtain ⟨j, rfl⟩ := Int.eq_ofNat_of_zero_le hk0
          have hj : j < len := by omega
          obtain ⟨z, hzz⟩ : ∃ z, zs.getD j 0 = z := ⟨_, rfl⟩
          have hcell := HC.out j hj
          rw [hzz] at hcell
          have hb' : b = some ⟨ba, off, none⟩ := by rcases HB.out with h | h; exact absurd h (by omega); exact h
          subst hb'
          obtain ⟨n, hnn⟩ : ∃ n, Lsh.ackV x y z = n := ⟨_, rfl⟩
          have hn3 : n = max y (min z x) := by rw [← hnn]; unfold Lsh.ackV; rw [if_pos ho]
          have HN := Lib.hid hnn; have HR := Lib.hid hr; have HQ := Lib.hid hq; have HOE := Lib.hid hoe; have HOV := Lib.hid hov; have HRE := Lib.hid hre
          clear hnn hr hq hoe hov hre ho hzz
          by_cases hneg : z < 0
          · rcases HQ.out with ⟨q1, q2⟩ | ⟨q1, q2⟩
            · have Q2 := Lib.hid q2; clear q2 HQ hn3
              go_wp2_with fail
              refine (Lsh.room_any _ _ _ _).mono ?_; rintro e w' ⟨rfl, rfl⟩; rw [HR.out, HRE.out]
              go_wp2_with fail
              refine (Lsh.out_any _ _ _).mono ?_; rintro e w' ⟨rfl, rfl⟩; rw [HOV.out, HOE.out]
              go_wp2_with fail
              refine (Lsh.admit_any _ _ _ _).mono ?_; rintro e w' ⟨rfl, rfl⟩; rw [Q2.out]
              go_wp2
              go_round
              case rel => exact ⟨x + 1, y, j + 1, by omega, by omega, rfl, rfl, rfl, by omega, by omega, by omega, by omega⟩
              case measure => simp [intOf]; omega
            · have Q2 := Lib.hid q2; have Q1 := Lib.hid q1; clear q2 HQ hn3 q1
              have hq1 : m - (x - y) ≤ 0 := by have := Q1.out; omega
              go_wp2_with fail
              refine (Lsh.room_any _ _ _ _).mono ?_; rintro e w' ⟨rfl, rfl⟩; rw [HR.out, HRE.out]
              go_wp2_with fail
              refine (Lsh.out_any _ _ _).mono ?_; rintro e w' ⟨rfl, rfl⟩; rw [HOV.out, HOE.out]
              go_wp2_with fail
              refine (Lsh.admit_any _ _ _ _).mono ?_; rintro e w' ⟨rfl, rfl⟩; rw [Q2.out]
              go_wp2
              go_round
              case rel => exact ⟨x, y, j + 1, by omega, by omega, rfl, rfl, rfl, by omega, by omega, by omega, by omega⟩
              case measure => simp [intOf]; omega
          · clear HQ
            have HN3 := Lib.hid hn3; clear hn3
            have g1 : y ≤ n := by have := HN3.out; omega
            have g2 : n ≤ x := by have := HN3.out; omega
            have g3 : n = y ∨ n = x ∨ n = z := by have := HN3.out; omega
            have G3 := Lib.hid g3; clear g3
            by_cases e1 : n = y
            · subst e1
              go_wp2_with fail
              refine (Lsh.room_any _ _ _ _).mono ?_; rintro e w' ⟨rfl, rfl⟩; rw [HR.out, HRE.out]
              go_wp2_with fail
              refine (Lsh.out_any _ _ _).mono ?_; rintro e w' ⟨rfl, rfl⟩; rw [HOV.out, HOE.out]
              go_wp2_with fail
              refine (Lsh.ack_any _ _ _ _).mono ?_; rintro e w' ⟨rfl, rfl⟩; rw [HN.out, HOE.out]
              go_wp2
              go_round
              case rel => exact ⟨x, n, j + 1, by omega, by omega, rfl, rfl, rfl, by omega, by omega, by omega, by omega⟩
              case measure => simp [intOf]; omega
            · have f1 : (n == y) = false := by simpa using e1
              have f1' : (n != y) = true := by simpa using e1
              by_cases e2 : n = x
              · subst e2
                go_wp2_with fail
                refine (Lsh.room_any _ _ _ _).mono ?_; rintro e w' ⟨rfl, rfl⟩; rw [HR.out, HRE.out]
                go_wp2_with fail
                refine (Lsh.out_any _ _ _).mono ?_; rintro e w' ⟨rfl, rfl⟩; rw [HOV.out, HOE.out]
                go_wp2_with fail
                refine (Lsh.ack_any _ _ _ _).mono ?_; rintro e w' ⟨rfl, rfl⟩; rw [HN.out, HOE.out]
                go_wp2
                go_round
                case rel => exact ⟨n, n, j + 1, by omega, by omega, rfl, rfl, rfl, by omega, by omega, by omega, by omega⟩
                case measure => simp [intOf]; omega
              · have f2' : (n != x) = true := by simpa using e2
                have e3 : n = z := by have := G3.out; omega
                subst e3
                go_wp2_with fail
                refine (Lsh.room_any _ _ _ _).mono ?_; rintro e w' ⟨rfl, rfl⟩; rw [HR.out, HRE.out]
                go_wp2_with fail
                refine (Lsh.out_any _ _ _).mono ?_; rintro e w' ⟨rfl, rfl⟩; rw [HOV.out, HOE.out]
                go_wp2_with fail
                refine (Lsh.ack_any _ _ _ _).mono ?_; rintro e w' ⟨rfl, rfl⟩; rw [HN.out, HOE.out]
                go_wp2
                go_round
                case rel => exact ⟨x, n, j + 1, by omega, by omega, rfl, rfl, rfl, by omega, by omega, by omega, by omega⟩
                case measure => simp [intOf]; omega
        · clear HB
          go_wp2
          go_ret
          exact ⟨rfl, rfl⟩
    · go_enter Try.func5, Try.ntmps5
      go_wp2_with (go_at_call 15; refine (Lsh.lives_any _).mono ?_; rintro e w' ⟨rfl, rfl⟩)
      refine (Lsh.check_any _ _).mono ?_; rintro e w' ⟨rfl, rfl⟩; rw [HK.out]
      go_wp2
      go_ret
      exact ⟨rfl, rfl⟩
  · have HK := Lib.hid hk; clear hk hn hb hc
    go_enter Try.func5, Try.ntmps5
    go_wp2_with (go_at_call 15; refine (Lsh.lives_any _).mono ?_; rintro e w' ⟨rfl, rfl⟩)
    refine (Lsh.check_any _ _).mono ?_; rintro e w' ⟨rfl, rfl⟩; rw [HK.out]
    go_wp2
    go_ret
    exact ⟨rfl, rfl⟩

set_option maxRecDepth 100000 in
theorem lifted (os : Os) (started : os.Started) (H : Type) (enc : TypeId × Value → H) :
    ReturnsInHanded {} Try.checked os 5 .any (Rows.leashHoldsSpec.pre6 enc Try.prog Try.f5 Rows.leashHoldsRow.domain false) (Rows.leashHoldsSpec.post enc Try.prog Try.f5 false true false false) := by
  refine returnsInHanded_of_change (C := Try.checked) own started (by kernel_rfl) Try.func5
    (ChangeSpec.witness6 (enc := enc) (C := Try.checked) false ⟨#[], #[.int .i64 0, .slice none 0 0], []⟩ 8 (by kernel_rfl) (by kernel_rfl) (by kernel_rfl) (by kernel_rfl)) ?_
  intro W base args ds gs before hval0 hW hcnd _
  have hval : ∀ (j : Nat) t v, Try.f5.params[j]? = some t → args[j]? = some v → Value.okWide Try.prog W .any base t v := hval0
  have hW' := hW
  obtain ⟨p, q, hA0, hV, rfl, hfz, hnd⟩ := hW
  have hA : DataW.TrodAll enc Try.prog W 0 (fun _ => true) true Try.f5.params.toList args.toList ds p := hA0
  rw [Try.params5] at hA hval
  obtain ⟨v0, vs0, d0, ds0, p0, q0, hargs, rfl, rfl, h0, r0⟩ := trodAll_cons hA
  obtain ⟨v1, vs1, d1, ds1, p1, q1, rfl, rfl, rfl, h1, r1⟩ := trodAll_cons r0
  obtain ⟨rfl, rfl, rfl⟩ := trodAll_nil r1
  obtain rfl : args = #[v0, v1] := by cases args; simp_all
  obtain ⟨rfl, rfl⟩ := trodVars_none hV
  obtain ⟨a0, rfl, rfl, rfl, w0⟩ := open_int Try.underlying3 (hval 0 3 v0 rfl rfl) h0
  obtain ⟨a1, len, cap, rfl⟩ := okWide_slice Try.underlying25 (hval 1 25 v1 rfl rfl)
  have h1k := h1
  obtain ⟨fuel, hf⟩ := h1
  clear hA0 hval0
  simp only [List.append_nil] at hW'
  have hlt : ∀ x ∈ p1, x.block < W.heap.size := fun x hx => by simpa using hW'.lt x (by simp [hx])
  have fin : Calls Try.prog 5 #[.int .i64 a0, .slice a1 len cap] W fun e w' => e = .returned (.bool true) ∧ W = w' := by
    rcases open_ints Try.underlying25 Try.underlying3 cells3 hf with ⟨hcs, hx⟩ | ⟨a, len', cap', zs, hcs, _, hl, hm, hz, hx, hcell, hwz⟩
    · simp [Value.cells] at hcs
      obtain ⟨rfl, rfl, rfl⟩ := hcs
      exact walk a0 0 0 0 0 [] w0 (by simp) (by simp) W (by simp) none (Or.inl rfl) (by omega)
    · simp [Value.cells] at hcs
      obtain ⟨rfl, rfl, rfl⟩ := hcs
      simp only [if_true] at hz
      by_cases hl0 : len = 0
      · subst hl0
        exact walk a0 0 0 0 cap zs w0 hwz (by omega) W (by omega) (some a) (Or.inl rfl) (by omega)
      · obtain ⟨ba, off, spot⟩ := a
        have hspot : spot = none := by simpa [Addr.add] using World.cell?_spot (hcell 0 (by omega))
        subst hspot
        refine walk a0 ba off len cap zs w0 hwz (by omega) W (fun i hi => ?_) _ (Or.inr rfl) (by unfold maxLen at hm; omega)
        rw [← add_plain]; exact hcell i (by omega)
  refine fin.mono fun e W' ⟨he, hg⟩ => ?_
  subst he; subst hg
  refine ⟨_, rfl, _, _, _, [], p1, [], hW', ?_, ?_, rfl, (Below.refl _ _).frame _, fun h => by cases h⟩
  · exact trodAll_cons_mk (shut_bool Try.underlying4 _) trodAll_mk0
  · have T := trodAll_cons_mk (Below.trod laidOut (by kernel_rfl) (of_decide_eq_true (by kernel_rfl)) h1k (Below.refl _ _) hlt) trodAll_mk0
    rw [List.append_nil] at T
    exact trodAll_cons_mk (shut_int Try.underlying3 w0) T

theorem over : Rows.leashHoldsRow.holds Try.pinned (OpenSpec.ofChange Rows.leashHoldsSpec) :=
  OpenClaim.holds_of_wide 5 Try.f5 rfl rfl rfl rfl rfl rfl rfl ⟨rfl, rfl, rfl, rfl, rfl⟩ rfl rfl rfl rfl rfl (by kernel_rfl) Try.func5 (by kernel_rfl)
    (of_decide_eq_true (by kernel_rfl)) (by unfold Func.isWrapper; first | (rw [if_pos (by decide +kernel)]; kernel_rfl) | (rw [if_neg (by decide +kernel)]; exact ⟨rfl, rfl⟩))
    (fun os started H enc _ => lifted os started H enc)

theorem proved : Rows.LeashHoldsSaid :=
  over
#print axioms proved
end Go.Proofs.Ytbdeppefllcocaa.leashHolds
