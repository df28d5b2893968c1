/- The leash's functions, and the document's, come to the same plain functions of whole numbers. Conditions: the arguments are 64-bit numbers. -/
import Derived.Test.YtbdeppefllcocaaRows
import Derived.WalkKit
import Derived.ProofKit
import Derived.Lib.Hide
namespace Go.Proofs.Ytbdeppefllcocaa.Lsh
open Go.RowKit
def chk (n : Int) : Int := if n < 1 ∨ 16 < n then 2 else 0
def Okay (e a : Int) : Prop := 0 ≤ e ∧ e ≤ 1048576 ∧ 0 ≤ a ∧ a ≤ e
instance (e a : Int) : Decidable (Okay e a) := by unfold Okay; infer_instance
def outV (e a : Int) : Int := if Okay e a then e - a else 0
def outE (e a : Int) : Int := if Okay e a then 0 else 2
def adm (e a n : Int) : Int := if chk n ≠ 0 then 2 else if ¬ Okay e a then 2 else if n ≤ e - a then 8 else if e = 1048576 then 2 else 0
def ackV (e a t : Int) : Int := if Okay e a then max a (min t e) else 0
def roomV (e a n : Int) : Int := if chk n ≠ 0 ∨ ¬ Okay e a then 0 else min (max (n - (e - a)) 0) (1048576 - e)
def roomE (e a n : Int) : Int := if chk n ≠ 0 ∨ ¬ Okay e a then 2 else 0

theorem ret1 {a b : Int} (h : a = b) : Ending.returned (.int .i64 a) = .returned (.int .i64 b) := by rw [h]
theorem ret2 {a b c d : Int} (h : a = b) (h' : c = d) : Ending.returned (.tuple #[.int .i64 a, .int .i64 c]) = .returned (.tuple #[.int .i64 b, .int .i64 d]) := by rw [h, h']

theorem check_any (n : Int) (w : World) : Calls Try.prog 20 #[.int .i64 n] w fun e w' => e = .returned (.int .i64 (chk n)) ∧ w = w' := by
  go_enter Try.func20, Try.ntmps20
  go_wp2
  all_goals go_ret
  all_goals exact ⟨ret1 (by unfold chk; omega), rfl⟩
theorem rcheck_any (n : Int) (w : World) : Calls Try.prog 21 #[.int .i64 n] w fun e w' => e = .returned (.int .i64 (chk n)) ∧ w = w' := by
  go_enter Try.func21, Try.ntmps21
  go_wp2
  all_goals go_ret
  all_goals exact ⟨ret1 (by unfold chk; omega), rfl⟩
theorem out_any (x a : Int) (w : World) : Calls Try.prog 12 #[.int .i64 x, .int .i64 a] w fun e w' => e = .returned (.tuple #[.int .i64 (outV x a), .int .i64 (outE x a)]) ∧ w = w' := by
  by_cases h : Okay x a
  · obtain ⟨h1, h2, h3, h4⟩ := id h
    have H := Lib.hid h; clear h
    go_enter Try.func12, Try.ntmps12
    go_wp2
    go_ret2
    exact ⟨ret2 (by unfold outV; rw [if_pos H.out]) (by unfold outE; rw [if_pos H.out]), rfl⟩
  · have H := Lib.hid h; clear h
    go_enter Try.func12, Try.ntmps12
    go_wp2
    all_goals go_ret2
    all_goals first
      | (exfalso; exact H.out (by unfold Okay; omega))
      | exact ⟨ret2 (by unfold outV; rw [if_neg H.out]) (by unfold outE; rw [if_neg H.out]), rfl⟩

theorem rout_any (x a : Int) (w : World) : Calls Try.prog 17 #[.int .i64 x, .int .i64 a] w fun e w' => e = .returned (.tuple #[.int .i64 (outV x a), .int .i64 (outE x a)]) ∧ w = w' := by
  by_cases h : Okay x a
  · obtain ⟨h1, h2, h3, h4⟩ := id h
    have H := Lib.hid h; clear h
    go_enter Try.func17, Try.ntmps17
    go_wp2
    go_ret2
    exact ⟨ret2 (by unfold outV; rw [if_pos H.out]) (by unfold outE; rw [if_pos H.out]), rfl⟩
  · have H := Lib.hid h; clear h
    go_enter Try.func17, Try.ntmps17
    go_wp2
    all_goals go_ret2
    all_goals first
      | (exfalso; exact H.out (by unfold Okay; omega))
      | exact ⟨ret2 (by unfold outV; rw [if_neg H.out]) (by unfold outE; rw [if_neg H.out]), rfl⟩
theorem outE_cases (x a : Int) : (Okay x a ∧ outE x a = 0 ∧ outV x a = x - a) ∨ (¬ Okay x a ∧ outE x a = 2 ∧ outV x a = 0) := by
  unfold outE outV; by_cases h : Okay x a <;> simp [h]
theorem chk_cases (n : Int) : (chk n = 0 ∧ 1 ≤ n ∧ n ≤ 16) ∨ (chk n = 2 ∧ (n < 1 ∨ 16 < n)) := by
  unfold chk; by_cases h : n < 1 ∨ 16 < n <;> simp [h] <;> omega
theorem admit_any (x a n : Int) (w : World) : Calls Try.prog 16 #[.int .i64 x, .int .i64 a, .int .i64 n] w fun e w' => e = .returned (.int .i64 (adm x a n)) ∧ w = w' := by
  rcases chk_cases n with ⟨hc, hn⟩ | ⟨hc, hn⟩
  · rcases outE_cases x a with ⟨ho, he, hv⟩ | ⟨ho, he, hv⟩
    · have A : adm x a n = if n ≤ x - a then 8 else if x = 1048576 then 2 else 0 := by unfold adm; simp [hc, ho]
      obtain ⟨h1, h2, h3, h4⟩ := ho
      have Hc := Lib.hid hc; have He := Lib.hid he; have Hv := Lib.hid hv; have HA := Lib.hid A; clear hc he hv A
      go_enter Try.func16, Try.ntmps16
      go_wp2_with fail
      refine (check_any _ _).mono ?_; rintro e w' ⟨rfl, rfl⟩
      rw [Hc.out]
      go_wp2_with fail
      refine (out_any _ _ _).mono ?_; rintro e w' ⟨rfl, rfl⟩
      rw [He.out, Hv.out]
      go_wp2
      all_goals go_ret
      all_goals exact ⟨ret1 (by rw [HA.out]; (repeat' split) <;> first | omega | (simp only [beq_iff_eq, beq_eq_false_iff_ne] at *; omega)), rfl⟩
    · have A : adm x a n = 2 := by unfold adm; simp [hc, ho]
      have Hc := Lib.hid hc; have He := Lib.hid he; have Hv := Lib.hid hv; have HA := Lib.hid A; clear hc he hv A ho
      go_enter Try.func16, Try.ntmps16
      go_wp2_with fail
      refine (check_any _ _).mono ?_; rintro e w' ⟨rfl, rfl⟩
      rw [Hc.out]
      go_wp2_with fail
      refine (out_any _ _ _).mono ?_; rintro e w' ⟨rfl, rfl⟩
      rw [He.out, Hv.out]
      go_wp2
      all_goals go_ret
      all_goals exact ⟨ret1 (by rw [HA.out]), rfl⟩
  · have A : adm x a n = 2 := by unfold adm; simp [hc]
    have Hc := Lib.hid hc; have HA := Lib.hid A; clear hc A
    go_enter Try.func16, Try.ntmps16
    go_wp2_with fail
    refine (check_any _ _).mono ?_; rintro e w' ⟨rfl, rfl⟩
    rw [Hc.out]
    go_wp2_with fail
    all_goals go_ret
    all_goals exact ⟨ret1 (by rw [HA.out]), rfl⟩
theorem radmit_any (x a n : Int) (w : World) : Calls Try.prog 22 #[.int .i64 x, .int .i64 a, .int .i64 n] w fun e w' => e = .returned (.int .i64 (adm x a n)) ∧ w = w' := by
  rcases chk_cases n with ⟨hc, hn⟩ | ⟨hc, hn⟩
  · rcases outE_cases x a with ⟨ho, he, hv⟩ | ⟨ho, he, hv⟩
    · have A : adm x a n = if n ≤ x - a then 8 else if x = 1048576 then 2 else 0 := by unfold adm; simp [hc, ho]
      obtain ⟨h1, h2, h3, h4⟩ := ho
      have Hc := Lib.hid hc; have He := Lib.hid he; have Hv := Lib.hid hv; have HA := Lib.hid A; clear hc he hv A
      go_enter Try.func22, Try.ntmps22
      go_wp2_with fail
      refine (rcheck_any _ _).mono ?_; rintro e w' ⟨rfl, rfl⟩
      rw [Hc.out]
      go_wp2_with fail
      refine (rout_any _ _ _).mono ?_; rintro e w' ⟨rfl, rfl⟩
      rw [He.out, Hv.out]
      go_wp2
      all_goals go_ret
      all_goals exact ⟨ret1 (by rw [HA.out]; (repeat' split) <;> first | omega | (simp only [beq_iff_eq, beq_eq_false_iff_ne] at *; omega)), rfl⟩
    · have A : adm x a n = 2 := by unfold adm; simp [hc, ho]
      have Hc := Lib.hid hc; have He := Lib.hid he; have Hv := Lib.hid hv; have HA := Lib.hid A; clear hc he hv A ho
      go_enter Try.func22, Try.ntmps22
      go_wp2_with fail
      refine (rcheck_any _ _).mono ?_; rintro e w' ⟨rfl, rfl⟩
      rw [Hc.out]
      go_wp2_with fail
      refine (rout_any _ _ _).mono ?_; rintro e w' ⟨rfl, rfl⟩
      rw [He.out, Hv.out]
      go_wp2
      all_goals go_ret
      all_goals exact ⟨ret1 (by rw [HA.out]), rfl⟩
  · have A : adm x a n = 2 := by unfold adm; simp [hc]
    have Hc := Lib.hid hc; have HA := Lib.hid A; clear hc A
    go_enter Try.func22, Try.ntmps22
    go_wp2_with fail
    refine (rcheck_any _ _).mono ?_; rintro e w' ⟨rfl, rfl⟩
    rw [Hc.out]
    go_wp2_with fail
    all_goals go_ret
    all_goals exact ⟨ret1 (by rw [HA.out]), rfl⟩

theorem ack_any (x a t : Int) (w : World) : Calls Try.prog 13 #[.int .i64 x, .int .i64 a, .int .i64 t] w fun e w' => e = .returned (.tuple #[.int .i64 (ackV x a t), .int .i64 (outE x a)]) ∧ w = w' := by
  rcases outE_cases x a with ⟨ho, he, hv⟩ | ⟨ho, he, hv⟩
  · have A : ackV x a t = max a (min t x) := by unfold ackV; simp [ho]
    obtain ⟨h1, h2, h3, h4⟩ := ho
    have He := Lib.hid he; have Hv := Lib.hid hv; have HA := Lib.hid A; clear he hv A
    go_enter Try.func13, Try.ntmps13
    go_wp2_with fail
    refine (out_any _ _ _).mono ?_; rintro e w' ⟨rfl, rfl⟩
    rw [He.out, Hv.out]
    go_wp2
    all_goals go_ret2
    all_goals exact ⟨ret2 (by rw [HA.out]; omega) (by rw [He.out]), rfl⟩
  · have A : ackV x a t = 0 := by unfold ackV; simp [ho]
    have He := Lib.hid he; have Hv := Lib.hid hv; have HA := Lib.hid A; clear he hv A ho
    go_enter Try.func13, Try.ntmps13
    go_wp2_with fail
    refine (out_any _ _ _).mono ?_; rintro e w' ⟨rfl, rfl⟩
    rw [He.out, Hv.out]
    go_wp2
    all_goals go_ret2
    all_goals exact ⟨ret2 (by rw [HA.out]) (by rw [He.out]), rfl⟩
theorem rack_any (x a t : Int) (w : World) : Calls Try.prog 18 #[.int .i64 x, .int .i64 a, .int .i64 t] w fun e w' => e = .returned (.tuple #[.int .i64 (ackV x a t), .int .i64 (outE x a)]) ∧ w = w' := by
  rcases outE_cases x a with ⟨ho, he, hv⟩ | ⟨ho, he, hv⟩
  · have A : ackV x a t = max a (min t x) := by unfold ackV; simp [ho]
    obtain ⟨h1, h2, h3, h4⟩ := ho
    have He := Lib.hid he; have Hv := Lib.hid hv; have HA := Lib.hid A; clear he hv A
    go_enter Try.func18, Try.ntmps18
    go_wp2_with fail
    refine (rout_any _ _ _).mono ?_; rintro e w' ⟨rfl, rfl⟩
    rw [He.out, Hv.out]
    go_wp2
    all_goals go_ret2
    all_goals exact ⟨ret2 (by rw [HA.out]; omega) (by rw [He.out]), rfl⟩
  · have A : ackV x a t = 0 := by unfold ackV; simp [ho]
    have He := Lib.hid he; have Hv := Lib.hid hv; have HA := Lib.hid A; clear he hv A ho
    go_enter Try.func18, Try.ntmps18
    go_wp2_with fail
    refine (rout_any _ _ _).mono ?_; rintro e w' ⟨rfl, rfl⟩
    rw [He.out, Hv.out]
    go_wp2
    all_goals go_ret2
    all_goals exact ⟨ret2 (by rw [HA.out]) (by rw [He.out]), rfl⟩
theorem room_any (x a n : Int) (w : World) : Calls Try.prog 14 #[.int .i64 x, .int .i64 a, .int .i64 n] w fun e w' => e = .returned (.tuple #[.int .i64 (roomV x a n), .int .i64 (roomE x a n)]) ∧ w = w' := by
  rcases chk_cases n with ⟨hc, hn⟩ | ⟨hc, hn⟩
  · rcases outE_cases x a with ⟨ho, he, hv⟩ | ⟨ho, he, hv⟩
    · have A : roomV x a n = min (max (n - (x - a)) 0) (1048576 - x) := by unfold roomV; simp [hc, ho]
      have B : roomE x a n = 0 := by unfold roomE; simp [hc, ho]
      obtain ⟨h1, h2, h3, h4⟩ := ho
      have Hc := Lib.hid hc; have He := Lib.hid he; have Hv := Lib.hid hv; have HA := Lib.hid A; have HB := Lib.hid B; clear hc he hv A B
      go_enter Try.func14, Try.ntmps14
      go_wp2_with fail
      refine (check_any _ _).mono ?_; rintro e w' ⟨rfl, rfl⟩
      rw [Hc.out]
      go_wp2_with fail
      refine (out_any _ _ _).mono ?_; rintro e w' ⟨rfl, rfl⟩
      rw [He.out, Hv.out]
      go_wp2
      all_goals go_ret2
      all_goals exact ⟨ret2 (by rw [HA.out]; omega) (by rw [HB.out]), rfl⟩
    · have A : roomV x a n = 0 := by unfold roomV; simp [ho]
      have B : roomE x a n = 2 := by unfold roomE; simp [ho]
      have Hc := Lib.hid hc; have He := Lib.hid he; have Hv := Lib.hid hv; have HA := Lib.hid A; have HB := Lib.hid B; clear hc he hv A B ho
      go_enter Try.func14, Try.ntmps14
      go_wp2_with fail
      refine (check_any _ _).mono ?_; rintro e w' ⟨rfl, rfl⟩
      rw [Hc.out]
      go_wp2_with fail
      refine (out_any _ _ _).mono ?_; rintro e w' ⟨rfl, rfl⟩
      rw [He.out, Hv.out]
      go_wp2
      all_goals go_ret2
      all_goals exact ⟨ret2 (by rw [HA.out]) (by rw [HB.out]), rfl⟩
  · have A : roomV x a n = 0 := by unfold roomV; simp [hc]
    have B : roomE x a n = 2 := by unfold roomE; simp [hc]
    have Hc := Lib.hid hc; have HA := Lib.hid A; have HB := Lib.hid B; clear hc A B
    go_enter Try.func14, Try.ntmps14
    go_wp2_with fail
    refine (check_any _ _).mono ?_; rintro e w' ⟨rfl, rfl⟩
    rw [Hc.out]
    go_wp2
    all_goals go_ret2
    all_goals exact ⟨ret2 (by rw [HA.out]) (by rw [HB.out]), rfl⟩

theorem adm_yes (x a n k : Int) (hc : chk n = 0) (ho : Okay x a) (h0 : 0 ≤ k) (hk : k < roomV x a n) : adm (x + k) a n = 0 := by
  have A : roomV x a n = min (max (n - (x - a)) 0) (1048576 - x) := by unfold roomV; simp [hc, ho]
  obtain ⟨h1, h2, h3, h4⟩ := ho
  have ho' : Okay (x + k) a := ⟨by omega, by omega, by omega, by omega⟩
  unfold adm; rw [if_neg (by omega), if_neg (by simpa using ho'), if_neg (by omega), if_neg (by omega)]
theorem adm_no (x a n k : Int) (hc : chk n = 0) (ho : Okay x a) (hk : k = roomV x a n) : adm (x + k) a n = 8 ∨ adm (x + k) a n = 2 := by
  have A : roomV x a n = min (max (n - (x - a)) 0) (1048576 - x) := by unfold roomV; simp [hc, ho]
  obtain ⟨h1, h2, h3, h4⟩ := ho
  have ho' : Okay (x + k) a := ⟨by omega, by omega, by omega, by omega⟩
  unfold adm; rw [if_neg (by omega), if_neg (by simpa using ho')]
  by_cases h : n ≤ x + k - a
  · left; rw [if_pos h]
  · right; rw [if_neg h, if_pos (by omega)]
theorem roomV_bd (x a n : Int) : 0 ≤ roomV x a n ∧ roomV x a n ≤ 16 := by
  unfold roomV chk Okay; (repeat' split) <;> omega
theorem rroom_any (x a n : Int) (w : World) : Calls Try.prog 19 #[.int .i64 x, .int .i64 a, .int .i64 n] w fun e w' => e = .returned (.tuple #[.int .i64 (roomV x a n), .int .i64 (roomE x a n)]) ∧ w = w' := by
  rcases chk_cases n with ⟨hc, hn⟩ | ⟨hc, hn⟩
  · rcases outE_cases x a with ⟨ho, he, hv⟩ | ⟨ho, he, hv⟩
    · have B : roomE x a n = 0 := by unfold roomE; simp [hc, ho]
      have Y := adm_yes x a n
      have Z := adm_no x a n
      have HO := Lib.hid ho
      have bd := roomV_bd x a n
      obtain ⟨h1, h2, h3, h4⟩ := ho
      have Hc := Lib.hid hc; have He := Lib.hid he; have Hv := Lib.hid hv; have HB := Lib.hid B; have HY := Lib.hid Y; have HZ := Lib.hid Z; clear hc he hv B Y Z
      go_enter Try.func19, Try.ntmps19
      go_wp2_with fail
      refine (rcheck_any _ _).mono ?_; rintro e w' ⟨rfl, rfl⟩
      rw [Hc.out]
      go_wp2_with fail
      refine (rout_any _ _ _).mono ?_; rintro e w' ⟨rfl, rfl⟩
      rw [He.out, Hv.out]
      go_wp2_with fail
      go_loop [9] (fun r => ∃ k : Int, 0 ≤ k ∧ k ≤ roomV x a n ∧ r = .int .i64 k) (fun r => (roomV x a n - intOf r).toNat)
      case atStart => exact ⟨0, by omega, by omega, rfl⟩
      case round =>
        obtain ⟨k, hk0, hk1, rfl⟩ := hrel
        by_cases hlt : k < roomV x a n
        · have hy := Lib.hid (HY.out k Hc.out HO.out hk0 hlt)
          go_wp2_with fail
          refine (radmit_any _ _ _ _).mono ?_; rintro e w' ⟨rfl, rfl⟩
          rw [hy.out]
          go_wp2
          go_round
          case rel => exact ⟨k + 1, by omega, by omega, rfl⟩
          case measure => simp [intOf]; omega
        · have hkk : k = roomV x a n := by omega
          have hkk' := Lib.hid hkk
          rcases HZ.out k Hc.out HO.out hkk with hz | hz
          all_goals
            have hz' := Lib.hid hz
            clear hz hkk
            go_wp2_with fail
            refine (radmit_any _ _ _ _).mono ?_; rintro e w' ⟨rfl, rfl⟩
            rw [hz'.out]
            go_wp2
            go_ret2
            exact ⟨ret2 (hkk'.out) (by rw [HB.out]), rfl⟩
    · have A : roomV x a n = 0 := by unfold roomV; simp [ho]
      have B : roomE x a n = 2 := by unfold roomE; simp [ho]
      have Hc := Lib.hid hc; have He := Lib.hid he; have Hv := Lib.hid hv; have HA := Lib.hid A; have HB := Lib.hid B; clear hc he hv A B ho
      go_enter Try.func19, Try.ntmps19
      go_wp2_with fail
      refine (rcheck_any _ _).mono ?_; rintro e w' ⟨rfl, rfl⟩
      rw [Hc.out]
      go_wp2_with fail
      refine (rout_any _ _ _).mono ?_; rintro e w' ⟨rfl, rfl⟩
      rw [He.out, Hv.out]
      go_wp2
      all_goals go_ret2
      all_goals exact ⟨ret2 (by rw [HA.out]) (by rw [HB.out]), rfl⟩
  · have A : roomV x a n = 0 := by unfold roomV; simp [hc]
    have B : roomE x a n = 2 := by unfold roomE; simp [hc]
    have Hc := Lib.hid hc; have HA := Lib.hid A; have HB := Lib.hid B; clear hc A B
    go_enter Try.func19, Try.ntmps19
    go_wp2_with fail
    refine (rcheck_any _ _).mono ?_; rintro e w' ⟨rfl, rfl⟩
    rw [Hc.out]
    go_wp2
    all_goals go_ret2
    all_goals exact ⟨ret2 (by rw [HA.out]) (by rw [HB.out]), rfl⟩
theorem lives_any (w : World) : Calls Try.prog 15 #[] w fun e w' => e = .returned (.bool true) ∧ w = w' := by
  go_enter Try.func15, Try.ntmps15
  go_wp2
  go_ret
  exact ⟨rfl, rfl⟩
end Go.Proofs.Ytbdeppefllcocaa.Lsh
