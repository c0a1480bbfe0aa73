/- The contracts of the references' Check, check, Wait, Steps, All, Sum and Next. No condition: allowed numbers, and the others. -/
import Derived.Test.YtepicehlknpbfaaSum
namespace Go.Proofs.Ytepicehlknpbfaa
open Go.RowKit

theorem RCheck_ok {b c : Int} (h : Fine b c) (w : World) : Calls Try.prog 16 #[.int .i64 b, .int .i64 c] w fun e w' => e = .returned (.int .i64 0) ∧ w = w' := by
  obtain ⟨h1, h2, h3⟩ := h
  go_enter Try.func16, Try.ntmps16
  go_wp2
  go_ret
  exact ⟨rfl, rfl⟩
theorem RCheck_no {b c : Int} (h : ¬ Fine b c) (w : World) : Calls Try.prog 16 #[.int .i64 b, .int .i64 c] w fun e w' => e = .returned (.int .i64 2) ∧ w = w' := by
  have h' : b < 1 ∨ (1 ≤ b ∧ 1048576 < b) ∨ (1 ≤ b ∧ b ≤ 1048576 ∧ c < b) ∨ (1 ≤ b ∧ b ≤ 1048576 ∧ b ≤ c ∧ 1048576 < c) := by unfold Fine at h; omega
  clear h
  rcases h' with h | ⟨h1, h⟩ | ⟨h1, h2, h⟩ | ⟨h1, h2, h3, h⟩
  all_goals
    go_enter Try.func16, Try.ntmps16
    go_wp2
    go_ret
    exact ⟨rfl, rfl⟩
theorem rcheck_ok {t b c : Int} (h : FineT t b c) (w : World) : Calls Try.prog 29 #[.int .i64 t, .int .i64 b, .int .i64 c] w fun e w' => e = .returned (.int .i64 0) ∧ w = w' := by
  obtain ⟨h1, h2, h3⟩ := h
  have H3 := Lib.hid (RCheck_ok h3 w)
  clear h3
  go_enter Try.func29, Try.ntmps29
  go_wp2_with fail
  refine H3.out.mono ?_
  rintro e w' ⟨rfl, rfl⟩
  go_wp2_with fail
  go_ret
  exact ⟨rfl, rfl⟩
theorem rcheck_no {t b c : Int} (h : ¬ FineT t b c) (w : World) : Calls Try.prog 29 #[.int .i64 t, .int .i64 b, .int .i64 c] w fun e w' => e = .returned (.int .i64 2) ∧ w = w' := by
  by_cases hf : Fine b c
  · have h' : t < 1 ∨ 64 < t := by unfold FineT at h; simp only [hf, and_true] at h; omega
    have H3 := Lib.hid (RCheck_ok hf w)
    clear h hf
    rcases h' with h | h
    all_goals
      go_enter Try.func29, Try.ntmps29
      go_wp2_with fail
      refine H3.out.mono ?_
      rintro e w' ⟨rfl, rfl⟩
      go_wp2_with fail
      go_ret
      exact ⟨rfl, rfl⟩
  · have H3 := Lib.hid (RCheck_no hf w)
    clear h hf
    go_enter Try.func29, Try.ntmps29
    go_wp2_with fail
    refine H3.out.mono ?_
    rintro e w' ⟨rfl, rfl⟩
    go_wp2_with fail
    go_ret
    exact ⟨rfl, rfl⟩

set_option maxHeartbeats 1000000 in
theorem RWait_ok {m b c : Nat} (h : FineT m b c) (w : World) : Calls Try.prog 12 #[.int .i64 m, .int .i64 b, .int .i64 c] w fun e w' => e = .returned (.tuple #[.int .i64 (wj b c (m - 1)), .int .i64 0]) ∧ w = w' := by
  have HC := Lib.hid (rcheck_ok h w)
  obtain ⟨h1, h2, h3, h4, h5⟩ := h
  go_enter Try.func12, Try.ntmps12
  go_wp2_with fail
  refine HC.out.mono ?_
  rintro e w' ⟨rfl, rfl⟩
  go_wp2_with fail
  go_loop [9, 10] (fun x i => ∃ j u : Nat, i = .int .i64 ((j : Int) + 1) ∧ j + 1 ≤ m ∧ x = .int .i64 u ∧ min u c = wj b c j ∧ u ≤ 2 * c) (fun _ i => m - (intOf i).toNat)
  case atStart => exact ⟨0, b, rfl, by omega, rfl, by simp [wj]; omega, by omega⟩
  case round =>
    obtain ⟨j, u, rfl, hj, rfl, hu, hu2⟩ := hrel
    have HU := Lib.hid hu
    clear hu
    by_cases hj' : j + 1 < m
    · by_cases hc : u < c
      · go_wp2_with fail
        go_round
        case rel => exact ⟨j + 1, 2 * u, by go_num, by omega, by go_num, by have := HU.out; show _ = min (2 * wj b c j) c; rw [← this]; omega, by omega⟩
        case measure => simp [intOf]; omega
      · have he : wj b c (m - 1) = c := wj_stay (i := j) (by omega) (by omega) (by have := HU.out; omega)
        have HE := Lib.hid he
        clear he
        rcases Nat.lt_or_ge c u with hcu | hcu
        all_goals
          go_wp2_with fail
          go_ret2
          refine ⟨?_, rfl⟩
          rw [HE.out]
          all_goals (first | rfl | (have huc : u = c := (by omega); subst huc; rfl))
    · have he : wj b c (m - 1) = min u c := by rw [HU.out]; congr 1; omega
      have HE := Lib.hid he
      clear he
      rcases Nat.lt_or_ge c u with hcu | hcu
      · have hmin : min u c = c := by omega
        rw [hmin] at HE
        clear hmin
        go_wp2_with fail
        go_ret2
        refine ⟨?_, rfl⟩
        rw [HE.out]
        all_goals rfl
      · have hmin : min u c = u := by omega
        rw [hmin] at HE
        clear hmin
        go_wp2_with fail
        go_ret2
        refine ⟨?_, rfl⟩
        rw [HE.out]
        all_goals rfl
theorem RWait_no {m b c : Int} (h : ¬ FineT m b c) (w : World) : Calls Try.prog 12 #[.int .i64 m, .int .i64 b, .int .i64 c] w fun e w' => e = .returned (.tuple #[.int .i64 0, .int .i64 2]) ∧ w = w' := by
  have HC := Lib.hid (rcheck_no h w)
  clear h
  go_enter Try.func12, Try.ntmps12
  go_wp2_with fail
  refine HC.out.mono ?_
  rintro e w' ⟨rfl, rfl⟩
  go_wp2_with fail
  go_ret2
  exact ⟨rfl, rfl⟩

set_option maxHeartbeats 1000000 in
theorem RSteps_ok {b c : Nat} (h : Fine b c) (w : World) : Calls Try.prog 14 #[.int .i64 b, .int .i64 c] w fun e w' => e = .returned (.tuple #[.int .i64 (stepsOf b c), .int .i64 0]) ∧ w = w' := by
  have HC := Lib.hid (RCheck_ok h w)
  obtain ⟨h3, h4, h5⟩ := id h
  obtain ⟨s1, s2, s3, s4⟩ := steps_spec (b := b) (c := c) (by omega) (by omega) (by omega)
  have HW : ∀ k : Nat, 1 ≤ k → k ≤ 64 → Calls Try.prog 12 #[.int .i64 k, .int .i64 b, .int .i64 c] w fun e w' => e = .returned (.tuple #[.int .i64 (wj b c (k - 1)), .int .i64 0]) ∧ w = w' := fun k k1 k2 => RWait_ok ⟨by omega, by omega, h⟩ w
  have HW := Lib.hid HW
  have S3 := Lib.hid s3
  have S4 := Lib.hid s4
  have HLE := Lib.hid (fun j => wj_le (b := b) (c := c) (by omega) j)
  clear s3 s4 h
  generalize stepsOf b c = m at *
  go_enter Try.func14, Try.ntmps14
  go_wp2_with fail
  refine HC.out.mono ?_
  rintro e w' ⟨rfl, rfl⟩
  go_wp2_with fail
  refine (HW.out 1 (by omega) (by omega)).mono ?_
  rintro e w' ⟨rfl, rfl⟩
  go_wp2_with fail
  go_loop [6, 7] (fun i x => ∃ k : Nat, i = .int .i64 k ∧ 1 ≤ k ∧ k ≤ m ∧ x = .int .i64 (wj b c (k - 1))) (fun i _ => m - (intOf i).toNat)
  case atStart => exact ⟨1, rfl, Nat.le_refl _, s1, rfl⟩
  case round =>
    obtain ⟨k, rfl, hk1, hkm, rfl⟩ := hrel
    rcases Nat.lt_or_ge k m with hlt | hge
    · have hne := S4.out k hk1 hlt
      have hle := HLE.out (k - 1)
      have hlt2 : wj b c (k - 1) < c := by omega
      clear hne hle
      generalize wj b c (k - 1) = u at *
      go_wp2_with fail
      rw [show (k : Int) + 1 = ((k + 1 : Nat) : Int) from by omega]
      refine (HW.out (k + 1) (by omega) (by omega)).mono ?_
      rintro e w' ⟨rfl, rfl⟩
      go_wp2_with fail
      go_round
      case rel => exact ⟨k + 1, by go_num, by omega, by omega, rfl⟩
      case measure => simp [intOf]; omega
    · obtain rfl : k = m := by omega
      rw [S3.out]
      go_wp2_with fail
      go_ret2
      exact ⟨rfl, rfl⟩
theorem RSteps_no {b c : Int} (h : ¬ Fine b c) (w : World) : Calls Try.prog 14 #[.int .i64 b, .int .i64 c] w fun e w' => e = .returned (.tuple #[.int .i64 0, .int .i64 2]) ∧ w = w' := by
  have HC := Lib.hid (RCheck_no h w)
  clear h
  go_enter Try.func14, Try.ntmps14
  go_wp2_with fail
  refine HC.out.mono ?_
  rintro e w' ⟨rfl, rfl⟩
  go_wp2_with fail
  go_ret2
  exact ⟨rfl, rfl⟩
end Go.Proofs.Ytepicehlknpbfaa
