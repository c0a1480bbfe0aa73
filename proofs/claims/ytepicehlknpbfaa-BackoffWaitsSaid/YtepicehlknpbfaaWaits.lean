/- BackoffWaits, BackoffNexts: for every input the call returns true, and nothing that was there has changed. No condition. -/
import Derived.Test.YtepicehlknpbfaaWorks
namespace Go.Proofs.Ytepicehlknpbfaa
open Go.RowKit

set_option maxRecDepth 100000 in
set_option maxHeartbeats 4000000 in
theorem waits_walk (t b c : Int) (w : World) : Calls Try.prog 3 #[.int .i64 t, .int .i64 b, .int .i64 c] w fun e w' => e = .returned (.bool true) ∧ Below w.heap.size w w' := by
  have H1 := Lib.hid (Wait_any t b c)
  have H2 := Lib.hid (RWait_any t b c)
  have H3 := Lib.hid (Steps_any b c)
  have H4 := Lib.hid (RSteps_any b c)
  have H5 := Lib.hid (Check_any b c)
  have H6 := Lib.hid (RCheck_any b c)
  generalize waitN t b c = u1 at *
  generalize errT t b c = u2 at *
  generalize stepsN b c = u3 at *
  generalize errF b c = u4 at *
  go_enter Try.func3, Try.ntmps3
  go_wp2_with fail
  refine (H1.out _).mono ?_
  rintro e w1 ⟨rfl, k1⟩
  go_wp2_with fail
  refine (H2.out _).mono ?_
  rintro e w' ⟨rfl, rfl⟩
  go_wp2_with fail
  refine (H3.out _).mono ?_
  rintro e w2 ⟨rfl, k2⟩
  go_wp2_with fail
  refine (H4.out _).mono ?_
  rintro e w' ⟨rfl, rfl⟩
  go_wp2_with fail
  refine (H5.out _).mono ?_
  rintro e w' ⟨rfl, rfl⟩
  go_wp2_with fail
  refine (H6.out _).mono ?_
  rintro e w' ⟨rfl, rfl⟩
  go_wp2_with fail
  refine (works_ok _).mono ?_
  rintro e w3 ⟨rfl, k3⟩
  have hK := (k1.trans k2).trans (Keeps.of_below k3)
  go_wp2_with fail
  go_ret
  exact ⟨rfl, hK.below⟩

set_option maxRecDepth 100000 in
set_option maxHeartbeats 4000000 in
theorem nexts_walk (n t b c : Int) (w : World) : Calls Try.prog 5 #[.int .i64 n, .int .i64 t, .int .i64 b, .int .i64 c] w fun e w' => e = .returned (.bool true) ∧ Below w.heap.size w w' := by
  have H1 := Lib.hid (Next_any n t b c)
  have H2 := Lib.hid (RNext_any n t b c)
  generalize nextN n t b c = u1 at *
  generalize errN n t b c = u2 at *
  go_enter Try.func5, Try.ntmps5
  go_wp2_with fail
  refine (H1.out _).mono ?_
  rintro e w1 ⟨rfl, k1⟩
  go_wp2_with fail
  refine (H2.out _).mono ?_
  rintro e w' ⟨rfl, rfl⟩
  go_wp2_with fail
  refine (works_ok _).mono ?_
  rintro e w3 ⟨rfl, k3⟩
  have hK := k1.trans (Keeps.of_below k3)
  go_wp2_with fail
  go_ret
  exact ⟨rfl, hK.below⟩

theorem allN_le (t b c : Int) : (allN t b c).length ≤ maxLen := by
  have hm : (64 : Nat) ≤ maxLen := by decide
  unfold allN
  split
  · rename_i h
    rw [waitsTo_length]
    have := h.2.1
    omega
  · exact Nat.zero_le _
set_option maxRecDepth 100000 in
set_option maxHeartbeats 4000000 in
theorem lists_walk (t b c : Int) (w : World) : Calls Try.prog 4 #[.int .i64 t, .int .i64 b, .int .i64 c] w fun e w' => e = .returned (.bool true) ∧ Below w.heap.size w w' := by
  have H1 := Lib.hid (All_any t b c)
  have H2 := Lib.hid (RAll_any t b c)
  have H3 := Lib.hid (Sum_any t b c)
  have H4 := Lib.hid (RSum_any t b c)
  have hm := allN_le t b c
  generalize allN t b c = L at *
  have HM := Lib.hid hm
  clear hm
  generalize errT t b c = u2 at *
  generalize sumN t b c = u3 at *
  go_enter Try.func4, Try.ntmps4
  go_wp2_with fail
  refine (H1.out _).mono ?_
  rintro e w1 ⟨v, rfl, hv, k1⟩
  go_wp2_with fail
  refine (H2.out _).mono ?_
  rintro e w2 ⟨v2, rfl, hv2, k2⟩
  have hva := hv.keeps k2 (by simp)
  clear hv
  go_wp2_with fail
  refine (H3.out _).mono ?_
  rintro e w3 ⟨rfl, k3⟩
  have hvb := hva.keeps k3 (by simp)
  have hv2b := hv2.keeps k3 (by simp)
  clear hva hv2
  go_wp2_with fail
  refine (H4.out _).mono ?_
  rintro e w4 ⟨rfl, k4⟩
  have hvc := hvb.keeps k4 (by simp)
  have hv2c := hv2b.keeps k4 (by simp)
  clear hvb hv2b
  have hK := ((k1.trans k2).trans k3).trans k4
  clear k1 k2 k3 k4
  go_wp2_with fail
  refine (equal_any (hvc.sl HM.out) (hv2c.sl HM.out)).mono ?_
  rintro e w' ⟨rfl, n, rfl⟩
  have d1 : decide (L = L) = true := decide_eq_true rfl
  rw [d1]
  have hK2 := hK.drewN n
  go_wp2_with fail
  refine (works_ok _).mono ?_
  rintro e w6 ⟨rfl, k6⟩
  have hK3 := hK2.trans (Keeps.of_below k6)
  go_wp2_with fail
  go_ret
  exact ⟨rfl, hK3.below⟩
end Go.Proofs.Ytepicehlknpbfaa
