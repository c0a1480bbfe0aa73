/- Two allowed waits by numbers. No condition. -/
import Derived.Test.YtepicehlknpbfaaWorks
namespace Go.Proofs.Ytepicehlknpbfaa
open Go.RowKit

/-- What made makes. -/
def mb (n : Nat) : Nat := 1 + n % 1048576
def mc (n m : Nat) : Nat := mb n + m % (1048576 - mb n + 1)
theorem made_fine (n m : Nat) : 1 ≤ mb n ∧ mb n ≤ mc n m ∧ mc n m ≤ 1048576 := by
  have h1 : mb n = 1 + n % 1048576 := rfl
  have h2 : mc n m = mb n + m % (1048576 - mb n + 1) := rfl
  have h3 : n % 1048576 < 1048576 := Nat.mod_lt _ (by omega)
  have h4 : m % (1048576 - mb n + 1) < 1048576 - mb n + 1 := Nat.mod_lt _ (by omega)
  omega

set_option maxRecDepth 100000 in
set_option maxHeartbeats 4000000 in
theorem made_any (n m : Nat) (hn : n ≤ 4294967295) (hm : m ≤ 4294967295) (w : World) : Calls Try.prog 25 #[.int .u32 n, .int .u32 m] w fun e w' => e = .returned (.tuple #[.int .i64 (mb n), .int .i64 (mc n m)]) ∧ ∃ k, w' = w.drewN k := by
  have h1 : mb n = 1 + n % 1048576 := rfl
  have h2 : mc n m = mb n + m % (1048576 - mb n + 1) := rfl
  have h3 : n % 1048576 < 1048576 := Nat.mod_lt _ (by omega)
  have h4 : m % (1048576 - mb n + 1) < 1048576 - mb n + 1 := Nat.mod_lt _ (by omega)
  generalize hu : n % 1048576 = u at *
  generalize hv : m % (1048576 - mb n + 1) = v at *
  rw [h2]
  have e1 : Int.tmod (n : Int) 1048576 = (u : Int) := by rw [Int.tmod_eq_emod_of_nonneg (by omega)]; omega
  have z1 : ¬ (1048576 - (1 + (u : Int)) + 1 = 0) := by omega
  have e2 : Int.tmod (m : Int) (1048576 - (1 + (u : Int)) + 1) = (v : Int) := by
    rw [Int.tmod_eq_emod_of_nonneg (by omega)]
    have : (1048576 - (1 + (u : Int)) + 1) = ((1048576 - mb n + 1 : Nat) : Int) := by omega
    rw [this, ← hv, Int.natCast_emod]
  have hv' : v < 1048577 - u := by omega
  rw [h1]
  clear hv h4 hu h2 h1
  go_enter Try.func25, Try.ntmps25
  go_wp2_with fail
  go_region
  go_wp2
  go_ret2
  exact ⟨rfl, 1, rfl⟩
theorem made_ex (n m : Nat) (hn : n ≤ 4294967295) (hm : m ≤ 4294967295) : ∃ b c : Nat, 1 ≤ b ∧ b ≤ c ∧ c ≤ 1048576 ∧ ∀ w : World, Calls Try.prog 25 #[.int .u32 n, .int .u32 m] w fun e w' => e = .returned (.tuple #[.int .i64 b, .int .i64 c]) ∧ ∃ k, w' = w.drewN k := by
  obtain ⟨h1, h2, h3⟩ := made_fine n m
  exact ⟨_, _, h1, h2, h3, made_any n m hn hm⟩
/-- For allowed waits the contracts' answers are the plain ones. -/
theorem fine_errF {b c : Nat} (h1 : 1 ≤ b) (h2 : b ≤ c) (h3 : c ≤ 1048576) : errF b c = 0 := if_pos ⟨by omega, by omega, by omega⟩
theorem fine_steps {b c : Nat} (h1 : 1 ≤ b) (h2 : b ≤ c) (h3 : c ≤ 1048576) : stepsN b c = (stepsOf b c : Int) := if_pos ⟨by omega, by omega, by omega⟩
theorem fine_t {t b c : Nat} (h0 : 1 ≤ t) (h4 : t ≤ 64) (h1 : 1 ≤ b) (h2 : b ≤ c) (h3 : c ≤ 1048576) : FineT t b c := ⟨by omega, by omega, by omega, by omega, by omega⟩
theorem fine_errT {t b c : Nat} (h : FineT t b c) : errT t b c = 0 := if_pos h
theorem fine_wait {t b c : Nat} (h : FineT t b c) : waitN t b c = (wj b c (t - 1) : Int) := if_pos h
theorem fine_sum {t b c : Nat} (h : FineT t b c) : sumN t b c = (sumTo b c t : Int) := if_pos h
theorem fine_all {t b c : Nat} (h : FineT t b c) : allN t b c = waitsTo b c t := if_pos h
end Go.Proofs.Ytepicehlknpbfaa
