/- The contracts of Sum and Next. No condition: allowed numbers, and the others. -/
import Derived.Test.YtepicehlknpbfaaWait
namespace Go.Proofs.Ytepicehlknpbfaa
open Go.RowKit

theorem sumTo_small {b c : Nat} (h : b ≤ c) (hc : c ≤ 1048576) {k : Nat} (hk : k ≤ 64) : sumTo b c k ≤ 67108864 := by
  have h1 := sumTo_le h k
  have h2 : k * c ≤ 64 * 1048576 := Nat.mul_le_mul hk hc
  omega

set_option maxHeartbeats 1000000 in
theorem Sum_ok {m b c : Nat} (h : FineT m b c) (w : World) : Calls Try.prog 20 #[.int .i64 m, .int .i64 b, .int .i64 c] w (NumPost (sumTo b c m) 0 w) := by
  have HA := Lib.hid (All_ok h w)
  obtain ⟨h1, h2, h3, h4, h5⟩ := h
  go_enter Try.func20, Try.ntmps20
  go_wp2_with fail
  refine HA.out.mono ?_
  rintro e w' ⟨v, rfl, hv, hk⟩
  have hsl := hv.sl (by rw [waitsTo_length]; unfold maxLen; omega)
  rcases hsl with ⟨h0, _⟩ | ⟨g, off, cap, rfl, _, hg, _, hc⟩
  · have := congrArg List.length h0
    rw [waitsTo_length] at this
    simp at this
    omega
  · have hcell : ∀ i, i < m → w'.cell? ⟨g, off + i, none⟩ = some (.int .i64 (wj b c i)) := fun i hi => by
      have := hc i (by rw [waitsTo_length]; exact hi)
      rwa [waitsTo_getD b c m hi] at this
    rw [waitsTo_length]
    have HC := Lib.hid hcell
    clear hcell hc hv
    go_wp2_with fail
    go_loop [10, 22] (fun s i => ∃ k : Nat, i = .int .i64 k ∧ k ≤ m ∧ s = .int .i64 (sumTo b c k)) (fun _ i => m - (intOf i).toNat)
    case atStart => exact ⟨0, rfl, Nat.zero_le _, rfl⟩
    case round =>
      obtain ⟨k, rfl, hkm, rfl⟩ := hrel
      by_cases hlt : k < m
      · have hcell := HC.out k hlt
        have hw := wj_le (b := b) (c := c) (by omega) k
        have hs := sumTo_small (b := b) (c := c) (by omega) (by omega) (k := k) (by omega)
        have hn : sumTo b c (k + 1) = sumTo b c k + wj b c k := rfl
        have HN := Lib.hid hn
        clear hn
        generalize wj b c k = u at *
        generalize sumTo b c k = s at *
        go_wp2_with fail
        go_round
        case rel => exact ⟨k + 1, by go_num, by omega, by rw [HN.out]; go_num⟩
        case measure => simp [intOf]; omega
      · obtain rfl : k = m := by omega
        go_wp2_with fail
        go_ret2
        exact ⟨rfl, hk⟩
theorem Sum_no {m b c : Int} (h : ¬ FineT m b c) (w : World) : Calls Try.prog 20 #[.int .i64 m, .int .i64 b, .int .i64 c] w (NumPost 0 2 w) := by
  have HA := Lib.hid (All_no h w)
  clear h
  go_enter Try.func20, Try.ntmps20
  go_wp2_with fail
  refine HA.out.mono ?_
  rintro e w' ⟨rfl, hk⟩
  go_wp2_with fail
  refine wp_loop_rounds 1 ?_
  rw [rounds_succ]
  go_wp2_with fail
  go_ret2
  exact ⟨rfl, hk⟩

/-- Which times are allowed. -/
def FineN (n t b c : Int) : Prop := 0 ≤ n ∧ n ≤ 1099511627776 ∧ FineT t b c
theorem Next_ok {m b c : Nat} {n : Int} (h : FineN n m b c) (hw : (wj b c (m - 1) : Int) ≤ 1099511627776 - n) (w : World) : Calls Try.prog 23 #[.int .i64 n, .int .i64 m, .int .i64 b, .int .i64 c] w (NumPost (n + wj b c (m - 1)) 0 w) := by
  obtain ⟨h1, h2, h3⟩ := h
  have HA := Lib.hid (Wait_ok h3 w)
  clear h3
  generalize wj b c (m - 1) = u at *
  go_enter Try.func23, Try.ntmps23
  go_wp2_with fail
  refine HA.out.mono ?_
  rintro e w' ⟨rfl, hk⟩
  go_wp2_with fail
  go_ret2
  exact ⟨rfl, hk⟩
theorem Next_over {m b c : Nat} {n : Int} (h : FineN n m b c) (hw : 1099511627776 - n < (wj b c (m - 1) : Int)) (w : World) : Calls Try.prog 23 #[.int .i64 n, .int .i64 m, .int .i64 b, .int .i64 c] w (NumPost 0 17 w) := by
  obtain ⟨h1, h2, h3⟩ := h
  have HA := Lib.hid (Wait_ok h3 w)
  clear h3
  generalize wj b c (m - 1) = u at *
  go_enter Try.func23, Try.ntmps23
  go_wp2_with fail
  refine HA.out.mono ?_
  rintro e w' ⟨rfl, hk⟩
  go_wp2_with fail
  go_ret2
  exact ⟨rfl, hk⟩
theorem Next_no {m b c n : Int} (h : ¬ FineN n m b c) (w : World) : Calls Try.prog 23 #[.int .i64 n, .int .i64 m, .int .i64 b, .int .i64 c] w (NumPost 0 2 w) := by
  by_cases hf : FineT m b c
  · have hn : n < 0 ∨ 1099511627776 < n := by unfold FineN at h; simp only [hf, and_true] at h; omega
    clear h
    obtain ⟨m', rfl⟩ := Int.eq_ofNat_of_zero_le (show 0 ≤ m by have := hf.1; omega)
    obtain ⟨b', rfl⟩ := Int.eq_ofNat_of_zero_le (show 0 ≤ b by have := hf.2.2.1; omega)
    obtain ⟨c', rfl⟩ := Int.eq_ofNat_of_zero_le (show 0 ≤ c by have := hf.2.2.1; have := hf.2.2.2.1; omega)
    have HA := Lib.hid (Wait_ok hf w)
    clear hf
    generalize wj b' c' (m' - 1) = u at *
    rcases hn with hn | hn
    all_goals
      go_enter Try.func23, Try.ntmps23
      go_wp2_with fail
      refine HA.out.mono ?_
      rintro e w' ⟨rfl, hk⟩
      go_wp2_with fail
      go_ret2
      exact ⟨rfl, hk⟩
  · have HA := Lib.hid (Wait_no hf w)
    clear hf h
    by_cases h0 : n < 0
    · go_enter Try.func23, Try.ntmps23
      go_wp2_with fail
      refine HA.out.mono ?_
      rintro e w' ⟨rfl, hk⟩
      go_wp2_with fail
      go_ret2
      exact ⟨rfl, hk⟩
    · go_enter Try.func23, Try.ntmps23
      go_wp2_with fail
      refine HA.out.mono ?_
      rintro e w' ⟨rfl, hk⟩
      go_wp2_with fail
      go_ret2
      exact ⟨rfl, hk⟩
end Go.Proofs.Ytepicehlknpbfaa
