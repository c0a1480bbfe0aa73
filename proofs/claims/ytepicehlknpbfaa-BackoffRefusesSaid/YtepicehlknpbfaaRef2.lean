/- The contracts of the references' All, Sum and Next, and of slices.Equal at []int64. No condition. -/
import Derived.Test.YtepicehlknpbfaaRef
namespace Go.Proofs.Ytepicehlknpbfaa
open Go.RowKit

set_option maxHeartbeats 1000000 in
theorem RAll_ok {m b c : Nat} (h : FineT m b c) (w : World) : Calls Try.prog 19 #[.int .i64 m, .int .i64 b, .int .i64 c] w (AllPost (waitsTo b c m) w) := by
  have HC := Lib.hid (rcheck_ok h w)
  have HW : ∀ (k : Nat) (w : World), 1 ≤ k → k ≤ 64 → Calls Try.prog 12 #[.int .i64 k, .int .i64 b, .int .i64 c] w fun e w' => e = .returned (.tuple #[.int .i64 (wj b c (k - 1)), .int .i64 0]) ∧ w = w' := fun k w k1 k2 => RWait_ok ⟨by omega, by omega, h.2.2⟩ w
  have HW := Lib.hid HW
  obtain ⟨h1, h2, h3, h4, h5⟩ := h
  go_enter Try.func19, Try.ntmps19
  go_wp2_with fail
  refine HC.out.mono ?_
  rintro e w' ⟨rfl, rfl⟩
  go_wp2_with fail
  go_loopw [9, 10] (fun v i wr => ∃ k : Nat, i = .int .i64 ((k : Int) + 1) ∧ k ≤ m ∧ OwnI wr w.heap.size v (waitsTo b c k) ∧ Keeps [] w wr) (fun _ i _ => m + 1 - (intOf i).toNat)
  case atStart => exact ⟨0, rfl, Nat.zero_le _, OwnI.nil _ _, Keeps.refl _ _⟩
  case round =>
    obtain ⟨k, rfl, hkm, hv, hK⟩ := hrel
    obtain ⟨a, cap, rfl⟩ := hv.shape
    have hsz := hK.size
    by_cases hlt : k < m
    · have hn := waitsTo_succ b c k
      have HN := Lib.hid hn
      have HL := Lib.hid (waitsTo_length b c k)
      clear hn
      go_wp2_with fail
      rw [show (k : Int) + 1 = ((k + 1 : Nat) : Int) from by omega]
      refine (HW.out (k + 1) _ (by omega) (by omega)).mono ?_
      rintro e w' ⟨rfl, rfl⟩
      rw [Nat.add_sub_cancel]
      generalize wj b c k = u at *
      rw [show ((k + 1 : Nat) : Int) = (k : Int) + 1 from by omega]
      go_wp2_with (at_builtin; refine wpList_append_sl rfl (.tmp 32) (.tmp 34) 30 rfl w.heap.size Try.underlying30 Try.info2 rfl rfl (hv.alloc _) (SlI.lit (xs := [(u : Int)]) (Blk.new wr 2 #[.int .i64 u]) rfl (by unfold maxLen; simp)) (by rw [HL.out]; simp; omega) (by simp; omega) ?_; intro v' w1 hown' hgrow hat)
      have hk1 : Keeps [] w w1 := (hK.alloc _).grown hgrow (fun y hy => .inr (hv.lt y hy).1)
      rw [← HN.out] at hown'
      go_roundw
      case rel => exact ⟨k + 1, by go_num, by omega, hown', hk1⟩
      case measure => simp [intOf]; omega
    · obtain rfl : k = m := by omega
      go_wp2_with fail
      go_ret2
      exact ⟨_, rfl, hv, hK⟩
theorem RAll_no {m b c : Int} (h : ¬ FineT m b c) (w : World) : Calls Try.prog 19 #[.int .i64 m, .int .i64 b, .int .i64 c] w fun e w' => e = .returned (.tuple #[.slice none 0 0, .int .i64 2]) ∧ w = w' := by
  have HC := Lib.hid (rcheck_no h w)
  clear h
  go_enter Try.func19, Try.ntmps19
  go_wp2_with fail
  refine HC.out.mono ?_
  rintro e w' ⟨rfl, rfl⟩
  go_wp2_with fail
  go_ret2
  exact ⟨rfl, rfl⟩

set_option maxHeartbeats 1000000 in
theorem RSum_ok {m b c : Nat} (h : FineT m b c) (w : World) : Calls Try.prog 21 #[.int .i64 m, .int .i64 b, .int .i64 c] w (NumPost (sumTo b c m) 0 w) := by
  have HA := Lib.hid (RAll_ok h w)
  obtain ⟨h1, h2, h3, h4, h5⟩ := h
  go_enter Try.func21, Try.ntmps21
  go_wp2_with fail
  refine HA.out.mono ?_
  rintro e w' ⟨v, rfl, hv, hk⟩
  have hsl := hv.sl (by rw [waitsTo_length]; unfold maxLen; omega)
  rcases hsl with ⟨h0, _⟩ | ⟨g, off, cap, rfl, _, hg, _, hc⟩
  · have := congrArg List.length h0
    rw [waitsTo_length] at this
    simp at this
    omega
  · have hcell : ∀ i, i < m → w'.cell? ⟨g, off + i, none⟩ = some (.int .i64 (wj b c i)) := fun i hi => by
      have := hc i (by rw [waitsTo_length]; exact hi)
      rwa [waitsTo_getD b c m hi] at this
    rw [waitsTo_length]
    have HC := Lib.hid hcell
    clear hcell hc hv
    go_wp2_with fail
    go_loop [10, 11] (fun s i => ∃ k : Nat, i = .int .i64 k ∧ k ≤ m ∧ s = .int .i64 (sumTo b c k)) (fun _ i => m - (intOf i).toNat)
    case atStart => exact ⟨0, rfl, Nat.zero_le _, rfl⟩
    case round =>
      obtain ⟨k, rfl, hkm, rfl⟩ := hrel
      by_cases hlt : k < m
      · have hcell := HC.out k hlt
        have hw := wj_le (b := b) (c := c) (by omega) k
        have hs := sumTo_small (b := b) (c := c) (by omega) (by omega) (k := k) (by omega)
        have hn : sumTo b c (k + 1) = sumTo b c k + wj b c k := rfl
        have HN := Lib.hid hn
        clear hn
        generalize wj b c k = u at *
        generalize sumTo b c k = s at *
        go_wp2_with fail
        go_round
        case rel => exact ⟨k + 1, by go_num, by omega, by rw [HN.out]; go_num⟩
        case measure => simp [intOf]; omega
      · obtain rfl : k = m := by omega
        go_wp2_with fail
        go_ret2
        exact ⟨rfl, hk⟩
theorem RSum_no {m b c : Int} (h : ¬ FineT m b c) (w : World) : Calls Try.prog 21 #[.int .i64 m, .int .i64 b, .int .i64 c] w fun e w' => e = .returned (.tuple #[.int .i64 0, .int .i64 2]) ∧ w = w' := by
  have HA := Lib.hid (RAll_no h w)
  clear h
  go_enter Try.func21, Try.ntmps21
  go_wp2_with fail
  refine HA.out.mono ?_
  rintro e w' ⟨rfl, rfl⟩
  go_wp2_with fail
  refine wp_loop_rounds 1 ?_
  rw [rounds_succ]
  go_wp2_with fail
  go_ret2
  exact ⟨rfl, rfl⟩

/-- What Next returns. -/
def nextNum (n : Int) (b c m : Nat) : Int := if (wj b c (m - 1) : Int) ≤ 1099511627776 - n then n + wj b c (m - 1) else 0
def nextErr (n : Int) (b c m : Nat) : Int := if (wj b c (m - 1) : Int) ≤ 1099511627776 - n then 0 else 17
theorem Next_fine {m b c : Nat} {n : Int} (h : FineN n m b c) (w : World) : Calls Try.prog 23 #[.int .i64 n, .int .i64 m, .int .i64 b, .int .i64 c] w (NumPost (nextNum n b c m) (nextErr n b c m) w) := by
  unfold nextNum nextErr
  by_cases hw : (wj b c (m - 1) : Int) ≤ 1099511627776 - n
  · rw [if_pos hw, if_pos hw]; exact Next_ok h hw w
  · rw [if_neg hw, if_neg hw]; exact Next_over h (by omega) w
theorem RNext_fine {m b c : Nat} {n : Int} (h : FineN n m b c) (w : World) : Calls Try.prog 24 #[.int .i64 n, .int .i64 m, .int .i64 b, .int .i64 c] w fun e w' => e = .returned (.tuple #[.int .i64 (nextNum n b c m), .int .i64 (nextErr n b c m)]) ∧ w = w' := by
  have hle := wj_le (b := b) (c := c) (by have := h.2.2.2.2.2.1; omega) (m - 1)
  have hc := h.2.2.2.2.2.2
  obtain ⟨h1, h2, h3⟩ := h
  have HA := Lib.hid (RWait_ok h3 w)
  clear h3
  unfold nextNum nextErr
  generalize wj b c (m - 1) = u at *
  by_cases hw : (u : Int) ≤ 1099511627776 - n
  · rw [if_pos hw, if_pos hw]
    go_enter Try.func24, Try.ntmps24
    go_wp2_with fail
    refine HA.out.mono ?_
    rintro e w' ⟨rfl, rfl⟩
    go_wp2_with fail
    go_ret2
    exact ⟨rfl, rfl⟩
  · rw [if_neg hw, if_neg hw]
    go_enter Try.func24, Try.ntmps24
    go_wp2_with fail
    refine HA.out.mono ?_
    rintro e w' ⟨rfl, rfl⟩
    go_wp2_with fail
    go_ret2
    exact ⟨rfl, rfl⟩
theorem RNext_no {m b c n : Int} (h : ¬ FineN n m b c) (w : World) : Calls Try.prog 24 #[.int .i64 n, .int .i64 m, .int .i64 b, .int .i64 c] w fun e w' => e = .returned (.tuple #[.int .i64 0, .int .i64 2]) ∧ w = w' := by
  by_cases hf : FineT m b c
  · have hn : n < 0 ∨ 1099511627776 < n := by unfold FineN at h; simp only [hf, and_true] at h; omega
    clear h
    obtain ⟨m', rfl⟩ := Int.eq_ofNat_of_zero_le (show 0 ≤ m by have := hf.1; omega)
    obtain ⟨b', rfl⟩ := Int.eq_ofNat_of_zero_le (show 0 ≤ b by have := hf.2.2.1; omega)
    obtain ⟨c', rfl⟩ := Int.eq_ofNat_of_zero_le (show 0 ≤ c by have := hf.2.2.1; have := hf.2.2.2.1; omega)
    have HA := Lib.hid (RWait_ok hf w)
    clear hf
    generalize wj b' c' (m' - 1) = u at *
    rcases hn with hn | hn
    all_goals
      go_enter Try.func24, Try.ntmps24
      go_wp2_with fail
      refine HA.out.mono ?_
      rintro e w' ⟨rfl, rfl⟩
      go_wp2_with fail
      go_ret2
      exact ⟨rfl, rfl⟩
  · have HA := Lib.hid (RWait_no hf w)
    clear hf h
    go_enter Try.func24, Try.ntmps24
    go_wp2_with fail
    refine HA.out.mono ?_
    rintro e w' ⟨rfl, rfl⟩
    go_wp2_with fail
    go_ret2
    exact ⟨rfl, rfl⟩
end Go.Proofs.Ytepicehlknpbfaa
