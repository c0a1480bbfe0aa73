/- The contract of the laws' listed: the numbers of a row of booleans. Condition: a row of 1 to 4096. -/
import Derived.Test.YtcdnflffpeijfaaDoorPicks
import Derived.Test.YtcdnflffpeijfaaDoorAll
namespace Go.Proofs.YtcdnflffpeijfaaDoor
open Go.RowKit

theorem picks_one {k : Nat} {p : Nat → Bool} (h : p k = true) : asInts (picks (k + 1) p) = asInts (picks k p) ++ [(k : Int)] := by
  rw [picks_succ, if_pos h]
  simp [asInts]
theorem picks_none {k : Nat} {p : Nat → Bool} (h : p k = false) : picks (k + 1) p = picks k p := by
  rw [picks_succ, h]
  rfl
theorem asInts_len (l : List Nat) : (asInts l).length = l.length := by simp [asInts]
set_option maxRecDepth 100000 in
set_option maxHeartbeats 1000000 in
theorem listed_in {gh n : Nat} {p : Nat → Bool} {w : World} (h : Blk w gh 4 (boolRow n p)) (hn : n ≤ 4096) : Calls Tryd.prog 12 #[.slice (some ⟨gh, 0, none⟩) n n] w (AllPost (picks n p) w) := by
  have H := Lib.hid h
  have hlt := h.lt
  clear h
  go_enter Tryd.func12, Tryd.ntmps12
  go_wp2_with fail
  go_loopw [3, 8] (fun v i wr => ∃ k : Nat, i = .int .i64 k ∧ k ≤ n ∧ OwnI wr w.heap.size v (asInts (picks k p)) ∧ Keeps [] w wr) (fun _ i _ => n - (intOf i).toNat)
  case atStart => exact ⟨0, rfl, Nat.zero_le _, OwnI.nil _ _, Keeps.refl _ _⟩
  case round =>
    obtain ⟨k, rfl, hk, hv, hK⟩ := hrel
    obtain ⟨a, c, rfl⟩ := hv.shape
    have hsz := hK.size
    have hL := picks_len_le k p
    rw [← asInts_len] at hL
    by_cases hkn : k < n
    · have c0 := ((H.out.keeps hK (by simp)).cellAt k _ (boolRow_at n p hkn))
      rcases Bool.eq_false_or_eq_true (p k) with hb | hb
      · have HO := Lib.hid (picks_one hb)
        rw [hb] at c0
        clear hb
        go_wp2_with (at_builtin; refine wpList_append_sl rfl (.tmp 14) (.tmp 16) 28 rfl w.heap.size Tryd.underlying28 Tryd.info3 rfl rfl (hv.alloc _) (SlI.lit (xs := [(k : Int)]) (Blk.new wr 3 #[.int .i64 k]) rfl (by unfold maxLen; simp)) (by simp; omega) (by simp; omega) ?_; intro v' w1 hown' hgrow hat)
        have hk1 : Keeps [] w w1 := (hK.alloc _).grown hgrow (fun y hy => .inr (hv.lt y hy).1)
        rw [← HO.out] at hown'
        go_roundw
        case rel => exact ⟨k + 1, by go_num, by omega, hown', hk1⟩
        case measure => simp [intOf]; omega
      · have HO := Lib.hid (picks_none hb)
        rw [hb] at c0
        clear hb
        go_wp2_with fail
        go_roundw
        case rel => exact ⟨k + 1, by go_num, by omega, by rw [HO.out]; exact hv, hK⟩
        case measure => simp [intOf]; omega
    · obtain rfl : k = n := by omega
      go_wp2_with fail
      go_ret
      exact ⟨_, rfl, hv, hK⟩
end Go.Proofs.YtcdnflffpeijfaaDoor
