/- BitsEnds: the call returns true, and nothing that was there has changed. Condition: the table of trailing zeros lies in its block. -/
import Derived.Test.YtcdnflffpeijfaaDoorWorks
namespace Go.Proofs.YtcdnflffpeijfaaDoor
open Go.RowKit

/-- The last k numbers below 4096. -/
def topP (k : Nat) : Nat → Bool := fun j => decide (4096 - k ≤ j) && decide (j < 4096)
theorem top_succ {k : Nat} (hk : k < 4096) : withP (topP k) (4095 - k) = topP (k + 1) := by
  funext j
  unfold withP topP
  rw [Bool.eq_iff_iff]
  simp
  omega
theorem top_zero : topP 0 = noneP := by
  funext j
  unfold topP noneP
  simp
theorem top_picks {k : Nat} (hk : k ≤ 4096) : picks 4096 (topP k) = List.range' (4096 - k) k := by
  unfold picks
  have e : List.range 4096 = List.range' 0 (4096 - k) ++ List.range' (4096 - k) k := by
    have h1 := List.range'_append_1 (s := 0) (m := 4096 - k) (n := k)
    rw [Nat.zero_add, show 4096 - k + k = 4096 by omega] at h1
    rw [List.range_eq_range', h1]
  rw [e, List.filter_append, List.filter_eq_nil_iff.2, List.nil_append, List.filter_eq_self.2]
  · intro j hj
    have := List.mem_range'_1.1 hj
    unfold topP
    simp
    omega
  · intro j hj
    have := List.mem_range'_1.1 hj
    unfold topP
    simp
    omega
theorem top_len {k : Nat} (hk : k ≤ 4096) : (picks 4096 (topP k)).length = k := by rw [top_picks hk, List.length_range']
theorem top_first {k : Nat} (hk : k < 4096) : firstOf (picks 4096 (fromP 0 (topP (k + 1)))) = (((4095 - k : Nat) : Int), true) := by
  have e : picks 4096 (fromP 0 (topP (k + 1))) = picks 4096 (topP (k + 1)) := by
    apply picks_congr
    intro i _
    unfold fromP
    simp
  rw [e, top_picks (by omega), List.range'_succ, show 4096 - (k + 1) = 4095 - k by omega]
  rfl
def endsL : List Int := [0, 4097, -1, 4611686018427387904]

set_option maxRecDepth 1000000 in
set_option maxHeartbeats 8000000 in
theorem ends_walk {w : World} (hT : Table w) : Calls Tryd.prog 5 #[] w fun e w' => e = .returned (.bool true) ∧ Below w.heap.size w w' := by
  have hpos := hT.pos
  have HT := Lib.hid hT
  clear hT
  go_enter Tryd.func5, Tryd.ntmps5
  go_wp2_with fail
  have hC : Blk (w.alloc (.cells #[.int .i64 0, .int .i64 4097, .int .i64 (-1), .int .i64 4611686018427387904] 3)) w.heap.size 3 (endsL.map (Value.int .i64)).toArray := Blk.new w 3 _
  have K1 := (Keeps.refl [] w).alloc (.cells #[.int .i64 0, .int .i64 4097, .int .i64 (-1), .int .i64 4611686018427387904] 3)
  generalize (w.alloc (.cells #[.int .i64 0, .int .i64 4097, .int .i64 (-1), .int .i64 4611686018427387904] 3)) = w1 at *
  have HC := Lib.hid hC
  clear hC
  generalize hg : w.heap.size = g at *
  have HG := Lib.hid hg
  clear hg
  go_loop [12] (fun i => ∃ k : Nat, i = .int .i64 k ∧ k ≤ 4) (fun i => 4 - (intOf i).toNat)
  case atStart => exact ⟨0, rfl, Nat.zero_le _⟩
  case round =>
    obtain ⟨k, rfl, hk⟩ := hrel
    by_cases hk4 : k < 4
    · obtain ⟨x, hx, hP⟩ := HC.out.lit_at (fun x => x < 1 ∨ 4096 < x) (by unfold endsL; decide) (k := k) hk4
      have HN := Lib.hid (New_no x hP w1)
      clear hP
      go_wp2_with fail
      refine HN.out.mono ?_
      rintro e w' ⟨rfl, rfl⟩
      go_wp2_with fail
      go_round
      case rel => exact ⟨k + 1, by go_num, by omega⟩
      case measure => simp [intOf]; omega
    · go_wp2_with fail
      refine (New_e 4096 4096 rfl (by decide) (by decide) _).mono ?_
      rintro e w2 ⟨b, gb, rfl, hs, k2, hb, hgb⟩
      have K2 := K1.trans k2
      have z1 := K1.size
      have hg0 : g ≤ gb := by have := HG.out; omega
      rw [← top_zero] at hs
      have HS := Lib.hid hs
      have HK := Lib.hid K2
      clear hs K1 K2 k2
      go_wp2_with fail
      go_loopw [34] (fun i wr => ∃ k : Nat, i = .int .i64 k ∧ k ≤ 4096 ∧ SetOf wr b gb 4096 (topP k) ∧ Keeps [] w wr) (fun i _ => 4096 - (intOf i).toNat)
      case atStart => exact ⟨0, rfl, Nat.zero_le _, HS.out, HK.out⟩
      case round =>
        clear hk hk4
        obtain ⟨k, rfl, hk, hs, hK⟩ := hrel
        by_cases hk4 : k < 4096
        · have E := Lib.hid (show (4095 : Int) - (k : Int) = ((4095 - k : Nat) : Int) by omega)
          have HA := Lib.hid (Add_p hs (i := 4095 - k) (by omega))
          rw [top_succ hk4, ← E.out] at HA
          have hkI : (k : Int) < 4096 := by omega
          have HKK := Lib.hid hK
          clear hs hK
          go_wp2_with fail
          refine HA.out.mono ?_
          rintro e w3 ⟨rfl, hs3, k3⟩
          have K3 := HKK.out.step k3 (by have := HG.out; simp; omega)
          have HC3 := Lib.hid (Count_p hs3)
          rw [top_len (by omega)] at HC3
          have HN3 := Lib.hid (Next_e hs3 (HT.out.keeps K3 (by have := HG.out; omega) (by simp)) 0 (by decide) _ _ (top_first hk4))
          rw [← E.out] at HN3
          have HS3 := Lib.hid hs3
          clear hs3 k3
          go_wp2_with fail
          refine HC3.out.mono ?_
          rintro e w' ⟨rfl, rfl⟩
          go_wp2_with fail
          refine HN3.out.mono ?_
          rintro e w4 ⟨rfl, k4⟩
          have hs4 := HS3.out.keep0 k4
          have K4 := K3.trans k4
          clear K3 k4
          go_wp2_with fail
          go_roundw
          case rel => exact ⟨k + 1, by go_num, by omega, hs4, K4⟩
          case measure => simp [intOf]; omega
        · obtain rfl : k = 4096 := by omega
          go_wp2_with fail
          refine (Add_op hs (i := 4096) (.inr (by decide))).mono ?_
          rintro e w' ⟨rfl, rfl⟩
          go_wp2_with fail
          refine (All_p hs (HT.out.keeps hK (by have := HG.out; omega) (by simp))).mono ?_
          rintro e w5 ⟨u, rfl, hu, k5⟩
          obtain ⟨a, c, rfl⟩ := hu.shape
          rw [asInts_len, top_len (Nat.le_refl _)] at *
          have K5 := hK.trans k5
          clear hs hK k5
          go_wp2_with fail
          refine (works_ok (HT.out.keeps K5 (by have := HG.out; omega) (by simp))).mono ?_
          rintro e w6 ⟨rfl, k6⟩
          go_wp2_with fail
          go_ret
          exact ⟨rfl, (K5.trans k6).below⟩
end Go.Proofs.YtcdnflffpeijfaaDoor
