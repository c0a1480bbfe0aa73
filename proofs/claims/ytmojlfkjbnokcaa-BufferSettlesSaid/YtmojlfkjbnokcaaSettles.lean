/- BufferSettles: for every input the call returns true, and nothing that was there has changed. No condition. -/
import Derived.Test.YtmojlfkjbnokcaaMade
import Derived.Test.YtmojlfkjbnokcaaWorks
namespace Go.Proofs.Ytmojlfkjbnokcaa
open Go.RowKit

set_option maxRecDepth 100000 in
set_option maxHeartbeats 4000000 in
theorem settles_walk (s m : Nat) (hs : s ≤ 255) (hm : m ≤ 255) (w : World) : Calls Try.prog 4 #[.int .u8 s, .int .u8 m] w fun e w' => e = .returned (.bool true) ∧ Below w.heap.size w w' := by
  obtain ⟨n, hn⟩ : ∃ n, 1 + s % 64 = n := ⟨_, rfl⟩
  have hn0 : 1 ≤ n := by omega
  have hn1 : n ≤ 64 := by omega
  have hmade := made_size s hs w
  rw [hn] at hmade
  have HM := Lib.hid hmade
  clear hmade hn
  go_enter Try.func4, Try.ntmps4
  go_wp2_with fail
  refine HM.out.mono ?_
  rintro e w1 ⟨rfl, hb, hk, hz⟩
  clear HM
  obtain ⟨b, hbq⟩ : ∃ b, w.heap.size = b := ⟨_, rfl⟩
  rw [hbq] at hb ⊢
  have hbw : w.heap.size ≤ b := by omega
  clear hz
  have HBQ := Lib.hid hbq
  clear hbq
  go_wp2_with fail
  go_loopw [31] (fun i wr => ∃ (k : Nat) (L : List Int), i = .int .i64 k ∧ k ≤ n + m ∧ L.length = min k n ∧ IsBuf wr b n L (decide (k ≤ n)) ∧ Keeps [] w wr) (fun i _ => n + m - (intOf i).toNat)
  case atStart => exact ⟨0, [], rfl, Nat.zero_le _, by simp, by simpa using hb, hk⟩
  case round =>
    obtain ⟨k, L, rfl, hkm, hL, hB, hK⟩ := hrel
    have HL := Lib.hid hL
    have HB := Lib.hid hB
    clear hL hB hb hk
    by_cases hlt : k < n + m
    · by_cases hkn : k < n
      · have hB : IsBuf wr b n L true := by have := HB.out; rwa [decide_eq_true (by omega)] at this
        clear HB
        have d1 : decide (k < n) = true := decide_eq_true hkn
        have d2 : decide (n ≤ k) = false := decide_eq_false (by omega)
        go_wp2_with fail
        refine (note_ok hB _ (by omega) (by omega) (by have := HL.out; omega)).mono ?_
        rintro e w2 ⟨rfl, hB2, hk2⟩
        go_wp2_with fail
        refine (over_any hB2).mono ?_
        rintro e w' ⟨rfl, rfl⟩
        go_wp2_with fail
        go_roundw
        case rel => exact ⟨k + 1, L ++ [((k : Int) % 256)], by go_num, by omega, by have := HL.out; simp only [List.length_append, List.length_singleton]; omega, by rw [decide_eq_true (by omega)]; exact hB2, hK.step hk2 (by simp; omega)⟩
        case measure => simp [intOf]; omega
      · have d1 : decide (k < n) = false := decide_eq_false hkn
        have d2 : decide (n ≤ k) = true := decide_eq_true (by omega)
        go_wp2_with fail
        refine (note_full HB.out _ (by omega) (by omega) (by have := HL.out; omega)).mono ?_
        rintro e w2 ⟨rfl, hB2, hk2⟩
        go_wp2_with fail
        refine (over_any hB2).mono ?_
        rintro e w' ⟨rfl, rfl⟩
        go_wp2_with fail
        go_roundw
        case rel => exact ⟨k + 1, L, by go_num, by omega, by have := HL.out; omega, by rw [decide_eq_false (by omega)]; exact hB2, hK.step hk2 (by simp; omega)⟩
        case measure => simp [intOf]; omega
    · have hLn : L.length = n := by have := HL.out; omega
      generalize decide (k ≤ n) = o at *
      have hB := HB.out
      clear HB HL
      go_wp2_with fail
      refine (over_any hB).mono ?_
      rintro e w' ⟨rfl, rfl⟩
      go_wp2_with fail
      refine (drain_ok hB 1 (by omega)).mono ?_
      rintro e w2 ⟨v, rfl, hv, hB2, hk2⟩
      have hv1 : (L.take 1).length = 1 := by rw [List.length_take]; omega
      obtain ⟨a, cap, rfl⟩ := hv.slice
      rw [hv1]
      have hd1 : (L.drop 1).length = n - 1 := by rw [List.length_drop]; omega
      have hD1 := Lib.hid hd1
      have hK2 := hK.step hk2 (by simp; omega)
      clear hv1 hv hd1 hLn hk2
      go_wp2_with fail
      refine (over_any hB2).mono ?_
      rintro e w' ⟨rfl, rfl⟩
      go_wp2_with fail
      refine (settle_any hB2).mono ?_
      rintro e w3 ⟨rfl, hB3, hk3⟩
      have hK3 := hK2.step hk3 (by simp; omega)
      go_wp2_with fail
      refine (over_any hB3).mono ?_
      rintro e w' ⟨rfl, rfl⟩
      go_wp2_with fail
      refine (len_any hB3).mono ?_
      rintro e w' ⟨rfl, rfl⟩
      rw [hD1.out]
      have e1 : ((n - 1 : Nat) : Int) = (n : Int) - 1 := by omega
      rw [e1]
      have E1 := Lib.hid e1
      clear e1
      go_wp2_with fail
      refine (note_ok hB3 0 (by omega) (by omega) (by have := hD1.out; omega)).mono ?_
      rintro e w4 ⟨rfl, hB4, hk4⟩
      have hK4 := hK3.step hk4 (by simp; omega)
      go_wp2_with fail
      refine (over_any hB4).mono ?_
      rintro e w' ⟨rfl, rfl⟩
      go_wp2_with fail
      refine (note_full hB4 0 (by omega) (by omega) (by have := hD1.out; simp only [List.length_append, List.length_singleton]; omega)).mono ?_
      rintro e w5 ⟨rfl, hB5, hk5⟩
      have hK5 := hK4.step hk5 (by simp; omega)
      go_wp2_with fail
      refine (over_any hB5).mono ?_
      rintro e w' ⟨rfl, rfl⟩
      go_wp2_with fail
      refine (len_any hB5).mono ?_
      rintro e w' ⟨rfl, rfl⟩
      have e2 : (((L.drop 1) ++ [(0 : Int)]).length : Int) = (n : Int) := by have := hD1.out; simp only [List.length_append, List.length_singleton]; omega
      rw [e2]
      have E2 := Lib.hid e2
      clear e2
      go_wp2_with fail
      refine (works_ok _).mono ?_
      rintro e w6 ⟨rfl, hk6⟩
      have hK6 := hK5.step (T := []) (Keeps.of_below hk6) (by simp)
      go_wp2_with fail
      go_ret
      exact ⟨rfl, hK6.below⟩
end Go.Proofs.Ytmojlfkjbnokcaa
