/- BufferRefuses: for every input the call returns true, and nothing that was there has changed. No condition. -/
import Derived.Test.YtmojlfkjbnokcaaMade
import Derived.Test.YtmojlfkjbnokcaaWorks
namespace Go.Proofs.Ytmojlfkjbnokcaa
open Go.RowKit

set_option maxRecDepth 100000 in
set_option maxHeartbeats 4000000 in
theorem refuses_walk (s m : Nat) (hs : s ≤ 255) (hm : m ≤ 65535) (w : World) : Calls Try.prog 5 #[.int .u8 s, .int .u16 m] w fun e w' => e = .returned (.bool true) ∧ Below w.heap.size w w' := by
  obtain ⟨n, hn⟩ : ∃ n, 1 + s % 64 = n := ⟨_, rfl⟩
  have hn0 : 1 ≤ n := by omega
  have hn1 : n ≤ 64 := by omega
  have hmade := made_size s hs w
  rw [hn] at hmade
  have HM := Lib.hid hmade
  clear hmade hn
  go_enter Try.func5, Try.ntmps5
  go_wp2_with fail
  refine HM.out.mono ?_
  rintro e w1 ⟨rfl, hb, hk, hz⟩
  clear HM
  obtain ⟨b, hbq⟩ : ∃ b, w.heap.size = b := ⟨_, rfl⟩
  rw [hbq] at hb ⊢
  have hbw : w.heap.size ≤ b := by omega
  clear hz
  have HBQ := Lib.hid hbq
  clear hbq
  go_wp2_with fail
  have bA : Blk _ _ 3 _ := Blk.new w1 3 (([-1 - (m : Int), 256 + m, -9223372036854775808, 9223372036854775807] : List Int).map (Value.int .i64)).toArray
  have hb1 := hb.alloc (.cells (([-1 - (m : Int), 256 + m, -9223372036854775808, 9223372036854775807] : List Int).map (Value.int .i64)).toArray 3)
  have hk1 := hk.alloc (.cells (([-1 - (m : Int), 256 + m, -9223372036854775808, 9223372036854775807] : List Int).map (Value.int .i64)).toArray 3)
  change Code.wp _ _ _ _ (w1.alloc (.cells (([-1 - (m : Int), 256 + m, -9223372036854775808, 9223372036854775807] : List Int).map (Value.int .i64)).toArray 3))
  have hel : ∀ k : Nat, k < 4 → ∃ x, (w1.alloc (.cells (([-1 - (m : Int), 256 + m, -9223372036854775808, 9223372036854775807] : List Int).map (Value.int .i64)).toArray 3)).cell? ⟨w1.heap.size, k, none⟩ = some (.int .i64 x) ∧ (x < 0 ∨ 256 ≤ x) := fun k hk => bA.lit_at (fun x => x < 0 ∨ 256 ≤ x) (by simp; omega) hk
  clear bA hb hk
  generalize (w1.alloc (.cells (([-1 - (m : Int), 256 + m, -9223372036854775808, 9223372036854775807] : List Int).map (Value.int .i64)).toArray 3)) = W at *
  generalize w1.heap.size = A at *
  clear w1
  go_loop [42] (fun i => ∃ k : Nat, i = .int .i64 k ∧ k ≤ 4) (fun i => 4 - (intOf i).toNat)
  case atStart => exact ⟨0, rfl, by omega⟩
  case round =>
    obtain ⟨k, rfl, hk4⟩ := hrel
    by_cases hlt : k < 4
    · obtain ⟨x, hx, hxr⟩ := hel k hlt
      clear hel
      go_wp2_with fail
      refine (note_range hb1 x hxr).mono ?_
      rintro e w' ⟨rfl, rfl⟩
      go_wp2_with fail
      go_round
      case rel => exact ⟨k + 1, by go_num, by omega⟩
      case measure => simp [intOf]; omega
    · clear hel
      go_wp2_with fail
      go_loopw [59] (fun i wr => ∃ (k : Nat) (L : List Int), i = .int .i64 k ∧ k ≤ n ∧ L.length = k ∧ IsBuf wr b n L true ∧ Keeps [] w wr) (fun i _ => n - (intOf i).toNat)
      case atStart => exact ⟨0, [], rfl, Nat.zero_le _, rfl, hb1, hk1⟩
      case round =>
        obtain ⟨j, L, rfl, hjn, hL, hB, hK⟩ := hrel
        clear hb1 hk1
        by_cases hj : j < n
        · have HL := Lib.hid hL
          clear hL
          go_wp2_with fail
          refine (note_ok hB _ (by omega) (by omega) (by have := HL.out; omega)).mono ?_
          rintro e w2 ⟨rfl, hB2, hk2⟩
          go_wp2_with fail
          go_roundw
          case rel => exact ⟨j + 1, L ++ [255 - (j : Int)], by go_num, by omega, by have := HL.out; simp only [List.length_append, List.length_singleton]; omega, hB2, hK.step hk2 (by simp; omega)⟩
          case measure => simp [intOf]; omega
        · have hLn : L.length = n := by omega
          have HL := Lib.hid hLn
          clear hLn hL
          go_wp2_with fail
          have bA : Blk _ _ 3 _ := Blk.new wr 3 (([-1 - (m : Int), -9223372036854775808] : List Int).map (Value.int .i64)).toArray
          have hb2 := hB.alloc (.cells (([-1 - (m : Int), -9223372036854775808] : List Int).map (Value.int .i64)).toArray 3)
          have hk2 := hK.alloc (.cells (([-1 - (m : Int), -9223372036854775808] : List Int).map (Value.int .i64)).toArray 3)
          change Code.wp _ _ _ _ (wr.alloc (.cells (([-1 - (m : Int), -9223372036854775808] : List Int).map (Value.int .i64)).toArray 3))
          have hel : ∀ k : Nat, k < 2 → ∃ x, (wr.alloc (.cells (([-1 - (m : Int), -9223372036854775808] : List Int).map (Value.int .i64)).toArray 3)).cell? ⟨wr.heap.size, k, none⟩ = some (.int .i64 x) ∧ x < 0 := fun k hk => bA.lit_at (fun x => x < 0) (by simp; omega) hk
          clear bA hB hK
          generalize (wr.alloc (.cells (([-1 - (m : Int), -9223372036854775808] : List Int).map (Value.int .i64)).toArray 3)) = V at *
          generalize wr.heap.size = X at *
          clear wr
          go_loop [80] (fun i => ∃ k : Nat, i = .int .i64 k ∧ k ≤ 2) (fun i => 2 - (intOf i).toNat)
          case atStart => exact ⟨0, rfl, by omega⟩
          case round =>
            obtain ⟨i, rfl, hi2⟩ := hrel
            by_cases hi : i < 2
            · obtain ⟨x, hx, hxr⟩ := hel i hi
              clear hel
              go_wp2_with fail
              refine (drain_neg hb2 x hxr).mono ?_
              rintro e w' ⟨rfl, rfl⟩
              go_wp2_with fail
              go_round
              case rel => exact ⟨i + 1, by go_num, by omega⟩
              case measure => simp [intOf]; omega
            · clear hel
              go_wp2_with fail
              refine (note_range hb2 _ (by omega)).mono ?_
              rintro e w' ⟨rfl, rfl⟩
              go_wp2_with fail
              refine (over_any hb2).mono ?_
              rintro e w' ⟨rfl, rfl⟩
              go_wp2_with fail
              refine (len_any hb2).mono ?_
              rintro e w' ⟨rfl, rfl⟩
              rw [HL.out]
              go_wp2_with fail
              have bC : Blk _ _ 3 _ := Blk.new V 3 (([-(m : Int), 65 + m] : List Int).map (Value.int .i64)).toArray
              have hk3 := hk2.alloc (.cells (([-(m : Int), 65 + m] : List Int).map (Value.int .i64)).toArray 3)
              change Code.wp _ _ _ _ (V.alloc (.cells (([-(m : Int), 65 + m] : List Int).map (Value.int .i64)).toArray 3))
              have hel : ∀ k : Nat, k < 2 → ∃ x, (V.alloc (.cells (([-(m : Int), 65 + m] : List Int).map (Value.int .i64)).toArray 3)).cell? ⟨V.heap.size, k, none⟩ = some (.int .i64 x) ∧ (x < 1 ∨ 64 < x) := fun k hk => bC.lit_at (fun x => x < 1 ∨ 64 < x) (by simp; omega) hk
              clear bC hb2 hk2
              generalize (V.alloc (.cells (([-(m : Int), 65 + m] : List Int).map (Value.int .i64)).toArray 3)) = U at *
              generalize V.heap.size = Y at *

              go_loop [126] (fun i => ∃ k : Nat, i = .int .i64 k ∧ k ≤ 2) (fun i => 2 - (intOf i).toNat)
              case atStart => exact ⟨0, rfl, by omega⟩
              case round =>
                obtain ⟨q, rfl, hq2⟩ := hrel
                by_cases hq : q < 2
                · obtain ⟨y, hy, hyr⟩ := hel q hq
                  clear hel
                  go_wp2_with fail
                  refine (new_no hyr _).mono ?_
                  rintro e w' ⟨rfl, rfl⟩
                  go_wp2_with fail
                  go_round
                  case rel => exact ⟨q + 1, by go_num, by omega⟩
                  case measure => simp [intOf]; omega
                · clear hel
                  go_wp2_with fail
                  refine (works_ok _).mono ?_
                  rintro e w6 ⟨rfl, hk6⟩
                  have hK6 := hk3.step (T := []) (Keeps.of_below hk6) (by simp)
                  go_wp2_with fail
                  go_ret
                  exact ⟨rfl, hK6.below⟩
end Go.Proofs.Ytmojlfkjbnokcaa
