/- BackoffRefuses: for every input the call returns true, and nothing that was there has changed. No condition. -/
import Derived.Test.YtepicehlknpbfaaMade
namespace Go.Proofs.Ytepicehlknpbfaa
open Go.RowKit

theorem Fine.of_t {t b c : Int} (h : FineT t b c) : Fine b c := ⟨h.2.2.1, h.2.2.2.1, h.2.2.2.2⟩
section
variable {t b c n : Int}
theorem Wait_bad (h : ¬ FineT t b c) (w : World) : Calls Try.prog 11 #[.int .i64 t, .int .i64 b, .int .i64 c] w (NumPost 0 2 w) := by
  have := Wait_any t b c w
  rwa [show waitN t b c = 0 from if_neg h, show errT t b c = 2 from if_neg h] at this
theorem Sum_bad (h : ¬ FineT t b c) (w : World) : Calls Try.prog 20 #[.int .i64 t, .int .i64 b, .int .i64 c] w (NumPost 0 2 w) := by
  have := Sum_any t b c w
  rwa [show sumN t b c = 0 from if_neg h, show errT t b c = 2 from if_neg h] at this
theorem Steps_bad (h : ¬ Fine b c) (w : World) : Calls Try.prog 13 #[.int .i64 b, .int .i64 c] w (NumPost 0 2 w) := by
  have := Steps_any b c w
  rwa [show stepsN b c = 0 from if_neg h, show errF b c = 2 from if_neg h] at this
theorem Check_bad (h : ¬ Fine b c) (w : World) : Calls Try.prog 15 #[.int .i64 b, .int .i64 c] w fun e w' => e = .returned (.int .i64 2) ∧ w = w' := by
  have := Check_any b c w
  rwa [show errF b c = 2 from if_neg h] at this
theorem Next_bad (h : ¬ FineN n t b c) (w : World) : Calls Try.prog 23 #[.int .i64 n, .int .i64 t, .int .i64 b, .int .i64 c] w (NumPost 0 2 w) := by
  have := Next_any n t b c w
  rwa [show nextN n t b c = 0 from if_neg h, show errN n t b c = 2 from if_neg h] at this
/-- No list, and the error. -/
def NonePost (w : World) (e : Ending) (w' : World) : Prop := ∃ a cap, e = .returned (.tuple #[.slice a 0 cap, .int .i64 2]) ∧ Keeps [] w w'
theorem All_bad (h : ¬ FineT t b c) (w : World) : Calls Try.prog 18 #[.int .i64 t, .int .i64 b, .int .i64 c] w (NonePost w) := by
  have := All_any t b c w
  rw [show allN t b c = [] from if_neg h, show errT t b c = 2 from if_neg h] at this
  refine this.mono ?_
  rintro e w' ⟨v, rfl, hv, hk⟩
  obtain ⟨a, cap, rfl⟩ := hv.shape
  exact ⟨a, cap, rfl, hk⟩
end

set_option maxRecDepth 100000 in
set_option maxHeartbeats 8000000 in
theorem refuses_walk (n m f : Nat) (hn : n ≤ 4294967295) (hm : m ≤ 4294967295) (hf : f ≤ 65535) (w : World) : Calls Try.prog 10 #[.int .u32 n, .int .u32 m, .int .u16 f] w fun e w' => e = .returned (.bool true) ∧ Below w.heap.size w w' := by
  obtain ⟨b, c, h1, h2, h3, hmade⟩ := made_ex n m hn hm
  have HM := Lib.hid hmade
  clear hmade
  have HC := Lib.hid (Check_any b c)
  rw [fine_errF h1 h2 h3] at HC
  go_enter Try.func10, Try.ntmps10
  go_wp2_with fail
  refine (HM.out _).mono ?_
  rintro e w' ⟨rfl, j, rfl⟩
  clear HM
  have hK0 := (Keeps.refl [] w).drewN j
  have HS0 := Lib.hid (show (w.drewN j).heap.size = w.heap.size from rfl)
  generalize w.drewN j = w0 at *
  go_wp2_with fail
  have bA := Blk.new w0 44 #[.int .i64 (-f), .int .i64 c, .int .i64 b, .int .i64 (b - 1 - f), .int .i64 b, .int .i64 (1048577 + f), .int .i64 (1048577 + f), .int .i64 (1048577 + f), .int .i64 (-9223372036854775808), .int .i64 9223372036854775807]
  have hK1 := hK0.alloc (.cells #[.int .i64 (-f), .int .i64 c, .int .i64 b, .int .i64 (b - 1 - f), .int .i64 b, .int .i64 (1048577 + f), .int .i64 (1048577 + f), .int .i64 (1048577 + f), .int .i64 (-9223372036854775808), .int .i64 9223372036854775807] 44)
  generalize w0.alloc (.cells #[.int .i64 (-f), .int .i64 c, .int .i64 b, .int .i64 (b - 1 - f), .int .i64 b, .int .i64 (1048577 + f), .int .i64 (1048577 + f), .int .i64 (1048577 + f), .int .i64 (-9223372036854775808), .int .i64 9223372036854775807] 44) = W at *
  obtain ⟨A, hA⟩ : ∃ A, w0.heap.size = A := ⟨_, rfl⟩
  rw [hA] at bA ⊢
  have hAw : w.heap.size ≤ A := by rw [← hA, HS0.out]; exact Nat.le_refl _
  clear hA HS0 hK0
  have HP : Hid (∀ k : Nat, k < 5 → ∃ x y : Int, W.cell? ⟨A, k * 2, none⟩ = some (.int .i64 x) ∧ W.cell? ⟨A, k * 2 + 1, none⟩ = some (.int .i64 y) ∧ ¬ Fine x y) := by
    intro k hk
    match k, hk with
    | 0, _ => exact ⟨_, _, bA.cellAt 0 _ rfl, bA.cellAt 1 _ rfl, by unfold Fine; omega⟩
    | 1, _ => exact ⟨_, _, bA.cellAt 2 _ rfl, bA.cellAt 3 _ rfl, by unfold Fine; omega⟩
    | 2, _ => exact ⟨_, _, bA.cellAt 4 _ rfl, bA.cellAt 5 _ rfl, by unfold Fine; omega⟩
    | 3, _ => exact ⟨_, _, bA.cellAt 6 _ rfl, bA.cellAt 7 _ rfl, by unfold Fine; omega⟩
    | 4, _ => exact ⟨_, _, bA.cellAt 8 _ rfl, bA.cellAt 9 _ rfl, by unfold Fine; omega⟩
  have hAl := bA.lt
  clear bA
  go_loopw [66] (fun i wr => ∃ (k : Nat), i = .int .i64 k ∧ k ≤ 5 ∧ Keeps [] W wr) (fun i _ => 5 - (intOf i).toNat)
  case atStart => exact ⟨0, rfl, Nat.zero_le _, Keeps.refl _ _⟩
  case round =>
    obtain ⟨k, rfl, hk5, hK⟩ := hrel
    by_cases hlt : k < 5
    · obtain ⟨x, y, hx, hy, hno⟩ := HP.out k hlt
      have c0 : wr.cell? ⟨A, k * 2, none⟩ = some (.int .i64 x) := (hK.cell (p := ⟨A, k * 2, none⟩) hAl (by simp)).trans hx
      have c1 : wr.cell? ⟨A, k * 2 + 1, none⟩ = some (.int .i64 y) := (hK.cell (p := ⟨A, k * 2 + 1, none⟩) hAl (by simp)).trans hy
      have C1 := Lib.hid (Wait_bad (t := 1) (fun h => hno (Fine.of_t h)))
      have C2 := Lib.hid (Sum_bad (t := 1) (fun h => hno (Fine.of_t h)))
      have C3 := Lib.hid (Steps_bad hno)
      have C4 := Lib.hid (All_bad (t := 1) (fun h => hno (Fine.of_t h)))
      have C5 := Lib.hid (Next_bad (n := 0) (t := 1) (fun h => hno (Fine.of_t h.2.2)))
      have C6 := Lib.hid (Check_bad hno)
      clear hx hy hno
      go_wp2_with fail
      have bX0 := Blk.new wr 44 #[.int .i64 x, .int .i64 y]
      have hK00 := hK.alloc (.cells #[.int .i64 x, .int .i64 y] 44)
      clear c0 c1 hK
      generalize wr.heap.size = X at *
      generalize wr.alloc (.cells #[.int .i64 x, .int .i64 y] 44) = V at *
      have hK0 := hK00
      clear hK00
      refine (C1.out _).mono ?_
      rintro e w1 ⟨rfl, k1⟩
      have hKL1 := hK0.trans k1
      have bX1 := bX0.keeps k1 (by simp)
      have y0 := bX1.cellAt 0 _ rfl
      have y1 := bX1.cellAt 1 _ rfl
      clear bX0 hK0 k1
      go_wp2_with fail
      clear y0 y1
      refine (C2.out _).mono ?_
      rintro e w2 ⟨rfl, k2⟩
      have hK2 := hKL1.trans k2
      have bX2 := bX1.keeps k2 (by simp)
      have y0 := bX2.cellAt 0 _ rfl
      have y1 := bX2.cellAt 1 _ rfl
      clear bX1 hKL1 k2
      go_wp2_with fail
      clear y0 y1
      refine (C3.out _).mono ?_
      rintro e w3 ⟨rfl, k3⟩
      have hK3 := hK2.trans k3
      have bX3 := bX2.keeps k3 (by simp)
      have y0 := bX3.cellAt 0 _ rfl
      have y1 := bX3.cellAt 1 _ rfl
      clear bX2 hK2 k3
      go_wp2_with fail
      clear y0 y1
      refine (C4.out _).mono ?_
      rintro e w4 ⟨al, cl, rfl, k4⟩
      have hK4 := hK3.trans k4
      have bX4 := bX3.keeps k4 (by simp)
      have y0 := bX4.cellAt 0 _ rfl
      have y1 := bX4.cellAt 1 _ rfl
      clear bX3 hK3 k4
      go_wp2_with fail
      clear y0 y1
      refine (C5.out _).mono ?_
      rintro e w5 ⟨rfl, k5⟩
      have hK5 := hK4.trans k5
      have bX5 := bX4.keeps k5 (by simp)
      have y0 := bX5.cellAt 0 _ rfl
      have y1 := bX5.cellAt 1 _ rfl
      clear bX4 hK4 k5
      go_wp2_with fail
      clear y0 y1
      refine (C6.out _).mono ?_
      rintro e w6 ⟨rfl, rfl⟩
      go_wp2_with fail
      go_roundw
      case rel => exact ⟨k + 1, by go_num, by omega, hK5⟩
      case measure => simp [intOf]; omega
    · have hK2 := hK1.trans hK
      clear hK hK1 HP
      go_wp2_with fail
      have bA := Blk.new wr 3 #[.int .i64 (-f), .int .i64 (65 + f), .int .i64 (-9223372036854775808), .int .i64 9223372036854775807]
      have hK3 := hK2.alloc (.cells #[.int .i64 (-f), .int .i64 (65 + f), .int .i64 (-9223372036854775808), .int .i64 9223372036854775807] 3)
      generalize wr.alloc (.cells #[.int .i64 (-f), .int .i64 (65 + f), .int .i64 (-9223372036854775808), .int .i64 9223372036854775807] 3) = W2 at *
      generalize wr.heap.size = A2 at *
      have HP : Hid (∀ k : Nat, k < 4 → ∃ x : Int, W2.cell? ⟨A2, k, none⟩ = some (.int .i64 x) ∧ ¬ (1 ≤ x ∧ x ≤ 64)) := by
        intro k hk
        match k, hk with
        | 0, _ => exact ⟨_, bA.cellAt 0 _ rfl, by omega⟩
        | 1, _ => exact ⟨_, bA.cellAt 1 _ rfl, by omega⟩
        | 2, _ => exact ⟨_, bA.cellAt 2 _ rfl, by omega⟩
        | 3, _ => exact ⟨_, bA.cellAt 3 _ rfl, by omega⟩
      have hAl2 := bA.lt
      clear bA hK2 hAl hAw
      go_loopw [166] (fun i wr => ∃ (k : Nat), i = .int .i64 k ∧ k ≤ 4 ∧ Keeps [] W2 wr) (fun i _ => 4 - (intOf i).toNat)
      case atStart => exact ⟨0, rfl, Nat.zero_le _, Keeps.refl _ _⟩
      case round =>
        obtain ⟨k, rfl, hk5, hK0⟩ := hrel
        by_cases hlt : k < 4
        · obtain ⟨x, hx, hno⟩ := HP.out k hlt
          have c0 := (hK0.cell (p := ⟨A2, k, none⟩) hAl2 (by simp)).trans hx
          have C1 := Lib.hid (Wait_bad (t := x) (b := b) (c := c) (fun h => hno ⟨h.1, h.2.1⟩))
          have C2 := Lib.hid (Sum_bad (t := x) (b := b) (c := c) (fun h => hno ⟨h.1, h.2.1⟩))
          have C3 := Lib.hid (All_bad (t := x) (b := b) (c := c) (fun h => hno ⟨h.1, h.2.1⟩))
          have C4 := Lib.hid (Next_bad (n := 0) (t := x) (b := b) (c := c) (fun h => hno ⟨h.2.2.1, h.2.2.2.1⟩))
          clear hx hno
          go_wp2_with fail
          clear c0
          refine (C1.out _).mono ?_
          rintro e w1 ⟨rfl, k1⟩
          have hK1 := hK0.trans k1
          clear hK0 k1
          go_wp2_with fail
          refine (C2.out _).mono ?_
          rintro e w2 ⟨rfl, k2⟩
          have hK2 := hK1.trans k2
          clear hK1 k2
          go_wp2_with fail
          refine (C3.out _).mono ?_
          rintro e w3 ⟨al, cl, rfl, k3⟩
          have hK3 := hK2.trans k3
          clear hK2 k3
          go_wp2_with fail
          refine (C4.out _).mono ?_
          rintro e w4 ⟨rfl, k4⟩
          have hK4 := hK3.trans k4
          clear hK3 k4
          go_wp2_with fail
          go_roundw
          case rel => exact ⟨k + 1, by go_num, by omega, hK4⟩
          case measure => simp [intOf]; omega
        · have hK4 := hK3.trans hK0
          clear hK0 hK3 HP
          go_wp2_with fail
          have bA := Blk.new wr 2 #[.int .i64 (-1 - f), .int .i64 (1099511627777 + f), .int .i64 9223372036854775807]
          have hK5 := hK4.alloc (.cells #[.int .i64 (-1 - f), .int .i64 (1099511627777 + f), .int .i64 9223372036854775807] 2)
          generalize wr.alloc (.cells #[.int .i64 (-1 - f), .int .i64 (1099511627777 + f), .int .i64 9223372036854775807] 2) = W3 at *
          generalize wr.heap.size = A3 at *
          have HP : Hid (∀ k : Nat, k < 3 → ∃ x : Int, W3.cell? ⟨A3, k, none⟩ = some (.int .i64 x) ∧ ¬ (0 ≤ x ∧ x ≤ 1099511627776)) := by
            intro k hk
            match k, hk with
            | 0, _ => exact ⟨_, bA.cellAt 0 _ rfl, by omega⟩
            | 1, _ => exact ⟨_, bA.cellAt 1 _ rfl, by omega⟩
            | 2, _ => exact ⟨_, bA.cellAt 2 _ rfl, by omega⟩
          have hAl3 := bA.lt
          clear bA hK4 hAl2
          go_loopw [236] (fun i wr => ∃ (k : Nat), i = .int .i64 k ∧ k ≤ 3 ∧ Keeps [] W3 wr) (fun i _ => 3 - (intOf i).toNat)
          case atStart => exact ⟨0, rfl, Nat.zero_le _, Keeps.refl _ _⟩
          case round =>
            obtain ⟨k, rfl, hk5, hK0⟩ := hrel
            by_cases hlt : k < 3
            · obtain ⟨x, hx, hno⟩ := HP.out k hlt
              have c0 := (hK0.cell (p := ⟨A3, k, none⟩) hAl3 (by simp)).trans hx
              have C1 := Lib.hid (Next_bad (n := x) (t := 1) (b := b) (c := c) (fun h => hno ⟨h.1, h.2.1⟩))
              clear hx hno
              go_wp2_with fail
              clear c0
              refine (C1.out _).mono ?_
              rintro e w1 ⟨rfl, k1⟩
              have hK1 := hK0.trans k1
              clear hK0 k1
              go_wp2_with fail
              go_roundw
              case rel => exact ⟨k + 1, by go_num, by omega, hK1⟩
              case measure => simp [intOf]; omega
            · have hK6 := hK5.trans hK0
              clear hK0 hK5 HP
              go_wp2_with fail
              refine (HC.out _).mono ?_
              rintro e w' ⟨rfl, rfl⟩
              go_wp2_with fail
              refine (works_ok _).mono ?_
              rintro e w4 ⟨rfl, k4⟩
              have hK7 := hK6.trans (Keeps.of_below k4)
              go_wp2_with fail
              go_ret
              exact ⟨rfl, hK7.below⟩
end Go.Proofs.Ytepicehlknpbfaa
