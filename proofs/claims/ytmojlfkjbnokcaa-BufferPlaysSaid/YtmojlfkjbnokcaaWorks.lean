/- The chapter's examples hold: works returns true and changes nothing that was there. No condition. -/
import Derived.Test.YtmojlfkjbnokcaaCopy
import Derived.Test.YtmojlfkjbnokcaaDrain
import Derived.Test.YtmojlfkjbnokcaaEqual
namespace Go.Proofs.Ytmojlfkjbnokcaa
open Go.RowKit

theorem IsBuf.alloc {w : World} {b sz : Nat} {L : List Int} {wh : Bool} (h : IsBuf w b sz L wh) (o : Obj) : IsBuf (w.alloc o) b sz L wh := h.keeps (S := []) ((Keeps.refl _ _).alloc _) (by simp)

set_option maxRecDepth 100000 in
set_option maxHeartbeats 4000000 in
theorem works_ok (w : World) : Calls Try.prog 17 #[] w fun e w' => e = .returned (.bool true) ∧ Below w.heap.size w w' := by
  go_enter Try.func17, Try.ntmps17
  go_wp2_with fail
  refine (new_ok (sz := 3) (by omega) (by omega) _).mono ?_
  rintro e w1 ⟨rfl, hb, hk, hs⟩
  generalize hbq : w.heap.size = b at *
  have HBQ := Lib.hid hbq
  clear hbq
  go_wp2_with fail
  obtain ⟨A, hA⟩ : ∃ A, w1.heap.size = A := ⟨_, rfl⟩
  have bA := Blk.new w1 65 #[.int .i64 7, .bool true, .int .i64 0, .int .i64 7, .bool true, .int .i64 0, .int .i64 5, .bool true, .int .i64 0, .int .i64 9, .bool false, .int .i64 0, .int .i64 256, .bool false, .int .i64 3]
  have hb2 := hb.alloc (.cells #[.int .i64 7, .bool true, .int .i64 0, .int .i64 7, .bool true, .int .i64 0, .int .i64 5, .bool true, .int .i64 0, .int .i64 9, .bool false, .int .i64 0, .int .i64 256, .bool false, .int .i64 3] 65)
  have hk2 := hk.alloc (.cells #[.int .i64 7, .bool true, .int .i64 0, .int .i64 7, .bool true, .int .i64 0, .int .i64 5, .bool true, .int .i64 0, .int .i64 9, .bool false, .int .i64 0, .int .i64 256, .bool false, .int .i64 3] 65)
  rw [hA] at bA ⊢
  have hbA : b < A := by omega
  have hbw : w.heap.size ≤ b := by have := HBQ.out; omega
  have hA2 : A < (w1.alloc (.cells #[.int .i64 7, .bool true, .int .i64 0, .int .i64 7, .bool true, .int .i64 0, .int .i64 5, .bool true, .int .i64 0, .int .i64 9, .bool false, .int .i64 0, .int .i64 256, .bool false, .int .i64 3] 65)).heap.size := by simp; omega
  clear hA hb hk hs
  generalize (w1.alloc (.cells #[.int .i64 7, .bool true, .int .i64 0, .int .i64 7, .bool true, .int .i64 0, .int .i64 5, .bool true, .int .i64 0, .int .i64 9, .bool false, .int .i64 0, .int .i64 256, .bool false, .int .i64 3] 65)) = W at *
  clear w1
  refine wp_loop_rounds 6 ?_
  rw [rounds_succ]
  have c0 := bA.cellAt 0 _ rfl
  have c1 := bA.cellAt 1 _ rfl
  have c2 := bA.cellAt 2 _ rfl
  go_wp2_with fail
  have bX := Blk.new W 65 #[.int .i64 7, .bool true, .int .i64 0]
  have hbx := hb2.alloc (.cells #[.int .i64 7, .bool true, .int .i64 0] 65)
  have hkx := hk2.alloc (.cells #[.int .i64 7, .bool true, .int .i64 0] 65)
  have bAx := bA.alloc (.cells #[.int .i64 7, .bool true, .int .i64 0] 65)
  have hAx : A < (W.alloc (.cells #[.int .i64 7, .bool true, .int .i64 0] 65)).heap.size := by simp; omega
  have hXx : W.heap.size < (W.alloc (.cells #[.int .i64 7, .bool true, .int .i64 0] 65)).heap.size := by simp
  have hAX : A < W.heap.size := hA2
  clear c0 c1 c2 hb2 hk2 bA hA2
  generalize W.heap.size = X at *
  generalize W.alloc (.cells #[.int .i64 7, .bool true, .int .i64 0] 65) = V at *
  clear W
  refine (note_ok hbx 7 (by omega) (by omega) (by simp)).mono ?_
  rintro e W1 ⟨rfl, hb3, hkk⟩
  have hk3 := hkx.step hkk (by simp; omega)
  have bA1 := bAx.keeps hkk (by simp; omega)
  have hA3 : A < W1.heap.size := Nat.lt_of_lt_of_le hAx hkk.size
  have bX2 := bX.keeps hkk (by simp; omega)
  have x1 := bX2.cellAt 1 _ rfl
  have x2 := bX2.cellAt 2 _ rfl
  clear hbx hkx bAx hAx hXx hkk
  go_wp2_with fail
  clear x1 x2 bX bX2 hAX
  rw [rounds_succ]
  have c0 := bA1.cellAt 3 _ rfl
  have c1 := bA1.cellAt 4 _ rfl
  have c2 := bA1.cellAt 5 _ rfl
  go_wp2_with fail
  have bX := Blk.new W1 65 #[.int .i64 7, .bool true, .int .i64 0]
  have hbx := hb3.alloc (.cells #[.int .i64 7, .bool true, .int .i64 0] 65)
  have hkx := hk3.alloc (.cells #[.int .i64 7, .bool true, .int .i64 0] 65)
  have bAx := bA1.alloc (.cells #[.int .i64 7, .bool true, .int .i64 0] 65)
  have hAx : A < (W1.alloc (.cells #[.int .i64 7, .bool true, .int .i64 0] 65)).heap.size := by simp; omega
  have hXx : W1.heap.size < (W1.alloc (.cells #[.int .i64 7, .bool true, .int .i64 0] 65)).heap.size := by simp
  have hAX : A < W1.heap.size := hA3
  clear c0 c1 c2 hb3 hk3 bA1 hA3
  generalize W1.heap.size = X at *
  generalize W1.alloc (.cells #[.int .i64 7, .bool true, .int .i64 0] 65) = V at *
  clear W1
  refine (note_ok hbx 7 (by omega) (by omega) (by simp)).mono ?_
  rintro e W2 ⟨rfl, hb4, hkk⟩
  have hk4 := hkx.step hkk (by simp; omega)
  have bA2 := bAx.keeps hkk (by simp; omega)
  have hA4 : A < W2.heap.size := Nat.lt_of_lt_of_le hAx hkk.size
  have bX2 := bX.keeps hkk (by simp; omega)
  have x1 := bX2.cellAt 1 _ rfl
  have x2 := bX2.cellAt 2 _ rfl
  clear hbx hkx bAx hAx hXx hkk
  go_wp2_with fail
  clear x1 x2 bX bX2 hAX
  rw [rounds_succ]
  have c0 := bA2.cellAt 6 _ rfl
  have c1 := bA2.cellAt 7 _ rfl
  have c2 := bA2.cellAt 8 _ rfl
  go_wp2_with fail
  have bX := Blk.new W2 65 #[.int .i64 5, .bool true, .int .i64 0]
  have hbx := hb4.alloc (.cells #[.int .i64 5, .bool true, .int .i64 0] 65)
  have hkx := hk4.alloc (.cells #[.int .i64 5, .bool true, .int .i64 0] 65)
  have bAx := bA2.alloc (.cells #[.int .i64 5, .bool true, .int .i64 0] 65)
  have hAx : A < (W2.alloc (.cells #[.int .i64 5, .bool true, .int .i64 0] 65)).heap.size := by simp; omega
  have hXx : W2.heap.size < (W2.alloc (.cells #[.int .i64 5, .bool true, .int .i64 0] 65)).heap.size := by simp
  have hAX : A < W2.heap.size := hA4
  clear c0 c1 c2 hb4 hk4 bA2 hA4
  generalize W2.heap.size = X at *
  generalize W2.alloc (.cells #[.int .i64 5, .bool true, .int .i64 0] 65) = V at *
  clear W2
  refine (note_ok hbx 5 (by omega) (by omega) (by simp)).mono ?_
  rintro e W3 ⟨rfl, hb5, hkk⟩
  have hk5 := hkx.step hkk (by simp; omega)
  have bA3 := bAx.keeps hkk (by simp; omega)
  have hA5 : A < W3.heap.size := Nat.lt_of_lt_of_le hAx hkk.size
  have bX2 := bX.keeps hkk (by simp; omega)
  have x1 := bX2.cellAt 1 _ rfl
  have x2 := bX2.cellAt 2 _ rfl
  clear hbx hkx bAx hAx hXx hkk
  go_wp2_with fail
  clear x1 x2 bX bX2 hAX
  rw [rounds_succ]
  have c0 := bA3.cellAt 9 _ rfl
  have c1 := bA3.cellAt 10 _ rfl
  have c2 := bA3.cellAt 11 _ rfl
  go_wp2_with fail
  have bX := Blk.new W3 65 #[.int .i64 9, .bool false, .int .i64 0]
  have hbx := hb5.alloc (.cells #[.int .i64 9, .bool false, .int .i64 0] 65)
  have hkx := hk5.alloc (.cells #[.int .i64 9, .bool false, .int .i64 0] 65)
  have bAx := bA3.alloc (.cells #[.int .i64 9, .bool false, .int .i64 0] 65)
  have hAx : A < (W3.alloc (.cells #[.int .i64 9, .bool false, .int .i64 0] 65)).heap.size := by simp; omega
  have hXx : W3.heap.size < (W3.alloc (.cells #[.int .i64 9, .bool false, .int .i64 0] 65)).heap.size := by simp
  have hAX : A < W3.heap.size := hA5
  clear c0 c1 c2 hb5 hk5 bA3 hA5
  generalize W3.heap.size = X at *
  generalize W3.alloc (.cells #[.int .i64 9, .bool false, .int .i64 0] 65) = V at *
  clear W3
  refine (note_full hbx 9 (by omega) (by omega) (by simp)).mono ?_
  rintro e W4 ⟨rfl, hb6, hkk⟩
  have hk6 := hkx.step hkk (by simp; omega)
  have bA4 := bAx.keeps hkk (by simp; omega)
  have hA6 : A < W4.heap.size := Nat.lt_of_lt_of_le hAx hkk.size
  have bX2 := bX.keeps hkk (by simp; omega)
  have x1 := bX2.cellAt 1 _ rfl
  have x2 := bX2.cellAt 2 _ rfl
  clear hbx hkx bAx hAx hXx hkk
  go_wp2_with fail
  clear x1 x2 bX bX2 hAX
  rw [rounds_succ]
  have c0 := bA4.cellAt 12 _ rfl
  have c1 := bA4.cellAt 13 _ rfl
  have c2 := bA4.cellAt 14 _ rfl
  go_wp2_with fail
  have bX := Blk.new W4 65 #[.int .i64 256, .bool false, .int .i64 3]
  have hbx := hb6.alloc (.cells #[.int .i64 256, .bool false, .int .i64 3] 65)
  have hkx := hk6.alloc (.cells #[.int .i64 256, .bool false, .int .i64 3] 65)
  have bAx := bA4.alloc (.cells #[.int .i64 256, .bool false, .int .i64 3] 65)
  have hAx : A < (W4.alloc (.cells #[.int .i64 256, .bool false, .int .i64 3] 65)).heap.size := by simp; omega
  have hXx : W4.heap.size < (W4.alloc (.cells #[.int .i64 256, .bool false, .int .i64 3] 65)).heap.size := by simp
  have hAX : A < W4.heap.size := hA6
  clear c0 c1 c2 hb6 hk6 bA4 hA6
  generalize W4.heap.size = X at *
  generalize W4.alloc (.cells #[.int .i64 256, .bool false, .int .i64 3] 65) = V at *
  clear W4
  refine (note_range hbx 256 (by omega)).mono ?_
  rintro e W5 ⟨rfl, rfl⟩
  have hb7 := hbx
  have hk7 := hkx
  have bA5 := bAx
  have hA7 := hAx
  have bX2 := bX
  have x1 := bX2.cellAt 1 _ rfl
  have x2 := bX2.cellAt 2 _ rfl
  clear hbx hkx bAx hAx hXx 
  go_wp2_with fail
  clear x1 x2 bX bX2 hAX
  rw [rounds_succ]
  go_wp2_with fail
  refine (over_any hb7).mono ?_
  rintro e w' ⟨rfl, rfl⟩
  go_wp2_with fail
  refine (drain_ok hb7 2 (by omega)).mono ?_
  rintro e V1 ⟨l, rfl, hl1, hd1, hkd1⟩
  have hq1 := hk7.step hkd1 (by simp; omega)
  have hd1' : IsBuf V1 b 3 [5] false := hd1
  have hl1' : OwnI V1 V.heap.size l [7, 7] := hl1
  have hlt1 : b < V.heap.size := hb7.lt
  clear hd1 hl1 hkd1 hb7
  generalize V.heap.size = X1 at *
  go_wp2_with fail
  refine (note_ok hd1' 9 (by omega) (by omega) (by simp)).mono ?_
  rintro e V2 ⟨rfl, hd2, hkd2⟩
  have hd2' : IsBuf V2 b 3 [5, 9] false := hd2
  have hq2 := hq1.step hkd2 (by simp; omega)
  have hl2 := hl1'.keeps hkd2 (fun k e => by have := (hl1'.lt k e).1; simp; omega)
  have hlt2 : b < V2.heap.size := hd2.lt
  clear hd2 hkd2
  go_wp2_with fail
  refine (drain_ok hd2' 100 (by omega)).mono ?_
  rintro e V3 ⟨m, rfl, hm3, hd3, hkd3⟩
  have hd3' : IsBuf V3 b 3 [] false := hd3
  have hm3' : OwnI V3 V2.heap.size m [5, 9] := hm3
  have hq3 := hq2.step hkd3 (by simp; omega)
  have hl3 := hl2.keeps hkd3 (fun k e => by have := (hl2.lt k e).1; simp; omega)
  clear hd3 hm3 hkd3
  generalize V2.heap.size = X2 at *
  go_wp2_with fail
  refine (drain_neg hd3' (-1) (by omega)).mono ?_
  rintro e w' ⟨rfl, rfl⟩
  go_wp2_with fail
  refine (over_any hd3').mono ?_
  rintro e w' ⟨rfl, rfl⟩
  go_wp2_with fail
  refine (settle_any hd3').mono ?_
  rintro e V4 ⟨rfl, hd4, hkd4⟩
  have hq4 := hq3.step hkd4 (by simp; omega)
  have hl4 := hl3.keeps hkd4 (fun k e => by have := (hl3.lt k e).1; simp; omega)
  have hm4 := hm3'.keeps hkd4 (fun k e => by have := (hm3'.lt k e).1; simp; omega)
  clear hkd4
  have s4 : [7, 7].length ≤ maxLen := by decide
  have s5 : [5, 9].length ≤ maxLen := by decide
  go_wp2_with fail
  refine (equal_any (xs := [7, 7]) (ys := [7, 7]) ((hl4.alloc _).sl (by decide)) (SlI.lit (Blk.new V4 3 #[.int .i64 7, .int .i64 7]) rfl (by decide))).mono ?_
  rintro e w' ⟨rfl, n1, rfl⟩
  have hd5 := hd4.alloc (.cells #[.int .i64 7, .int .i64 7] 3)
  have hm5 := hm4.alloc (.cells #[.int .i64 7, .int .i64 7] 3)
  have hq5 := hq4.alloc (.cells #[.int .i64 7, .int .i64 7] 3)
  clear hl4 hm4 hd4 hq4 s4
  generalize (V4.alloc (.cells #[.int .i64 7, .int .i64 7] 3)) = V5 at *
  have hd6 := hd5.drewN n1
  have hm6 := hm5.drewN n1
  have hq6 := hq5.drewN n1
  clear hd5 hm5 hq5
  generalize V5.drewN n1 = V6 at *
  clear V5
  go_wp2_with fail
  refine (equal_any (xs := [5, 9]) (ys := [5, 9]) ((hm6.alloc _).sl (by decide)) (SlI.lit (Blk.new V6 3 #[.int .i64 5, .int .i64 9]) rfl (by decide))).mono ?_
  rintro e w' ⟨rfl, n2, rfl⟩
  have hd7 := (hd6.alloc (.cells #[.int .i64 5, .int .i64 9] 3)).drewN n2
  have hq7 := (hq6.alloc (.cells #[.int .i64 5, .int .i64 9] 3)).drewN n2
  clear hm6 hd6 hq6 s5
  generalize (V6.alloc (.cells #[.int .i64 5, .int .i64 9] 3)).drewN n2 = V7 at *
  go_wp2_with fail
  refine (over_any hd7).mono ?_
  rintro e w' ⟨rfl, rfl⟩
  go_wp2_with fail
  refine (len_any hd7).mono ?_
  rintro e w' ⟨rfl, rfl⟩
  go_wp2_with fail
  refine (room_any hd7).mono ?_
  rintro e w' ⟨rfl, n3, rfl⟩
  go_wp2_with fail
  go_ret
  exact ⟨rfl, (hq7.drewN n3).below⟩
end Go.Proofs.Ytmojlfkjbnokcaa
