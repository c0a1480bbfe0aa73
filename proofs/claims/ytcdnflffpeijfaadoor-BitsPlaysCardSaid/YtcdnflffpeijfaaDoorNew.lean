/- The contracts of New and Count. Condition: for Count, a set that New or Copy made. -/
import Derived.Test.YtcdnflffpeijfaaDoorHas
namespace Go.Proofs.YtcdnflffpeijfaaDoor
open Go.RowKit

set_option maxRecDepth 1000000 in
theorem New_no (n : Int) (h : n < 1 ∨ 4096 < n) (w : World) : Calls Tryd.prog 15 #[.int .i64 n] w fun e w' => e = .returned (.tuple #[.pointer none, .int .i64 2]) ∧ w = w' := by
  by_cases h1 : n < 1
  · clear h
    go_enter Tryd.func15, Tryd.ntmps15
    go_wp2_with fail
    go_ret2
    exact ⟨rfl, rfl⟩
  · have h2 : 4096 < n := by omega
    clear h
    go_enter Tryd.func15, Tryd.ntmps15
    go_wp2_with fail
    go_ret2
    exact ⟨rfl, rfl⟩
def zeros (n : Nat) : List Nat := List.replicate ((n + 63) / 64) 0
theorem has_zeros (n i : Nat) : has (zeros n) i = false := by
  unfold has zeros
  simp only [List.getD, List.getElem?_replicate]
  split <;> simp

theorem infoWord : (Tryd.prog.info? 67).map (fun i => (i.zero, i.size, i.bytes)) = some (some (.int .u64 0), 1, 8) := by kernel_rfl
theorem madeWords (k : Nat) : (madeCells #[.int .u64 0] k).toList = List.replicate k (Value.int .u64 0) := by
  apply List.ext_getElem
  · simp [madeCells]
  · intro i h1 h2
    simp [madeCells, Nat.mod_one]
theorem set_new (n k : Nat) (h1 : 1 ≤ n) (h2 : n ≤ 4096) (hk : (n + 63) / 64 = k) (w : World) : IsSet ((w.alloc (.cells (madeCells #[.int .u64 0] k) 67)).alloc (.cells #[.int .i64 n, .slice (some ⟨w.heap.size, 0, none⟩) k k] 58)) (w.heap.size + 1) w.heap.size n (zeros n) := by
  have hz : (zeros n).length = k := by simp [zeros, hk]
  have hc : (madeCells #[.int .u64 0] k).toList = wordCells (zeros n) := by
    unfold wordCells zeros
    rw [hk, madeWords, List.map_replicate]
    rfl
  have b1 := Blk.new w 67 (madeCells #[.int .u64 0] k)
  have b2 := Blk.new (w.alloc (.cells (madeCells #[.int .u64 0] k) 67)) 58 #[.int .i64 n, .slice (some ⟨w.heap.size, 0, none⟩) k k]
  simp only [World.size_alloc] at b2
  refine ⟨⟨k, madeCells #[.int .u64 0] k, by rw [hz]; exact b2, b1.alloc _, by omega, by unfold maxLen; omega, ?_, ?_⟩, by omega, by rw [hz, hk], h1, h2, ?_, fun i _ => has_zeros n i⟩
  · have := congrArg List.length hc
    rw [wordCells_len, hz] at this
    simpa using this
  · rw [hz, hc, List.take_of_length_le (by rw [wordCells_len, hz]; omega)]
  · intro j hj
    unfold zeros
    simp only [List.getD, List.getElem?_replicate]
    split <;> simp
set_option maxRecDepth 1000000 in
theorem New_ok (n : Nat) (h1 : 1 ≤ n) (h2 : n ≤ 4096) (w : World) : Calls Tryd.prog 15 #[.int .i64 n] w fun e w' => e = .returned (.tuple #[.pointer (some ⟨w.heap.size + 1, 0, none⟩), .int .i64 0]) ∧ IsSet w' (w.heap.size + 1) w.heap.size n (zeros n) ∧ Keeps [] w w' := by
  obtain ⟨k, hk⟩ : ∃ k, (n + 63) / 64 = k := ⟨_, rfl⟩
  have ed : (((n : Int) + 63)).tdiv 64 = (k : Int) := by rw [Int.tdiv_eq_ediv_of_nonneg (by omega), ← hk]; omega
  have ed2 : ((n : Int) + 63) / 64 = (k : Int) := by rw [← hk]; omega
  have ed3 : (((n : Int) + 64 - 1)).tdiv 64 = (k : Int) := by rw [Int.tdiv_eq_ediv_of_nonneg (by omega), ← hk]; omega
  have ed4 : ((n : Int) + 64 - 1) / 64 = (k : Int) := by rw [← hk]; omega
  have hk1 : k ≤ 64 := by omega
  have HK := Lib.hid hk
  clear hk
  obtain ⟨ti, hi, hz0, hz1, hz2⟩ := info_parts infoWord
  have hmk : ∀ w : World, (Instr.makeSlice 56 (.int .i64 k) (.int .i64 k)).run Tryd.prog w = .ok (.slice (some ⟨w.heap.size, 0, none⟩) k k) (w.alloc (.cells (madeCells #[.int .u64 0] k) 67)) := by
    intro w
    have := run_makeSlice (P := Tryd.prog) w 56 67 ti (.int .u64 0) Tryd.underlying56 hi hz0 .i64 .i64 k k (by omega) (by omega) (by rw [hz1, Int.toNat_natCast]; omega) (by rw [hz2]; omega) (by omega)
    rw [hz1, Int.toNat_natCast, Nat.mul_one] at this
    exact this
  have hI := set_new n k h1 h2 HK.out w
  have HI := Lib.hid hI
  clear hi hz0 hz1 hz2 hI
  go_enter Tryd.func15, Tryd.ntmps15
  go_wp2_with fail
  go_ret2
  exact ⟨rfl, HI.out, ((Keeps.refl [] w).alloc _).alloc _⟩

/-- How many numbers there are in words. -/
def countOf (ws : List Nat) : Nat := (ws.map (howMany 64)).sum
theorem countOf_step (ws : List Nat) {k : Nat} (h : k < ws.length) : countOf (ws.take (k + 1)) = countOf (ws.take k) + howMany 64 (ws.getD k 0) := by
  have : ws.take (k + 1) = ws.take k ++ [ws.getD k 0] := by
    rw [List.take_succ_eq_append_getElem h]
    simp [List.getElem?_eq_getElem h]
  unfold countOf
  rw [this]
  simp
theorem howMany_le (k x : Nat) : howMany k x ≤ k := by
  unfold howMany
  have := List.length_filter_le (fun j => x.testBit j) (List.range k)
  simpa using this
theorem countOf_le (ws : List Nat) : countOf ws ≤ 64 * ws.length := by
  unfold countOf
  induction ws with
  | nil => simp
  | cons x ws ih => have := howMany_le 64 x; simp only [List.map_cons, List.sum_cons, List.length_cons]; omega
set_option maxRecDepth 1000000 in
set_option maxHeartbeats 4000000 in
theorem Count_in {b gb n : Nat} {w : World} {ws : List Nat} (h : IsSet w b gb n ws) :
    Calls Tryd.prog 25 #[.pointer (some ⟨b, 0, none⟩)] w fun e w' => e = .returned (.int .i64 (countOf ws)) ∧ w = w' := by
  have hs := h.size
  have HM := Lib.hid (made_yes hs h.pos)
  have hl := h.len
  have hm := h.most
  have hp := h.pos
  have HW := Lib.hid h.word
  have HC := Lib.hid (fun k hk => h.cell (k := k) hk)
  obtain ⟨cap, cur, hb, hg, _⟩ := h.row
  have hc1 := hb.cellAt 1 _ rfl
  have hlen : ws.length ≤ 64 := by omega
  clear h hb hg
  go_enter Tryd.func25, Tryd.ntmps25
  go_wp2_with fail
  refine HM.out.mono ?_
  rintro e w' ⟨rfl, rfl⟩
  go_wp2_with fail
  go_loop [3, 13] (fun x y => ∃ k : Nat, x = .int .i64 (countOf (ws.take k)) ∧ y = .int .i64 k ∧ k ≤ ws.length) (fun _ y => ws.length - (RowKit.intOf y).toNat)
  case atStart => exact ⟨0, rfl, rfl, Nat.zero_le _⟩
  case round =>
    obtain ⟨k, rfl, rfl, hk⟩ := hrel
    by_cases hk2 : k < ws.length
    · have hck := HC.out k hk2
      have hwk := HW.out k hk2
      have HS := Lib.hid (countOf_step ws hk2)
      have hcl : countOf (ws.take k) ≤ 4096 := by
        have := countOf_le (ws.take k)
        have := List.length_take_le k ws
        omega
      have hmx := howMany_le 64 (ws.getD k 0)
      have HO := Lib.hid (Ones_ok (ws.getD k 0) hwk)
      obtain ⟨x, hx⟩ : ∃ x, ws.getD k 0 = x := ⟨_, rfl⟩
      rw [hx] at hck hwk HS HO hmx
      obtain ⟨q, hq⟩ : ∃ q, howMany 64 x = q := ⟨_, rfl⟩
      rw [hq] at HS HO hmx
      clear hx hq
      go_wp2_with fail
      refine (HO.out _).mono ?_
      rintro e w' ⟨rfl, rfl⟩
      go_wp2_with fail
      go_round
      case rel => exact ⟨k + 1, by rw [HS.out]; go_num, by go_num, by omega⟩
      case measure => simp [RowKit.intOf]; omega
    · obtain rfl : k = ws.length := by omega
      rw [List.take_length]
      go_wp2_with fail
      go_ret
      exact ⟨rfl, rfl⟩
end Go.Proofs.YtcdnflffpeijfaaDoor
