/- BufferNil: for every input the call returns true, and nothing that was there has changed. No condition. -/
import Derived.Test.YtmojlfkjbnokcaaWorks
namespace Go.Proofs.Ytmojlfkjbnokcaa
open Go.RowKit

/-- A receiver that is not a made buffer. -/
def Unmade (v : Value) (w : World) : Prop := Calls Try.prog 28 #[v] w fun e w' => e = .returned (.bool false) ∧ w = w'

section
variable {v : Value} {w : World}
theorem note_un (h : Unmade v w) (n : Int) : Calls Try.prog 12 #[v, .int .i64 n] w fun e w' => e = .returned (.tuple #[.bool false, .int .i64 1]) ∧ w = w' := by
  have H := Lib.hid h
  clear h
  go_enter Try.func12, Try.ntmps12
  go_wp2_with fail
  refine H.out.mono ?_
  rintro e w' ⟨rfl, rfl⟩
  go_wp2_with fail
  go_ret2
  exact ⟨rfl, rfl⟩
theorem drain_un (h : Unmade v w) (n : Int) : Calls Try.prog 11 #[v, .int .i64 n] w fun e w' => e = .returned (.tuple #[.slice none 0 0, .int .i64 1]) ∧ w = w' := by
  have H := Lib.hid h
  clear h
  go_enter Try.func11, Try.ntmps11
  go_wp2_with fail
  refine H.out.mono ?_
  rintro e w' ⟨rfl, rfl⟩
  go_wp2_with fail
  go_ret2
  exact ⟨rfl, rfl⟩
theorem settle_un (h : Unmade v w) : Calls Try.prog 18 #[v] w fun e w' => e = .returned (.tuple #[]) ∧ w = w' := by
  have H := Lib.hid h
  clear h
  go_enter Try.func18, Try.ntmps18
  go_wp2_with fail
  refine H.out.mono ?_
  rintro e w' ⟨rfl, rfl⟩
  go_wp2_with fail
  go_end0
  exact ⟨rfl, rfl⟩
theorem len_un (h : Unmade v w) : Calls Try.prog 13 #[v] w fun e w' => e = .returned (.int .i64 0) ∧ w = w' := by
  have H := Lib.hid h
  clear h
  go_enter Try.func13, Try.ntmps13
  go_wp2_with fail
  refine H.out.mono ?_
  rintro e w' ⟨rfl, rfl⟩
  go_wp2_with fail
  go_ret
  exact ⟨rfl, rfl⟩
theorem room_un (h : Unmade v w) : Calls Try.prog 14 #[v] w fun e w' => e = .returned (.int .i64 0) ∧ w = w' := by
  have H := Lib.hid h
  clear h
  go_enter Try.func14, Try.ntmps14
  go_wp2_with fail
  refine H.out.mono ?_
  rintro e w' ⟨rfl, rfl⟩
  go_wp2_with fail
  go_ret
  exact ⟨rfl, rfl⟩
theorem over_un (h : Unmade v w) : Calls Try.prog 15 #[v] w fun e w' => e = .returned (.bool false) ∧ w = w' := by
  have H := Lib.hid h
  clear h
  go_enter Try.func15, Try.ntmps15
  go_wp2_with fail
  refine H.out.mono ?_
  rintro e w' ⟨rfl, rfl⟩
  go_wp2_with fail
  go_ret
  exact ⟨rfl, rfl⟩
theorem copy_un (h : Unmade v w) : Calls Try.prog 24 #[v] w fun e w' => e = .returned (.pointer none) ∧ w = w' := by
  have H := Lib.hid h
  clear h
  go_enter Try.func24, Try.ntmps24
  go_wp2_with fail
  refine H.out.mono ?_
  rintro e w' ⟨rfl, rfl⟩
  go_wp2_with fail
  go_ret
  exact ⟨rfl, rfl⟩
end

set_option maxRecDepth 100000 in
set_option maxHeartbeats 4000000 in
theorem nil_walk (n : Int) (w : World) : Calls Try.prog 9 #[.int .i64 n] w fun e w' => e = .returned (.bool true) ∧ Below w.heap.size w w' := by
  have hz := bufZero_run
  go_enter Try.func9, Try.ntmps9
  go_wp2_with fail
  obtain ⟨Z, hZ⟩ : ∃ Z, w.heap.size = Z := ⟨_, rfl⟩
  have bZ := (Blk.new w 59 bufZero).alloc (.cells #[.pointer none, .pointer (some ⟨w.heap.size, 0, none⟩)] 23)
  have bA := Blk.new (w.alloc (.cells bufZero 59)) 23 #[.pointer none, .pointer (some ⟨w.heap.size, 0, none⟩)]
  have hK := ((Keeps.refl [] w).alloc (.cells bufZero 59)).alloc (.cells #[.pointer none, .pointer (some ⟨w.heap.size, 0, none⟩)] 23)
  have hsz : (w.alloc (.cells bufZero 59)).heap.size = w.heap.size + 1 := by simp
  rw [hsz] at bA
  rw [hZ] at bZ bA hK ⊢
  generalize (w.alloc (.cells bufZero 59)).alloc (.cells #[.pointer none, .pointer (some ⟨Z, 0, none⟩)] 23) = W at *
  have HZ := Lib.hid hZ
  have U1 := Lib.hid (show Unmade (.pointer none) W from made_nil W)
  have U2 := Lib.hid (show Unmade (.pointer (some ⟨Z, 0, none⟩)) W from made_no (by have := bZ.cell 64; simpa [bufZero, bufCells] using this))
  clear hZ hsz hz bZ
  refine wp_loop_rounds 3 ?_
  rw [rounds_succ]
  have c0 := bA.cellAt 0 _ rfl
  go_wp2_with fail
  refine (note_un U1.out n).mono ?_
  rintro e w' ⟨rfl, rfl⟩
  go_wp2_with fail
  refine (drain_un U1.out n).mono ?_
  rintro e w' ⟨rfl, rfl⟩
  go_wp2_with fail
  refine (settle_un U1.out).mono ?_
  rintro e w' ⟨rfl, rfl⟩
  go_wp2_with fail
  refine (len_un U1.out).mono ?_
  rintro e w' ⟨rfl, rfl⟩
  go_wp2_with fail
  refine (room_un U1.out).mono ?_
  rintro e w' ⟨rfl, rfl⟩
  go_wp2_with fail
  refine (over_un U1.out).mono ?_
  rintro e w' ⟨rfl, rfl⟩
  go_wp2_with fail
  refine (copy_un U1.out).mono ?_
  rintro e w' ⟨rfl, rfl⟩
  go_wp2_with fail
  clear c0
  rw [rounds_succ]
  have c0 := bA.cellAt 1 _ rfl
  go_wp2_with fail
  refine (note_un U2.out n).mono ?_
  rintro e w' ⟨rfl, rfl⟩
  go_wp2_with fail
  refine (drain_un U2.out n).mono ?_
  rintro e w' ⟨rfl, rfl⟩
  go_wp2_with fail
  refine (settle_un U2.out).mono ?_
  rintro e w' ⟨rfl, rfl⟩
  go_wp2_with fail
  refine (len_un U2.out).mono ?_
  rintro e w' ⟨rfl, rfl⟩
  go_wp2_with fail
  refine (room_un U2.out).mono ?_
  rintro e w' ⟨rfl, rfl⟩
  go_wp2_with fail
  refine (over_un U2.out).mono ?_
  rintro e w' ⟨rfl, rfl⟩
  go_wp2_with fail
  refine (copy_un U2.out).mono ?_
  rintro e w' ⟨rfl, rfl⟩
  go_wp2_with fail
  clear c0
  rw [rounds_succ]
  go_wp2_with fail
  refine (works_ok _).mono ?_
  rintro e w4 ⟨rfl, k4⟩
  have hK4 := hK.trans (Keeps.of_below k4)
  go_wp2_with fail
  go_ret
  exact ⟨rfl, HZ.out ▸ hK4.below⟩
end Go.Proofs.Ytmojlfkjbnokcaa
