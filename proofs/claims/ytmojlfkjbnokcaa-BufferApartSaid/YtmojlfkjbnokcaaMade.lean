/- The contract of made: a new buffer of 1 to 64 slots. No condition. -/
import Derived.Test.YtmojlfkjbnokcaaBuf
namespace Go.Proofs.Ytmojlfkjbnokcaa
open Go.RowKit

def MadePost (n : Nat) (w : World) (e : Ending) (w' : World) : Prop := e = .returned (.tuple #[.pointer (some ⟨w.heap.size, 0, none⟩), .int .i64 n, .bool true]) ∧ IsBuf w' w.heap.size n [] true ∧ Keeps [] w w' ∧ w.heap.size < w'.heap.size

set_option maxHeartbeats 1000000 in
theorem made_size (s : Nat) (hs : s ≤ 255) (w : World) : Calls Try.prog 10 #[.int .u8 s] w (MadePost (1 + s % 64) w) := by
  have h0 : 0 < 1 + s % 64 := by omega
  have h1 : 1 + s % 64 ≤ 64 := by omega
  have e1 : (1 : Int) + (s : Int) % 64 = ((1 + s % 64 : Nat) : Int) := by omega
  have E1 := Lib.hid e1
  clear e1
  go_enter Try.func10, Try.ntmps10
  go_wp2_with fail
  rw [E1.out]
  refine (new_ok h0 h1 _).mono ?_
  rintro e w1 ⟨rfl, hb, hk, hz⟩
  go_wp2_with fail
  refine bodyPost_ret (results_tmp3 rfl _ _ _) rfl ?_
  exact ⟨rfl, hb, hk, hz⟩

/-- What a slice that owns its elements looks like. -/
theorem OwnI.slice {w : World} {B : Nat} {v : Value} {xs : List Int} (h : OwnI w B v xs) : ∃ a cap, v = .slice a xs.length cap := by
  rcases h.form with ⟨rfl, rfl⟩ | ⟨g, cap, cur, rfl, _⟩
  · exact ⟨none, 0, rfl⟩
  · exact ⟨_, cap, rfl⟩
end Go.Proofs.Ytmojlfkjbnokcaa
