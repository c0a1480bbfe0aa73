/- The contract of Copy: a new buffer in a new block that holds the same; nothing else has changed. -/
import Derived.Test.YtmojlfkjbnokcaaBuf
import Derived.Laws.Tables
namespace Go.Proofs.Ytmojlfkjbnokcaa
open Go.RowKit

theorem Keeps.setRow {S : List Nat} {a w : World} (h : Keeps S a w) {g : Nat} (hg : g ∈ S ∨ a.heap.size ≤ g) (cs : Array Value) : Keeps S a (w.setRow g cs) :=
  ⟨h.os, h.tape, h.output, by simpa [World.setRow] using h.size, fun i hi hn => (setRow_other w g i cs (by
    rintro rfl
    rcases hg with hg | hg
    · exact hn hg
    · omega)).trans (h.block i hi hn)⟩

def CopyPost (sz : Nat) (L : List Int) (wh : Bool) (w : World) (e : Ending) (w' : World) : Prop := e = .returned (.pointer (some ⟨w.heap.size, 0, none⟩)) ∧ IsBuf w' w.heap.size sz L wh ∧ Keeps [] w w' ∧ w.heap.size < w'.heap.size

set_option maxHeartbeats 800000 in
theorem copy_ok {b sz : Nat} {L : List Int} {wh : Bool} {w : World} (h : IsBuf w b sz L wh) :
    Calls Try.prog 24 #[.pointer (some ⟨b, 0, none⟩)] w (CopyPost sz L wh w) := by
  have c64 := h.size
  have hlt := h.lt
  obtain ⟨ring, f, hb, hr, h0, h64, hf, hl, hL⟩ := h
  have hsz : (bufCells ring sz f L.length wh).size = 68 := by simp [bufCells, hr]
  have h1 : (bufCells ring sz f L.length wh).all (·.oneCell') = true := by
    rw [Array.all_eq_true_iff_forall_mem]
    intro v hv
    simp [bufCells] at hv
    rcases hv with ⟨_, _, rfl⟩ | rfl | rfl | rfl | rfl <;> rfl
  have HB := Lib.hid hb
  have HL := Lib.hid hL
  have HR := Lib.hid hr
  have HN := Lib.hid hl
  clear hb hL hr hl
  generalize hcs : bufCells ring sz f L.length wh = cs at *
  have HC := Lib.hid hcs
  have HS := Lib.hid hsz
  have H1 := Lib.hid h1
  clear hcs hsz h1
  have hz := bufZero_run
  go_enter Try.func24, Try.ntmps24
  go_wp2_with (first | (go_at_call 28; refine (made_yes c64 h0).mono ?_; rintro e w' ⟨rfl, rfl⟩) | (refine wpList_load_row rfl 59 _ rfl b rfl 59 cs (0, 0) _ HB.out Try.underlying59 rfl (by rw [HS.out]; kernel_rfl) ?_) | (refine wpList_store_row rfl 59 _ _ rfl w.heap.size cs rfl rfl 59 bufZero (Blk.new _ _ _) (by rw [HS.out]; kernel_rfl) (by rw [HS.out, bufZero_size]) H1.out ?_))
  go_ret
  refine ⟨rfl, ⟨ring, f, ?_, HR.out, h0, h64, hf, HN.out, HL.out⟩, ((Keeps.refl _ w).alloc _).setRow (.inr (by simp)) _, by simp [World.setRow]⟩
  rw [HC.out]
  exact setRow_heap _ _ _ _ _ _ (Blk.new _ _ _)
end Go.Proofs.Ytmojlfkjbnokcaa
