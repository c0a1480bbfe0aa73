/- The document's buffer: what it is in the heap, and its functions. No condition. -/
import Derived.Test.YtmojlfkjbnokcaaKit2
import Derived.Test.YtmojlfkjbnokcaaWorks
namespace Go.Proofs.Ytmojlfkjbnokcaa
open Go.RowKit

/-- Block r is the document's buffer of sz slots that holds L (in the slice v, whose row lies from B on), and is not over if wh. -/
structure IsRef (w : World) (B r sz : Nat) (v : Value) (L : List Int) (wh : Bool) : Prop where
  blk : Blk w r 68 #[.int .i64 sz, v, .bool (!wh)]
  own : OwnI w B v L
  le : L.length ≤ 64
  base : B ≤ w.heap.size

section
variable {w w' : World} {B r sz : Nat} {v : Value} {L : List Int} {wh : Bool} {S : List Nat}
theorem IsRef.lt (h : IsRef w B r sz v L wh) : r < w.heap.size := h.blk.lt
theorem IsRef.keeps (h : IsRef w B r sz v L wh) (k : Keeps S w w') (h1 : r ∉ S) (h2 : ∀ x, v.ownBlock = some x → x ∉ S) : IsRef w' B r sz v L wh :=
  ⟨h.blk.keeps k h1, h.own.keeps k h2, h.le, Nat.le_trans h.base k.size⟩
theorem IsRef.size (h : IsRef w B r sz v L wh) : w.cell? ⟨r, 0, none⟩ = some (.int .i64 sz) := h.blk.cellAt 0 _ rfl
theorem IsRef.list (h : IsRef w B r sz v L wh) : w.cell? ⟨r, 1, none⟩ = some v := h.blk.cellAt 1 _ rfl
theorem IsRef.full (h : IsRef w B r sz v L wh) : w.cell? ⟨r, 2, none⟩ = some (.bool (!wh)) := h.blk.cellAt 2 _ rfl
theorem IsRef.sl (h : IsRef w B r sz v L wh) : SlI w v L := h.own.sl (by have := h.le; unfold maxLen; omega)

theorem rlen_any (h : IsRef w B r sz v L wh) : Calls Try.prog 30 #[.pointer (some ⟨r, 0, none⟩)] w fun e w' => e = .returned (.int .i64 L.length) ∧ w = w' := by
  have c1 := h.list
  obtain ⟨a, cap, rfl⟩ := h.own.shape
  clear h
  go_enter Try.func30, Try.ntmps30
  go_wp2_with fail
  go_ret
  exact ⟨rfl, rfl⟩
theorem rover_any (h : IsRef w B r sz v L wh) : Calls Try.prog 32 #[.pointer (some ⟨r, 0, none⟩)] w fun e w' => e = .returned (.bool (!wh)) ∧ w = w' := by
  have c2 := h.full
  clear h
  go_enter Try.func32, Try.ntmps32
  go_wp2_with fail
  go_ret
  exact ⟨rfl, rfl⟩
theorem rroom_any (h : IsRef w B r sz v L wh) (hl : L.length ≤ sz) (h64 : sz ≤ 64) : Calls Try.prog 31 #[.pointer (some ⟨r, 0, none⟩)] w fun e w' => e = .returned (.int .i64 (sz - L.length : Int)) ∧ ∃ n, w' = w.drewN n := by
  have c0 := h.size
  have c1 := h.list
  obtain ⟨a, cap, rfl⟩ := h.own.shape
  clear h
  go_enter Try.func31, Try.ntmps31
  go_wp2_with fail
  go_region
  go_wp2
  go_ret
  exact ⟨rfl, _, rfl⟩
theorem rsettle_any (h : IsRef w B r sz v L wh) : Calls Try.prog 23 #[.pointer (some ⟨r, 0, none⟩)] w fun e w' => e = .returned (.tuple #[]) ∧ IsRef w' B r sz v L true ∧ Keeps [r] w w' := by
  have c2 := h.full
  have f2 := h.blk.frozen 2
  have hne : ∀ x, v.ownBlock = some x → x ≠ r := by
    intro x hx e
    subst e
    rcases h.own.form with ⟨rfl, _⟩ | ⟨g, cap, cur, rfl, _, hb, _⟩
    · cases hx
    · cases hx
      exact absurd rfl (hb.ne h.blk (by decide))
  have H := Lib.hid h
  have HNE := Lib.hid hne
  clear h hne
  go_enter Try.func23, Try.ntmps23
  go_wp2_with fail
  go_end0
  have hk : Keeps [r] w (w.setCell ⟨r, 2, none⟩ (.bool false)) := (Keeps.refl _ w).setCell (.inl (by simp)) _
  exact ⟨rfl, ⟨H.out.blk.put 2 (.bool false), H.out.own.keeps hk (fun x hx => by simpa using HNE.out x hx), H.out.le, Nat.le_trans H.out.base hk.size⟩, hk⟩
theorem rnew_ok (h0 : 0 < sz) (h1 : sz ≤ 64) (w : World) : Calls Try.prog 20 #[.int .i64 sz] w fun e w' => e = .returned (.tuple #[.pointer (some ⟨w.heap.size, 0, none⟩), .int .i64 0]) ∧ IsRef w' w.heap.size w.heap.size sz (.slice none 0 0) [] true ∧ Keeps [] w w' := by
  go_enter Try.func20, Try.ntmps20
  go_wp2_with fail
  go_ret2
  exact ⟨rfl, ⟨Blk.new _ _ _, OwnI.nil _ _, Nat.zero_le _, by simp⟩, (Keeps.refl _ w).alloc _⟩
theorem rnew_no {n : Int} (h : n < 1 ∨ 64 < n) (w : World) : Calls Try.prog 20 #[.int .i64 n] w fun e w' => e = .returned (.tuple #[.pointer none, .int .i64 2]) ∧ w = w' := by
  rcases h with h | h
  all_goals
    go_enter Try.func20, Try.ntmps20
    go_wp2_with fail
    go_ret2
    exact ⟨rfl, rfl⟩
end
end Go.Proofs.Ytmojlfkjbnokcaa
