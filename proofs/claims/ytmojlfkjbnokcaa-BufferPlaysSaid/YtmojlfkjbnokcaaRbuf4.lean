/- The document's buffer: Copy; and shows. No condition. -/
import Derived.Test.YtmojlfkjbnokcaaRbuf3
import Derived.Test.YtmojlfkjbnokcaaCopy
namespace Go.Proofs.Ytmojlfkjbnokcaa
open Go.RowKit
set_option linter.unusedVariables false
section
variable {w w' : World} {B r sz : Nat} {v : Value} {L : List Int} {wh : Bool} {S : List Nat}
/-- Behind Copy: a new buffer with a new row. -/
def RCopyPost (B sz : Nat) (L : List Int) (wh : Bool) (w : World) (e : Ending) (w' : World) : Prop :=
  ∃ r' v', e = .returned (.pointer (some ⟨r', 0, none⟩)) ∧ IsRef w' B r' sz v' L wh ∧ Keeps [] w w' ∧ w.heap.size ≤ r' ∧ ∀ x, v'.ownBlock = some x → w.heap.size ≤ x

set_option maxRecDepth 100000 in
set_option maxHeartbeats 2000000 in
theorem rcopy_ok (h : IsRef w B r sz v L wh) : Calls Try.prog 25 #[.pointer (some ⟨r, 0, none⟩)] w (RCopyPost B sz L wh w) := by
  have c0 := h.size
  have c1 := h.list
  have c2 := h.full
  have hB := h.base
  have hle := h.le
  have HS := Lib.hid h.sl
  have H := Lib.hid h
  obtain ⟨a, cap, rfl⟩ := h.own.shape
  have n0 := World.new_ne w _ c0
  clear h
  go_enter Try.func25, Try.ntmps25
  go_wp2_with fail
  go_region_held3 (fun w' => w'.cell? ⟨r, 0, none⟩ = some (.int .i64 sz) ∧ w'.cell? ⟨r, 1, none⟩ = some (.slice a L.length cap) ∧ w'.cell? ⟨r, 2, none⟩ = some (.bool (!wh)))
    (first | go_keep | exact ⟨b1.cellAt 0 _ rfl, b1.cellAt 1 _ rfl, b1.cellAt 2 _ rfl⟩)
    ((refine step_append_sl (by rfl) (.tmp 7) (.tmp 11) 26 (by rfl) w.heap.size Try.underlying26 Try.info3 (by rfl) (by rfl) (OwnI.empty (Blk.new w 3 #[]).drew (Nat.le_refl _)) (HS.out.keeps ((Keeps.refl [] w).alloc (.cells #[] 3)).drew (by simp)) (by simp; omega) (by simp) ?_; intro v1 w1 hown1 hg1 hat1; have k1 := (((Keeps.refl [] w).alloc (.cells #[] 3)).drew).grown hg1 (fun k e => by cases e; exact .inr (Nat.le_refl _)); have b1 := H.out.blk.keeps k1 (by simp); have hsh1 := hown1.shape; rw [List.nil_append] at hsh1 hown1; obtain ⟨a4, c4, rfl⟩ := hsh1))
  go_wp2
  go_ret
  exact ⟨w1.heap.size, _, rfl, ⟨Blk.new _ _ _, (hown1.base hB).alloc _, hle, by have := k1.size; simp; omega⟩, k1.alloc _, k1.size, fun x hx => (hown1.lt x hx).1⟩

set_option maxRecDepth 100000 in
set_option maxHeartbeats 2000000 in
theorem shows_ok {b : Nat} (hb : IsBuf w b sz L wh) (h : IsRef w B r sz v L wh) : Calls Try.prog 26 #[.pointer (some ⟨b, 0, none⟩), .pointer (some ⟨r, 0, none⟩)] w fun e w' => e = .returned (.bool true) ∧ Keeps [] w w' := by
  have HH := Lib.hid h
  have hle := hb.le
  have htk : L.take 1000 = L := List.take_of_length_le (by omega)
  have HTK := Lib.hid htk
  clear h htk
  go_enter Try.func26, Try.ntmps26
  go_wp2_with fail
  refine (copy_ok hb).mono ?_
  rintro e w1 ⟨rfl, hC, k1, hs1⟩
  obtain ⟨c, hcq⟩ : ∃ c, w.heap.size = c := ⟨_, rfl⟩
  rw [hcq] at hC hs1 ⊢
  have hbc : b < c := by rw [← hcq]; exact hb.lt
  have hrc : r < c := by rw [← hcq]; exact HH.out.lt
  have hvc : ∀ x, v.ownBlock = some x → x < c := fun x hx => by rw [← hcq]; exact (HH.out.own.lt x hx).2
  have HVC := Lib.hid hvc
  have hb1 := hb.keeps k1 (by simp)
  have h1 := HH.out.keeps k1 (by simp) (by simp)
  have HCQ := Lib.hid hcq
  clear hb hcq hvc HH
  go_wp2_with fail
  refine (drain_ok hC 1000 (by omega)).mono ?_
  rintro e w2 ⟨vx, rfl, hx, hC2, k2⟩
  rw [HTK.out] at hx
  have hb2 := hb1.keeps k2 (by simp; omega)
  have h2 := h1.keeps k2 (by simp; omega) (fun x hx => by have := HVC.out x hx; simp; omega)
  have hK2 : Keeps [] w w2 := k1.step k2 (by have := HCQ.out; simp; omega)
  have hxm : L.length ≤ maxLen := by unfold maxLen; omega
  obtain ⟨ax, cx, rfl⟩ := hx.shape
  have c1 := h2.list
  have hsl := h2.sl
  have H2 := Lib.hid h2
  obtain ⟨av, cv, rfl⟩ := h2.own.shape
  clear hb1 h1 hC hC2 k1 k2 h2
  go_wp2_with fail
  refine (equal_any (hx.sl hxm) hsl).mono ?_
  rintro e w' ⟨rfl, j, rfl⟩
  rw [decide_eq_true rfl]
  have hb3 := hb2.drewN j
  have h3 := H2.out.keeps ((Keeps.refl [] w2).drewN j) (by simp) (by simp)
  have hK3 := hK2.drewN j
  clear c1 hsl
  generalize w2.drewN j = w3 at *
  go_wp2_with fail
  refine (len_any hb3).mono ?_
  rintro e w' ⟨rfl, rfl⟩
  go_wp2_with fail
  refine (rlen_any h3).mono ?_
  rintro e w' ⟨rfl, rfl⟩
  go_wp2_with fail
  refine (room_any hb3).mono ?_
  rintro e w' ⟨rfl, j, rfl⟩
  have hb4 := hb3.drewN j
  have h4 := h3.keeps ((Keeps.refl [] w3).drewN j) (by simp) (by simp)
  have hK4 := hK3.drewN j
  generalize w3.drewN j = w4 at *
  go_wp2_with fail
  refine (rroom_any h4 hle.2.2 hle.2.1).mono ?_
  rintro e w' ⟨rfl, j, rfl⟩
  have hb5 := hb4.drewN j
  have h5 := h4.keeps ((Keeps.refl [] w4).drewN j) (by simp) (by simp)
  have hK5 := hK4.drewN j
  generalize w4.drewN j = w5 at *
  go_wp2_with fail
  refine (over_any hb5).mono ?_
  rintro e w' ⟨rfl, rfl⟩
  go_wp2_with fail
  refine (rover_any h5).mono ?_
  rintro e w' ⟨rfl, rfl⟩
  go_wp2_with fail
  go_ret
  exact ⟨rfl, hK5⟩
end
end Go.Proofs.Ytmojlfkjbnokcaa
