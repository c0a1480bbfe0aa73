/- The contract of Copy. Condition: a set that New or Copy made. -/
import Derived.Test.YtcdnflffpeijfaaDoorCopy
import Derived.Test.YtcdnflffpeijfaaDoorStep
namespace Go.Proofs.YtcdnflffpeijfaaDoor
open Go.RowKit

/-- Behind Copy: a new set with the same words; nothing else has changed. -/
def CopyPost (n : Nat) (ws : List Nat) (w : World) (e : Ending) (w' : World) : Prop := ∃ b' gb', e = .returned (.pointer (some ⟨b', 0, none⟩)) ∧ IsSet w' b' gb' n ws ∧ Keeps [] w w' ∧ w.heap.size ≤ b' ∧ w.heap.size ≤ gb'
theorem IsSet.slw {w : World} {b gb n cap : Nat} {ws : List Nat} {cur : Array Value} (h : Blk w gb 67 cur) (h3 : ws.length ≤ cap) (h4 : cap ≤ maxLen) (h5 : cur.size = cap) (h6 : cur.toList.take ws.length = wordCells ws) (hp : 1 ≤ ws.length) :
    SlW w (.slice (some ⟨gb, 0, none⟩) ws.length cap) (ws.map fun x : Nat => (x : Int)) := by
  have := (OwnW.sl (w := w) (B := 0) (v := .slice (some ⟨gb, 0, none⟩) ws.length cap) (xs := ws.map fun x : Nat => (x : Int)) ⟨by simp, .inr ⟨gb, cap, cur, by simp, Nat.zero_le _, h, by simpa using h3, h4, by simpa using h5, by rw [List.map_map]; simpa [wordCells, Function.comp_def] using h6⟩⟩ (by simp; omega))
  exact this

set_option maxRecDepth 1000000 in
theorem Copy_in {b gb n : Nat} {w : World} {ws : List Nat} (h : IsSet w b gb n ws) : Calls Tryd.prog 23 #[.pointer (some ⟨b, 0, none⟩)] w (CopyPost n ws w) := by
  have hs := h.size
  have HM := Lib.hid (made_yes hs h.pos)
  have hl := h.len
  have hm := h.most
  have hp := h.pos
  have hp2 : 1 ≤ ws.length := by omega
  obtain ⟨cap, cur, hb, hg, h3, h4, h5, h6⟩ := h.row
  have hc1 := hb.cellAt 1 _ rfl
  have HC := Lib.hid (fun W (k : Keeps [] w W) => Clone_in (IsSet.slw (b := b) (n := n) (hg.keeps k (by simp)) h3 h4 h5 h6 hp2) (by simpa using hp2) (by simp; omega))
  have HBK := Lib.hid (fun W (k : Keeps [] w W) => (⟨(hb.keeps k (by simp)).cellAt 0 _ rfl, (hb.keeps k (by simp)).cellAt 1 _ rfl⟩ : W.cell? ⟨b, 0, none⟩ = some (.int .i64 n) ∧ W.cell? ⟨b, 1, none⟩ = some (.slice (some ⟨gb, 0, none⟩) ws.length cap)))
  have HH := Lib.hid h
  clear h hb hg h3 h4 h5 h6 hl
  go_enter Tryd.func23, Tryd.ntmps23
  go_wp2_with fail
  refine HM.out.mono ?_
  rintro e w' ⟨rfl, rfl⟩
  go_wp2_with fail
  have n0 := World.new_ne w _ hs
  have n1 := World.new_ne w _ hc1
  have k0 : Keeps [] w w := Keeps.refl [] w
  have k0d : Keeps [] w w.drew := k0.drew
  go_region_held3 (fun w' => Keeps [] w w' ∧ w'.cell? ⟨b, 0, none⟩ = some (.int .i64 n) ∧ w'.cell? ⟨b, 1, none⟩ = some (.slice (some ⟨gb, 0, none⟩) ws.length cap))
    (first | exact ⟨k0d, HBK.out _ k0d⟩ | exact ⟨k1, HBK.out _ k1⟩ | exact ⟨k1.alloc _, HBK.out _ (k1.alloc _)⟩ | assumption | go_keep)
    ((go_at_call 42; refine (HC.out _ (by first | assumption | exact (Keeps.refl [] w).drew)).mono ?_; rintro e w1 ⟨v, rfl, hown, hk⟩; have k1 : Keeps [] w w1 := Keeps.trans (by first | assumption | exact (Keeps.refl [] w).drew) hk; obtain ⟨b2, b3⟩ := HBK.out _ k1; have hsh := hown.shape; obtain ⟨a4, c4, rfl⟩ := hsh))
  go_wp2
  go_ret
  obtain ⟨⟨_, hx⟩⟩ | ⟨g, cp, cu, hv, hge, hbl, hle, hmx, hcs, htk⟩ := hown.form
  · have := congrArg List.length hx
    simp at this
    subst this
    simp at hp2
  · cases hv
    have hsz := hk.size
    have hrow := HH.out
    refine ⟨w1.heap.size, g, rfl, ⟨⟨_, cu, by simpa using Blk.new w1 58 #[.int .i64 n, .slice (some ⟨g, 0, none⟩) ws.length c4], hbl.alloc _, by simpa using hle, hmx, hcs, ?_⟩, ?_, hrow.len, hrow.pos, hrow.most, hrow.word, hrow.over⟩, k1.alloc _, k1.size, ?_⟩
    · rw [List.length_map, List.map_map] at htk
      exact htk
    · have := hbl.lt
      omega
    · simpa using hge
end Go.Proofs.YtcdnflffpeijfaaDoor
