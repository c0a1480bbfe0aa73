/- What a set of package bits is in memory, and the contracts of made, Size, New. Condition: a set that New or Copy made, nil, or a zero one. -/
import Derived.Test.YtcdnflffpeijfaaDoorKitW
import Derived.Test.YtcdnflffpeijfaaDoorOnes
import Derived.Test.YtcdnflffpeijfaaDoorTz
namespace Go.Proofs.YtcdnflffpeijfaaDoor
open Go.RowKit

/-- The cells of words. -/
def wordCells (ws : List Nat) : List Value := ws.map fun x : Nat => Value.int .u64 (x : Int)
theorem wordCells_len (ws : List Nat) : (wordCells ws).length = ws.length := by simp [wordCells]
/-- Whether a number is in the words. -/
def has (ws : List Nat) (i : Nat) : Bool := (ws.getD (i / 64) 0).testBit (i % 64)
/-- Block b is a set of size n with the words ws, which lie in block gb. -/
structure IsSet (w : World) (b gb n : Nat) (ws : List Nat) : Prop where
  row : ∃ cap cur, Blk w b 58 #[.int .i64 n, .slice (some ⟨gb, 0, none⟩) ws.length cap] ∧ Blk w gb 67 cur ∧ ws.length ≤ cap ∧ cap ≤ maxLen ∧ cur.size = cap ∧ cur.toList.take ws.length = wordCells ws
  ne : gb ≠ b
  len : ws.length = (n + 63) / 64
  pos : 1 ≤ n
  most : n ≤ 4096
  word : ∀ k, k < ws.length → ws.getD k 0 < 18446744073709551616
  over : ∀ i, n ≤ i → has ws i = false

section
variable {w w' : World} {b gb n : Nat} {ws : List Nat} {S : List Nat}
theorem IsSet.lt (h : IsSet w b gb n ws) : b < w.heap.size ∧ gb < w.heap.size := by
  obtain ⟨_, _, hb, hg, _⟩ := h.row
  exact ⟨hb.lt, hg.lt⟩
theorem IsSet.size (h : IsSet w b gb n ws) : w.cell? ⟨b, 0, none⟩ = some (.int .i64 n) := by
  obtain ⟨_, _, hb, _⟩ := h.row
  exact hb.cellAt 0 _ rfl
theorem IsSet.keeps (h : IsSet w b gb n ws) (k : Keeps S w w') (hb : b ∉ S) (hg : gb ∉ S) : IsSet w' b gb n ws := by
  obtain ⟨cap, cur, h1, h2, h3⟩ := h.row
  exact ⟨⟨cap, cur, h1.keeps k hb, h2.keeps k hg, h3⟩, h.ne, h.len, h.pos, h.most, h.word, h.over⟩
theorem IsSet.drewN (h : IsSet w b gb n ws) (m : Nat) : IsSet (w.drewN m) b gb n ws := ⟨h.row, h.ne, h.len, h.pos, h.most, h.word, h.over⟩
theorem IsSet.drew (h : IsSet w b gb n ws) : IsSet w.drew b gb n ws := ⟨h.row, h.ne, h.len, h.pos, h.most, h.word, h.over⟩
theorem IsSet.cell (h : IsSet w b gb n ws) {k : Nat} (hk : k < ws.length) : w.cell? ⟨gb, k, none⟩ = some (.int .u64 (ws.getD k 0 : Nat)) := by
  obtain ⟨cap, cur, _, hg, _, _, _, h4⟩ := h.row
  rw [hg.cell k]
  have : (cur.toList.take ws.length)[k]? = (wordCells ws)[k]? := by rw [h4]
  rw [List.getElem?_take, if_pos hk] at this
  simpa [wordCells, List.getD, List.getElem?_eq_getElem hk] using this
/-- A word is stored. -/
theorem IsSet.put (h : IsSet w b gb n ws) {q : Nat} (hq : q < ws.length) {y : Nat} (hy : y < 18446744073709551616) (hov : ∀ i, n ≤ i → has (ws.set q y) i = false) : IsSet (w.setCell ⟨gb, q, none⟩ (.int .u64 y)) b gb n (ws.set q y) := by
  obtain ⟨cap, cur, h1, h2, h3, h4, h5, h6⟩ := h.row
  refine ⟨⟨cap, cur.setIfInBounds q (.int .u64 y), ?_, h2.put q _, by rw [List.length_set]; exact h3, h4, by rw [Array.size_setIfInBounds]; exact h5, ?_⟩, h.ne, by rw [List.length_set]; exact h.len, h.pos, h.most, ?_, hov⟩
  · rw [List.length_set]
    exact h1.far (fun e => h.ne e.symm) _
  · rw [Array.toList_setIfInBounds, List.length_set, List.take_set, h6]
    unfold wordCells
    rw [List.map_set]
  · intro k hk
    rw [List.length_set] at hk
    simp only [List.getD, List.getElem?_set]
    split
    · first | rw [if_pos (by omega)] | skip
      exact hy
    · exact h.word k hk
end

set_option maxRecDepth 100000 in
theorem made_yes {b n : Nat} {w : World} (hs : w.cell? ⟨b, 0, none⟩ = some (.int .i64 n)) (hn : 0 < n) :
    Calls Tryd.prog 39 #[.pointer (some ⟨b, 0, none⟩)] w fun e w' => e = .returned (.bool true) ∧ w = w' := by
  go_enter Tryd.func39, Tryd.ntmps39
  go_wp2
  go_ret
  exact ⟨rfl, rfl⟩
set_option maxRecDepth 100000 in
theorem made_nil (w : World) : Calls Tryd.prog 39 #[.pointer none] w fun e w' => e = .returned (.bool false) ∧ w = w' := by
  go_enter Tryd.func39, Tryd.ntmps39
  go_wp2
  go_ret
  exact ⟨rfl, rfl⟩
set_option maxRecDepth 100000 in
theorem made_no {b : Nat} {w : World} (hs : w.cell? ⟨b, 0, none⟩ = some (.int .i64 0)) :
    Calls Tryd.prog 39 #[.pointer (some ⟨b, 0, none⟩)] w fun e w' => e = .returned (.bool false) ∧ w = w' := by
  go_enter Tryd.func39, Tryd.ntmps39
  go_wp2
  go_ret
  exact ⟨rfl, rfl⟩
set_option maxRecDepth 100000 in
theorem Size_ok {b gb n : Nat} {w : World} {ws : List Nat} (h : IsSet w b gb n ws) : Calls Tryd.prog 19 #[.pointer (some ⟨b, 0, none⟩)] w fun e w' => e = .returned (.int .i64 n) ∧ w = w' := by
  have hs := h.size
  have HM := Lib.hid (made_yes hs h.pos)
  clear h
  go_enter Tryd.func19, Tryd.ntmps19
  go_wp2_with fail
  refine HM.out.mono ?_
  rintro e w' ⟨rfl, rfl⟩
  go_wp2_with fail
  go_ret
  exact ⟨rfl, rfl⟩
end Go.Proofs.YtcdnflffpeijfaaDoor
