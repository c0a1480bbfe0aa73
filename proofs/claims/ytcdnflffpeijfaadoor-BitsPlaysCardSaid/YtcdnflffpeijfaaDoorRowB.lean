/- Rows of booleans with spare room: slices.Clone of booleans, and listed for them. Condition: rows of 1 to 4096. -/
import Derived.Test.YtcdnflffpeijfaaDoorListed
import Derived.Test.YtcdnflffpeijfaaDoorSetOf
import Derived.Test.YtcdnflffpeijfaaDoorKitL
import Derived.Lib.SliceRun
namespace Go.Proofs.YtcdnflffpeijfaaDoor
open Go.RowKit

/-- Block g begins with the booleans p. -/
structure RowB (w : World) (g n cap : Nat) (p : Nat → Bool) : Prop where
  row : ∃ cur : Array Value, Blk w g 4 cur ∧ n ≤ cur.size ∧ ∀ i, i < n → cur[i]? = some (.bool (p i))
  cap_ : n ≤ cap ∧ cap ≤ maxLen
section
variable {w w' : World} {g n cap : Nat} {p q : Nat → Bool} {S : List Nat}
theorem RowB.keeps (h : RowB w g n cap p) (k : Keeps S w w') (hg : g ∉ S) : RowB w' g n cap p := by
  obtain ⟨cur, h1, h2⟩ := h.row
  exact ⟨⟨cur, h1.keeps k hg, h2⟩, h.cap_⟩
theorem RowB.lt (h : RowB w g n cap p) : g < w.heap.size := by
  obtain ⟨cur, h1, h2⟩ := h.row
  exact h1.lt
theorem RowB.cellAt (h : RowB w g n cap p) {i : Nat} (hi : i < n) : w.cell? ⟨g, i, none⟩ = some (.bool (p i)) := by
  obtain ⟨cur, h1, h2, h3⟩ := h.row
  exact h1.cellAt i _ (h3 i hi)
theorem RowB.frozen (h : RowB w g n cap p) (i : Nat) : w.frozen? ⟨g, i, none⟩ = false := by
  obtain ⟨cur, h1, h2, h3⟩ := h.row
  exact h1.frozen i
theorem RowB.of (h : Blk w g 4 (boolRow n p)) (hn : n ≤ 4096) : RowB w g n n p :=
  ⟨⟨_, h, by rw [boolRow_size]; exact Nat.le_refl _, fun i hi => boolRow_at n p hi⟩, Nat.le_refl _, by unfold maxLen; omega⟩
theorem RowB.put (h : RowB w g n cap p) {k : Nat} {b : Bool} (hq : ∀ i, i < n → q i = if i = k then b else p i) (hk : k < n) : RowB (w.setCell ⟨g, k, none⟩ (.bool b)) g n cap q := by
  obtain ⟨cur, h1, h2, h3⟩ := h.row
  refine ⟨⟨_, h1.put k (.bool b), by simpa using h2, fun i hi => ?_⟩, h.cap_⟩
  rw [hq i hi, Array.getElem?_setIfInBounds]
  by_cases e : k = i
  · subst e
    rw [if_pos rfl, if_pos (by omega), if_pos rfl]
  · rw [if_neg e, if_neg (fun e' => e e'.symm)]
    exact h3 i hi
theorem RowB.far (h : RowB w g n cap p) {a : Addr} (ha : g ≠ a.block) (v : Value) : RowB (w.setCell a v) g n cap p := by
  obtain ⟨cur, h1, h2⟩ := h.row
  exact ⟨⟨cur, h1.far ha v, h2⟩, h.cap_⟩
theorem RowB.cong (h : RowB w g n cap p) (e : ∀ i, i < n → p i = q i) : RowB w g n cap q := by
  obtain ⟨cur, h1, h2, h3⟩ := h.row
  exact ⟨⟨cur, h1, h2, fun i hi => by rw [h3 i hi, e i hi]⟩, h.cap_⟩
theorem SetOf.rowB {b gb m : Nat} (h : SetOf w b gb m q) (hr : RowB w g n cap p) : g ≠ b ∧ g ≠ gb := by
  obtain ⟨cur, h1, _⟩ := hr.row
  exact h.row h1 (by decide) (by decide)
end

set_option maxRecDepth 100000 in
set_option maxHeartbeats 1000000 in
theorem listed_cap {gh n cap : Nat} {p : Nat → Bool} {w : World} (h : RowB w gh n cap p) (hn : n ≤ 4096) : Calls Tryd.prog 12 #[.slice (some ⟨gh, 0, none⟩) n cap] w (AllPost (picks n p) w) := by
  have H := Lib.hid h
  have hlt := h.lt
  clear h
  go_enter Tryd.func12, Tryd.ntmps12
  go_wp2_with fail
  go_loopw [3, 8] (fun v i wr => ∃ k : Nat, i = .int .i64 k ∧ k ≤ n ∧ OwnI wr w.heap.size v (asInts (picks k p)) ∧ Keeps [] w wr) (fun _ i _ => n - (intOf i).toNat)
  case atStart => exact ⟨0, rfl, Nat.zero_le _, OwnI.nil _ _, Keeps.refl _ _⟩
  case round =>
    obtain ⟨k, rfl, hk, hv, hK⟩ := hrel
    obtain ⟨a, c, rfl⟩ := hv.shape
    have hsz := hK.size
    have hL := picks_len_le k p
    rw [← asInts_len] at hL
    by_cases hkn : k < n
    · have c0 := (H.out.keeps hK (by simp)).cellAt hkn
      rcases Bool.eq_false_or_eq_true (p k) with hb | hb
      · have HO := Lib.hid (picks_one hb)
        rw [hb] at c0
        clear hb
        go_wp2_with (at_builtin; refine wpList_append_sl rfl (.tmp 14) (.tmp 16) 28 rfl w.heap.size Tryd.underlying28 Tryd.info3 rfl rfl (hv.alloc _) (SlI.lit (xs := [(k : Int)]) (Blk.new wr 3 #[.int .i64 k]) rfl (by unfold maxLen; simp)) (by simp; omega) (by simp; omega) ?_; intro v' w1 hown' hgrow hat)
        have hk1 : Keeps [] w w1 := (hK.alloc _).grown hgrow (fun y hy => .inr (hv.lt y hy).1)
        rw [← HO.out] at hown'
        go_roundw
        case rel => exact ⟨k + 1, by go_num, by omega, hown', hk1⟩
        case measure => simp [intOf]; omega
      · have HO := Lib.hid (picks_none hb)
        rw [hb] at c0
        clear hb
        go_wp2_with fail
        go_roundw
        case rel => exact ⟨k + 1, by go_num, by omega, by rw [HO.out]; exact hv, hK⟩
        case measure => simp [intOf]; omega
    · obtain rfl : k = n := by omega
      go_wp2_with fail
      go_ret
      exact ⟨_, rfl, hv, hK⟩

theorem Tryd.info4 : (Tryd.prog.info? 4).map (fun i => (i.zero, i.size, i.bytes)) = some (some (.bool false), 1, 1) := by kernel_rfl
theorem OwnL.empty {w : World} {B g : Nat} (hb : Blk w g 4 #[]) (hB : B ≤ g) : OwnL w B (.slice (some ⟨g, 0, none⟩) 0 0) [] :=
  ⟨by simp, .inr ⟨g, 0, #[], rfl, hB, hb, Nat.le_refl _, Nat.zero_le _, by simp, by simp⟩⟩
set_option maxRecDepth 1000000 in
theorem CloneL_in {gb l cap : Nat} {w : World} {xs : List Bool} (h : SlL w (.slice (some ⟨gb, 0, none⟩) l cap) xs) (hm : xs.length ≤ 4096) :
    Calls Tryd.prog 26 #[.slice (some ⟨gb, 0, none⟩) l cap] w fun e w' => ∃ v, e = .returned v ∧ OwnL w' w.heap.size v xs ∧ Keeps [] w w' := by
  have H := Lib.hid h
  clear h
  have hnil : ∀ W, (binOp .eql 25 (.slice (some ⟨gb, 0, none⟩) l cap) (.slice none 0 0)).run Tryd.prog W = .ok (.bool false) W := fun W => Lib.run_eql_slice_nil W 25 4 (some _) _ _ 0 0 Tryd.underlying25
  go_enter Tryd.func26, Tryd.ntmps26
  go_wp2_with (at_builtin; (refine wpList_append_slL rfl (.tmp 5) (.tmp 6) 25 rfl w.heap.size Tryd.underlying25 Tryd.info4 rfl rfl (OwnL.empty (Blk.new w 4 #[]) (Nat.le_refl _)) (H.out.keeps ((Keeps.refl [] w).alloc _) (by simp)) (by simp; omega) (by simp) ?_; intro v' w1 hown' hg hat))
  go_ret
  exact ⟨_, rfl, by simpa using hown', ((Keeps.refl [] w).alloc _).grown hg (fun k e => by cases e; exact .inr (Nat.le_refl _))⟩
/-- A clone of a row. -/
theorem CloneRow {g n : Nat} {w : World} {p : Nat → Bool} (h : Blk w g 4 (boolRow n p)) (h1 : 1 ≤ n) (hn : n ≤ 4096) :
    Calls Tryd.prog 26 #[.slice (some ⟨g, 0, none⟩) n n] w fun e w' => ∃ g' cap, e = .returned (.slice (some ⟨g', 0, none⟩) n cap) ∧ RowB w' g' n cap p ∧ Keeps [] w w' ∧ w.heap.size ≤ g' := by
  have hlen : ((List.range n).map p).length = n := by simp
  have hsl : SlL w (.slice (some ⟨g, 0, none⟩) n n) ((List.range n).map p) := by
    refine .inr ⟨g, 0, n, by rw [hlen], by rw [hlen]; unfold maxLen; omega, h.lt, by rw [hlen]; omega, fun i hi => ?_⟩
    rw [hlen] at hi
    rw [Nat.zero_add, h.cell i, boolRow_at n p hi]
    simp [List.getD, hi]
  refine (CloneL_in hsl (by rw [hlen]; exact hn)).mono ?_
  rintro e w' ⟨v, rfl, hown, hk⟩
  rcases hown.form with ⟨_, hx⟩ | ⟨g', cap, cur, rfl, hge, hb, hle, hmx, hcs, htk⟩
  · have := congrArg List.length hx
    rw [hlen] at this
    simp at this
    omega
  · rw [hlen] at hle htk ⊢
    refine ⟨g', cap, rfl, ⟨⟨cur, hb, by omega, fun i hi => ?_⟩, hle, hmx⟩, hk, hge⟩
    have : (cur.toList.take n)[i]? = (((List.range n).map p).map Value.bool)[i]? := by rw [htk]
    rw [List.getElem?_take, if_pos hi, Array.getElem?_toList] at this
    rw [this]
    simp [hi]
end Go.Proofs.YtcdnflffpeijfaaDoor
