/- The document's buffer: Drain, Copy. No condition. -/
import Derived.Test.YtmojlfkjbnokcaaRbuf2
namespace Go.Proofs.Ytmojlfkjbnokcaa
open Go.RowKit
set_option linter.unusedVariables false

theorem SlI.take {w : World} {g off len cap cap' : Nat} {xs : List Int} (h : SlI w (.slice (some ⟨g, off, none⟩) len cap) xs) (n : Nat) (hn : n ≤ xs.length) : SlI w (.slice (some ⟨g, off, none⟩) n cap') (xs.take n) := by
  have hl : (xs.take n).length = n := by rw [List.length_take]; omega
  rcases Nat.eq_zero_or_pos n with rfl | h0
  · exact .inl ⟨rfl, _, _, rfl⟩
  · rcases h with ⟨rfl, _⟩ | ⟨b, o, c, e, hm, hb, _, hc⟩
    · simp at hn; omega
    · cases e
      refine .inr ⟨g, off, cap', by rw [hl], by omega, hb, by omega, fun i hi => ?_⟩
      rw [hl] at hi
      rw [hc i (by omega)]
      simp [List.getD_eq_getElem?_getD, List.getElem?_take, hi]
theorem SlI.drop {w : World} {g off len cap cap' : Nat} {xs : List Int} (h : SlI w (.slice (some ⟨g, off, none⟩) len cap) xs) (n : Nat) (hn : n ≤ xs.length) : SlI w (.slice (some ⟨g, off + n, none⟩) (xs.length - n) cap') (xs.drop n) := by
  have hl : (xs.drop n).length = xs.length - n := List.length_drop
  rcases Nat.eq_zero_or_pos (xs.length - n) with h0 | h0
  · rw [h0]
    exact .inl ⟨List.eq_nil_of_length_eq_zero (by omega), _, _, rfl⟩
  · rcases h with ⟨rfl, _⟩ | ⟨b, o, c, e, hm, hb, _, hc⟩
    · simp at h0
    · cases e
      refine .inr ⟨g, off + n, cap', by rw [hl], by omega, hb, by omega, fun i hi => ?_⟩
      rw [hl] at hi
      rw [show off + n + i = off + (n + i) by omega, hc (n + i) (by omega)]
      simp [List.getD_eq_getElem?_getD, List.getElem?_drop]

section
variable {w w' : World} {B r sz : Nat} {v : Value} {L : List Int} {wh : Bool} {S : List Nat}
theorem rdrain_neg (h : IsRef w B r sz v L wh) (k : Int) (hk : k < 0) : Calls Try.prog 22 #[.pointer (some ⟨r, 0, none⟩), .int .i64 k] w fun e w' => e = .returned (.tuple #[.slice none 0 0, .int .i64 2]) ∧ w = w' := by
  clear h
  go_enter Try.func22, Try.ntmps22
  go_wp2_with fail
  go_ret2
  exact ⟨rfl, rfl⟩

/-- Behind Drain: a new slice of the first slots; the buffer has a new row of the others. -/
def RDrainPost (B r sz : Nat) (L : List Int) (most : Nat) (wh : Bool) (w : World) (e : Ending) (w' : World) : Prop :=
  ∃ vo v', e = .returned (.tuple #[vo, .int .i64 0]) ∧ OwnI w' w.heap.size vo (L.take most) ∧ IsRef w' B r sz v' (L.drop most) wh ∧ Keeps [r] w w' ∧ ∀ x, v'.ownBlock = some x → w.heap.size ≤ x

set_option maxRecDepth 100000 in
set_option maxHeartbeats 2000000 in
theorem rdrain_row {g cap : Nat} (h : IsRef w B r sz (.slice (some ⟨g, 0, none⟩) L.length cap) L wh) (hcap : L.length ≤ cap) (hcm : cap ≤ maxLen) (most n : Nat) (hm : (most : Int) ≤ 9223372036854775807) (hn : (n = most ∧ most < L.length) ∨ (n = L.length ∧ L.length = most) ∨ (n = L.length ∧ L.length < most)) :
    Calls Try.prog 22 #[.pointer (some ⟨r, 0, none⟩), .int .i64 most] w (RDrainPost B r sz L n wh w) := by
  have c1 := h.list
  have f1 := h.blk.frozen 1
  have hle := h.le
  have H := Lib.hid h
  have hs := h.sl
  have HT := Lib.hid (fun c' => hs.take (cap' := c') n (by omega))
  have HD : Hid (∀ c', n < L.length → SlI w (.slice (some ⟨g, n, none⟩) (L.length - n) c') (L.drop n)) := fun c' _ => by have := hs.drop (cap' := c') n (by omega); rwa [Nat.zero_add] at this
  have hB := h.base
  have hrw := h.lt
  have c1a := (h.blk.alloc (.cells #[] 3)).cellAt 1 _ rfl
  unfold maxLen at hcm
  have hTl : (L.take n).length = n := by rw [List.length_take]; omega
  have hDl : (L.drop n).length = L.length - n := List.length_drop
  obtain ⟨T, hT⟩ : ∃ T, L.take n = T := ⟨_, rfl⟩
  obtain ⟨D, hD⟩ : ∃ D, L.drop n = D := ⟨_, rfl⟩
  rw [hT] at HT hTl
  rw [hD] at HD hDl
  have hpost : ∀ e w', RDrainPost B r sz L n wh w e w' ↔ ∃ vo v', e = .returned (.tuple #[vo, .int .i64 0]) ∧ OwnI w' w.heap.size vo T ∧ IsRef w' B r sz v' D wh ∧ Keeps [r] w w' ∧ ∀ x, v'.ownBlock = some x → w.heap.size ≤ x := by
    intro e w'
    unfold RDrainPost
    rw [hT, hD]
  have HP := Lib.hid hpost
  clear h hs hT hD hpost
  have Ha : Keeps [] w (w.alloc (.cells #[] 3)) := (Keeps.refl [] w).alloc _
  have HA := Lib.hid Ha
  clear Ha
  have ARM : ∀ e w', (∃ vo v', e = .returned (.tuple #[vo, .int .i64 0]) ∧ OwnI w' w.heap.size vo T ∧ IsRef w' B r sz v' D wh ∧ Keeps [r] w w' ∧ ∀ x, v'.ownBlock = some x → w.heap.size ≤ x) → RDrainPost B r sz L n wh w e w' := fun e w' h => (HP.out e w').2 h
  have ARM' := Lib.hid ARM
  clear ARM HP
  have hTle : T.length ≤ 64 := by omega
  have hDle : D.length ≤ 64 := by omega
  have hnil : n = L.length → D = [] := fun e => List.eq_nil_of_length_eq_zero (by omega)
  have HN := Lib.hid hnil
  clear hnil hTl hDl
  rcases hn with ⟨rfl, hn⟩ | ⟨rfl, rfl⟩ | ⟨rfl, hn⟩
  all_goals
    go_enter Try.func22, Try.ntmps22
    go_wp2_with (first
      | (at_builtin; refine wpList_append_sl rfl (.tmp 17) (.tmp 23) 26 rfl w.heap.size Try.underlying26 Try.info3 rfl rfl (OwnI.empty (Blk.new w 3 #[]) (Nat.le_refl _)) ((HT.out _).keeps HA.out (by simp)) (by simp; omega) (by simp) ?_; intro v1 w1 hown1 hg1 hat1; have k1 := HA.out.grown hg1 (fun k e => by cases e; exact .inr (Nat.le_refl _)); have b1 := H.out.blk.keeps k1 (by simp); have c1b := b1.cellAt 1 _ rfl; have c1c := (b1.alloc (.cells #[] 3)).cellAt 1 _ rfl; have hs1 := k1.size; have hsh1 := hown1.shape; rw [List.nil_append] at hsh1 hown1; obtain ⟨a4, c4, rfl⟩ := hsh1; have hat1' := Lib.hid hat1; clear hat1)
      | (at_builtin; refine wpList_append_sl rfl (.tmp 26) (.tmp 32) 26 rfl w1.heap.size Try.underlying26 Try.info3 rfl rfl (OwnI.empty (Blk.new w1 3 #[]) (Nat.le_refl _)) (ys := D) (by first | exact (HD.out _ hn).keeps (k1.alloc _) (by simp) | (rw [HN.out rfl]; exact SlI.nil _ _ _)) (by simp; omega) (by simp) ?_; intro v3 w3 hown3 hg3 hat3; have k3 := (k1.alloc (.cells #[] 3)).grown hg3 (fun k e => by cases e; exact .inr hs1); have k13 := ((Keeps.refl [] w1).alloc (.cells #[] 3)).grown hg3 (fun k e => by cases e; exact .inr (Nat.le_refl _)); have hown1' := hown1.keeps k13 (by simp); have b3 := H.out.blk.keeps k3 (by simp); have c3b := b3.cellAt 1 _ rfl; have f3b := b3.frozen 1; have hsh3 := hown3.shape; rw [List.nil_append] at hsh3 hown3; obtain ⟨a5, c5, rfl⟩ := hsh3; have hat3' := Lib.hid hat3; clear hat3))
    all_goals
      go_ret2
      refine ARM'.out _ _ ?_
      obtain ⟨hR, hK⟩ := ref_store (S := [r]) b3 (hown3.base (Nat.le_trans hB hs1)) hDle (Nat.le_trans hB k3.size) (k3.mono (by simp)) (by simp)
      exact ⟨_, _, rfl, hown1'.keeps ((Keeps.refl [r] w3).setCell (.inl (by simp)) _) (fun x hx => by simpa using own_ne hown1 b1 x hx), hR, hK, fun x hx => Nat.le_trans hs1 (hown3.lt x hx).1⟩

set_option maxRecDepth 100000 in
set_option maxHeartbeats 2000000 in
theorem rdrain_nil (h : IsRef w B r sz (.slice none 0 0) [] wh) (most : Nat) (hm : (most : Int) ≤ 9223372036854775807) :
    Calls Try.prog 22 #[.pointer (some ⟨r, 0, none⟩), .int .i64 most] w (RDrainPost B r sz [] most wh w) := by
  have c1 := h.list
  have f1 := h.blk.frozen 1
  have H := Lib.hid h
  have hB := h.base
  have c1a := (h.blk.alloc (.cells #[] 3)).cellAt 1 _ rfl
  have Ha : Keeps [] w (w.alloc (.cells #[] 3)) := (Keeps.refl [] w).alloc _
  have HA := Lib.hid Ha
  clear Ha h
  have ARM' : Hid (∀ e w', (∃ vo v', e = .returned (.tuple #[vo, .int .i64 0]) ∧ OwnI w' w.heap.size vo [] ∧ IsRef w' B r sz v' [] wh ∧ Keeps [r] w w' ∧ ∀ x, v'.ownBlock = some x → w.heap.size ≤ x) → RDrainPost B r sz [] most wh w e w') := fun e w' h => by
    unfold RDrainPost
    rw [List.take_nil, List.drop_nil]
    exact h
  have hDle : ([] : List Int).length ≤ 64 := Nat.zero_le _
  rcases Nat.eq_zero_or_pos most with rfl | hm0
  all_goals
    go_enter Try.func22, Try.ntmps22
    go_wp2_with (first
      | (at_builtin; refine wpList_append_sl rfl (.tmp 17) (.tmp 23) 26 rfl w.heap.size Try.underlying26 Try.info3 rfl rfl (OwnI.empty (Blk.new w 3 #[]) (Nat.le_refl _)) (ys := []) (SlI.nil _ _ _) (by simp) (by simp) ?_; intro v1 w1 hown1 hg1 hat1; have k1 := HA.out.grown hg1 (fun k e => by cases e; exact .inr (Nat.le_refl _)); have b1 := H.out.blk.keeps k1 (by simp); have c1b := b1.cellAt 1 _ rfl; have c1c := (b1.alloc (.cells #[] 3)).cellAt 1 _ rfl; have hs1 := k1.size; have hsh1 := hown1.shape; rw [List.nil_append] at hsh1 hown1; rw [List.length_nil] at hsh1; obtain ⟨a4, c4, rfl⟩ := hsh1; have hat1' := Lib.hid hat1; clear hat1)
      | (at_builtin; refine wpList_append_sl rfl (.tmp 26) (.tmp 32) 26 rfl w1.heap.size Try.underlying26 Try.info3 rfl rfl (OwnI.empty (Blk.new w1 3 #[]) (Nat.le_refl _)) (ys := []) (SlI.nil _ _ _) (by simp) (by simp) ?_; intro v3 w3 hown3 hg3 hat3; have k3 := (k1.alloc (.cells #[] 3)).grown hg3 (fun k e => by cases e; exact .inr hs1); have k13 := ((Keeps.refl [] w1).alloc (.cells #[] 3)).grown hg3 (fun k e => by cases e; exact .inr (Nat.le_refl _)); have hown1' := hown1.keeps k13 (by simp); have b3 := H.out.blk.keeps k3 (by simp); have c3b := b3.cellAt 1 _ rfl; have f3b := b3.frozen 1; have hsh3 := hown3.shape; rw [List.nil_append] at hsh3 hown3; rw [List.length_nil] at hsh3; obtain ⟨a5, c5, rfl⟩ := hsh3; have hat3' := Lib.hid hat3; clear hat3))
    all_goals
      go_ret2
      refine ARM'.out _ _ ?_
      obtain ⟨hR, hK⟩ := ref_store (S := [r]) b3 (hown3.base (Nat.le_trans hB hs1)) hDle (Nat.le_trans hB k3.size) (k3.mono (by simp)) (by simp)
      exact ⟨_, _, rfl, hown1'.keeps ((Keeps.refl [r] w3).setCell (.inl (by simp)) _) (fun x hx => by simpa using own_ne hown1 b1 x hx), hR, hK, fun x hx => Nat.le_trans hs1 (hown3.lt x hx).1⟩

theorem rdrain_ok (h : IsRef w B r sz v L wh) (most : Nat) (hm : (most : Int) ≤ 9223372036854775807) :
    Calls Try.prog 22 #[.pointer (some ⟨r, 0, none⟩), .int .i64 most] w (RDrainPost B r sz L most wh w) := by
  rcases h.own.form with ⟨rfl, rfl⟩ | ⟨g, cap, cur, rfl, _, hb, hc, hcm, _⟩
  · exact rdrain_nil h most hm
  · rcases Nat.lt_or_ge most L.length with hlt | hge
    · exact rdrain_row h hc hcm most most hm (.inl ⟨rfl, hlt⟩)
    · have e : RDrainPost B r sz L most wh w = RDrainPost B r sz L L.length wh w := by
        unfold RDrainPost
        rw [List.take_of_length_le hge, List.take_of_length_le (Nat.le_refl L.length), List.drop_of_length_le hge, List.drop_of_length_le (Nat.le_refl L.length)]
      rw [e]
      exact rdrain_row h hc hcm most L.length hm (.inr (by omega))
end
end Go.Proofs.Ytmojlfkjbnokcaa
