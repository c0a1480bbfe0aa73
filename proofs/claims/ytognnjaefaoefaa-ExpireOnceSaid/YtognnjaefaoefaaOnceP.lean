/- Plain: which ids are due between two times, and which were seen. No program in it. -/
import Derived.Test.YtognnjaefaoefaaPlainQ
namespace Go.Proofs.Ytognnjaefaoefaa
open Go.RowKit

/-- A row of bools. -/
def boolRow (n : Nat) (p : Nat → Bool) : Array Value := ((List.range n).map fun i => Value.bool (p i)).toArray
theorem boolRow_size (n : Nat) (p : Nat → Bool) : (boolRow n p).size = n := by simp [boolRow]
theorem boolRow_at (n : Nat) (p : Nat → Bool) {i : Nat} (hi : i < n) : (boolRow n p)[i]? = some (.bool (p i)) := by
  simp [boolRow, hi]
theorem boolRow_congr {n : Nat} {p q : Nat → Bool} (h : ∀ i, i < n → p i = q i) : boolRow n p = boolRow n q := by
  unfold boolRow
  congr 1
  apply List.map_congr_left
  intro i hi
  rw [h i (List.mem_range.1 hi)]
theorem boolRow_set {n : Nat} {p q : Nat → Bool} {k : Nat} {b : Bool} (h : ∀ i, i < n → q i = if i = k then b else p i) : (boolRow n p).setIfInBounds k (.bool b) = boolRow n q := by
  apply Array.ext
  · simp [boolRow]
  · intro i h1 h2
    have hi : i < n := by simpa [boolRow] using h2
    have := h i hi
    rw [Array.getElem_setIfInBounds (by rw [boolRow_size]; exact hi)]
    simp only [boolRow, List.getElem_toArray, List.getElem_map, List.getElem_range]
    rw [this]
    by_cases e : k = i
    · simp [e]
    · have : i ≠ k := fun h => e h.symm
      simp [e, this]
theorem made_bools (n : Nat) (p : Nat → Bool) (hp : ∀ i, i < n → p i = false) : madeCells #[.bool false] n = boolRow n p := by
  apply Array.ext
  · simp [madeCells, boolRow]
  · intro i h1 h2
    have hi : i < n := by simpa [boolRow] using h2
    simp [madeCells, boolRow, Nat.mod_one, hp i hi]
theorem mem_due {t : Int} : ∀ {L : List (Int × Int)}, L.Pairwise Bef → ∀ e, (e ∈ L.take (dueN L t) ↔ e ∈ L ∧ e.2 ≤ t) ∧ (e ∈ L.drop (dueN L t) ↔ e ∈ L ∧ t < e.2)
  | [], _, e => by simp
  | e0 :: L, h, e => by
    rw [List.pairwise_cons] at h
    have ih := mem_due (t := t) h.2 e
    unfold dueN at ih ⊢
    rw [List.takeWhile_cons]
    by_cases h0 : e0.2 ≤ t
    · rw [if_pos (by simpa using h0), List.length_cons, List.take_succ_cons, List.drop_succ_cons, List.mem_cons, ih.1, ih.2, List.mem_cons]
      refine ⟨⟨?_, ?_⟩, ⟨?_, ?_⟩⟩
      · rintro (rfl | ⟨h1, h2⟩)
        · exact ⟨.inl rfl, h0⟩
        · exact ⟨.inr h1, h2⟩
      · rintro ⟨rfl | h1, h2⟩
        · exact .inl rfl
        · exact .inr ⟨h1, h2⟩
      · exact fun ⟨h1, h2⟩ => ⟨.inr h1, h2⟩
      · rintro ⟨rfl | h1, h2⟩
        · omega
        · exact ⟨h1, h2⟩
    · rw [if_neg (by simpa using h0), List.length_nil, List.take_zero, List.drop_zero]
      have hall : e ∈ e0 :: L → t < e.2 := fun he => by
        rcases List.mem_cons.1 he with rfl | he
        · omega
        · have := h.1 e he
          unfold Bef at this
          omega
      refine ⟨⟨fun h1 => by simp at h1, fun ⟨h1, h2⟩ => ?_⟩, ⟨fun h1 => ⟨h1, hall h1⟩, fun h1 => h1.1⟩⟩
      have := hall h1
      omega
/-- What is left of the laws' queue behind a time. -/
def Rest (zs : List Int) (n : Nat) (N : Int) (L : List (Int × Int)) : Prop := ∀ e, e ∈ L ↔ ∃ i : Nat, i < n ∧ e = ((i : Int), zs.getD i 0) ∧ N < zs.getD i 0
/-- What is due between two times. -/
structure DueD (zs : List Int) (n : Nat) (N t : Int) (D : List (Int × Int)) : Prop where
  good : Good D
  mem : ∀ e, e ∈ D ↔ ∃ i : Nat, i < n ∧ e = ((i : Int), zs.getD i 0) ∧ N < zs.getD i 0 ∧ zs.getD i 0 ≤ t
theorem Good.take {L : List (Int × Int)} (h : Good L) (k : Nat) : Good (L.take k) :=
  ⟨h.sorted.sublist (List.take_sublist _ _), by rw [List.map_take]; exact h.ids.sublist (List.take_sublist _ _)⟩
theorem due_made {zs : List Int} {n : Nat} {N t : Int} {L : List (Int × Int)} (hg : Good L) (h : Rest zs n N L) : DueD zs n N t (L.take (dueN L t)) := by
  refine ⟨hg.take _, fun e => ?_⟩
  rw [(mem_due hg.sorted e).1, h e]
  constructor
  · rintro ⟨⟨i, hi, rfl, h1⟩, h2⟩
    exact ⟨i, hi, rfl, h1, h2⟩
  · rintro ⟨i, hi, rfl, h1, h2⟩
    exact ⟨⟨i, hi, rfl, h1⟩, h2⟩
theorem rest_made {zs : List Int} {n : Nat} {N t : Int} {L : List (Int × Int)} (hN : N ≤ t) (hg : Good L) (h : Rest zs n N L) : Rest zs n t (L.drop (dueN L t)) := by
  intro e
  rw [(mem_due hg.sorted e).2, h e]
  constructor
  · rintro ⟨⟨i, hi, rfl, h1⟩, h2⟩
    exact ⟨i, hi, rfl, h2⟩
  · rintro ⟨i, hi, rfl, h1⟩
    exact ⟨⟨i, hi, rfl, by omega⟩, h1⟩
theorem rest_fill {zs : List Int} {n : Nat} {N : Int} (hn : n ≤ zs.length) (hz : ∀ z ∈ zs, N < z) : Rest zs n N (fillL zs n) := by
  intro e
  rw [fill_mem]
  constructor
  · rintro ⟨i, hi, rfl⟩
    exact ⟨i, hi, rfl, hz _ (getD_mem zs 0 i (by omega))⟩
  · rintro ⟨i, hi, rfl, _⟩
    exact ⟨i, hi, rfl⟩
theorem rest_none {zs : List Int} {n : Nat} {N : Int} {L : List (Int × Int)} (hn : n ≤ zs.length) (hz : ∀ z ∈ zs, z ≤ N) (h : Rest zs n N L) : L = [] := by
  cases L with
  | nil => rfl
  | cons e L =>
    obtain ⟨i, hi, _, h1⟩ := (h e).1 (by simp)
    have := hz _ (getD_mem zs 0 i (by omega))
    omega
theorem when_rest {zs : List Int} {n : Nat} {N : Int} {L : List (Int × Int)} (hg : Good L) (h : Rest zs n N L) {j : Nat} (hj : j < n) (h1 : N < zs.getD j 0) : whenQ L j = (zs.getD j 0, true) :=
  when_of hg (e := ((j : Int), zs.getD j 0)) ((h _).2 ⟨j, hj, rfl, h1⟩)
theorem when_past {zs : List Int} {n : Nat} {N : Int} {L : List (Int × Int)} (h : Rest zs n N L) {j : Nat} (h1 : zs.getD j 0 ≤ N) : whenQ L j = (0, false) :=
  when_not fun e he h2 => by
    obtain ⟨i, hi, rfl, h3⟩ := (h e).1 he
    have h4 : (i : Int) = (j : Int) := h2
    have h5 : i = j := by omega
    subst h5
    omega
/-- Which ids were seen, q of the due ones with them. -/
def seenP (zs : List Int) (N : Int) (D : List (Int × Int)) (q : Nat) (j : Nat) : Bool := decide (zs.getD j 0 ≤ N) || (D.take q).any fun e => e.1 == (j : Int)
theorem seen_zero (zs : List Int) (N : Int) (D : List (Int × Int)) (j : Nat) : seenP zs N D 0 j = decide (zs.getD j 0 ≤ N) := by simp [seenP]
theorem take_next' (D : List (Int × Int)) (q : Nat) (h : q < D.length) : D.take (q + 1) = D.take q ++ [D.getD q (0, 0)] := by
  rw [List.take_add_one, List.getElem?_eq_getElem h]
  simp [List.getD_eq_getElem?_getD, List.getElem?_eq_getElem h]
theorem seen_next {zs : List Int} {N : Int} {D : List (Int × Int)} {q x : Nat} (hq : q < D.length) (hx : (D.getD q (0, 0)).1 = (x : Int)) (j : Nat) : seenP zs N D (q + 1) j = if j = x then true else seenP zs N D q j := by
  unfold seenP
  rw [take_next' D q hq, List.any_append, List.any_cons, List.any_nil, hx]
  by_cases e : j = x
  · subst e
    rw [if_pos rfl, beq_self_eq_true]
    simp
  · have : ((x : Int) == (j : Int)) = false := by simp; omega
    rw [if_neg e, this]
    simp
theorem seen_not {zs : List Int} {n : Nat} {N t : Int} {D : List (Int × Int)} {q x : Nat} (hD : DueD zs n N t D) (hq : q < D.length) (hx : (D.getD q (0, 0)).1 = (x : Int)) (h1 : N < zs.getD x 0) : seenP zs N D q x = false := by
  unfold seenP
  rw [decide_eq_false (by omega), Bool.false_or, List.any_eq_false]
  intro e he hh
  have hex : e.1 = (x : Int) := by simpa using hh
  obtain ⟨p, hp, rfl⟩ := List.mem_iff_getElem.1 he
  rw [List.length_take] at hp
  rw [List.getElem_take] at hex
  have hn := List.pairwise_iff_getElem.1 (List.nodup_iff_pairwise_ne.1 hD.good.ids) p q (by rw [List.length_map]; omega) (by rw [List.length_map]; exact hq) (by omega)
  rw [List.getElem_map, List.getElem_map] at hn
  apply hn
  rw [hex, ← hx, List.getD_eq_getElem?_getD, List.getElem?_eq_getElem hq]
  rfl
theorem seen_all {zs : List Int} {n : Nat} {N t : Int} {D : List (Int × Int)} (hN : N ≤ t) (hD : DueD zs n N t D) {j : Nat} (hj : j < n) : seenP zs N D D.length j = decide (zs.getD j 0 ≤ t) := by
  unfold seenP
  rw [List.take_length, Bool.eq_iff_iff, Bool.or_eq_true, decide_eq_true_eq, decide_eq_true_eq, List.any_eq_true]
  constructor
  · rintro (h | ⟨e, he, h⟩)
    · omega
    · obtain ⟨i, hi, rfl, h1, h2⟩ := (hD.mem e).1 he
      have h4 : (i : Int) = (j : Int) := by simpa using h
      have h5 : i = j := by omega
      subst h5
      exact h2
  · intro h
    by_cases h0 : zs.getD j 0 ≤ N
    · exact .inl h0
    · exact .inr ⟨_, (hD.mem _).2 ⟨j, hj, rfl, by omega, h⟩, by simp⟩
/-- The last entry comes before the next one. -/
def LastBef (A B : Int) (e : Int × Int) : Prop := A < e.2 ∨ (A = e.2 ∧ B < e.1)
theorem last_next {D : List (Int × Int)} (hg : Good D) {q : Nat} (h : q + 1 < D.length) : LastBef (D.getD q (0, 0)).2 (D.getD q (0, 0)).1 (D.getD (q + 1) (0, 0)) := good_next hg h
theorem infoBool : (Try.prog.info? 4).map (fun i => (i.zero, i.size, i.bytes)) = some (some (.bool false), 1, 1) := by kernel_rfl
end Go.Proofs.Ytognnjaefaoefaa
