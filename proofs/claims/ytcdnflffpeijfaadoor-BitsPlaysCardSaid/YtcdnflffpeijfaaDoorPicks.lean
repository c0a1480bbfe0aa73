/- Plain: which numbers there are, as a row of booleans; counts. No program in it. -/
import Derived.Test.YtcdnflffpeijfaaDoorNums
import Derived.Test.YtcdnflffpeijfaaDoorNew
namespace Go.Proofs.YtcdnflffpeijfaaDoor
open Go.RowKit

/-- The cells of a row that says for each number whether it is there. -/
def boolRow (n : Nat) (p : Nat → Bool) : Array Value := ((List.range n).map fun i => Value.bool (p i)).toArray
/-- The numbers that are there. -/
def picks (n : Nat) (p : Nat → Bool) : List Nat := (List.range n).filter p
theorem boolRow_size (n : Nat) (p : Nat → Bool) : (boolRow n p).size = n := by simp [boolRow]
theorem boolRow_at (n : Nat) (p : Nat → Bool) {i : Nat} (hi : i < n) : (boolRow n p)[i]? = some (.bool (p i)) := by
  simp [boolRow, hi]
theorem boolRow_congr {n : Nat} {p q : Nat → Bool} (h : ∀ i, i < n → p i = q i) : boolRow n p = boolRow n q := by
  unfold boolRow
  congr 1
  apply List.map_congr_left
  intro i hi
  rw [h i (List.mem_range.1 hi)]
theorem boolRow_set {n : Nat} {p q : Nat → Bool} {k : Nat} {b : Bool} (h : ∀ i, i < n → q i = if i = k then b else p i) : (boolRow n p).setIfInBounds k (.bool b) = boolRow n q := by
  apply Array.ext
  · simp [boolRow]
  · intro i h1 h2
    have hi : i < n := by simpa [boolRow] using h2
    have := h i hi
    rw [Array.getElem_setIfInBounds (by rw [boolRow_size]; exact hi)]
    simp only [boolRow, List.getElem_toArray, List.getElem_map, List.getElem_range]
    rw [this]
    by_cases e : k = i
    · subst e; simp
    · rw [if_neg e, if_neg (fun e' => e e'.symm)]
theorem picks_congr {n : Nat} {p q : Nat → Bool} (h : ∀ i, i < n → p i = q i) : picks n p = picks n q := by
  unfold picks
  apply List.filter_congr
  intro i hi
  rw [h i (List.mem_range.1 hi)]
theorem picks_succ (n : Nat) (p : Nat → Bool) : picks (n + 1) p = if p n then picks n p ++ [n] else picks n p := by
  unfold picks
  rw [List.range_succ, List.filter_append]
  cases h : p n <;> simp [h]
theorem picks_len_le (n : Nat) (p : Nat → Bool) : (picks n p).length ≤ n := by
  have := List.length_filter_le p (List.range n)
  simpa [picks] using this
theorem nums_picks {ws : List Nat} {n : Nat} (hl : n ≤ 64 * ws.length) (hov : ∀ i, n ≤ i → has ws i = false) : numsFrom ws 0 = picks n (has ws) := by
  rw [nums_eq hl hov]
  unfold picks
  congr 1
theorem howMany_bits (x : Nat) : howMany 64 x = (bitsOf x).length := rfl
theorem restOf_len (ws : List Nat) : ∀ (m k : Nat), ws.length - k = m → (restOf ws k).length = countOf (ws.drop k)
  | 0, k, h => by
    rw [restOf_end ws k (by omega), List.drop_eq_nil_of_le (by omega)]
    rfl
  | m + 1, k, h => by
    have hk : k < ws.length := by omega
    rw [restOf_step ws k hk, List.length_append, List.length_map, restOf_len ws m (k + 1) (by omega), List.drop_eq_getElem_cons hk]
    unfold countOf
    rw [List.map_cons, List.sum_cons, howMany_bits]
    simp [List.getD, List.getElem?_eq_getElem hk]
theorem count_picks {ws : List Nat} {n : Nat} (hl : n ≤ 64 * ws.length) (hov : ∀ i, n ≤ i → has ws i = false) : countOf ws = (picks n (has ws)).length := by
  rw [← nums_picks hl hov]
  have h1 := nums_eq hl hov 0
  have h2 : restOf ws 0 = numsFrom ws 0 := by
    rw [restOf_eq ws ws.length 0 (by omega), nums_eq (n := 64 * ws.length) (Nat.le_refl _) (fun i hi => by
      unfold has
      simp [List.getD, List.getElem?_eq_none (show ws.length ≤ i / 64 by omega)]) 0]
    rw [Nat.mul_zero, ← List.range_eq_range']
    congr 1
  rw [← h2, restOf_len ws ws.length 0 (by omega), List.drop_zero]
theorem picks_cons_from {n : Nat} {p : Nat → Bool} (f : Nat) : picks n (fun i => decide (f ≤ i) && p i) = [] ∨ ∃ x t, picks n (fun i => decide (f ≤ i) && p i) = x :: t ∧ f ≤ x ∧ x < n ∧ p x = true ∧ t = picks n (fun i => decide (x + 1 ≤ i) && p i) := by
  induction n with
  | zero => exact .inl rfl
  | succ n ih =>
    rw [picks_succ]
    rcases ih with h | ⟨x, t, h1, h2, h3, h4, h5⟩
    · rw [h]
      by_cases hc : (decide (f ≤ n) && p n) = true
      · rw [if_pos hc]
        have hcc : decide (f ≤ n) = true ∧ p n = true := by simpa using hc
        refine .inr ⟨n, [], rfl, ?_, by omega, ?_, ?_⟩
        · exact of_decide_eq_true hcc.1
        · exact hcc.2
        · symm
          unfold picks
          rw [List.filter_eq_nil_iff]
          intro i hi
          have := List.mem_range.1 hi
          simp; omega
      · rw [if_neg hc]
        exact .inl rfl
    · rw [h1]
      have h6 : f ≤ n := by omega
      have h7 : x + 1 ≤ n := by omega
      refine .inr ⟨x, if p n then t ++ [n] else t, ?_, h2, by omega, h4, ?_⟩
      · cases hp : p n <;> simp [h6]
      · rw [picks_succ, ← h5]
        cases hp : p n <;> simp [h7]
end Go.Proofs.YtcdnflffpeijfaaDoor
