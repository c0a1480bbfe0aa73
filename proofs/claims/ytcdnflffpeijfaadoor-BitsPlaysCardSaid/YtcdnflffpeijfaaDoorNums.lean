/- Plain laws on the numbers of words, as the iterator yields them: word by word, bit by bit. No condition. -/
import Derived.Test.YtcdnflffpeijfaaDoorSet
namespace Go.Proofs.YtcdnflffpeijfaaDoor

/-- The numbers of the words from one word on. -/
def restOf (ws : List Nat) (k : Nat) : List Nat := (List.range' k (ws.length - k)).flatMap fun j => (bitsOf (ws.getD j 0)).map (64 * j + ·)
theorem restOf_step (ws : List Nat) (k : Nat) (hk : k < ws.length) : restOf ws k = (bitsOf (ws.getD k 0)).map (64 * k + ·) ++ restOf ws (k + 1) := by
  unfold restOf
  obtain ⟨m, hm⟩ : ∃ m, ws.length - k = m + 1 := ⟨ws.length - k - 1, by omega⟩
  rw [hm, show ws.length - (k + 1) = m by omega, List.range'_succ, List.flatMap_cons]
theorem restOf_end (ws : List Nat) (k : Nat) (hk : ws.length ≤ k) : restOf ws k = [] := by
  unfold restOf
  rw [show ws.length - k = 0 by omega]
  rfl
theorem word_nums (ws : List Nat) (k : Nat) : (bitsOf (ws.getD k 0)).map (64 * k + ·) = (List.range' (64 * k) 64).filter (has ws) := by
  unfold bitsOf
  rw [List.range'_eq_map_range, List.filter_map]
  congr 1
  apply List.filter_congr
  intro j hj
  have hj' := List.mem_range.1 hj
  simp only [Function.comp_apply, has]
  rw [show (64 * k + j) / 64 = k by omega, show (64 * k + j) % 64 = j by omega]
theorem restOf_eq (ws : List Nat) : ∀ (m k : Nat), ws.length - k = m → restOf ws k = (List.range' (64 * k) (64 * m)).filter (has ws)
  | 0, k, h => by rw [restOf_end ws k (by omega)]; rfl
  | m + 1, k, h => by
    rw [restOf_step ws k (by omega), restOf_eq ws m (k + 1) (by omega), word_nums ws k, show 64 * (m + 1) = 64 + 64 * m by omega, ← List.range'_append_1, List.filter_append, show 64 * k + 64 = 64 * (k + 1) by omega]

/-- A word less its bits below r. -/
def above (w r : Nat) : Nat := w &&& (18446744073709551616 - 2 ^ r)
theorem above_lt (w r : Nat) (hw : w < 18446744073709551616) : above w r < 18446744073709551616 := Nat.lt_of_le_of_lt Nat.and_le_left hw
theorem above_bit (w r j : Nat) (hr : r < 64) (hj : j < 64) : (above w r).testBit j = (decide (r ≤ j) && w.testBit j) := by
  unfold above
  rw [Nat.testBit_and]
  have e : 18446744073709551616 - 2 ^ r = 2 ^ 64 - (2 ^ r - 1 + 1) := by
    have := Nat.two_pow_pos r
    omega
  rw [e, Nat.testBit_two_pow_sub_succ (by have := Nat.pow_lt_pow_right (a := 2) (by omega) hr; omega), Nat.testBit_two_pow_sub_one, Bool.and_comm]
  congr 1
  by_cases h : r ≤ j
  · simp [h, hj]
  · simp [h, hj]
    omega
/-- The numbers from one on, as the iterator yields them. -/
def numsFrom (ws : List Nat) (f : Nat) : List Nat := if f / 64 < ws.length then (bitsOf (above (ws.getD (f / 64) 0) (f % 64))).map (64 * (f / 64) + ·) ++ restOf ws (f / 64 + 1) else []
theorem filter_empty {p : Nat → Bool} {l : List Nat} (h : ∀ x ∈ l, p x = false) : l.filter p = [] := by
  rw [List.filter_eq_nil_iff]
  intro x hx
  rw [h x hx]
  simp
/-- The iterator yields the numbers of the set from one on, in order. -/
theorem nums_eq {ws : List Nat} {n : Nat} (hl : n ≤ 64 * ws.length) (hov : ∀ i, n ≤ i → has ws i = false) (f : Nat) : numsFrom ws f = (List.range n).filter fun i => decide (f ≤ i) && has ws i := by
  have e0 : (List.range n).filter (fun i => decide (f ≤ i) && has ws i) = (List.range (64 * ws.length)).filter fun i => decide (f ≤ i) && has ws i := by
    obtain ⟨m, hm⟩ : ∃ m, 64 * ws.length = n + m := ⟨64 * ws.length - n, by omega⟩
    rw [hm, List.range_add, List.filter_append, filter_empty (l := List.map _ _), List.append_nil]
    intro x hx
    obtain ⟨y, _, rfl⟩ := List.mem_map.1 hx
    rw [hov _ (by omega), Bool.and_false]
  rw [e0]
  unfold numsFrom
  split
  · rename_i h
    obtain ⟨m, hm⟩ : ∃ m, ws.length = f / 64 + (1 + m) := ⟨ws.length - f / 64 - 1, by omega⟩
    have e1 : 64 * ws.length = 64 * (f / 64) + (64 + 64 * m) := by omega
    rw [e1, List.range_eq_range', ← List.range'_append_1, List.filter_append, filter_empty (l := List.range' 0 _), List.nil_append, ← List.range'_append_1, List.filter_append, Nat.zero_add]
    · congr 1
      · unfold bitsOf
        rw [List.range'_eq_map_range, List.filter_map]
        congr 1
        apply List.filter_congr
        intro j hj
        have hj' := List.mem_range.1 hj
        rw [above_bit _ _ _ (Nat.mod_lt _ (by decide)) hj']
        simp only [Function.comp_apply, has]
        rw [show (64 * (f / 64) + j) / 64 = f / 64 by omega, show (64 * (f / 64) + j) % 64 = j by omega]
        congr 1
        apply decide_eq_decide.2
        omega
      · rw [restOf_eq ws m (f / 64 + 1) (by omega), show 64 * (f / 64 + 1) = 64 * (f / 64) + 64 by omega]
        apply List.filter_congr
        intro j hj
        have hj' := (List.mem_range'_1.1 hj).1
        rw [decide_eq_true (show f ≤ j by omega), Bool.true_and]
    · intro x hx
      have hx' := (List.mem_range'_1.1 hx).2
      rw [decide_eq_false (show ¬ f ≤ x by omega), Bool.false_and]
  · rename_i h
    rw [filter_empty]
    intro x hx
    have hx' := List.mem_range.1 hx
    rw [decide_eq_false (show ¬ f ≤ x by omega), Bool.false_and]
theorem nums_len (ws : List Nat) (f : Nat) {n : Nat} (hl : n ≤ 64 * ws.length) (hov : ∀ i, n ≤ i → has ws i = false) : (numsFrom ws f).length ≤ n := by
  rw [nums_eq hl hov]
  exact Nat.le_trans (List.length_filter_le _ _) (by simp)
end Go.Proofs.YtcdnflffpeijfaaDoor
