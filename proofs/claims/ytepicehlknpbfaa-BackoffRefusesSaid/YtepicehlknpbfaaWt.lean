/- Plain facts on waits: they double until they are cap. No program. Conditions: 1 <= base <= cap <= 2 to the 20. -/
import Derived.Test.YtepicehlknpbfaaRows
namespace Go.Proofs.Ytepicehlknpbfaa

/-- The wait after j + 1 refusals. -/
def wj (b c : Nat) : Nat → Nat
  | 0 => b
  | j + 1 => min (2 * wj b c j) c

theorem wj_le {b c : Nat} (h : b ≤ c) : ∀ j, wj b c j ≤ c
  | 0 => h
  | j + 1 => by unfold wj; omega
theorem wj_ge {b c : Nat} (h : b ≤ c) : ∀ j, b ≤ wj b c j
  | 0 => Nat.le_refl _
  | j + 1 => by have := wj_ge h j; unfold wj; omega
theorem wj_eq {b c : Nat} (h : b ≤ c) : ∀ j, wj b c j = min (b * 2 ^ j) c
  | 0 => by simp [wj, h]
  | j + 1 => by
    have e : b * 2 ^ (j + 1) = 2 * (b * 2 ^ j) := by rw [Nat.pow_succ]; ac_rfl
    unfold wj
    rw [wj_eq h j, e]
    omega
theorem wj_step {b c : Nat} (h : b ≤ c) (j : Nat) : wj b c j ≤ wj b c (j + 1) := by
  have := wj_le h j
  show _ ≤ min _ _
  omega
theorem wj_mono {b c : Nat} (h : b ≤ c) {i j : Nat} (hij : i ≤ j) : wj b c i ≤ wj b c j := by
  induction hij with
  | refl => exact Nat.le_refl _
  | step _ ih => exact Nat.le_trans ih (wj_step h _)
theorem wj_cap {b c : Nat} (h : b ≤ c) (hb : 1 ≤ b) (hc : c ≤ 1048576) : wj b c 20 = c := by
  rw [wj_eq h]
  have : 1 * 2 ^ 20 ≤ b * 2 ^ 20 := Nat.mul_le_mul_right _ hb
  omega
theorem wj_stay {b c : Nat} (h : b ≤ c) {i j : Nat} (hij : i ≤ j) (hi : wj b c i = c) : wj b c j = c :=
  Nat.le_antisymm (wj_le h j) (by have := wj_mono h hij; omega)

/-- The first number of refusals whose wait is cap. -/
theorem steps_ex {b c : Nat} (h : b ≤ c) (hb : 1 ≤ b) (hc : c ≤ 1048576) : ∃ m, 1 ≤ m ∧ m ≤ 21 ∧ wj b c (m - 1) = c ∧ ∀ k, 1 ≤ k → k < m → wj b c (k - 1) ≠ c := by
  have key : ∀ n, n ≤ 20 → (∀ j, j < n → wj b c j ≠ c) ∨ ∃ m, 1 ≤ m ∧ m ≤ 21 ∧ wj b c (m - 1) = c ∧ ∀ k, 1 ≤ k → k < m → wj b c (k - 1) ≠ c := by
    intro n
    induction n with
    | zero => exact fun _ => .inl (fun j hj => by omega)
    | succ n ih =>
      intro hn
      rcases ih (by omega) with h1 | h1
      · by_cases he : wj b c n = c
        · exact .inr ⟨n + 1, by omega, by omega, he, fun k h2 h3 => h1 _ (by omega)⟩
        · refine .inl (fun j hj => ?_)
          rcases Nat.lt_or_ge j n with h2 | h2
          · exact h1 j h2
          · obtain rfl : j = n := by omega
            exact he
      · exact .inr h1
  rcases key 20 (Nat.le_refl _) with h1 | h1
  · exact ⟨21, by omega, by omega, wj_cap h hb hc, fun k h2 h3 => h1 _ (by omega)⟩
  · exact h1
open Classical in
noncomputable def stepsOf (b c : Nat) : Nat := if h : b ≤ c ∧ 1 ≤ b ∧ c ≤ 1048576 then Classical.choose (steps_ex h.1 h.2.1 h.2.2) else 1
theorem steps_spec {b c : Nat} (h : b ≤ c) (hb : 1 ≤ b) (hc : c ≤ 1048576) : 1 ≤ stepsOf b c ∧ stepsOf b c ≤ 21 ∧ wj b c (stepsOf b c - 1) = c ∧ ∀ k, 1 ≤ k → k < stepsOf b c → wj b c (k - 1) ≠ c := by
  unfold stepsOf
  rw [dif_pos ⟨h, hb, hc⟩]
  exact Classical.choose_spec (steps_ex h hb hc)
/-- A number of refusals has come to the first wait that is cap just if its own wait is cap. -/
theorem steps_iff {b c : Nat} (h : b ≤ c) (hb : 1 ≤ b) (hc : c ≤ 1048576) {k : Nat} (hk : 1 ≤ k) : wj b c (k - 1) = c ↔ stepsOf b c ≤ k := by
  obtain ⟨h1, _, h3, h4⟩ := steps_spec h hb hc
  constructor
  · intro he
    rcases Nat.lt_or_ge k (stepsOf b c) with hlt | hge
    · exact absurd he (h4 k hk hlt)
    · exact hge
  · intro hle
    exact wj_stay h (by omega) h3

/-- The waits after 1, 2, .. k refusals. -/
def waitsTo (b c k : Nat) : List Int := (List.range k).map fun j => (wj b c j : Int)
theorem waitsTo_length (b c k : Nat) : (waitsTo b c k).length = k := by simp [waitsTo]
theorem waitsTo_succ (b c k : Nat) : waitsTo b c (k + 1) = waitsTo b c k ++ [(wj b c k : Int)] := by simp [waitsTo, List.range_succ]
theorem waitsTo_getD (b c k : Nat) {i : Nat} (hi : i < k) : (waitsTo b c k).getD i 0 = (wj b c i : Int) := by
  simp [waitsTo, List.getElem?_range hi]
/-- What they are together. -/
def sumTo (b c : Nat) : Nat → Nat
  | 0 => 0
  | k + 1 => sumTo b c k + wj b c k
theorem sumTo_le {b c : Nat} (h : b ≤ c) : ∀ k, sumTo b c k ≤ k * c
  | 0 => by simp [sumTo]
  | k + 1 => by have := sumTo_le h k; have := wj_le h k; rw [Nat.succ_mul]; unfold sumTo; omega
end Go.Proofs.Ytepicehlknpbfaa
