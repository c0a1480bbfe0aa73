/- Plain laws on the order of texts: it turns round with its arguments, and goes on from one to the next. No condition. -/
import Derived.Test.YtkbelhhimllfnaaWorks
namespace Go.Proofs.Ytkbelhhimllfnaa
open Go.Lib

/-- The order of two texts, byte by byte. -/
def cmpR : List UInt8 → List UInt8 → Int
  | [], [] => 0
  | [], _ :: _ => -1
  | _ :: _, [] => 1
  | a :: x, b :: y => if a.toNat < b.toNat then -1 else if a.toNat = b.toNat then cmpR x y else 1
theorem cmpB_eq : ∀ x y : List UInt8, cmpB x y = cmpR x y
  | [], [] => rfl
  | [], _ :: _ => rfl
  | a :: x, [] => by simp [cmpB, cmpR, Op.bytesLess]
  | a :: x, b :: y => by
    have ih := cmpB_eq x y
    unfold cmpB at ih ⊢
    unfold cmpR Op.bytesLess
    by_cases h1 : a.toNat < b.toNat
    · have : a < b := h1
      simp [h1, this]
    · have h1' : ¬ a < b := h1
      by_cases h2 : a.toNat = b.toNat
      · have h3 : a = b := UInt8.toNat_inj.1 h2
        subst h3
        simp only [h1, if_false, if_true, decide_eq_false h1', beq_self_eq_true, Bool.true_and, Bool.false_or, List.cons.injEq, true_and]
        exact ih
      · have h3 : a ≠ b := fun e => h2 (by rw [e])
        simp [h1, h1', h2, h3]
theorem cmpR_range (x y : List UInt8) : -1 ≤ cmpR x y ∧ cmpR x y ≤ 1 := by
  induction x generalizing y with
  | nil => cases y <;> simp [cmpR]
  | cons a x ih =>
    cases y with
    | nil => simp [cmpR]
    | cons b y =>
      unfold cmpR
      have := ih y
      split
      · omega
      · split
        · exact this
        · omega
theorem cmpR_turn (x y : List UInt8) : cmpR y x = -cmpR x y := by
  induction x generalizing y with
  | nil => cases y <;> simp [cmpR]
  | cons a x ih =>
    cases y with
    | nil => simp [cmpR]
    | cons b y =>
      unfold cmpR
      have := ih y
      by_cases h1 : a.toNat < b.toNat
      · rw [if_neg (by omega), if_neg (by omega), if_pos h1]; rfl
      · by_cases h2 : a.toNat = b.toNat
        · rw [if_neg (by omega), if_pos (by omega), if_neg h1, if_pos h2]; exact this
        · rw [if_pos (by omega), if_neg h1, if_neg h2]
theorem cmpR_on (x y z : List UInt8) (h1 : cmpR x y ≤ 0) (h2 : cmpR y z ≤ 0) : cmpR x z ≤ 0 ∧ (cmpR x z = 0 → cmpR x y + cmpR y z = 0) := by
  induction x generalizing y z with
  | nil =>
    cases z with
    | nil =>
      cases y with
      | nil => simp [cmpR]
      | cons b y => simp [cmpR] at h2
    | cons c z => simp [cmpR]
  | cons a x ih =>
    cases y with
    | nil => simp [cmpR] at h1
    | cons b y =>
      cases z with
      | nil => simp [cmpR] at h2
      | cons c z =>
        have hxy := cmpR_range x y
        have hyz := cmpR_range y z
        unfold cmpR at h1 h2 ⊢
        by_cases hab : a.toNat < b.toNat
        · rw [if_pos hab] at h1 ⊢
          by_cases hbc : b.toNat < c.toNat
          · rw [if_pos (show a.toNat < c.toNat by omega)]; simp
          · by_cases hbc2 : b.toNat = c.toNat
            · rw [if_pos (show a.toNat < c.toNat by omega)]; simp
            · rw [if_neg hbc, if_neg hbc2] at h2; omega
        · by_cases hab2 : a.toNat = b.toNat
          · rw [if_neg hab, if_pos hab2] at h1 ⊢
            by_cases hbc : b.toNat < c.toNat
            · rw [if_pos (show a.toNat < c.toNat by omega)]; simp
            · by_cases hbc2 : b.toNat = c.toNat
              · rw [if_neg hbc, if_pos hbc2] at h2 ⊢
                rw [if_neg (show ¬ a.toNat < c.toNat by omega), if_pos (show a.toNat = c.toNat by omega)]
                exact ih y z h1 h2
              · rw [if_neg hbc, if_neg hbc2] at h2; omega
          · rw [if_neg hab, if_neg hab2] at h1; omega
theorem cmpR_zero : ∀ x y : List UInt8, cmpR x y = 0 → x = y
  | [], [], _ => rfl
  | [], _ :: _, h => by simp [cmpR] at h
  | _ :: _, [], h => by simp [cmpR] at h
  | a :: x, b :: y, h => by
    unfold cmpR at h
    split at h
    · cases h
    · split at h
      · rename_i h2
        rw [UInt8.toNat_inj.1 h2, cmpR_zero x y h]
      · cases h
theorem orderB_range (x y : List UInt8) : -1 ≤ orderB x y ∧ orderB x y ≤ 1 := by
  have := cmpR_range x y
  unfold orderB
  rw [cmpB_eq]
  cases isTag x <;> cases isTag y <;> simp <;> omega
theorem orderB_turn (x y : List UInt8) : orderB y x = -orderB x y := by
  have := cmpR_turn x y
  unfold orderB
  rw [cmpB_eq, cmpB_eq]
  cases isTag x <;> cases isTag y <;> simp <;> omega
theorem orderB_on (x y z : List UInt8) (h1 : orderB x y ≤ 0) (h2 : orderB y z ≤ 0) : orderB x z ≤ 0 ∧ (orderB x z = 0 → orderB x y + orderB y z = 0) := by
  have := cmpR_on x y z
  unfold orderB at *
  rw [cmpB_eq, cmpB_eq, cmpB_eq] at *
  revert h1 h2
  cases isTag x <;> cases isTag y <;> cases isTag z <;> simp
  exact this
end Go.Proofs.Ytkbelhhimllfnaa
