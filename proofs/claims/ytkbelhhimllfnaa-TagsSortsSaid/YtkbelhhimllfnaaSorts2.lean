/- TagsSorts: for every input the call returns true, and nothing that was there has changed: the branches joined. No condition. -/
import Derived.Test.YtkbelhhimllfnaaSorts
namespace Go.Proofs.Ytkbelhhimllfnaa
open Go.RowKit

set_option maxRecDepth 1000000 in
set_option maxHeartbeats 8000000 in
theorem sorts_long (s t u : ByteArray) (h : 300 < s.size ∨ 300 < t.size ∨ 300 < u.size) (w : World) : Calls Try.prog 12 #[.string s, .string t, .string u] w fun e w' => e = .returned (.bool true) ∧ Below w.heap.size w w' := by
  by_cases h1 : 300 < s.size
  · clear h
    go_enter Try.func12, Try.ntmps12
    go_wp2_with fail
    refine (works_ok _).mono ?_
    rintro e W7 ⟨rfl, k7⟩
    go_wp2_with fail
    go_ret
    exact ⟨rfl, k7.below⟩
  · by_cases h2 : 300 < t.size
    · clear h
      go_enter Try.func12, Try.ntmps12
      go_wp2_with fail
      refine (works_ok _).mono ?_
      rintro e W7 ⟨rfl, k7⟩
      go_wp2_with fail
      go_ret
      exact ⟨rfl, k7.below⟩
    · have h3 : 300 < u.size := by omega
      clear h
      go_enter Try.func12, Try.ntmps12
      go_wp2_with fail
      refine (works_ok _).mono ?_
      rintro e W7 ⟨rfl, k7⟩
      go_wp2_with fail
      go_ret
      exact ⟨rfl, k7.below⟩

theorem sorts_facts (s t u : ByteArray) (h1 : s.size ≤ 300) (h2 : t.size ≤ 300) (h3 : u.size ≤ 300) : SortFacts s t u (orderB s.data.toList t.data.toList) (orderB t.data.toList u.data.toList) (orderB s.data.toList u.data.toList) (tagErr s.data.toList) (tagErr t.data.toList) where
  h1 := Order_ok s t
  h2 := Order_ok t u
  h3 := Order_ok s u
  h4 := by rw [← orderB_turn]; exact Order_ok t s
  h5 := Check_ok s
  h6 := Check_ok t
  ls := h1
  lt := h2
  lu := h3

theorem sorts_walk (s t u : ByteArray) (w : World) : Calls Try.prog 12 #[.string s, .string t, .string u] w fun e w' => e = .returned (.bool true) ∧ Below w.heap.size w w' := by
  by_cases hl : 300 < s.size ∨ 300 < t.size ∨ 300 < u.size
  · exact sorts_long s t u hl w
  have H := sorts_facts s t u (by omega) (by omega) (by omega)
  have r1 := orderB_range s.data.toList t.data.toList
  have r2 := orderB_range t.data.toList u.data.toList
  have r3 := orderB_range s.data.toList u.data.toList
  have on := orderB_on s.data.toList t.data.toList u.data.toList
  have hx : tagErr s.data.toList = if isTag s.data.toList then 0 else 16 := rfl
  have hy : tagErr t.data.toList = if isTag t.data.toList then 0 else 16 := rfl
  have ho : orderB s.data.toList t.data.toList = if isTag s.data.toList then (if isTag t.data.toList then cmpB s.data.toList t.data.toList else 1) else (if isTag t.data.toList then -1 else 0) := rfl
  have hc : cmpB s.data.toList t.data.toList = if Op.bytesLess s.toList t.toList = true then -1 else if (s.toList == t.toList) = true then 0 else 1 := by
    rw [Lib.toList_data, Lib.toList_data]
    unfold cmpB
    simp only [beq_iff_eq]
  have hself : Op.bytesLess s.toList t.toList = true → (s.toList == t.toList) = false := by
    intro h
    cases he : (s.toList == t.toList) with
    | false => rfl
    | true =>
      rw [eq_of_beq he] at h
      have : ∀ l : List UInt8, Op.bytesLess l l = false := by
        intro l
        induction l with
        | nil => rfl
        | cons a l ih => simp [Op.bytesLess, ih]
      rw [this] at h
      cases h
  generalize orderB s.data.toList t.data.toList = ab at *
  generalize orderB t.data.toList u.data.toList = bc at *
  generalize orderB s.data.toList u.data.toList = ac at *
  generalize cmpB s.data.toList t.data.toList = cm at *
  generalize isTag s.data.toList = x at *
  generalize isTag t.data.toList = y at *
  have hbc : bc = 1 ∨ bc = 0 ∨ bc = -1 := by omega
  cases x <;> cases y
  · simp only [if_false, Bool.false_eq_true] at hx hy ho
    rw [hx, hy] at H
    subst ho
    rcases hbc with rfl | rfl | rfl
    · exact sorts_16_16_0_1_v ac H w
    · have := on (by omega) (by omega)
      have hac : ac = 0 ∨ ac = -1 := by omega
      rcases hac with rfl | rfl
      · exact sorts_16_16_0_0_0 H w
      · exact sorts_16_16_0_0_m1 H w
    · have := on (by omega) (by omega)
      have hac : ac = -1 := by omega
      subst hac
      exact sorts_16_16_0_m1_m1 H w
  · simp only [if_false, if_true, Bool.false_eq_true] at hx hy ho
    rw [hx, hy] at H
    subst ho
    rcases hbc with rfl | rfl | rfl
    · exact sorts_16_0_m1_1_v ac H w
    · have := on (by omega) (by omega)
      have hac : ac = -1 := by omega
      subst hac
      exact sorts_16_0_m1_0_m1 H w
    · have := on (by omega) (by omega)
      have hac : ac = -1 := by omega
      subst hac
      exact sorts_16_0_m1_m1_m1 H w
  · simp only [if_false, if_true, Bool.false_eq_true] at hx hy ho
    rw [hx, hy] at H
    subst ho
    exact sorts_0_16_1_v_v bc ac H w
  · simp only [if_true] at hx hy ho
    rw [hx, hy] at H
    rw [hc] at ho
    cases hlt : Op.bytesLess s.toList t.toList with
    | true =>
      have heq := hself hlt
      rw [hlt, if_pos rfl] at ho
      subst ho
      rcases hbc with rfl | rfl | rfl
      · exact sorts_0_0_m1_1_v ac H hlt heq w
      · have := on (by omega) (by omega)
        have hac : ac = -1 := by omega
        subst hac
        exact sorts_0_0_m1_0_m1 H hlt heq w
      · have := on (by omega) (by omega)
        have hac : ac = -1 := by omega
        subst hac
        exact sorts_0_0_m1_m1_m1 H hlt heq w
    | false =>
      rw [hlt, if_neg (by simp)] at ho
      cases heq : (s.toList == t.toList) with
      | false =>
        rw [heq, if_neg (by simp)] at ho
        subst ho
        exact sorts_0_0_1_v_v bc ac H hlt heq w
      | true =>
        rw [heq, if_pos rfl] at ho
        subst ho
        rcases hbc with rfl | rfl | rfl
        · exact sorts_0_0_0_1_v ac H hlt heq w
        · have := on (by omega) (by omega)
          have hac : ac = 0 ∨ ac = -1 := by omega
          rcases hac with rfl | rfl
          · exact sorts_0_0_0_0_0 H hlt heq w
          · exact sorts_0_0_0_0_m1 H hlt heq w
        · have := on (by omega) (by omega)
          have hac : ac = -1 := by omega
          subst hac
          exact sorts_0_0_0_m1_m1 H hlt heq w
end Go.Proofs.Ytkbelhhimllfnaa
