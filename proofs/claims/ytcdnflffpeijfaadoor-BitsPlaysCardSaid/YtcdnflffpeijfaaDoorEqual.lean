/- The contract of slices.Equal at slices of integers. No condition but that both slices can be read. -/
import Derived.Test.YtcdnflffpeijfaaDoorKit
namespace Go.Proofs.YtcdnflffpeijfaaDoor
open Go.RowKit

def EqPost (xs ys : List Int) (w : World) (e : Ending) (w' : World) : Prop := e = .returned (.bool (decide (xs = ys))) ∧ ∃ n, w' = w.drewN n

theorem eq_no {xs ys : List Int} (h : xs ≠ ys) : decide (xs = ys) = false := by simpa using h

theorem eq_of_take {xs ys : List Int} (hl : xs.length = ys.length) (k : Nat) (hk : xs.length ≤ k) (h : xs.take k = ys.take k) : xs = ys := by
  rw [List.take_of_length_le hk, List.take_of_length_le (by omega)] at h
  exact h

set_option maxHeartbeats 1000000 in
theorem equal_any {w : World} {v u : Value} {xs ys : List Int} (hv : SlI w v xs) (hu : SlI w u ys) : Calls Tryd.prog 13 #[v, u] w (EqPost xs ys w) := by
  have hvs : ∃ a cap, v = .slice a xs.length cap := by
    rcases hv with ⟨rfl, a, cap, rfl⟩ | ⟨b, off, cap, rfl, _⟩
    · exact ⟨a, cap, rfl⟩
    · exact ⟨_, cap, rfl⟩
  have hus : ∃ a cap, u = .slice a ys.length cap := by
    rcases hu with ⟨rfl, a, cap, rfl⟩ | ⟨b, off, cap, rfl, _⟩
    · exact ⟨a, cap, rfl⟩
    · exact ⟨_, cap, rfl⟩
  by_cases hl : xs.length = ys.length
  · by_cases h0 : xs.length = 0
    · obtain ⟨a, cap, rfl⟩ := hvs
      obtain ⟨a', cap', rfl⟩ := hus
      have e1 : xs = [] := List.eq_nil_of_length_eq_zero h0
      have e2 : ys = [] := List.eq_nil_of_length_eq_zero (by omega)
      subst e1 e2
      clear hv hu hl h0
      go_enter Tryd.func13, Tryd.ntmps13
      go_wp2
      refine wp_loop_rounds 1 ?_
      rw [rounds_succ]
      go_wp2
      go_ret
      exact ⟨rfl, 0, rfl⟩
    · rcases hv with ⟨rfl, _⟩ | ⟨b, off, cap, rfl, hm, hb, _, hc⟩
      · simp at h0
      · rcases hu with ⟨rfl, _⟩ | ⟨b', off', cap', rfl, hm', hb', _, hc'⟩
        · exact absurd (by simpa using hl) h0
        · unfold maxLen at hm
          have HL := Lib.hid hl
          have hlx : (ys.length : Int) = xs.length := by omega
          have hly : ys.length ≤ xs.length := by omega
          have hlz : xs.length ≤ ys.length := by omega
          rw [← hl]
          clear hl hvs hus
          generalize hX : xs.length = n at *
          have HX := Lib.hid hX
          clear hX hlx
          go_enter Tryd.func13, Tryd.ntmps13
          go_wp2
          go_loopw [13] (fun i wr => ∃ k m : Nat, i = .int .i64 k ∧ k ≤ n ∧ xs.take k = ys.take k ∧ wr = w.drewN m) (fun i _ => n - (intOf i).toNat)
          case atStart => exact ⟨0, 0, rfl, Nat.zero_le _, rfl, rfl⟩
          case round =>
            obtain ⟨k, m, rfl, hk, ht, rfl⟩ := hrel
            have HT := Lib.hid ht
            clear ht
            by_cases hk' : k < n
            · have c1 := hc k hk'
              have c2 := hc' k (by omega)
              have h1 : k < xs.length := by have := HX.out; omega
              have h2 : k < ys.length := by have := HX.out; omega
              clear hc hc'
              by_cases hx : xs.getD k 0 = ys.getD k 0
              · have htt : xs.take (k + 1) = ys.take (k + 1) := by rw [take_last _ _ h1, take_last _ _ h2, HT.out, hx]
                rw [← hx] at c2
                have HTT := Lib.hid htt
                clear htt hx h1 h2
                generalize xs.getD k 0 = x at *
                go_wp2
                go_quiet (fail)
                go_wp2
                go_roundw
                case rel => exact ⟨k + 1, _, by go_num, by omega, HTT.out, rfl⟩
                case measure => simp [intOf]; omega
              · have hb1 : (xs.getD k 0 != ys.getD k 0) = true := by rw [bne_iff_ne]; exact hx
                have hne : xs ≠ ys := fun e => hx (by rw [e])
                have HN := Lib.hid (eq_no hne)
                clear hx hne h1 h2
                generalize xs.getD k 0 = x at *
                generalize ys.getD k 0 = y at *
                go_wp2
                go_quiet (fail)
                go_wp2
                go_ret
                refine ⟨?_, _, World.drewN_drewN _ _ _⟩
                rw [HN.out]
                rfl
            · have HE := Lib.hid (decide_eq_true (eq_of_take (HX.out.trans HL.out) k (by have := HX.out; omega) HT.out))
              go_wp2
              go_ret
              refine ⟨?_, _, rfl⟩
              rw [HE.out]
              rfl
  · obtain ⟨a, cap, rfl⟩ := hvs
    obtain ⟨a', cap', rfl⟩ := hus
    have hne : ((xs.length : Int) != (ys.length : Int)) = true := by simp; omega
    have HN := Lib.hid (eq_no (fun e : xs = ys => hl (by rw [e])))
    clear hv hu
    generalize xs.length = n at *
    generalize ys.length = m at *
    clear hl
    go_enter Tryd.func13, Tryd.ntmps13
    go_wp2
    go_ret
    refine ⟨?_, 0, rfl⟩
    rw [HN.out]
    rfl
end Go.Proofs.YtcdnflffpeijfaaDoor
