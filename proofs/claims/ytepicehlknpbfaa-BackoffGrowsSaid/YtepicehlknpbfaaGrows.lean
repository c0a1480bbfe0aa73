/- BackoffGrows: for every input the call returns true, and nothing that was there has changed. No condition. -/
import Derived.Test.YtepicehlknpbfaaMade
namespace Go.Proofs.Ytepicehlknpbfaa
open Go.RowKit

/-- What a round needs of the wait. -/
theorem grows_facts {b c : Nat} (h1 : 1 ≤ b) (h2 : b ≤ c) (h3 : c ≤ 1048576) {k : Nat} (hk : 1 ≤ k) :
    b ≤ wj b c (k - 1) ∧ wj b c (k - 1) ≤ c ∧ (wj b c (k - 1) = c ↔ stepsOf b c ≤ k) ∧ (k = 1 → wj b c (k - 1) = b) ∧ (1 < k → k < stepsOf b c → wj b c (k - 1) = 2 * wj b c (k - 2)) ∧ (1 < k → wj b c (k - 2) ≤ wj b c (k - 1) ∧ wj b c (k - 1) ≤ 2 * wj b c (k - 2)) := by
  have hi := steps_iff h2 h1 h3 hk
  refine ⟨wj_ge h2 _, wj_le h2 _, hi, fun h => by subst h; rfl, fun h h' => ?_, fun h => ?_⟩
  · obtain ⟨j, rfl⟩ : ∃ j, k = j + 2 := ⟨k - 2, by omega⟩
    have hne : wj b c (j + 2 - 1) ≠ c := fun he => by have := hi.1 he; omega
    show min (2 * wj b c j) c = _
    have e : wj b c (j + 2 - 1) = min (2 * wj b c j) c := rfl
    rw [e] at hne
    show min (2 * wj b c j) c = 2 * wj b c j
    omega
  · obtain ⟨j, rfl⟩ : ∃ j, k = j + 2 := ⟨k - 2, by omega⟩
    have e : wj b c (j + 2 - 1) = min (2 * wj b c j) c := rfl
    have := wj_step h2 j
    have e3 : wj b c (j + 1) = min (2 * wj b c j) c := rfl
    rw [e]
    show wj b c j ≤ _ ∧ _
    have e4 : wj b c (j + 2 - 2) = wj b c j := rfl
    rw [e4]
    omega

set_option maxRecDepth 100000 in
set_option maxHeartbeats 4000000 in
theorem grows_walk (n m : Nat) (hn : n ≤ 4294967295) (hm : m ≤ 4294967295) (w : World) : Calls Try.prog 6 #[.int .u32 n, .int .u32 m] w fun e w' => e = .returned (.bool true) ∧ Below w.heap.size w w' := by
  obtain ⟨b, c, h1, h2, h3, hmade⟩ := made_ex n m hn hm
  have HM := Lib.hid hmade
  clear hmade
  have hs := steps_spec h2 h1 h3
  have hs1 := hs.1
  have hs2 := hs.2.1
  clear hs
  have HS := Lib.hid (Steps_any b c)
  rw [fine_errF h1 h2 h3, fine_steps h1 h2 h3] at HS
  have HG := Lib.hid (fun k (hk : 1 ≤ k) => grows_facts h1 h2 h3 (k := k) hk)
  have HW : Hid (∀ (t : Nat), 1 ≤ t → t ≤ 64 → ∀ w : World, Calls Try.prog 11 #[.int .i64 t, .int .i64 b, .int .i64 c] w (NumPost (wj b c (t - 1)) 0 w)) :=
    Lib.hid (fun t ht ht4 w => by
      have hf := fine_t (t := t) ht ht4 h1 h2 h3
      have := Wait_any t b c w
      rwa [fine_errT hf, fine_wait hf] at this)
  generalize stepsOf b c = s at *
  go_enter Try.func6, Try.ntmps6
  go_wp2_with fail
  refine (HM.out _).mono ?_
  rintro e w' ⟨rfl, q, rfl⟩
  go_wp2_with fail
  refine (HS.out _).mono ?_
  rintro e w1 ⟨rfl, k1⟩
  have hK1 := ((Keeps.refl [] w).drewN q).trans k1
  clear k1
  have d1 : decide ((s : Int) < 1) = false := decide_eq_false (by omega)
  have d2 : decide ((21 : Int) < s) = false := decide_eq_false (by omega)
  clear HS HM
  go_wp2_with fail
  go_loopw [9, 10] (fun l i wr => ∃ (k u : Nat), i = .int .i64 k ∧ 1 ≤ k ∧ k ≤ 65 ∧ l = .int .i64 u ∧ (1 < k → u = wj b c (k - 2)) ∧ Keeps [] w wr) (fun _ i _ => 65 - (intOf i).toNat)
  case atStart => exact ⟨1, 0, rfl, by omega, by omega, rfl, fun h => by omega, hK1⟩
  case round =>
    obtain ⟨k, u, rfl, hk1, hk65, rfl, hu, hK⟩ := hrel
    by_cases hlt : k ≤ 64
    · have HWk := Lib.hid (HW.out k hk1 hlt)
      have hG := HG.out k hk1
      have hP : Hid (1 < k + 1 → wj b c (k - 1) = wj b c (k + 1 - 2)) := fun _ => rfl
      obtain ⟨g1, g2, g3, g4, g5, g6⟩ := hG
      have HU := Lib.hid hu
      have G5 : Hid (1 < k → k < s → wj b c (k - 1) = 2 * u) := fun h h' => by rw [HU.out h]; exact g5 h h'
      have G6 : Hid (1 < k → u ≤ wj b c (k - 1) ∧ wj b c (k - 1) ≤ 2 * u) := fun h => by rw [HU.out h]; exact g6 h
      clear g5 g6 hu HU HG HW
      generalize wj b c (k - 1) = x at *
      have HK := Lib.hid hK
      clear hK
      have q1 : decide ((x : Int) < b) = false := decide_eq_false (by omega)
      have q2 : decide ((c : Int) < x) = false := decide_eq_false (by omega)
      by_cases hk : k = 1
      · obtain rfl : x = b := g4 hk
        subst hk
        clear g4 G5 G6
        by_cases hs : s ≤ 1
        · obtain rfl : x = c := g3.2 hs
          have q3 : decide ((s : Int) ≤ 1) = true := decide_eq_true (by omega)
          clear g3
          go_wp2_with fail
          refine (HWk.out _).mono ?_
          rintro e w2 ⟨rfl, k2⟩
          go_wp2_with fail
          go_roundw
          case rel => exact ⟨2, x, by go_num, by omega, by omega, rfl, hP.out, HK.out.trans k2⟩
          case measure => simp [intOf] <;> omega
        · have hne : x ≠ c := fun h => hs (g3.1 h)
          have q3 : decide ((s : Int) ≤ 1) = false := decide_eq_false (by omega)
          have q4 : ((x : Int) == (c : Int)) = false := beq_eq_false_iff_ne.2 (by omega)
          clear g3 hne
          go_wp2_with fail
          refine (HWk.out _).mono ?_
          rintro e w2 ⟨rfl, k2⟩
          go_wp2_with fail
          go_roundw
          case rel => exact ⟨2, x, by go_num, by omega, by omega, rfl, hP.out, HK.out.trans k2⟩
          case measure => simp [intOf] <;> omega
      · have q0 : ((k : Int) == 1) = false := beq_eq_false_iff_ne.2 (by omega)
        clear g4
        by_cases hs : s ≤ k
        · obtain rfl : x = c := g3.2 hs
          obtain ⟨g7, g8⟩ := G6.out (by omega)
          have q3 : decide ((s : Int) ≤ k) = true := decide_eq_true (by omega)
          have q5 : decide ((k : Int) < s) = false := decide_eq_false (by omega)
          have q6 : decide ((x : Int) < u) = false := decide_eq_false (by omega)
          have q7 : decide (2 * (u : Int) < x) = false := decide_eq_false (by omega)
          clear g3 G5 G6
          go_wp2_with fail
          refine (HWk.out _).mono ?_
          rintro e w2 ⟨rfl, k2⟩
          go_wp2_with fail
          go_roundw
          case rel => exact ⟨k + 1, x, by go_num, by omega, by omega, rfl, hP.out, HK.out.trans k2⟩
          case measure => simp [intOf] <;> omega
        · have hne : x ≠ c := fun h => hs (g3.1 h)
          have q3 : decide ((s : Int) ≤ k) = false := decide_eq_false (by omega)
          have q5 : decide ((k : Int) < s) = true := decide_eq_true (by omega)
          have q4 : ((x : Int) == (c : Int)) = false := beq_eq_false_iff_ne.2 (by omega)
          obtain rfl : x = 2 * u := G5.out (by omega) (by omega)
          clear g3 hne G5 G6
          have e2 : ((2 * u : Nat) : Int) = 2 * (u : Int) := by omega
          rw [e2] at HWk q1 q2 q4
          have HE := Lib.hid e2
          clear e2
          go_wp2_with fail
          refine (HWk.out _).mono ?_
          rintro e w2 ⟨rfl, k2⟩
          go_wp2_with fail
          go_roundw
          case rel => exact ⟨k + 1, (2 * u), by go_num, by omega, by omega, rfl, hP.out, HK.out.trans k2⟩
          case measure => simp [intOf] <;> omega
    · obtain rfl : k = 65 := by omega
      clear HG HW hu
      have d3 : decide ((65 : Int) ≤ 64) = false := rfl
      go_wp2_with fail
      refine (works_ok _).mono ?_
      rintro e w3 ⟨rfl, k3⟩
      have hKK := hK.trans (Keeps.of_below k3)
      go_wp2_with fail
      go_ret
      exact ⟨rfl, hKK.below⟩
end Go.Proofs.Ytepicehlknpbfaa
