/- BackoffTimes, BackoffLonger: for every input the call returns true, and nothing that was there has changed. No condition. -/
import Derived.Test.YtepicehlknpbfaaMade
namespace Go.Proofs.Ytepicehlknpbfaa
open Go.RowKit

set_option maxRecDepth 100000 in
set_option maxHeartbeats 4000000 in
theorem times_walk (n m t r : Nat) (hn : n ≤ 4294967295) (hm : m ≤ 4294967295) (ht : t ≤ 255) (hr : r ≤ 4294967295) (w : World) : Calls Try.prog 8 #[.int .u32 n, .int .u32 m, .int .u8 t, .int .u32 r] w fun e w' => e = .returned (.bool true) ∧ Below w.heap.size w w' := by
  obtain ⟨b, c, h1, h2, h3, hmade⟩ := made_ex n m hn hm
  have HM := Lib.hid hmade
  clear hmade
  obtain ⟨k, hk⟩ : ∃ k, 1 + t % 64 = k := ⟨_, rfl⟩
  have hk1 : 1 ≤ k := by omega
  have hk2 : k ≤ 64 := by omega
  have e1 : (1 : Int) + (t : Int) % 64 = (k : Int) := by omega
  obtain ⟨q, hq⟩ : ∃ q : Int, 1099511627776 - (r : Int) % 4194304 = q := ⟨_, rfl⟩
  have hq1 : 0 ≤ q := by omega
  have hq2 : q ≤ 1099511627776 := by omega
  have e2 : Int.tmod (r : Int) 4194304 = (r : Int) % 4194304 := Int.tmod_eq_emod_of_nonneg (by omega)
  have hf := fine_t (t := k) hk1 hk2 h1 h2 h3
  have HW := Lib.hid (Wait_any k b c)
  rw [fine_errT hf, fine_wait hf] at HW
  have hfn : FineN q k b c := ⟨hq1, hq2, hf⟩
  have HN := Lib.hid (Next_any q k b c)
  rw [show nextN q k b c = nextNum q b c k from if_pos hfn, show errN q k b c = nextErr q b c k from if_pos hfn] at HN
  unfold nextNum nextErr at HN
  clear hfn hf
  generalize wj b c (k - 1) = x at *
  have E1 := Lib.hid e1
  have E2 := Lib.hid e2
  have HQ := Lib.hid hq
  clear e1 e2 hq hk
  by_cases hx : (x : Int) ≤ 1099511627776 - q
  · rw [if_pos hx, if_pos hx] at HN
    have d1 : decide (1099511627776 - q < (x : Int)) = false := decide_eq_false (by omega)
    go_enter Try.func8, Try.ntmps8
    go_wp2_with fail
    refine (HM.out _).mono ?_
    rintro e w' ⟨rfl, j, rfl⟩
    have E2 := E2.out
    go_wp2_with fail
    rw [E1.out, HQ.out]
    have hK0 := (Keeps.refl [] w).drewN j
    clear E2
    generalize w.drewN j = w0 at *
    refine (HW.out _).mono ?_
    rintro e w1 ⟨rfl, k1⟩
    have hK1 := hK0.trans k1
    go_wp2_with fail
    refine (HN.out _).mono ?_
    rintro e w2 ⟨rfl, k2⟩
    have hK2 := hK1.trans k2
    go_wp2_with fail
    refine (works_ok _).mono ?_
    rintro e w3 ⟨rfl, k3⟩
    have hK3 := hK2.trans (Keeps.of_below k3)
    go_wp2_with fail
    go_ret
    exact ⟨rfl, hK3.below⟩
  · rw [if_neg hx, if_neg hx] at HN
    have d1 : decide (1099511627776 - q < (x : Int)) = true := decide_eq_true (by omega)
    go_enter Try.func8, Try.ntmps8
    go_wp2_with fail
    refine (HM.out _).mono ?_
    rintro e w' ⟨rfl, j, rfl⟩
    have E2 := E2.out
    go_wp2_with fail
    rw [E1.out, HQ.out]
    have hK0 := (Keeps.refl [] w).drewN j
    clear E2
    generalize w.drewN j = w0 at *
    refine (HW.out _).mono ?_
    rintro e w1 ⟨rfl, k1⟩
    have hK1 := hK0.trans k1
    go_wp2_with fail
    refine (HN.out _).mono ?_
    rintro e w2 ⟨rfl, k2⟩
    have hK2 := hK1.trans k2
    go_wp2_with fail
    refine (works_ok _).mono ?_
    rintro e w3 ⟨rfl, k3⟩
    have hK3 := hK2.trans (Keeps.of_below k3)
    go_wp2_with fail
    go_ret
    exact ⟨rfl, hK3.below⟩

/-- The longer of two waits is no shorter. -/
theorem wj_both {b c d f : Nat} (h2 : b ≤ c) (h4 : d ≤ f) (j : Nat) :
    wj b c j ≤ wj (max b d) (max c f) j ∧ wj (min b d) (min c f) j ≤ wj b c j := by
  rw [wj_eq h2, wj_eq (show max b d ≤ max c f by omega), wj_eq (show min b d ≤ min c f by omega)]
  have h1 : b * 2 ^ j ≤ max b d * 2 ^ j := Nat.mul_le_mul_right _ (by omega)
  have h3 : min b d * 2 ^ j ≤ b * 2 ^ j := Nat.mul_le_mul_right _ (by omega)
  omega

set_option maxRecDepth 100000 in
set_option maxHeartbeats 4000000 in
theorem longer_walk (n m n2 m2 t : Nat) (hn : n ≤ 4294967295) (hm : m ≤ 4294967295) (hn2 : n2 ≤ 4294967295) (hm2 : m2 ≤ 4294967295) (ht : t ≤ 255) (w : World) : Calls Try.prog 9 #[.int .u32 n, .int .u32 m, .int .u32 n2, .int .u32 m2, .int .u8 t] w fun e w' => e = .returned (.bool true) ∧ Below w.heap.size w w' := by
  obtain ⟨b, c, h1, h2, h3, hmade⟩ := made_ex n m hn hm
  have HM := Lib.hid hmade
  clear hmade
  obtain ⟨d, f, g1, g2, g3, hmade⟩ := made_ex n2 m2 hn2 hm2
  have HM2 := Lib.hid hmade
  clear hmade
  obtain ⟨k, hk⟩ : ∃ k, 1 + t % 64 = k := ⟨_, rfl⟩
  have hk1 : 1 ≤ k := by omega
  have hk2 : k ≤ 64 := by omega
  have e1 : (1 : Int) + (t : Int) % 64 = (k : Int) := by omega
  have HW1 := Lib.hid (Wait_any k b c)
  have HW2 := Lib.hid (Wait_any k (max b d : Nat) (max c f : Nat))
  have HW3 := Lib.hid (Wait_any k (min b d : Nat) (min c f : Nat))
  have f1 := fine_t (t := k) hk1 hk2 h1 h2 h3
  have f2 := fine_t (t := k) (b := max b d) (c := max c f) hk1 hk2 (by omega) (by omega) (by omega)
  have f3 := fine_t (t := k) (b := min b d) (c := min c f) hk1 hk2 (by omega) (by omega) (by omega)
  rw [fine_errT f1, fine_wait f1] at HW1
  rw [fine_errT f2, fine_wait f2] at HW2
  rw [fine_errT f3, fine_wait f3] at HW3
  obtain ⟨hb1, hb2⟩ := wj_both h2 g2 (k - 1)
  clear f1 f2 f3
  generalize wj b c (k - 1) = x at *
  generalize wj (max b d) (max c f) (k - 1) = y at *
  generalize wj (min b d) (min c f) (k - 1) = z at *
  have E1 := Lib.hid e1
  clear e1 hk
  have q1 : decide ((x : Int) ≤ y) = true := decide_eq_true (by omega)
  have q2 : decide ((z : Int) ≤ x) = true := decide_eq_true (by omega)
  rcases Nat.lt_trichotomy b d with u1 | u1 | u1
  all_goals rcases Nat.lt_trichotomy c f with u2 | u2 | u2
  all_goals
    try subst u1
    try subst u2
    have y2 := HW2.out
    have y3 := HW3.out
    clear HW2 HW3
    first | rw [show max b d = d by omega] at y2 | rw [show max b d = b by omega] at y2 | rw [Nat.max_self] at y2
    first | rw [show max c f = f by omega] at y2 | rw [show max c f = c by omega] at y2 | rw [Nat.max_self] at y2
    first | rw [show min b d = b by omega] at y3 | rw [show min b d = d by omega] at y3 | rw [Nat.min_self] at y3
    first | rw [show min c f = c by omega] at y3 | rw [show min c f = f by omega] at y3 | rw [Nat.min_self] at y3
    have Y2 := Lib.hid y2
    have Y3 := Lib.hid y3
    clear y2 y3
    go_enter Try.func9, Try.ntmps9
    go_wp2_with fail
    refine (HM.out _).mono ?_
    rintro e w' ⟨rfl, j, rfl⟩
    go_wp2_with fail
    refine (HM2.out _).mono ?_
    rintro e w' ⟨rfl, j2, rfl⟩
    go_wp2_with fail
    rw [E1.out]
    have hK0 := (Keeps.refl [] w).drewN (j + j2)
    generalize w.drewN (j + j2) = w0 at *
    refine (HW1.out _).mono ?_
    rintro e w1 ⟨rfl, k1⟩
    have hK1 := hK0.trans k1
    go_wp2_with fail
    refine (Y2.out _).mono ?_
    rintro e w2 ⟨rfl, k2⟩
    have hK2 := hK1.trans k2
    go_wp2_with fail
    refine (Y3.out _).mono ?_
    rintro e w3 ⟨rfl, k3⟩
    have hK3 := hK2.trans k3
    go_wp2_with fail
    refine (works_ok _).mono ?_
    rintro e w4 ⟨rfl, k4⟩
    have hK4 := hK3.trans (Keeps.of_below k4)
    go_wp2_with fail
    go_ret
    exact ⟨rfl, hK4.below⟩
end Go.Proofs.Ytepicehlknpbfaa
