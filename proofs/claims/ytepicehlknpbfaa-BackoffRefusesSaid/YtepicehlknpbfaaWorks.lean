/- The contracts of the program's functions at all numbers, and works: it returns true and changes nothing that was there. No condition. -/
import Derived.Test.YtepicehlknpbfaaRef2
import Derived.Test.YtepicehlknpbfaaEqual
namespace Go.Proofs.Ytepicehlknpbfaa
open Go.RowKit

instance (t b c : Int) : Decidable (FineT t b c) := by unfold FineT; infer_instance
instance (n t b c : Int) : Decidable (FineN n t b c) := by unfold FineN; infer_instance
def errF (b c : Int) : Int := if Fine b c then 0 else 2
def errT (t b c : Int) : Int := if FineT t b c then 0 else 2
def waitN (t b c : Int) : Int := if FineT t b c then (wj b.toNat c.toNat (t.toNat - 1) : Int) else 0
noncomputable def stepsN (b c : Int) : Int := if Fine b c then (stepsOf b.toNat c.toNat : Int) else 0
def sumN (t b c : Int) : Int := if FineT t b c then (sumTo b.toNat c.toNat t.toNat : Int) else 0
def allN (t b c : Int) : List Int := if FineT t b c then waitsTo b.toNat c.toNat t.toNat else []
def nextN (n t b c : Int) : Int := if FineN n t b c then nextNum n b.toNat c.toNat t.toNat else 0
def errN (n t b c : Int) : Int := if FineN n t b c then nextErr n b.toNat c.toNat t.toNat else 2

theorem FineT.nats {t b c : Int} (h : FineT t b c) : ∃ t' b' c' : Nat, t = t' ∧ b = b' ∧ c = c' := by
  obtain ⟨h1, h2, h3, h4, h5⟩ := h
  exact ⟨t.toNat, b.toNat, c.toNat, by omega, by omega, by omega⟩
theorem Fine.nats {b c : Int} (h : Fine b c) : ∃ b' c' : Nat, b = b' ∧ c = c' := by
  obtain ⟨h3, h4, h5⟩ := h
  exact ⟨b.toNat, c.toNat, by omega, by omega⟩

theorem Check_any (b c : Int) (w : World) : Calls Try.prog 15 #[.int .i64 b, .int .i64 c] w fun e w' => e = .returned (.int .i64 (errF b c)) ∧ w = w' := by
  unfold errF
  by_cases h : Fine b c
  · rw [if_pos h]; exact Check_ok h w
  · rw [if_neg h]; exact Check_no h w
theorem RCheck_any (b c : Int) (w : World) : Calls Try.prog 16 #[.int .i64 b, .int .i64 c] w fun e w' => e = .returned (.int .i64 (errF b c)) ∧ w = w' := by
  unfold errF
  by_cases h : Fine b c
  · rw [if_pos h]; exact RCheck_ok h w
  · rw [if_neg h]; exact RCheck_no h w
theorem Wait_any (t b c : Int) (w : World) : Calls Try.prog 11 #[.int .i64 t, .int .i64 b, .int .i64 c] w (NumPost (waitN t b c) (errT t b c) w) := by
  unfold waitN errT
  by_cases h : FineT t b c
  · rw [if_pos h, if_pos h]
    obtain ⟨t, b, c, rfl, rfl, rfl⟩ := h.nats
    exact Wait_ok h w
  · rw [if_neg h, if_neg h]; exact Wait_no h w
theorem RWait_any (t b c : Int) (w : World) : Calls Try.prog 12 #[.int .i64 t, .int .i64 b, .int .i64 c] w fun e w' => e = .returned (.tuple #[.int .i64 (waitN t b c), .int .i64 (errT t b c)]) ∧ w = w' := by
  unfold waitN errT
  by_cases h : FineT t b c
  · rw [if_pos h, if_pos h]
    obtain ⟨t, b, c, rfl, rfl, rfl⟩ := h.nats
    exact RWait_ok h w
  · rw [if_neg h, if_neg h]; exact RWait_no h w
theorem Steps_any (b c : Int) (w : World) : Calls Try.prog 13 #[.int .i64 b, .int .i64 c] w (NumPost (stepsN b c) (errF b c) w) := by
  unfold stepsN errF
  by_cases h : Fine b c
  · rw [if_pos h, if_pos h]
    obtain ⟨b, c, rfl, rfl⟩ := h.nats
    exact Steps_ok h w
  · rw [if_neg h, if_neg h]; exact Steps_no h w
theorem RSteps_any (b c : Int) (w : World) : Calls Try.prog 14 #[.int .i64 b, .int .i64 c] w fun e w' => e = .returned (.tuple #[.int .i64 (stepsN b c), .int .i64 (errF b c)]) ∧ w = w' := by
  unfold stepsN errF
  by_cases h : Fine b c
  · rw [if_pos h, if_pos h]
    obtain ⟨b, c, rfl, rfl⟩ := h.nats
    exact RSteps_ok h w
  · rw [if_neg h, if_neg h]; exact RSteps_no h w
/-- A list of waits and an error. -/
def ListPost (ws : List Int) (er : Int) (w : World) (e : Ending) (w' : World) : Prop := ∃ v, e = .returned (.tuple #[v, .int .i64 er]) ∧ OwnI w' w.heap.size v ws ∧ Keeps [] w w'
theorem All_any (t b c : Int) (w : World) : Calls Try.prog 18 #[.int .i64 t, .int .i64 b, .int .i64 c] w (ListPost (allN t b c) (errT t b c) w) := by
  unfold allN errT
  by_cases h : FineT t b c
  · rw [if_pos h, if_pos h]
    obtain ⟨t, b, c, rfl, rfl, rfl⟩ := h.nats
    exact All_ok h w
  · rw [if_neg h, if_neg h]
    refine (All_no h w).mono ?_
    rintro e w' ⟨rfl, hk⟩
    exact ⟨_, rfl, OwnI.nil _ _, hk⟩
theorem RAll_any (t b c : Int) (w : World) : Calls Try.prog 19 #[.int .i64 t, .int .i64 b, .int .i64 c] w (ListPost (allN t b c) (errT t b c) w) := by
  unfold allN errT
  by_cases h : FineT t b c
  · rw [if_pos h, if_pos h]
    obtain ⟨t, b, c, rfl, rfl, rfl⟩ := h.nats
    exact RAll_ok h w
  · rw [if_neg h, if_neg h]
    refine (RAll_no h w).mono ?_
    rintro e w' ⟨rfl, rfl⟩
    exact ⟨_, rfl, OwnI.nil _ _, Keeps.refl _ _⟩
theorem Sum_any (t b c : Int) (w : World) : Calls Try.prog 20 #[.int .i64 t, .int .i64 b, .int .i64 c] w (NumPost (sumN t b c) (errT t b c) w) := by
  unfold sumN errT
  by_cases h : FineT t b c
  · rw [if_pos h, if_pos h]
    obtain ⟨t, b, c, rfl, rfl, rfl⟩ := h.nats
    exact Sum_ok h w
  · rw [if_neg h, if_neg h]; exact Sum_no h w
theorem RSum_any (t b c : Int) (w : World) : Calls Try.prog 21 #[.int .i64 t, .int .i64 b, .int .i64 c] w (NumPost (sumN t b c) (errT t b c) w) := by
  unfold sumN errT
  by_cases h : FineT t b c
  · rw [if_pos h, if_pos h]
    obtain ⟨t, b, c, rfl, rfl, rfl⟩ := h.nats
    exact RSum_ok h w
  · rw [if_neg h, if_neg h]
    refine (RSum_no h w).mono ?_
    rintro e w' ⟨rfl, rfl⟩
    exact ⟨rfl, Keeps.refl _ _⟩
theorem Next_any (n t b c : Int) (w : World) : Calls Try.prog 23 #[.int .i64 n, .int .i64 t, .int .i64 b, .int .i64 c] w (NumPost (nextN n t b c) (errN n t b c) w) := by
  unfold nextN errN
  by_cases h : FineN n t b c
  · rw [if_pos h, if_pos h]
    obtain ⟨t, b, c, rfl, rfl, rfl⟩ := h.2.2.nats
    exact Next_fine h w
  · rw [if_neg h, if_neg h]; exact Next_no h w
theorem RNext_any (n t b c : Int) (w : World) : Calls Try.prog 24 #[.int .i64 n, .int .i64 t, .int .i64 b, .int .i64 c] w fun e w' => e = .returned (.tuple #[.int .i64 (nextN n t b c), .int .i64 (errN n t b c)]) ∧ w = w' := by
  unfold nextN errN
  by_cases h : FineN n t b c
  · rw [if_pos h, if_pos h]
    obtain ⟨t, b, c, rfl, rfl, rfl⟩ := h.2.2.nats
    exact RNext_fine h w
  · rw [if_neg h, if_neg h]; exact RNext_no h w

theorem steps_ten : stepsOf 10 100 = 5 := by
  have h1 := (steps_iff (b := 10) (c := 100) (by omega) (by omega) (by omega) (k := 5) (by omega)).1 (by decide)
  have h2 := mt (steps_iff (b := 10) (c := 100) (by omega) (by omega) (by omega) (k := 4) (by omega)).2 (by decide)
  omega

set_option maxRecDepth 100000 in
set_option maxHeartbeats 2000000 in
theorem works_ok (w : World) : Calls Try.prog 17 #[] w fun e w' => e = .returned (.bool true) ∧ Below w.heap.size w w' := by
  have e1 : waitN 4 10 100 = 80 := by decide
  have e2 : errT 4 10 100 = 0 := by decide
  have e3 : waitN 64 10 100 = 100 := by decide
  have e4 : errT 64 10 100 = 0 := by decide
  have e5 : allN 5 10 100 = [10, 20, 40, 80, 100] := by decide
  have e6 : errT 5 10 100 = 0 := by decide
  have e7 : sumN 5 10 100 = 250 := by decide
  have e8 : stepsN 10 100 = 5 := by unfold stepsN; rw [if_pos (by decide)]; show ((stepsOf 10 100 : Nat) : Int) = 5; rw [steps_ten]; rfl
  have e9 : errF 10 100 = 0 := by decide
  have e10 : nextN 1000 3 10 100 = 1040 := by decide
  have e11 : errN 1000 3 10 100 = 0 := by decide
  have e12 : errN 1099511627776 1 1 1 = 17 := by decide
  have e13 : errT 65 1 1 = 2 := by decide
  have c1 := fun w => Wait_any 4 10 100 w
  have c2 := fun w => Wait_any 64 10 100 w
  have c3 := fun w => All_any 5 10 100 w
  have c4 := fun w => Sum_any 5 10 100 w
  have c5 := fun w => Steps_any 10 100 w
  have c6 := fun w => Next_any 1000 3 10 100 w
  have c7 := fun w => Next_any 1099511627776 1 1 1 w
  have c8 := fun w => Wait_any 65 1 1 w
  rw [e1, e2] at c1
  rw [e3, e4] at c2
  rw [e5, e6] at c3
  rw [e7, e6] at c4
  rw [e8, e9] at c5
  rw [e10, e11] at c6
  rw [e12] at c7
  rw [e13] at c8
  have C1 := Lib.hid c1
  have C2 := Lib.hid c2
  have C3 := Lib.hid c3
  have C4 := Lib.hid c4
  have C5 := Lib.hid c5
  have C6 := Lib.hid c6
  have C7 := Lib.hid c7
  have C8 := Lib.hid c8
  clear c1 c2 c3 c4 c5 c6 c7 c8 e1 e2 e3 e4 e5 e6 e7 e8 e9 e10 e11 e12 e13
  go_enter Try.func17, Try.ntmps17
  go_wp2_with fail
  refine (C1.out _).mono ?_
  rintro e w1 ⟨rfl, k1⟩
  go_wp2_with fail
  refine (C2.out _).mono ?_
  rintro e w2 ⟨rfl, k2⟩
  go_wp2_with fail
  refine (C3.out _).mono ?_
  rintro e w3 ⟨v, rfl, hv, k3⟩
  go_wp2_with fail
  refine (C4.out _).mono ?_
  rintro e w4 ⟨rfl, k4⟩
  go_wp2_with fail
  refine (C5.out _).mono ?_
  rintro e w5 ⟨rfl, k5⟩
  go_wp2_with fail
  refine (C6.out _).mono ?_
  rintro e w6 ⟨rfl, k6⟩
  go_wp2_with fail
  refine (C7.out _).mono ?_
  rintro e w7 ⟨rfl, k7⟩
  generalize nextN 1099511627776 1 1 1 = u7 at *
  go_wp2_with fail
  refine (C8.out _).mono ?_
  rintro e w8 ⟨rfl, k8⟩
  generalize waitN 65 1 1 = u8 at *
  have hK := ((((((k1.trans k2).trans k3).trans k4).trans k5).trans k6).trans k7).trans k8
  have hv8 := hv.keeps ((((k4.trans k5).trans k6).trans k7).trans k8) (by simp)
  clear hv
  go_wp2_with fail
  refine (equal_any (ys := [10, 20, 40, 80, 100]) ((hv8.alloc _).sl (by decide)) (SlI.lit (Blk.new w8 2 #[.int .i64 10, .int .i64 20, .int .i64 40, .int .i64 80, .int .i64 100]) rfl (by decide))).mono ?_
  rintro e w' ⟨rfl, n, rfl⟩
  have hK9 := (hK.alloc (.cells #[.int .i64 10, .int .i64 20, .int .i64 40, .int .i64 80, .int .i64 100] 2)).drewN n
  go_wp2_with fail
  go_ret
  exact ⟨rfl, hK9.below⟩
end Go.Proofs.Ytepicehlknpbfaa
