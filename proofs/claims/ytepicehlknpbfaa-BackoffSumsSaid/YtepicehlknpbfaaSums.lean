/- BackoffSums: for every input the call returns true, and nothing that was there has changed. No condition. -/
import Derived.Test.YtepicehlknpbfaaMade
namespace Go.Proofs.Ytepicehlknpbfaa
open Go.RowKit

theorem sumTo_tail {b c s : Nat} (h2 : b ≤ c) (hs : 1 ≤ s) (hc : wj b c (s - 1) = c) : ∀ d, sumTo b c (s + d) = sumTo b c s + d * c
  | 0 => by simp
  | d + 1 => by
    have h := sumTo_tail h2 hs hc d
    have hw : wj b c (s + d) = c := wj_stay h2 (by omega) hc
    have e : sumTo b c (s + (d + 1)) = sumTo b c (s + d) + wj b c (s + d) := rfl
    rw [e, h, hw, Nat.succ_mul]
    omega
/-- What the end asks of the sums. -/
theorem sums_end {b c s k : Nat} (h1 : 1 ≤ b) (h2 : b ≤ c) (h3 : c ≤ 1048576) (hs : s = stepsOf b c) (hk : s ≤ k) (hk2 : k ≤ 64) :
    (sumTo b c k : Int) = (sumTo b c s : Int) + ((k : Int) - s) * c ∧ 0 ≤ ((k : Int) - s) * c ∧ ((k : Int) - s) * c ≤ 67108864 ∧ sumTo b c s ≤ 67108864 := by
  obtain ⟨a1, a2, a3, a4⟩ := steps_spec h2 h1 h3
  rw [← hs] at a1 a2 a3
  have ht := sumTo_tail h2 a1 a3 (k - s)
  rw [show s + (k - s) = k by omega] at ht
  have hm : (k - s) * c ≤ 64 * 1048576 := Nat.mul_le_mul (by omega) h3
  have hms : s * c ≤ 64 * 1048576 := Nat.mul_le_mul (by omega) h3
  have hsl := sumTo_le h2 s
  have e : ((k : Int) - s) * c = (((k - s) * c : Nat) : Int) := by rw [Int.natCast_mul, Int.natCast_sub hk]
  rw [e]
  omega

set_option maxRecDepth 100000 in
set_option maxHeartbeats 4000000 in
theorem sums_walk (n m t : Nat) (hn : n ≤ 4294967295) (hm : m ≤ 4294967295) (ht : t ≤ 255) (w : World) : Calls Try.prog 7 #[.int .u32 n, .int .u32 m, .int .u8 t] w fun e w' => e = .returned (.bool true) ∧ Below w.heap.size w w' := by
  obtain ⟨b, c, h1, h2, h3, hmade⟩ := made_ex n m hn hm
  have HM := Lib.hid hmade
  clear hmade
  obtain ⟨k, hk⟩ : ∃ k, 1 + t % 64 = k := ⟨_, rfl⟩
  have hk1 : 1 ≤ k := by omega
  have hk2 : k ≤ 64 := by omega
  have e1 : (1 : Int) + (t : Int) % 64 = (k : Int) := by omega
  have E1 := Lib.hid e1
  clear e1 hk
  have hf := fine_t (t := k) hk1 hk2 h1 h2 h3
  have HA := Lib.hid (All_any k b c)
  rw [fine_errT hf, fine_all hf] at HA
  have HW : Hid (∀ i : Nat, i < 64 → ∀ w : World, Calls Try.prog 11 #[.int .i64 ((i : Int) + 1), .int .i64 b, .int .i64 c] w (NumPost (wj b c i) 0 w)) :=
    Lib.hid (fun i hi w => by
      have hf := fine_t (t := i + 1) (by omega) (by omega) h1 h2 h3
      have := Wait_any (i + 1 : Nat) b c w
      rwa [fine_errT hf, fine_wait hf] at this)
  have HS : Hid (∀ i : Nat, i < 64 → ∀ w : World, Calls Try.prog 20 #[.int .i64 ((i : Int) + 1), .int .i64 b, .int .i64 c] w (NumPost (sumTo b c i + wj b c i : Int) 0 w)) :=
    Lib.hid (fun i hi w => by
      have hf := fine_t (t := i + 1) (by omega) (by omega) h1 h2 h3
      have := Sum_any (i + 1 : Nat) b c w
      rwa [fine_errT hf, fine_sum hf, show ((sumTo b c (i + 1) : Nat) : Int) = (sumTo b c i : Int) + wj b c i from Int.natCast_add _ _] at this)
  have HT := Lib.hid (Steps_any b c)
  rw [fine_errF h1 h2 h3, fine_steps h1 h2 h3] at HT
  have hsp := steps_spec h2 h1 h3
  have hs1 := hsp.1
  have hs2 := hsp.2.1
  clear hsp hf
  obtain ⟨s, hs⟩ : ∃ s, stepsOf b c = s := ⟨_, rfl⟩
  have HE := Lib.hid (fun h => sums_end (s := s) (k := k) h1 h2 h3 hs.symm h hk2)
  have HU : Hid (∀ w : World, s ≤ k → Calls Try.prog 20 #[.int .i64 s, .int .i64 b, .int .i64 c] w (NumPost (sumTo b c s) 0 w)) :=
    Lib.hid (fun w _ => by
      have hf := fine_t (t := s) (by omega) (by omega) h1 h2 h3
      have := Sum_any s b c w
      rwa [fine_errT hf, fine_sum hf] at this)
  have HB : Hid (∀ i, i < 64 → wj b c i ≤ c ∧ sumTo b c i ≤ 67108864) := fun i hi => ⟨wj_le h2 i, by have h := sumTo_le h2 i; have hms : i * c ≤ 64 * 1048576 := Nat.mul_le_mul (by omega) h3; omega⟩
  rw [hs] at HT hs1 hs2
  clear hs
  go_enter Try.func7, Try.ntmps7
  go_wp2_with fail
  refine (HM.out _).mono ?_
  rintro e w' ⟨rfl, j, rfl⟩
  go_wp2_with fail
  rw [E1.out]
  have hK0 := (Keeps.refl [] w).drewN j
  generalize w.drewN j = w0 at *
  refine (HA.out _).mono ?_
  rintro e w1 ⟨v, rfl, hv, k1⟩
  have hK1 := hK0.trans k1
  have hvs := hv.sl (by rw [waitsTo_length]; unfold maxLen; omega)
  rcases hvs with ⟨h, _⟩ | ⟨g, off, cap, rfl, hlm, hg, hl0, hcell⟩
  · exfalso
    have := congrArg List.length h
    rw [waitsTo_length, List.length_nil] at this
    omega
  rw [waitsTo_length] at hcell ⊢
  have HC : Hid (∀ i, i < k → w1.cell? ⟨g, off + i, none⟩ = some (.int .i64 (wj b c i))) := fun i hi => by have := hcell i hi; rwa [waitsTo_getD b c k hi] at this
  clear hcell hlm hl0 hv k1 hK0 HA
  go_wp2_with fail
  go_loopw [12, 50] (fun a i wr => ∃ (j : Nat), i = .int .i64 j ∧ j ≤ k ∧ a = .int .i64 (sumTo b c j) ∧ Keeps [] w1 wr) (fun _ i _ => k - (intOf i).toNat)
  case atStart => exact ⟨0, rfl, Nat.zero_le _, rfl, Keeps.refl _ _⟩
  case round =>
    obtain ⟨i, rfl, hik, rfl, hK⟩ := hrel
    by_cases hlt : i < k
    · have hb := HB.out i (by omega)
      have hb1 := hb.1
      have hb2 := hb.2
      have HWi := Lib.hid (HW.out i (by omega))
      have HSi := Lib.hid (HS.out i (by omega))
      have x0 : wr.cell? ⟨g, off + i, none⟩ = some (.int .i64 (wj b c i)) := (hK.cell (p := ⟨g, off + i, none⟩) hg (by simp)).trans (HC.out i hlt)
      have hP : Hid ((sumTo b c i + wj b c i : Int) = (sumTo b c (i + 1) : Int)) := (Int.natCast_add _ _).symm
      clear hb HW HS HB HC HU HE
      generalize wj b c i = x at *
      generalize sumTo b c i = y at *
      go_wp2_with fail
      refine (HWi.out _).mono ?_
      rintro e w2 ⟨rfl, k2⟩
      have hK2 := hK.trans k2
      clear x0
      go_wp2_with fail
      refine (HSi.out _).mono ?_
      rintro e w3 ⟨rfl, k3⟩
      have hK3 := hK2.trans k3
      go_wp2_with fail
      go_roundw
      case rel => exact ⟨i + 1, by go_num, by omega, by rw [hP.out], hK3⟩
      case measure => simp [intOf]; omega
    · obtain rfl : i = k := by omega
      have hKw := hK1.trans hK
      clear hK HW HS HC
      go_wp2_with fail
      refine (HT.out _).mono ?_
      rintro e w2 ⟨rfl, k2⟩
      have hK2 := hKw.trans k2
      have d1 : decide ((s : Int) < 1) = false := decide_eq_false (by omega)
      by_cases hsk : s ≤ i
      · have d2 : decide ((i : Int) < s) = false := decide_eq_false (by omega)
        have hu := HU.out w2 hsk
        have HU2 := Lib.hid hu
        obtain ⟨hE1, hE2, hE3, hE4⟩ := HE.out hsk
        have HE1 := Lib.hid hE1
        clear hE1 hu HU HE
        go_wp2_with fail
        refine HU2.out.mono ?_
        rintro e w3 ⟨rfl, k3⟩
        have hK3 := hK2.trans k3
        rw [HE1.out]
        clear HE1 HU2
        generalize hp : ((i : Int) - s) * c = p at *
        generalize sumTo b c s = z at *
        go_wp2_with fail
        refine (works_ok _).mono ?_
        rintro e w4 ⟨rfl, k4⟩
        have hK4 := hK3.trans (Keeps.of_below k4)
        go_wp2_with fail
        go_ret
        exact ⟨rfl, hK4.below⟩
      · have d2 : decide ((i : Int) < s) = true := decide_eq_true (by omega)
        clear HU HE
        go_wp2_with fail
        refine (works_ok _).mono ?_
        rintro e w4 ⟨rfl, k4⟩
        have hK4 := hK2.trans (Keeps.of_below k4)
        go_wp2_with fail
        go_ret
        exact ⟨rfl, hK4.below⟩
end Go.Proofs.Ytepicehlknpbfaa
