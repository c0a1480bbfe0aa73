/- ExpireKnown: the call returns true, and nothing that was there has changed. No condition. -/
import Derived.Test.YtognnjaefaoefaaWorks
namespace Go.Proofs.Ytognnjaefaoefaa
open Go.RowKit

/-- The ids 0, -1, -2 and so on, all at the greatest time. -/
def descL : Nat → List (Int × Int)
  | 0 => []
  | k + 1 => (-(k : Int), 1099511627776) :: descL k
theorem desc_mem : ∀ {k : Nat} {e : Int × Int}, e ∈ descL k → -(k : Int) < e.1 ∧ e.2 = 1099511627776
  | 0, e, h => by simp [descL] at h
  | k + 1, e, h => by
    rcases List.mem_cons.1 h with rfl | h
    · exact ⟨by show -((k + 1 : Nat) : Int) < -(k : Int); omega, rfl⟩
    · have := desc_mem h
      exact ⟨by omega, this.2⟩
theorem desc_len : ∀ k, (descL k).length = k
  | 0 => rfl
  | k + 1 => by show (descL k).length + 1 = _; rw [desc_len k]
theorem desc_set (k : Nat) : setE (descL k) (-(k : Int)) 1099511627776 = descL (k + 1) := by
  unfold setE
  have h1 : dropE (descL k) (-(k : Int)) = descL k := by
    unfold dropE
    rw [List.filter_eq_self]
    intro e he
    have := desc_mem he
    simp only [bne_iff_ne, ne_eq]
    omega
  rw [h1]
  unfold insE
  have h2 : (descL k).filter (fun e => decide (Bef e (-(k : Int), 1099511627776))) = [] := by
    rw [List.filter_eq_nil_iff]
    intro e he
    have := desc_mem he
    simp only [decide_eq_true_eq]
    unfold Bef
    simp only
    omega
  have h3 : (descL k).filter (fun e => !decide (Bef e (-(k : Int), 1099511627776))) = descL k := by
    rw [List.filter_eq_self]
    intro e he
    have := desc_mem he
    simp only [Bool.not_eq_true', decide_eq_false_iff_not]
    unfold Bef
    simp only
    omega
  rw [h2, h3]
  rfl
def fullL : List (Int × Int) := descL 256
def knownL : List (Int × Int) := setE fullL 0 0
theorem n1 : setErr fullL 1 5 = 4 := by decide +kernel
theorem n2 : setL fullL 1 5 = fullL := by decide +kernel
theorem n3 : setErr fullL 1 (-1) = 2 := by decide +kernel
theorem n4 : setL fullL 1 (-1) = fullL := by decide +kernel
theorem n5 : setErr fullL 1 1099511627777 = 2 := by decide +kernel
theorem n6 : setL fullL 1 1099511627777 = fullL := by decide +kernel
theorem n7 : setErr fullL 0 0 = 0 := by decide +kernel
theorem n8 : setL fullL 0 0 = knownL := by decide +kernel
theorem n9 : dueN knownL (-1) = 0 := by decide +kernel
theorem n10 : headQ knownL = (0, 0, true) := by decide +kernel
theorem n11 : dueN knownL 0 = 1 := by decide +kernel
theorem n12 : dueN (knownL.drop 1) 9223372036854775807 = 255 := by decide +kernel
theorem n13 : (idsOf ((knownL.drop 1).take 255)).length = 255 := by decide +kernel
theorem n14 : (idsOf ((knownL.drop 1).take 255)).getD 0 0 = -255 := by decide +kernel
theorem n15 : (idsOf ((knownL.drop 1).take 255)).getD 254 0 = -1 := by decide +kernel
theorem n16 : (idsOf (knownL.take 1)).length = 1 := by decide +kernel

set_option maxRecDepth 1000000 in
set_option maxHeartbeats 4000000 in
theorem known_walk (w : World) : Calls Try.prog 5 #[] w fun e w' => e = .returned (.bool true) ∧ Below w.heap.size w w' := by
  go_enter Try.func5, Try.ntmps5
  go_wp2_with fail
  refine (New_q _).mono ?_
  rintro e w1 ⟨b, O, rfl, hq, k1, hO⟩
  have HQ := Lib.hid hq
  have HK := Lib.hid k1
  have HO := Lib.hid hO
  clear hq k1 hO
  go_wp2_with fail
  go_loopw [2] (fun i wr => ∃ (k : Nat) (O : List Nat), i = .int .i64 k ∧ k ≤ 256 ∧ Qu wr b O (descL k) ∧ Keeps [] w wr ∧ Hid (∀ x ∈ O, w.heap.size ≤ x)) (fun i _ => 256 - (intOf i).toNat)
  case atStart => exact ⟨0, O, rfl, Nat.zero_le _, HQ.out, HK.out, HO⟩
  case round =>
    clear HQ HK HO
    obtain ⟨k, O, rfl, hk, hq, hK, hO⟩ := hrel
    by_cases hkn : k < 256
    · have hkI : (k : Int) < 256 := by omega
      have hS := Lib.hid (Set_fine hq (-(k : Int)) 1099511627776 ⟨by decide, by decide⟩ (.inl (by rw [desc_len]; exact hkn)))
      rw [desc_set] at hS
      have HKK := Lib.hid hK
      clear hq hK
      go_wp2_with fail
      refine hS.out.mono ?_
      rintro e w2 ⟨rfl, ht⟩
      obtain ⟨O', hq2, K2, hF2, _, _⟩ := ht.step HKK.out hO.out
      have hO' := Lib.hid hF2
      clear ht hF2
      go_wp2_with fail
      go_roundw
      case rel => exact ⟨k + 1, O', by go_num, by omega, hq2, K2, hO'⟩
      case measure => simp [intOf]; omega
    · obtain rfl : k = 256 := by omega
      have hq0 : Qu wr b O fullL := hq
      have hS1 := Lib.hid (Set_in hq0 1 5)
      rw [n1, n2] at hS1
      have HK := Lib.hid hK
      clear hq hq0 hK
      go_wp2_with fail
      refine hS1.out.mono ?_
      rintro e w2 ⟨rfl, ht⟩
      obtain ⟨O2, hq2, K2, hF2, _, _⟩ := ht.step HK.out hO.out
      have hS2 := Lib.hid (Set_in hq2 1 (-1))
      rw [n3, n4] at hS2
      clear ht hq2
      go_wp2_with fail
      refine hS2.out.mono ?_
      rintro e w3 ⟨rfl, ht⟩
      obtain ⟨O3, hq3, K3, hF3, _, _⟩ := ht.step K2 hF2
      have hS3 := Lib.hid (Set_in hq3 1 1099511627777)
      rw [n5, n6] at hS3
      clear ht hq3 K2 hF2
      go_wp2_with fail
      refine hS3.out.mono ?_
      rintro e w4 ⟨rfl, ht⟩
      obtain ⟨O4, hq4, K4, hF4, _, _⟩ := ht.step K3 hF3
      have hS4 := Lib.hid (Set_in hq4 0 0)
      rw [n7, n8] at hS4
      clear ht hq4 K3 hF3
      go_wp2_with fail
      refine hS4.out.mono ?_
      rintro e w5 ⟨rfl, ht⟩
      obtain ⟨O5, hq5, K5, hF5, _, _⟩ := ht.step K4 hF4
      clear ht K4 hF4
      go_wp2_with fail
      refine (Due_in hq5 (-1)).mono ?_
      rintro e w6 ⟨u6, rfl, hu6, hq6, k6⟩
      rw [n9] at hu6 hq6
      have K6 := K5.step k6 (fun x hx => .inr (hF5 x hx))
      obtain ⟨a6, c6, rfl⟩ := hu6.shape
      have hq6' : Qu w6 b O5 knownL := hq6
      clear hq5 hq6 K5 k6 hu6
      go_wp2_with fail
      refine (Next_q hq6').mono ?_
      rintro e w7 ⟨rfl, k7⟩
      rw [n10]
      have hq7 := hq6'.keep0 k7
      have K7 := K6.trans k7
      clear hq6' K6 k7
      go_wp2_with fail
      refine (Due_in hq7 0).mono ?_
      rintro e w8 ⟨u8, rfl, hu8, hq8, k8⟩
      rw [n11] at hu8 hq8
      have K8 := K7.step k8 (fun x hx => .inr (hF5 x hx))
      obtain ⟨a8, c8, rfl⟩ := hu8.shape
      rw [n16]
      clear hq7 K7 k8 hu8
      go_wp2_with fail
      refine (Due_in hq8 9223372036854775807).mono ?_
      rintro e w9 ⟨u9, rfl, hu9, hq9, k9⟩
      rw [n12] at hu9 hq9
      have K9 := K8.step k9 (fun x hx => .inr (hF5 x hx))
      have HS9 := hu9.sl (by rw [n13]; unfold maxLen; omega)
      obtain ⟨a9, c9, rfl⟩ := hu9.shape
      obtain ⟨g9, o9, rfl, _, _, hc9⟩ := HS9.some_ (k := 0) (by rw [n13]; omega)
      have d0 := hc9 0 (by rw [n13]; omega)
      have d1 := hc9 254 (by rw [n13]; omega)
      rw [n14, Nat.add_zero] at d0
      rw [n15] at d1
      rw [n13]
      clear hq8 hq9 K8 k9 hu9 HS9 hc9
      go_wp2_with fail
      refine (works_ok _).mono ?_
      rintro e w10 ⟨rfl, k10⟩
      go_wp2_with fail
      go_ret
      exact ⟨rfl, (K9.trans k10).below⟩
end Go.Proofs.Ytognnjaefaoefaa
