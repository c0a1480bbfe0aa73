/- The contract of the laws' shows: it returns true for two sets in one state, and changes nothing. Condition: the table of trailing zeros lies in its block. -/
import Derived.Test.YtcdnflffpeijfaaDoorPair
namespace Go.Proofs.YtcdnflffpeijfaaDoor
open Go.RowKit

set_option maxRecDepth 1000000 in
set_option maxHeartbeats 2000000 in
theorem shows_ok {w : World} {p q : Option Addr} {C D : Nat → Prop} {m : St} (h : It w (true, p, m) C) (h' : It w (false, q, m) D) (hT : Table w) (i : Int) (hi : i ≤ 9223372036854775807) :
    Calls Tryd.prog 34 #[.pointer p, .pointer q, .int .i64 i] w fun e w' => e = .returned (.bool true) ∧ Keeps [] w w' := by
  have hp := hT.pos
  have HT := Lib.hid (fun W (k : Keeps [] w W) => hT.keeps k hp (by simp))
  have HB := Lib.hid (fun W (k : Keeps [] w W) => itFrame.keeps h k (by simp))
  have HR := Lib.hid (fun W (k : Keeps [] w W) => itFrame.keeps h' k (by simp))
  have H1 := Lib.hid (next_b h hT hi)
  have H2 := Lib.hid (fun W k => next_r (HR.out W k) i)
  have H3 := Lib.hid (fun W k => all_b (HB.out W k) (HT.out W k))
  have H4 := Lib.hid (fun W k => all_r (HR.out W k))
  have H5 := Lib.hid (fun W k => count_b (HB.out W k))
  have H6 := Lib.hid (fun W k => count_r (HR.out W k))
  have H7 := Lib.hid (fun W k => size_b (HB.out W k))
  have H8 := Lib.hid (fun W k => size_r (HR.out W k))
  have H9 := Lib.hid (fun W k => has_b (HB.out W k) i)
  have H10 := Lib.hid (fun W k => has_r (HR.out W k) i)
  have hal := all_len true h
  clear hT HT HB HR h h'
  obtain ⟨x, t, hx⟩ : ∃ x t, nextOf m i = (x, t) := ⟨_, _, rfl⟩
  rw [hx] at H1
  simp only [hx] at H2
  obtain ⟨L, hL⟩ : ∃ L, allOf m = L := ⟨_, rfl⟩
  rw [hL] at hal
  simp only [hL] at H3 H4 H5 H6
  obtain ⟨n, hn⟩ : ∃ n, sizeOf_ m = n := ⟨_, rfl⟩
  simp only [hn] at H7 H8
  obtain ⟨a, ha⟩ : ∃ a, hasOf m i = a := ⟨_, rfl⟩
  simp only [ha] at H9 H10
  clear hx hL hn ha
  have hll : (asInts L).length = L.length := by unfold asInts; rw [List.length_map]
  have HLL := Lib.hid hll
  have et : (t == t) = true := by simp
  have ea : (a == a) = true := by simp
  clear hll
  go_enter Tryd.func34, Tryd.ntmps34
  go_wp2_with fail
  refine H1.out.mono ?_
  rintro e w1 ⟨rfl, k1⟩
  go_wp2_with fail
  refine (H2.out _ k1).mono ?_
  rintro e w2 ⟨rfl, k2⟩
  have K2 := k1.trans k2
  clear k1 k2
  go_wp2_with fail
  refine (H3.out _ K2).mono ?_
  rintro e w3 ⟨v3, rfl, hv3, k3⟩
  have K3 := K2.trans k3
  clear K2 k3
  go_wp2_with fail
  refine (H4.out _ K3).mono ?_
  rintro e w4 ⟨v4, rfl, hv4, k4⟩
  have K4 := K3.trans k4
  have s3 := (hv3.keeps k4 (by simp)).sl (by rw [HLL.out]; unfold maxLen; omega)
  have s4 := hv4.sl (by rw [HLL.out]; unfold maxLen; omega)
  have HE := Lib.hid (Equal_e s3 s4 rfl)
  clear K3 k4 hv3 hv4 s3 s4
  go_wp2_with fail
  refine HE.out.mono ?_
  rintro e w5 ⟨rfl, n5, rfl⟩
  have K5 := K4.drewN n5
  clear K4
  go_wp2_with fail
  refine (H5.out _ K5).mono ?_
  rintro e w6 ⟨rfl, k6⟩
  have K6 := K5.trans k6
  clear K5 k6
  go_wp2_with fail
  refine (H6.out _ K6).mono ?_
  rintro e w7 ⟨rfl, k7⟩
  have K7 := K6.trans k7
  clear K6 k7
  go_wp2_with fail
  refine (H7.out _ K7).mono ?_
  rintro e w' ⟨rfl, rfl⟩
  go_wp2_with fail
  refine (H8.out _ K7).mono ?_
  rintro e w' ⟨rfl, rfl⟩
  go_wp2_with fail
  refine (H9.out _ K7).mono ?_
  rintro e w' ⟨rfl, rfl⟩
  go_wp2_with fail
  refine (H10.out _ K7).mono ?_
  rintro e w' ⟨rfl, rfl⟩
  go_wp2_with fail
  go_ret
  exact ⟨rfl, K7⟩
end Go.Proofs.YtcdnflffpeijfaaDoor
