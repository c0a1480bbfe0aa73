/- The contract of math/bits.OnesCount64. Condition: a word. -/
import Derived.Test.YtcdnflffpeijfaaDoorCount
import Derived.Test.YtcdnflffpeijfaaDoorKit
import Derived.Laws.BitsAll
import Derived.Laws.Bits128
namespace Go.Proofs.YtcdnflffpeijfaaDoor
open Go.RowKit

theorem and_u64 (a b : Nat) (ha : a < 18446744073709551616) (hb : b < 18446744073709551616) : bits .and .u64 (a : Int) (b : Int) = ((a &&& b : Nat) : Int) := u64_and_nat a b ha hb
theorem wrap_u64 (a : Nat) (ha : a < 18446744073709551616) : IntKind.u64.wrap (a : Int) = a := by
  simp [IntKind.wrap, IntKind.bits, IntKind.signed]
  omega
theorem mask85 : mask 85 8 = 6148914691236517205 := by decide
theorem mask51 : mask 51 8 = 3689348814741910323 := by decide
theorem mask15 : mask 15 8 = 1085102592571150095 := by decide

theorem ones_1 (x : Nat) (hx : x < 18446744073709551616) : IntKind.u64.wrap (bits .and .u64 ((x : Int) / 2) 6148914691236517205 + bits .and .u64 (x : Int) 6148914691236517205) = ((pairs (mask 85 8) x : Nat) : Int) ∧ pairs (mask 85 8) x < 18446744073709551616 := by
  have h1 := and_u64 (x / 2) 6148914691236517205 (by omega) (by omega)
  have h2 := and_u64 x 6148914691236517205 hx (by omega)
  have b1 : x / 2 &&& 6148914691236517205 ≤ 6148914691236517205 := Nat.and_le_right
  have b2 : x &&& 6148914691236517205 ≤ 6148914691236517205 := Nat.and_le_right
  rw [show ((x / 2 : Nat) : Int) = (x : Int) / 2 from by omega] at h1
  have e1 : bits .and .u64 ((x : Int) / 2) 6148914691236517205 = ((x / 2 &&& 6148914691236517205 : Nat) : Int) := h1
  have e2 : bits .and .u64 (x : Int) 6148914691236517205 = ((x &&& 6148914691236517205 : Nat) : Int) := h2
  rw [e1, e2]
  unfold pairs
  rw [mask85, ← Int.natCast_add, wrap_u64 _ (by omega)]
  exact ⟨rfl, by omega⟩
theorem ones_2 (x : Nat) (hx : x < 18446744073709551616) : IntKind.u64.wrap (bits .and .u64 ((x : Int) / 4) 3689348814741910323 + bits .and .u64 (x : Int) 3689348814741910323) = ((fours (mask 51 8) x : Nat) : Int) ∧ fours (mask 51 8) x < 9000000000000000000 := by
  have h1 := and_u64 (x / 4) 3689348814741910323 (by omega) (by omega)
  have h2 := and_u64 x 3689348814741910323 hx (by omega)
  have b1 : x / 4 &&& 3689348814741910323 ≤ 3689348814741910323 := Nat.and_le_right
  have b2 : x &&& 3689348814741910323 ≤ 3689348814741910323 := Nat.and_le_right
  rw [show ((x / 4 : Nat) : Int) = (x : Int) / 4 from by omega] at h1
  have e1 : bits .and .u64 ((x : Int) / 4) 3689348814741910323 = ((x / 4 &&& 3689348814741910323 : Nat) : Int) := h1
  have e2 : bits .and .u64 (x : Int) 3689348814741910323 = ((x &&& 3689348814741910323 : Nat) : Int) := h2
  rw [e1, e2]
  unfold fours
  rw [mask51, ← Int.natCast_add, wrap_u64 _ (by omega)]
  exact ⟨rfl, by omega⟩
theorem ones_3 (x : Nat) (hx : x < 9000000000000000000) : bits .and .u64 (IntKind.u64.wrap ((x : Int) / 16 + x)) 1085102592571150095 = ((bytes (mask 15 8) x : Nat) : Int) ∧ bytes (mask 15 8) x < 1200000000000000000 := by
  have b1 : (x / 16 + x) &&& 1085102592571150095 ≤ 1085102592571150095 := Nat.and_le_right
  have e0 : (x : Int) / 16 + x = ((x / 16 + x : Nat) : Int) := by omega
  rw [e0, wrap_u64 _ (by omega)]
  have e1 : bits .and .u64 ((x / 16 + x : Nat) : Int) 1085102592571150095 = (((x / 16 + x) &&& 1085102592571150095 : Nat) : Int) := and_u64 _ 1085102592571150095 (by omega) (by omega)
  rw [e1]
  unfold bytes
  rw [mask15]
  exact ⟨rfl, by omega⟩
theorem ones_sum (a d : Nat) (h : a + a / d < 18446744073709551616) : IntKind.u64.wrap ((a : Int) + (a : Int) / (d : Int)) = ((a + a / d : Nat) : Int) := by
  rw [show (a : Int) + (a : Int) / (d : Int) = ((a + a / d : Nat) : Int) by simp]
  exact wrap_u64 _ h

set_option maxRecDepth 1000000 in
set_option maxHeartbeats 4000000 in
theorem Ones_ok (x : Nat) (hx : x < 18446744073709551616) (w : World) : Calls Tryd.prog 43 #[.int .u64 x] w fun e w' => e = .returned (.int .i64 (howMany 64 x)) ∧ w = w' := by
  obtain ⟨h1, b1⟩ := ones_1 x hx
  obtain ⟨h2, b2⟩ := ones_2 _ b1
  obtain ⟨h3, b3⟩ := ones_3 _ b2
  obtain ⟨p0, p1, p2, p3, p4, p5, p6, p7, q0, q1, q2, q3, q4, q5, q6, q7, hy, hn⟩ := count_all x hx
  obtain ⟨s1, s2, s3, e1, e2, e3, hs, hr⟩ := count_end p0 p1 p2 p3 p4 p5 p6 p7 _ q0 q1 q2 q3 q4 q5 q6 q7 hy
  have hc : count8 8 x = bytes (mask 15 8) (fours (mask 51 8) (pairs (mask 85 8) x)) := rfl
  rw [hc] at e1
  have h4 := ones_sum (bytes (mask 15 8) (fours (mask 51 8) (pairs (mask 85 8) x))) 256 (by omega)
  rw [← e1] at h4
  have h5 := ones_sum s1 65536 (by omega)
  rw [← e2] at h5
  have h6 := ones_sum s2 4294967296 (by omega)
  rw [← e3] at h6
  rw [hn, ← hr]
  have h4 : IntKind.u64.wrap (((bytes (mask 15 8) (fours (mask 51 8) (pairs (mask 85 8) x)) : Nat) : Int) + ((bytes (mask 15 8) (fours (mask 51 8) (pairs (mask 85 8) x)) : Nat) : Int) / 256) = (s1 : Int) := h4
  have h5 : IntKind.u64.wrap ((s1 : Int) + (s1 : Int) / 65536) = (s2 : Int) := h5
  have h6 : IntKind.u64.wrap ((s2 : Int) + (s2 : Int) / 4294967296) = (s3 : Int) := h6
  have hw : wrap64 (s3 : Int) = s3 := by
    unfold wrap64
    omega
  have HW := Lib.hid hw
  clear hw
  have H1 := Lib.hid h1
  have H2 := Lib.hid h2
  have H3 := Lib.hid h3
  have H4 := Lib.hid h4
  have H5 := Lib.hid h5
  have H6 := Lib.hid h6
  have HS := Lib.hid hs
  clear h1 h2 h3 h4 h5 h6 hy hn e1 e2 e3 hs hr hc
  go_enter Tryd.func43, Tryd.ntmps43
  go_wp2_with fail
  simp only [H1.out, H2.out, H3.out, H4.out, H5.out, H6.out, HW.out, i64_and127]
  go_ret
  refine ⟨?_, rfl⟩
  rw [Int.natCast_emod]
  rfl
end Go.Proofs.YtcdnflffpeijfaaDoor
