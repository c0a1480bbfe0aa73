/- The contract of the reference's Rune. Condition: a place in a text of at most 2000 bytes. Printed by gen-rrune.py. -/
import Derived.Test.YtkbelhhimllfnaaRuneP
namespace Go.Proofs.Ytkbelhhimllfnaa
open Go.RowKit

set_option maxRecDepth 1000000 in
set_option maxHeartbeats 8000000 in
theorem rrune_one {s : ByteArray} {i : Nat} {q0 : Nat} (hs : s.size ≤ 2000) (hi : i < s.size) (g0 : ∀ h, (s[i]'h).toNat = q0) (u0 : q0 < 256) (c : q0 < 128) (w : World) : Calls Try.prog 39 #[.string s, .int .i64 i] w fun e w' => e = .returned (.tuple #[.int .i64 q0, .int .i64 1]) ∧ w = w' := by
  go_enter Try.func39, Try.ntmps39
  go_wp2_with fail
  go_ret2
  exact ⟨rfl, rfl⟩

set_option maxRecDepth 1000000 in
set_option maxHeartbeats 8000000 in
theorem rrune_none1 {s : ByteArray} {i : Nat} {q0 : Nat} (hs : s.size ≤ 2000) (hi : i < s.size) (g0 : ∀ h, (s[i]'h).toNat = q0) (u0 : q0 < 256) (c : 128 ≤ q0) (c' : q0 < 192) (w : World) : Calls Try.prog 39 #[.string s, .int .i64 i] w fun e w' => e = .returned (.tuple #[.int .i64 0, .int .i64 0]) ∧ w = w' := by
  go_enter Try.func39, Try.ntmps39
  go_wp2_with fail
  go_ret2
  exact ⟨rfl, rfl⟩

set_option maxRecDepth 1000000 in
set_option maxHeartbeats 8000000 in
theorem rrune_none2 {s : ByteArray} {i : Nat} {q0 : Nat} (hs : s.size ≤ 2000) (hi : i < s.size) (g0 : ∀ h, (s[i]'h).toNat = q0) (u0 : q0 < 256) (c : 248 ≤ q0) (w : World) : Calls Try.prog 39 #[.string s, .int .i64 i] w fun e w' => e = .returned (.tuple #[.int .i64 0, .int .i64 0]) ∧ w = w' := by
  go_enter Try.func39, Try.ntmps39
  go_wp2_with fail
  go_ret2
  exact ⟨rfl, rfl⟩

set_option maxRecDepth 1000000 in
set_option maxHeartbeats 8000000 in
theorem rrune_2_short {s : ByteArray} {i : Nat} {q0 : Nat} (hs : s.size ≤ 2000) (hi : i < s.size) (g0 : ∀ h, (s[i]'h).toNat = q0) (u0 : q0 < 256) (c : 192 ≤ q0) (c' : q0 < 224) (hN : s.size < i + 2) (w : World) : Calls Try.prog 39 #[.string s, .int .i64 i] w fun e w' => e = .returned (.tuple #[.int .i64 0, .int .i64 0]) ∧ w = w' := by
  go_enter Try.func39, Try.ntmps39
  go_wp2_with fail
  go_ret2
  exact ⟨rfl, rfl⟩

set_option maxRecDepth 1000000 in
set_option maxHeartbeats 8000000 in
theorem rrune_2_low1 {s : ByteArray} {i : Nat} {q0 q1 : Nat} (hs : s.size ≤ 2000) (hi : i < s.size) (g0 : ∀ h, (s[i]'h).toNat = q0) (u0 : q0 < 256) (g1 : ∀ h, (s[i + 1]'h).toNat = q1) (u1 : q1 < 256) (c : 192 ≤ q0) (c' : q0 < 224) (hN : i + 2 ≤ s.size) (z : q1 < 128) (w : World) : Calls Try.prog 39 #[.string s, .int .i64 i] w fun e w' => e = .returned (.tuple #[.int .i64 0, .int .i64 0]) ∧ w = w' := by
  go_enter Try.func39, Try.ntmps39
  go_wp2_with fail
  refine wp_loop_rounds 2 ?_
  rw [rounds_succ]
  go_wp2_with fail
  go_ret2
  exact ⟨rfl, rfl⟩

set_option maxRecDepth 1000000 in
set_option maxHeartbeats 8000000 in
theorem rrune_2_high1 {s : ByteArray} {i : Nat} {q0 q1 : Nat} (hs : s.size ≤ 2000) (hi : i < s.size) (g0 : ∀ h, (s[i]'h).toNat = q0) (u0 : q0 < 256) (g1 : ∀ h, (s[i + 1]'h).toNat = q1) (u1 : q1 < 256) (c : 192 ≤ q0) (c' : q0 < 224) (hN : i + 2 ≤ s.size) (z : 192 ≤ q1) (w : World) : Calls Try.prog 39 #[.string s, .int .i64 i] w fun e w' => e = .returned (.tuple #[.int .i64 0, .int .i64 0]) ∧ w = w' := by
  go_enter Try.func39, Try.ntmps39
  go_wp2_with fail
  refine wp_loop_rounds 2 ?_
  rw [rounds_succ]
  go_wp2_with fail
  go_ret2
  exact ⟨rfl, rfl⟩

set_option maxRecDepth 1000000 in
set_option maxHeartbeats 8000000 in
theorem rrune_2_less {s : ByteArray} {i : Nat} {q0 q1 : Nat} (hs : s.size ≤ 2000) (hi : i < s.size) (g0 : ∀ h, (s[i]'h).toNat = q0) (u0 : q0 < 256) (g1 : ∀ h, (s[i + 1]'h).toNat = q1) (u1 : q1 < 256) (c : 192 ≤ q0) (c' : q0 < 224) (hN : i + 2 ≤ s.size) (a1 : 128 ≤ q1) (b1 : q1 < 192) (z : (((q0 : Int) - 192) * 64 + q1 - 128) < 128) (w : World) : Calls Try.prog 39 #[.string s, .int .i64 i] w fun e w' => e = .returned (.tuple #[.int .i64 0, .int .i64 0]) ∧ w = w' := by
  go_enter Try.func39, Try.ntmps39
  go_wp2_with fail
  refine wp_loop_rounds 2 ?_
  rw [rounds_succ]
  go_wp2_with fail
  rw [rounds_succ]
  go_wp2_with fail
  go_ret2
  exact ⟨rfl, rfl⟩

set_option maxRecDepth 1000000 in
set_option maxHeartbeats 8000000 in
theorem rrune_2_ok {s : ByteArray} {i : Nat} {q0 q1 : Nat} (hs : s.size ≤ 2000) (hi : i < s.size) (g0 : ∀ h, (s[i]'h).toNat = q0) (u0 : q0 < 256) (g1 : ∀ h, (s[i + 1]'h).toNat = q1) (u1 : q1 < 256) (c : 192 ≤ q0) (c' : q0 < 224) (hN : i + 2 ≤ s.size) (a1 : 128 ≤ q1) (b1 : q1 < 192) (z : 128 ≤ (((q0 : Int) - 192) * 64 + q1 - 128)) (w : World) : Calls Try.prog 39 #[.string s, .int .i64 i] w fun e w' => e = .returned (.tuple #[.int .i64 (((q0 : Int) - 192) * 64 + q1 - 128), .int .i64 2]) ∧ w = w' := by
  go_enter Try.func39, Try.ntmps39
  go_wp2_with fail
  refine wp_loop_rounds 2 ?_
  rw [rounds_succ]
  go_wp2_with fail
  rw [rounds_succ]
  go_wp2_with fail
  go_ret2
  exact ⟨rfl, rfl⟩

set_option maxRecDepth 1000000 in
set_option maxHeartbeats 8000000 in
theorem rrune_3_short {s : ByteArray} {i : Nat} {q0 : Nat} (hs : s.size ≤ 2000) (hi : i < s.size) (g0 : ∀ h, (s[i]'h).toNat = q0) (u0 : q0 < 256) (c : 224 ≤ q0) (c' : q0 < 240) (hN : s.size < i + 3) (w : World) : Calls Try.prog 39 #[.string s, .int .i64 i] w fun e w' => e = .returned (.tuple #[.int .i64 0, .int .i64 0]) ∧ w = w' := by
  go_enter Try.func39, Try.ntmps39
  go_wp2_with fail
  go_ret2
  exact ⟨rfl, rfl⟩

set_option maxRecDepth 1000000 in
set_option maxHeartbeats 8000000 in
theorem rrune_3_low1 {s : ByteArray} {i : Nat} {q0 q1 : Nat} (hs : s.size ≤ 2000) (hi : i < s.size) (g0 : ∀ h, (s[i]'h).toNat = q0) (u0 : q0 < 256) (g1 : ∀ h, (s[i + 1]'h).toNat = q1) (u1 : q1 < 256) (c : 224 ≤ q0) (c' : q0 < 240) (hN : i + 3 ≤ s.size) (z : q1 < 128) (w : World) : Calls Try.prog 39 #[.string s, .int .i64 i] w fun e w' => e = .returned (.tuple #[.int .i64 0, .int .i64 0]) ∧ w = w' := by
  go_enter Try.func39, Try.ntmps39
  go_wp2_with fail
  refine wp_loop_rounds 3 ?_
  rw [rounds_succ]
  go_wp2_with fail
  go_ret2
  exact ⟨rfl, rfl⟩

set_option maxRecDepth 1000000 in
set_option maxHeartbeats 8000000 in
theorem rrune_3_high1 {s : ByteArray} {i : Nat} {q0 q1 : Nat} (hs : s.size ≤ 2000) (hi : i < s.size) (g0 : ∀ h, (s[i]'h).toNat = q0) (u0 : q0 < 256) (g1 : ∀ h, (s[i + 1]'h).toNat = q1) (u1 : q1 < 256) (c : 224 ≤ q0) (c' : q0 < 240) (hN : i + 3 ≤ s.size) (z : 192 ≤ q1) (w : World) : Calls Try.prog 39 #[.string s, .int .i64 i] w fun e w' => e = .returned (.tuple #[.int .i64 0, .int .i64 0]) ∧ w = w' := by
  go_enter Try.func39, Try.ntmps39
  go_wp2_with fail
  refine wp_loop_rounds 3 ?_
  rw [rounds_succ]
  go_wp2_with fail
  go_ret2
  exact ⟨rfl, rfl⟩

set_option maxRecDepth 1000000 in
set_option maxHeartbeats 8000000 in
theorem rrune_3_low2 {s : ByteArray} {i : Nat} {q0 q1 q2 : Nat} (hs : s.size ≤ 2000) (hi : i < s.size) (g0 : ∀ h, (s[i]'h).toNat = q0) (u0 : q0 < 256) (g1 : ∀ h, (s[i + 1]'h).toNat = q1) (u1 : q1 < 256) (g2 : ∀ h, (s[i + 2]'h).toNat = q2) (u2 : q2 < 256) (c : 224 ≤ q0) (c' : q0 < 240) (hN : i + 3 ≤ s.size) (a1 : 128 ≤ q1) (b1 : q1 < 192) (z : q2 < 128) (w : World) : Calls Try.prog 39 #[.string s, .int .i64 i] w fun e w' => e = .returned (.tuple #[.int .i64 0, .int .i64 0]) ∧ w = w' := by
  go_enter Try.func39, Try.ntmps39
  go_wp2_with fail
  refine wp_loop_rounds 3 ?_
  rw [rounds_succ]
  go_wp2_with fail
  rw [rounds_succ]
  go_wp2_with fail
  go_ret2
  exact ⟨rfl, rfl⟩

set_option maxRecDepth 1000000 in
set_option maxHeartbeats 8000000 in
theorem rrune_3_high2 {s : ByteArray} {i : Nat} {q0 q1 q2 : Nat} (hs : s.size ≤ 2000) (hi : i < s.size) (g0 : ∀ h, (s[i]'h).toNat = q0) (u0 : q0 < 256) (g1 : ∀ h, (s[i + 1]'h).toNat = q1) (u1 : q1 < 256) (g2 : ∀ h, (s[i + 2]'h).toNat = q2) (u2 : q2 < 256) (c : 224 ≤ q0) (c' : q0 < 240) (hN : i + 3 ≤ s.size) (a1 : 128 ≤ q1) (b1 : q1 < 192) (z : 192 ≤ q2) (w : World) : Calls Try.prog 39 #[.string s, .int .i64 i] w fun e w' => e = .returned (.tuple #[.int .i64 0, .int .i64 0]) ∧ w = w' := by
  go_enter Try.func39, Try.ntmps39
  go_wp2_with fail
  refine wp_loop_rounds 3 ?_
  rw [rounds_succ]
  go_wp2_with fail
  rw [rounds_succ]
  go_wp2_with fail
  go_ret2
  exact ⟨rfl, rfl⟩

set_option maxRecDepth 1000000 in
set_option maxHeartbeats 8000000 in
theorem rrune_3_less {s : ByteArray} {i : Nat} {q0 q1 q2 : Nat} (hs : s.size ≤ 2000) (hi : i < s.size) (g0 : ∀ h, (s[i]'h).toNat = q0) (u0 : q0 < 256) (g1 : ∀ h, (s[i + 1]'h).toNat = q1) (u1 : q1 < 256) (g2 : ∀ h, (s[i + 2]'h).toNat = q2) (u2 : q2 < 256) (c : 224 ≤ q0) (c' : q0 < 240) (hN : i + 3 ≤ s.size) (a1 : 128 ≤ q1) (b1 : q1 < 192) (a2 : 128 ≤ q2) (b2 : q2 < 192) (z : ((((q0 : Int) - 224) * 64 + q1 - 128) * 64 + q2 - 128) < 2048) (w : World) : Calls Try.prog 39 #[.string s, .int .i64 i] w fun e w' => e = .returned (.tuple #[.int .i64 0, .int .i64 0]) ∧ w = w' := by
  go_enter Try.func39, Try.ntmps39
  go_wp2_with fail
  refine wp_loop_rounds 3 ?_
  rw [rounds_succ]
  go_wp2_with fail
  rw [rounds_succ]
  go_wp2_with fail
  rw [rounds_succ]
  go_wp2_with fail
  go_ret2
  exact ⟨rfl, rfl⟩

set_option maxRecDepth 1000000 in
set_option maxHeartbeats 8000000 in
theorem rrune_3_sur {s : ByteArray} {i : Nat} {q0 q1 q2 : Nat} (hs : s.size ≤ 2000) (hi : i < s.size) (g0 : ∀ h, (s[i]'h).toNat = q0) (u0 : q0 < 256) (g1 : ∀ h, (s[i + 1]'h).toNat = q1) (u1 : q1 < 256) (g2 : ∀ h, (s[i + 2]'h).toNat = q2) (u2 : q2 < 256) (c : 224 ≤ q0) (c' : q0 < 240) (hN : i + 3 ≤ s.size) (a1 : 128 ≤ q1) (b1 : q1 < 192) (a2 : 128 ≤ q2) (b2 : q2 < 192) (z : 55296 ≤ ((((q0 : Int) - 224) * 64 + q1 - 128) * 64 + q2 - 128)) (zz : ((((q0 : Int) - 224) * 64 + q1 - 128) * 64 + q2 - 128) ≤ 57343) (w : World) : Calls Try.prog 39 #[.string s, .int .i64 i] w fun e w' => e = .returned (.tuple #[.int .i64 0, .int .i64 0]) ∧ w = w' := by
  go_enter Try.func39, Try.ntmps39
  go_wp2_with fail
  refine wp_loop_rounds 3 ?_
  rw [rounds_succ]
  go_wp2_with fail
  rw [rounds_succ]
  go_wp2_with fail
  rw [rounds_succ]
  go_wp2_with fail
  go_ret2
  exact ⟨rfl, rfl⟩

set_option maxRecDepth 1000000 in
set_option maxHeartbeats 8000000 in
theorem rrune_3_ok1 {s : ByteArray} {i : Nat} {q0 q1 q2 : Nat} (hs : s.size ≤ 2000) (hi : i < s.size) (g0 : ∀ h, (s[i]'h).toNat = q0) (u0 : q0 < 256) (g1 : ∀ h, (s[i + 1]'h).toNat = q1) (u1 : q1 < 256) (g2 : ∀ h, (s[i + 2]'h).toNat = q2) (u2 : q2 < 256) (c : 224 ≤ q0) (c' : q0 < 240) (hN : i + 3 ≤ s.size) (a1 : 128 ≤ q1) (b1 : q1 < 192) (a2 : 128 ≤ q2) (b2 : q2 < 192) (z : 2048 ≤ ((((q0 : Int) - 224) * 64 + q1 - 128) * 64 + q2 - 128)) (zz : ((((q0 : Int) - 224) * 64 + q1 - 128) * 64 + q2 - 128) < 55296) (w : World) : Calls Try.prog 39 #[.string s, .int .i64 i] w fun e w' => e = .returned (.tuple #[.int .i64 ((((q0 : Int) - 224) * 64 + q1 - 128) * 64 + q2 - 128), .int .i64 3]) ∧ w = w' := by
  go_enter Try.func39, Try.ntmps39
  go_wp2_with fail
  refine wp_loop_rounds 3 ?_
  rw [rounds_succ]
  go_wp2_with fail
  rw [rounds_succ]
  go_wp2_with fail
  rw [rounds_succ]
  go_wp2_with fail
  go_ret2
  exact ⟨rfl, rfl⟩

set_option maxRecDepth 1000000 in
set_option maxHeartbeats 8000000 in
theorem rrune_3_ok2 {s : ByteArray} {i : Nat} {q0 q1 q2 : Nat} (hs : s.size ≤ 2000) (hi : i < s.size) (g0 : ∀ h, (s[i]'h).toNat = q0) (u0 : q0 < 256) (g1 : ∀ h, (s[i + 1]'h).toNat = q1) (u1 : q1 < 256) (g2 : ∀ h, (s[i + 2]'h).toNat = q2) (u2 : q2 < 256) (c : 224 ≤ q0) (c' : q0 < 240) (hN : i + 3 ≤ s.size) (a1 : 128 ≤ q1) (b1 : q1 < 192) (a2 : 128 ≤ q2) (b2 : q2 < 192) (z : 57343 < ((((q0 : Int) - 224) * 64 + q1 - 128) * 64 + q2 - 128)) (w : World) : Calls Try.prog 39 #[.string s, .int .i64 i] w fun e w' => e = .returned (.tuple #[.int .i64 ((((q0 : Int) - 224) * 64 + q1 - 128) * 64 + q2 - 128), .int .i64 3]) ∧ w = w' := by
  go_enter Try.func39, Try.ntmps39
  go_wp2_with fail
  refine wp_loop_rounds 3 ?_
  rw [rounds_succ]
  go_wp2_with fail
  rw [rounds_succ]
  go_wp2_with fail
  rw [rounds_succ]
  go_wp2_with fail
  go_ret2
  exact ⟨rfl, rfl⟩

set_option maxRecDepth 1000000 in
set_option maxHeartbeats 8000000 in
theorem rrune_4_short {s : ByteArray} {i : Nat} {q0 : Nat} (hs : s.size ≤ 2000) (hi : i < s.size) (g0 : ∀ h, (s[i]'h).toNat = q0) (u0 : q0 < 256) (c : 240 ≤ q0) (c' : q0 < 248) (hN : s.size < i + 4) (w : World) : Calls Try.prog 39 #[.string s, .int .i64 i] w fun e w' => e = .returned (.tuple #[.int .i64 0, .int .i64 0]) ∧ w = w' := by
  go_enter Try.func39, Try.ntmps39
  go_wp2_with fail
  go_ret2
  exact ⟨rfl, rfl⟩

set_option maxRecDepth 1000000 in
set_option maxHeartbeats 8000000 in
theorem rrune_4_low1 {s : ByteArray} {i : Nat} {q0 q1 : Nat} (hs : s.size ≤ 2000) (hi : i < s.size) (g0 : ∀ h, (s[i]'h).toNat = q0) (u0 : q0 < 256) (g1 : ∀ h, (s[i + 1]'h).toNat = q1) (u1 : q1 < 256) (c : 240 ≤ q0) (c' : q0 < 248) (hN : i + 4 ≤ s.size) (z : q1 < 128) (w : World) : Calls Try.prog 39 #[.string s, .int .i64 i] w fun e w' => e = .returned (.tuple #[.int .i64 0, .int .i64 0]) ∧ w = w' := by
  go_enter Try.func39, Try.ntmps39
  go_wp2_with fail
  refine wp_loop_rounds 4 ?_
  rw [rounds_succ]
  go_wp2_with fail
  go_ret2
  exact ⟨rfl, rfl⟩

set_option maxRecDepth 1000000 in
set_option maxHeartbeats 8000000 in
theorem rrune_4_high1 {s : ByteArray} {i : Nat} {q0 q1 : Nat} (hs : s.size ≤ 2000) (hi : i < s.size) (g0 : ∀ h, (s[i]'h).toNat = q0) (u0 : q0 < 256) (g1 : ∀ h, (s[i + 1]'h).toNat = q1) (u1 : q1 < 256) (c : 240 ≤ q0) (c' : q0 < 248) (hN : i + 4 ≤ s.size) (z : 192 ≤ q1) (w : World) : Calls Try.prog 39 #[.string s, .int .i64 i] w fun e w' => e = .returned (.tuple #[.int .i64 0, .int .i64 0]) ∧ w = w' := by
  go_enter Try.func39, Try.ntmps39
  go_wp2_with fail
  refine wp_loop_rounds 4 ?_
  rw [rounds_succ]
  go_wp2_with fail
  go_ret2
  exact ⟨rfl, rfl⟩

set_option maxRecDepth 1000000 in
set_option maxHeartbeats 8000000 in
theorem rrune_4_low2 {s : ByteArray} {i : Nat} {q0 q1 q2 : Nat} (hs : s.size ≤ 2000) (hi : i < s.size) (g0 : ∀ h, (s[i]'h).toNat = q0) (u0 : q0 < 256) (g1 : ∀ h, (s[i + 1]'h).toNat = q1) (u1 : q1 < 256) (g2 : ∀ h, (s[i + 2]'h).toNat = q2) (u2 : q2 < 256) (c : 240 ≤ q0) (c' : q0 < 248) (hN : i + 4 ≤ s.size) (a1 : 128 ≤ q1) (b1 : q1 < 192) (z : q2 < 128) (w : World) : Calls Try.prog 39 #[.string s, .int .i64 i] w fun e w' => e = .returned (.tuple #[.int .i64 0, .int .i64 0]) ∧ w = w' := by
  go_enter Try.func39, Try.ntmps39
  go_wp2_with fail
  refine wp_loop_rounds 4 ?_
  rw [rounds_succ]
  go_wp2_with fail
  rw [rounds_succ]
  go_wp2_with fail
  go_ret2
  exact ⟨rfl, rfl⟩

set_option maxRecDepth 1000000 in
set_option maxHeartbeats 8000000 in
theorem rrune_4_high2 {s : ByteArray} {i : Nat} {q0 q1 q2 : Nat} (hs : s.size ≤ 2000) (hi : i < s.size) (g0 : ∀ h, (s[i]'h).toNat = q0) (u0 : q0 < 256) (g1 : ∀ h, (s[i + 1]'h).toNat = q1) (u1 : q1 < 256) (g2 : ∀ h, (s[i + 2]'h).toNat = q2) (u2 : q2 < 256) (c : 240 ≤ q0) (c' : q0 < 248) (hN : i + 4 ≤ s.size) (a1 : 128 ≤ q1) (b1 : q1 < 192) (z : 192 ≤ q2) (w : World) : Calls Try.prog 39 #[.string s, .int .i64 i] w fun e w' => e = .returned (.tuple #[.int .i64 0, .int .i64 0]) ∧ w = w' := by
  go_enter Try.func39, Try.ntmps39
  go_wp2_with fail
  refine wp_loop_rounds 4 ?_
  rw [rounds_succ]
  go_wp2_with fail
  rw [rounds_succ]
  go_wp2_with fail
  go_ret2
  exact ⟨rfl, rfl⟩

set_option maxRecDepth 1000000 in
set_option maxHeartbeats 8000000 in
theorem rrune_4_low3 {s : ByteArray} {i : Nat} {q0 q1 q2 q3 : Nat} (hs : s.size ≤ 2000) (hi : i < s.size) (g0 : ∀ h, (s[i]'h).toNat = q0) (u0 : q0 < 256) (g1 : ∀ h, (s[i + 1]'h).toNat = q1) (u1 : q1 < 256) (g2 : ∀ h, (s[i + 2]'h).toNat = q2) (u2 : q2 < 256) (g3 : ∀ h, (s[i + 3]'h).toNat = q3) (u3 : q3 < 256) (c : 240 ≤ q0) (c' : q0 < 248) (hN : i + 4 ≤ s.size) (a1 : 128 ≤ q1) (b1 : q1 < 192) (a2 : 128 ≤ q2) (b2 : q2 < 192) (z : q3 < 128) (w : World) : Calls Try.prog 39 #[.string s, .int .i64 i] w fun e w' => e = .returned (.tuple #[.int .i64 0, .int .i64 0]) ∧ w = w' := by
  go_enter Try.func39, Try.ntmps39
  go_wp2_with fail
  refine wp_loop_rounds 4 ?_
  rw [rounds_succ]
  go_wp2_with fail
  rw [rounds_succ]
  go_wp2_with fail
  rw [rounds_succ]
  go_wp2_with fail
  go_ret2
  exact ⟨rfl, rfl⟩

set_option maxRecDepth 1000000 in
set_option maxHeartbeats 8000000 in
theorem rrune_4_high3 {s : ByteArray} {i : Nat} {q0 q1 q2 q3 : Nat} (hs : s.size ≤ 2000) (hi : i < s.size) (g0 : ∀ h, (s[i]'h).toNat = q0) (u0 : q0 < 256) (g1 : ∀ h, (s[i + 1]'h).toNat = q1) (u1 : q1 < 256) (g2 : ∀ h, (s[i + 2]'h).toNat = q2) (u2 : q2 < 256) (g3 : ∀ h, (s[i + 3]'h).toNat = q3) (u3 : q3 < 256) (c : 240 ≤ q0) (c' : q0 < 248) (hN : i + 4 ≤ s.size) (a1 : 128 ≤ q1) (b1 : q1 < 192) (a2 : 128 ≤ q2) (b2 : q2 < 192) (z : 192 ≤ q3) (w : World) : Calls Try.prog 39 #[.string s, .int .i64 i] w fun e w' => e = .returned (.tuple #[.int .i64 0, .int .i64 0]) ∧ w = w' := by
  go_enter Try.func39, Try.ntmps39
  go_wp2_with fail
  refine wp_loop_rounds 4 ?_
  rw [rounds_succ]
  go_wp2_with fail
  rw [rounds_succ]
  go_wp2_with fail
  rw [rounds_succ]
  go_wp2_with fail
  go_ret2
  exact ⟨rfl, rfl⟩

set_option maxRecDepth 1000000 in
set_option maxHeartbeats 8000000 in
theorem rrune_4_less {s : ByteArray} {i : Nat} {q0 q1 q2 q3 : Nat} (hs : s.size ≤ 2000) (hi : i < s.size) (g0 : ∀ h, (s[i]'h).toNat = q0) (u0 : q0 < 256) (g1 : ∀ h, (s[i + 1]'h).toNat = q1) (u1 : q1 < 256) (g2 : ∀ h, (s[i + 2]'h).toNat = q2) (u2 : q2 < 256) (g3 : ∀ h, (s[i + 3]'h).toNat = q3) (u3 : q3 < 256) (c : 240 ≤ q0) (c' : q0 < 248) (hN : i + 4 ≤ s.size) (a1 : 128 ≤ q1) (b1 : q1 < 192) (a2 : 128 ≤ q2) (b2 : q2 < 192) (a3 : 128 ≤ q3) (b3 : q3 < 192) (z : (((((q0 : Int) - 240) * 64 + q1 - 128) * 64 + q2 - 128) * 64 + q3 - 128) < 65536) (w : World) : Calls Try.prog 39 #[.string s, .int .i64 i] w fun e w' => e = .returned (.tuple #[.int .i64 0, .int .i64 0]) ∧ w = w' := by
  go_enter Try.func39, Try.ntmps39
  go_wp2_with fail
  refine wp_loop_rounds 4 ?_
  rw [rounds_succ]
  go_wp2_with fail
  rw [rounds_succ]
  go_wp2_with fail
  rw [rounds_succ]
  go_wp2_with fail
  rw [rounds_succ]
  go_wp2_with fail
  go_ret2
  exact ⟨rfl, rfl⟩

set_option maxRecDepth 1000000 in
set_option maxHeartbeats 8000000 in
theorem rrune_4_more {s : ByteArray} {i : Nat} {q0 q1 q2 q3 : Nat} (hs : s.size ≤ 2000) (hi : i < s.size) (g0 : ∀ h, (s[i]'h).toNat = q0) (u0 : q0 < 256) (g1 : ∀ h, (s[i + 1]'h).toNat = q1) (u1 : q1 < 256) (g2 : ∀ h, (s[i + 2]'h).toNat = q2) (u2 : q2 < 256) (g3 : ∀ h, (s[i + 3]'h).toNat = q3) (u3 : q3 < 256) (c : 240 ≤ q0) (c' : q0 < 248) (hN : i + 4 ≤ s.size) (a1 : 128 ≤ q1) (b1 : q1 < 192) (a2 : 128 ≤ q2) (b2 : q2 < 192) (a3 : 128 ≤ q3) (b3 : q3 < 192) (z : 1114111 < (((((q0 : Int) - 240) * 64 + q1 - 128) * 64 + q2 - 128) * 64 + q3 - 128)) (w : World) : Calls Try.prog 39 #[.string s, .int .i64 i] w fun e w' => e = .returned (.tuple #[.int .i64 0, .int .i64 0]) ∧ w = w' := by
  go_enter Try.func39, Try.ntmps39
  go_wp2_with fail
  refine wp_loop_rounds 4 ?_
  rw [rounds_succ]
  go_wp2_with fail
  rw [rounds_succ]
  go_wp2_with fail
  rw [rounds_succ]
  go_wp2_with fail
  rw [rounds_succ]
  go_wp2_with fail
  go_ret2
  exact ⟨rfl, rfl⟩

set_option maxRecDepth 1000000 in
set_option maxHeartbeats 8000000 in
theorem rrune_4_ok {s : ByteArray} {i : Nat} {q0 q1 q2 q3 : Nat} (hs : s.size ≤ 2000) (hi : i < s.size) (g0 : ∀ h, (s[i]'h).toNat = q0) (u0 : q0 < 256) (g1 : ∀ h, (s[i + 1]'h).toNat = q1) (u1 : q1 < 256) (g2 : ∀ h, (s[i + 2]'h).toNat = q2) (u2 : q2 < 256) (g3 : ∀ h, (s[i + 3]'h).toNat = q3) (u3 : q3 < 256) (c : 240 ≤ q0) (c' : q0 < 248) (hN : i + 4 ≤ s.size) (a1 : 128 ≤ q1) (b1 : q1 < 192) (a2 : 128 ≤ q2) (b2 : q2 < 192) (a3 : 128 ≤ q3) (b3 : q3 < 192) (z : 65536 ≤ (((((q0 : Int) - 240) * 64 + q1 - 128) * 64 + q2 - 128) * 64 + q3 - 128)) (zz : (((((q0 : Int) - 240) * 64 + q1 - 128) * 64 + q2 - 128) * 64 + q3 - 128) ≤ 1114111) (w : World) : Calls Try.prog 39 #[.string s, .int .i64 i] w fun e w' => e = .returned (.tuple #[.int .i64 (((((q0 : Int) - 240) * 64 + q1 - 128) * 64 + q2 - 128) * 64 + q3 - 128), .int .i64 4]) ∧ w = w' := by
  go_enter Try.func39, Try.ntmps39
  go_wp2_with fail
  refine wp_loop_rounds 4 ?_
  rw [rounds_succ]
  go_wp2_with fail
  rw [rounds_succ]
  go_wp2_with fail
  rw [rounds_succ]
  go_wp2_with fail
  rw [rounds_succ]
  go_wp2_with fail
  go_ret2
  exact ⟨rfl, rfl⟩

/-- The reference's Rune at any place of a text. -/
theorem RRune_ok (s : ByteArray) (hs : s.size ≤ 2000) (i : Nat) (hi : i < s.size) (w : World) : Calls Try.prog 39 #[.string s, .int .i64 i] w fun e w' => e = .returned (.tuple #[.int .i64 (RR (Lib.decodeL (s.data.toList.drop i))).1, .int .i64 (RR (Lib.decodeL (s.data.toList.drop i))).2]) ∧ w = w' := by
  rw [rune_bytes]
  have g : ∀ j, (∀ h, (s[i + j]'h).toNat = (s.get! (i + j)).toNat) := fun j h => by rw [get_byte h]
  have g0 : ∀ h, (s[i]'h).toNat = (s.get! i).toNat := fun h => by rw [get_byte h]
  have g1 := g 1
  have g2 := g 2
  have g3 := g 3
  have u0 := (s.get! i).toNat_lt
  have u1 := (s.get! (i + 1)).toNat_lt
  have u2 := (s.get! (i + 2)).toNat_lt
  have u3 := (s.get! (i + 3)).toNat_lt
  clear g
  generalize (s.get! i).toNat = q0 at *
  generalize (s.get! (i + 1)).toNat = q1 at *
  generalize (s.get! (i + 2)).toNat = q2 at *
  generalize (s.get! (i + 3)).toNat = q3 at *
  by_cases c1 : q0 < 128
  · rw [rr_one c1]; exact rrune_one hs hi g0 u0 c1 w
  by_cases c2 : q0 < 192
  · rw [rr_none u0 (by omega)]; exact rrune_none1 hs hi g0 u0 (by omega) c2 w
  by_cases c3 : q0 < 224
  · by_cases hN : s.size < i + 2
    · rw [rr_two_no ⟨by omega, c3⟩ (by omega)]; exact rrune_2_short hs hi g0 u0 (by omega) c3 hN w
    by_cases z1 : q1 < 128
    · rw [rr_two_no ⟨by omega, c3⟩ (by omega)]; exact rrune_2_low1 hs hi g0 u0 g1 u1 (by omega) c3 (by omega) z1 w
    by_cases z2 : 192 ≤ q1
    · rw [rr_two_no ⟨by omega, c3⟩ (by omega)]; exact rrune_2_high1 hs hi g0 u0 g1 u1 (by omega) c3 (by omega) z2 w
    rw [rr_two ⟨by omega, c3⟩ (by omega) ⟨by omega, by omega⟩]
    by_cases hl : (q0 - 192) * 64 + (q1 - 128) < 128
    · rw [if_pos hl]; exact rrune_2_less hs hi g0 u0 g1 u1 (by omega) c3 (by omega) (by omega) (by omega) (by omega) w
    · rw [if_neg hl]
      have := rrune_2_ok hs hi g0 u0 g1 u1 (by omega) c3 (by omega) (by omega) (by omega) (by omega) w
      rw [show ((q0 : Int) - 192) * 64 + q1 - 128 = (((q0 - 192) * 64 + (q1 - 128) : Nat) : Int) by omega] at this
      exact this
  by_cases c4 : q0 < 240
  · by_cases hN : s.size < i + 3
    · rw [rr_three_no ⟨by omega, c4⟩ (by omega)]; exact rrune_3_short hs hi g0 u0 (by omega) c4 hN w
    by_cases z1 : q1 < 128
    · rw [rr_three_no ⟨by omega, c4⟩ (by omega)]; exact rrune_3_low1 hs hi g0 u0 g1 u1 (by omega) c4 (by omega) z1 w
    by_cases z2 : 192 ≤ q1
    · rw [rr_three_no ⟨by omega, c4⟩ (by omega)]; exact rrune_3_high1 hs hi g0 u0 g1 u1 (by omega) c4 (by omega) z2 w
    by_cases z3 : q2 < 128
    · rw [rr_three_no ⟨by omega, c4⟩ (by omega)]; exact rrune_3_low2 hs hi g0 u0 g1 u1 g2 u2 (by omega) c4 (by omega) (by omega) (by omega) z3 w
    by_cases z4 : 192 ≤ q2
    · rw [rr_three_no ⟨by omega, c4⟩ (by omega)]; exact rrune_3_high2 hs hi g0 u0 g1 u1 g2 u2 (by omega) c4 (by omega) (by omega) (by omega) z4 w
    obtain ⟨r, hr⟩ : ∃ r, r = ((q0 - 224) * 64 + (q1 - 128)) * 64 + (q2 - 128) := ⟨_, rfl⟩
    have hR : (((q0 : Int) - 224) * 64 + q1 - 128) * 64 + q2 - 128 = (r : Int) := by omega
    rw [rr_three ⟨by omega, c4⟩ (by omega) ⟨by omega, by omega⟩ ⟨by omega, by omega⟩ hr]
    by_cases hl : r < 2048 ∨ (55296 ≤ r ∧ r ≤ 57343)
    · rw [if_pos hl]
      by_cases h1 : r < 2048
      · exact rrune_3_less hs hi g0 u0 g1 u1 g2 u2 (by omega) c4 (by omega) (by omega) (by omega) (by omega) (by omega) (by omega) w
      · exact rrune_3_sur hs hi g0 u0 g1 u1 g2 u2 (by omega) c4 (by omega) (by omega) (by omega) (by omega) (by omega) (by omega) (by omega) w
    · rw [if_neg hl]
      by_cases h1 : r < 55296
      · have := rrune_3_ok1 hs hi g0 u0 g1 u1 g2 u2 (by omega) c4 (by omega) (by omega) (by omega) (by omega) (by omega) (by omega) (by omega) w
        rw [hR] at this
        exact this
      · have := rrune_3_ok2 hs hi g0 u0 g1 u1 g2 u2 (by omega) c4 (by omega) (by omega) (by omega) (by omega) (by omega) (by omega) w
        rw [hR] at this
        exact this
  by_cases c5 : q0 < 248
  · by_cases hN : s.size < i + 4
    · rw [rr_four_no ⟨by omega, c5⟩ (by omega)]; exact rrune_4_short hs hi g0 u0 (by omega) c5 hN w
    by_cases z1 : q1 < 128
    · rw [rr_four_no ⟨by omega, c5⟩ (by omega)]; exact rrune_4_low1 hs hi g0 u0 g1 u1 (by omega) c5 (by omega) z1 w
    by_cases z2 : 192 ≤ q1
    · rw [rr_four_no ⟨by omega, c5⟩ (by omega)]; exact rrune_4_high1 hs hi g0 u0 g1 u1 (by omega) c5 (by omega) z2 w
    by_cases z3 : q2 < 128
    · rw [rr_four_no ⟨by omega, c5⟩ (by omega)]; exact rrune_4_low2 hs hi g0 u0 g1 u1 g2 u2 (by omega) c5 (by omega) (by omega) (by omega) z3 w
    by_cases z4 : 192 ≤ q2
    · rw [rr_four_no ⟨by omega, c5⟩ (by omega)]; exact rrune_4_high2 hs hi g0 u0 g1 u1 g2 u2 (by omega) c5 (by omega) (by omega) (by omega) z4 w
    by_cases z5 : q3 < 128
    · rw [rr_four_no ⟨by omega, c5⟩ (by omega)]; exact rrune_4_low3 hs hi g0 u0 g1 u1 g2 u2 g3 u3 (by omega) c5 (by omega) (by omega) (by omega) (by omega) (by omega) z5 w
    by_cases z6 : 192 ≤ q3
    · rw [rr_four_no ⟨by omega, c5⟩ (by omega)]; exact rrune_4_high3 hs hi g0 u0 g1 u1 g2 u2 g3 u3 (by omega) c5 (by omega) (by omega) (by omega) (by omega) (by omega) z6 w
    obtain ⟨r, hr⟩ : ∃ r, r = (((q0 - 240) * 64 + (q1 - 128)) * 64 + (q2 - 128)) * 64 + (q3 - 128) := ⟨_, rfl⟩
    have hR : ((((q0 : Int) - 240) * 64 + q1 - 128) * 64 + q2 - 128) * 64 + q3 - 128 = (r : Int) := by omega
    rw [rr_four ⟨by omega, c5⟩ (by omega) ⟨by omega, by omega⟩ ⟨by omega, by omega⟩ ⟨by omega, by omega⟩ hr]
    by_cases hl : r < 65536 ∨ 1114111 < r
    · rw [if_pos hl]
      by_cases h1 : r < 65536
      · exact rrune_4_less hs hi g0 u0 g1 u1 g2 u2 g3 u3 (by omega) c5 (by omega) (by omega) (by omega) (by omega) (by omega) (by omega) (by omega) (by omega) w
      · exact rrune_4_more hs hi g0 u0 g1 u1 g2 u2 g3 u3 (by omega) c5 (by omega) (by omega) (by omega) (by omega) (by omega) (by omega) (by omega) (by omega) w
    · rw [if_neg hl]
      have := rrune_4_ok hs hi g0 u0 g1 u1 g2 u2 g3 u3 (by omega) c5 (by omega) (by omega) (by omega) (by omega) (by omega) (by omega) (by omega) (by omega) (by omega) w
      rw [hR] at this
      exact this
  · rw [rr_none u0 (by omega)]; exact rrune_none2 hs hi g0 u0 (by omega) w
end Go.Proofs.Ytkbelhhimllfnaa
