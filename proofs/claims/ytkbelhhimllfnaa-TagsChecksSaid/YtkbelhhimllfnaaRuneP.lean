/- Plain laws on the reference's way to read a rune: it finds what the model's decoder finds. No condition. -/
import Derived.Test.YtkbelhhimllfnaaWorks
namespace Go.Proofs.Ytkbelhhimllfnaa
open Go.Lib

/-- What the reference answers for what the decoder finds: (0, 0) where there is no rune. -/
def RR (d : Nat × Nat) : Nat × Nat := if d = (65533, 1) then (0, 0) else d
theorem RR_err : RR (65533, 1) = (0, 0) := rfl
theorem RR_ok {r n : Nat} (h : n ≠ 1) : RR (r, n) = (r, n) := by
  unfold RR
  rw [if_neg]
  intro e
  injection e with _ e2
  exact h e2
theorem rr_one {N b0 b1 b2 b3 : Nat} (h : b0 < 128) : RR (decodeN N b0 b1 b2 b3) = (b0, 1) := by
  unfold decodeN
  rw [if_pos h]
  unfold RR
  rw [if_neg]
  intro e
  injection e with e1 _
  omega
theorem rr_none {N b0 b1 b2 b3 : Nat} (h0 : b0 < 256) (h : (128 ≤ b0 ∧ b0 < 192) ∨ 248 ≤ b0) : RR (decodeN N b0 b1 b2 b3) = (0, 0) := by
  unfold decodeN
  rw [if_neg (by omega), if_neg (by omega), if_neg (by omega), if_neg (by omega)]
  rfl
theorem rr_two_no {N b0 b1 b2 b3 : Nat} (h : 192 ≤ b0 ∧ b0 < 224) (hb : N < 2 ∨ b1 < 128 ∨ 192 ≤ b1) : RR (decodeN N b0 b1 b2 b3) = (0, 0) := by
  unfold decodeN
  rw [if_neg (by omega), if_neg (by omega), if_neg (by omega), if_neg (by omega)]
  rfl
theorem rr_two {N b0 b1 b2 b3 : Nat} (h : 192 ≤ b0 ∧ b0 < 224) (hN : 2 ≤ N) (hb : 128 ≤ b1 ∧ b1 < 192) : RR (decodeN N b0 b1 b2 b3) = if (b0 - 192) * 64 + (b1 - 128) < 128 then (0, 0) else ((b0 - 192) * 64 + (b1 - 128), 2) := by
  unfold decodeN
  rw [if_neg (by omega), if_pos (by omega)]
  by_cases hl : (b0 - 192) * 64 + (b1 - 128) < 128
  · rw [if_pos hl, if_neg (by omega)]
    rfl
  · rw [if_neg hl, if_pos (by omega), RR_ok (by decide)]
    exact Prod.ext (by dsimp only; omega) rfl
theorem rr_three_no {N b0 b1 b2 b3 : Nat} (h : 224 ≤ b0 ∧ b0 < 240) (hb : N < 3 ∨ b1 < 128 ∨ 192 ≤ b1 ∨ b2 < 128 ∨ 192 ≤ b2) : RR (decodeN N b0 b1 b2 b3) = (0, 0) := by
  unfold decodeN
  rw [if_neg (by omega), if_neg (by omega), if_neg (by omega), if_neg (by omega)]
  rfl
theorem rr_three {N b0 b1 b2 b3 : Nat} (h : 224 ≤ b0 ∧ b0 < 240) (hN : 3 ≤ N) (hb : 128 ≤ b1 ∧ b1 < 192) (hc : 128 ≤ b2 ∧ b2 < 192) {r : Nat} (hr : r = ((b0 - 224) * 64 + (b1 - 128)) * 64 + (b2 - 128)) :
    RR (decodeN N b0 b1 b2 b3) = if r < 2048 ∨ (55296 ≤ r ∧ r ≤ 57343) then (0, 0) else (r, 3) := by
  unfold decodeN
  rw [if_neg (by omega), if_neg (by omega), if_pos (by omega)]
  by_cases hl : r < 2048 ∨ (55296 ≤ r ∧ r ≤ 57343)
  · rw [if_pos hl, if_neg (by omega)]
    rfl
  · rw [if_neg hl, if_pos (by omega), RR_ok (by decide)]
    exact Prod.ext (by dsimp only; omega) rfl
theorem rr_four_no {N b0 b1 b2 b3 : Nat} (h : 240 ≤ b0 ∧ b0 < 248) (hb : N < 4 ∨ b1 < 128 ∨ 192 ≤ b1 ∨ b2 < 128 ∨ 192 ≤ b2 ∨ b3 < 128 ∨ 192 ≤ b3) : RR (decodeN N b0 b1 b2 b3) = (0, 0) := by
  unfold decodeN
  rw [if_neg (by omega), if_neg (by omega), if_neg (by omega), if_neg (by omega)]
  rfl
theorem rr_four {N b0 b1 b2 b3 : Nat} (h : 240 ≤ b0 ∧ b0 < 248) (hN : 4 ≤ N) (hb : 128 ≤ b1 ∧ b1 < 192) (hc : 128 ≤ b2 ∧ b2 < 192) (hd : 128 ≤ b3 ∧ b3 < 192) {r : Nat} (hr : r = (((b0 - 240) * 64 + (b1 - 128)) * 64 + (b2 - 128)) * 64 + (b3 - 128)) :
    RR (decodeN N b0 b1 b2 b3) = if r < 65536 ∨ 1114111 < r then (0, 0) else (r, 4) := by
  unfold decodeN
  rw [if_neg (by omega), if_neg (by omega), if_neg (by omega), if_pos (by omega)]
  by_cases hl : r < 65536 ∨ 1114111 < r
  · rw [if_pos hl, if_neg (by omega)]
    rfl
  · rw [if_neg hl, if_pos (by omega), RR_ok (by decide)]
    exact Prod.ext (by dsimp only; omega) rfl

/-- The bytes of a text from a place on, as numbers. -/
theorem rune_bytes (s : ByteArray) (i : Nat) : decodeL (s.data.toList.drop i) = decodeN (s.size - i) (s.get! i).toNat (s.get! (i + 1)).toNat (s.get! (i + 2)).toNat (s.get! (i + 3)).toNat := by
  rw [decodeL_drop, decode_at]
theorem get_byte {s : ByteArray} {i : Nat} (h : i < s.size) : s[i] = s.get! i := by
  have := get_at s i h
  simpa using this.symm
end Go.Proofs.Ytkbelhhimllfnaa
