/- Plain laws on words of 64 bits: which bits a word has, the lowest one, a bit more and a bit less, and how many there are. No condition. -/
import Derived.Lib.TrailingZeros
namespace Go.Proofs.YtcdnflffpeijfaaDoor

/-- The numbers of the bits of a word. -/
def bitsOf (w : Nat) : List Nat := (List.range 64).filter fun j => w.testBit j

theorem filter_first (p : Nat → Bool) (t : Nat) (ht : p t = true) (hlow : ∀ j, j < t → p j = false) : ∀ n, t < n → (List.range n).filter p = t :: (List.range n).filter (fun j => p j && decide (j ≠ t))
  | 0, h => by omega
  | n + 1, h => by
    rw [List.range_succ, List.filter_append, List.filter_append]
    rcases Nat.lt_or_ge t n with h1 | h1
    · rw [filter_first p t ht hlow n h1]
      have : (p n && decide (n ≠ t)) = p n := by rw [decide_eq_true (show n ≠ t by omega), Bool.and_true]
      simp only [List.filter_cons, List.filter_nil, this, List.cons_append]
    · obtain rfl : t = n := by omega
      have e1 : (List.range t).filter p = [] := by
        rw [List.filter_eq_nil_iff]
        intro j hj
        rw [hlow j (List.mem_range.1 hj)]
        simp
      have e2 : (List.range t).filter (fun j => p j && decide (j ≠ t)) = [] := by
        rw [List.filter_eq_nil_iff]
        intro j hj
        rw [hlow j (List.mem_range.1 hj)]
        simp
      rw [e1, e2]
      simp [ht]

theorem low_form {w : Nat} (h0 : w ≠ 0) (h : w < 2 ^ 64) : ∃ m, w = 2 ^ Lib.ctz 64 w * (2 * m + 1) ∧ Lib.ctz 64 w < 64 := by
  unfold Lib.ctz
  rw [if_neg h0]
  exact Lib.ctzFrom_spec 64 w (by omega) h
theorem testBit_form (t a b j : Nat) (hb : b < 2 ^ t) : (2 ^ t * a + b).testBit j = if j < t then b.testBit j else a.testBit (j - t) := Nat.testBit_two_pow_mul_add a hb j
theorem odd_bits (t m j : Nat) : (2 ^ t * (2 * m + 1)).testBit j = if j < t then false else if j = t then true else m.testBit (j - t - 1) := by
  have h := testBit_form t (2 * m + 1) 0 j (Nat.two_pow_pos t)
  rw [Nat.add_zero] at h
  rw [h]
  by_cases h1 : j < t
  · rw [if_pos h1, if_pos h1]; simp
  · rw [if_neg h1, if_neg h1]
    by_cases h2 : j = t
    · subst h2
      rw [if_pos rfl, Nat.sub_self]
      simp [Nat.testBit_zero]
    · rw [if_neg h2]
      obtain ⟨k, hk⟩ : ∃ k, j - t = k + 1 := ⟨j - t - 1, by omega⟩
      rw [hk, Nat.testBit_succ, Nat.add_sub_cancel]
      congr 1
      omega
theorem low_less (t m j : Nat) : (2 ^ t * (2 * m + 1) - 1).testBit j = if j < t then true else if j = t then false else m.testBit (j - t - 1) := by
  have e : 2 ^ t * (2 * m + 1) - 1 = 2 ^ t * (2 * m) + (2 ^ t - 1) := by
    have := Nat.two_pow_pos t
    rw [Nat.mul_add, Nat.mul_one]
    omega
  rw [e, testBit_form t (2 * m) (2 ^ t - 1) j (by have := Nat.two_pow_pos t; omega)]
  by_cases h1 : j < t
  · rw [if_pos h1, if_pos h1, Nat.testBit_two_pow_sub_one]
    simp [h1]
  · rw [if_neg h1, if_neg h1]
    by_cases h2 : j = t
    · subst h2
      rw [if_pos rfl, Nat.sub_self]
      simp [Nat.testBit_zero]
    · rw [if_neg h2]
      obtain ⟨k, hk⟩ : ∃ k, j - t = k + 1 := ⟨j - t - 1, by omega⟩
      rw [hk, Nat.testBit_succ, Nat.add_sub_cancel]
      congr 1
      omega
/-- A word less its lowest bit. -/
theorem less_low {w : Nat} (h0 : w ≠ 0) (h : w < 2 ^ 64) (j : Nat) : (w &&& (w - 1)).testBit j = (w.testBit j && decide (j ≠ Lib.ctz 64 w)) := by
  obtain ⟨m, hm, _⟩ := low_form h0 h
  generalize Lib.ctz 64 w = t at *
  rw [Nat.testBit_and, hm, odd_bits, low_less]
  by_cases h1 : j < t
  · rw [if_pos h1]; simp
  · rw [if_neg h1, if_neg h1]
    by_cases h2 : j = t
    · simp [h2]
    · simp [h2]
theorem bitsOf_zero : bitsOf 0 = [] := by simp [bitsOf]
/-- The bits of a word: the lowest one, and those of the word less this one. -/
theorem bitsOf_step {w : Nat} (h0 : w ≠ 0) (h : w < 2 ^ 64) : bitsOf w = Lib.ctz 64 w :: bitsOf (w &&& (w - 1)) := by
  have hl := less_low h0 h
  obtain ⟨m, hm, ht⟩ := low_form h0 h
  unfold bitsOf
  rw [filter_first (fun j => w.testBit j) (Lib.ctz 64 w) ?_ ?_ 64 ht]
  · congr 1
    apply List.filter_congr
    intro j _
    exact (hl j).symm
  · generalize Lib.ctz 64 w = t at *
    rw [hm, odd_bits, if_neg (by omega), if_pos rfl]
  · intro j hj
    generalize Lib.ctz 64 w = t at *
    rw [hm, odd_bits, if_pos hj]
theorem less_lt {w : Nat} (h0 : w ≠ 0) : w &&& (w - 1) < w := by
  have : w &&& (w - 1) ≤ w - 1 := Nat.and_le_right
  omega

/-- A bit more, and a bit less. -/
theorem testBit_more (w i j : Nat) : (w ||| 2 ^ i).testBit j = (w.testBit j || decide (i = j)) := by
  rw [Nat.testBit_or, Nat.testBit_two_pow]
theorem testBit_fewer (w i j : Nat) (hi : i < 64) (hj : j < 64) : (w &&& (18446744073709551615 - 2 ^ i)).testBit j = (w.testBit j && !decide (i = j)) := by
  rw [Nat.testBit_and]
  congr 1
  have : 18446744073709551615 - 2 ^ i = 2 ^ 64 - (2 ^ i + 1) := by omega
  rw [this, Nat.testBit_two_pow_sub_succ (Nat.pow_lt_pow_right (by omega) hi), Nat.testBit_two_pow]
  simp [hj]
theorem testBit_minus (w u j : Nat) (hu : u < 2 ^ 64) (hj : j < 64) : (w &&& (18446744073709551615 - u)).testBit j = (w.testBit j && !u.testBit j) := by
  rw [Nat.testBit_and]
  congr 1
  have : 18446744073709551615 - u = 2 ^ 64 - (u + 1) := by omega
  rw [this, Nat.testBit_two_pow_sub_succ hu]
  simp [hj]

/-! ### How many bits there are, as math/bits counts them -/
theorem and_bytes (q r m c : Nat) (hr : r < 256) (hc : c < 256) : (256 * q + r) &&& (256 * m + c) = 256 * (q &&& m) + (r &&& c) := by
  apply Nat.eq_of_testBit_eq
  intro j
  have e : (256 : Nat) = 2 ^ 8 := rfl
  rw [Nat.testBit_and, e, testBit_form 8 q r j hr, testBit_form 8 m c j hc, testBit_form 8 (q &&& m) (r &&& c) j (Nat.and_lt_two_pow r hc)]
  by_cases h : j < 8
  · simp [h]
  · simp [h]
/-- The three steps on the bytes of a word, with the masks of its width. -/
def pairs (m x : Nat) : Nat := ((x / 2) &&& m) + (x &&& m)
def fours (m x : Nat) : Nat := ((x / 4) &&& m) + (x &&& m)
def bytes (m x : Nat) : Nat := (x / 16 + x) &&& m
theorem pairs_bytes (q r m : Nat) (hr : r < 256) : pairs (256 * m + 85) (256 * q + r) = 256 * pairs m q + pairs 85 r ∧ pairs 85 r < 256 := by
  unfold pairs
  have e : (256 * q + r) / 2 = 256 * (q / 2) + (128 * (q % 2) + r / 2) := by omega
  have hq : q % 2 = 0 ∨ q % 2 = 1 := by omega
  rw [e, and_bytes _ _ _ _ (by omega) (by omega), and_bytes _ _ _ _ hr (by omega)]
  have h1 : (128 * (q % 2) + r / 2) &&& 85 = (r / 2) &&& 85 := by
    have : ∀ a : Fin 2, ∀ b : Fin 128, (128 * a.val + b.val) &&& 85 = b.val &&& 85 := by decide +kernel
    exact this ⟨q % 2, by omega⟩ ⟨r / 2, by omega⟩
  rw [h1]
  have h2 : (r / 2) &&& 85 ≤ 85 := Nat.and_le_right
  have h3 : r &&& 85 ≤ 85 := Nat.and_le_right
  omega
theorem fours_bytes (q r m : Nat) (hr : r < 256) : fours (256 * m + 51) (256 * q + r) = 256 * fours m q + fours 51 r ∧ fours 51 r < 256 := by
  unfold fours
  have e : (256 * q + r) / 4 = 256 * (q / 4) + (64 * (q % 4) + r / 4) := by omega
  rw [e, and_bytes _ _ _ _ (by omega) (by omega), and_bytes _ _ _ _ hr (by omega)]
  have h1 : (64 * (q % 4) + r / 4) &&& 51 = (r / 4) &&& 51 := by
    have : ∀ a : Fin 4, ∀ b : Fin 64, (64 * a.val + b.val) &&& 51 = b.val &&& 51 := by decide +kernel
    exact this ⟨q % 4, by omega⟩ ⟨r / 4, by omega⟩
  rw [h1]
  have h2 : (r / 4) &&& 51 ≤ 51 := Nat.and_le_right
  have h3 : r &&& 51 ≤ 51 := Nat.and_le_right
  omega
end Go.Proofs.YtcdnflffpeijfaaDoor
