/- Plain laws on how math/bits counts the bits of a word: it finds how many there are. No condition. -/
import Derived.Test.YtcdnflffpeijfaaDoorWords
namespace Go.Proofs.YtcdnflffpeijfaaDoor

theorem bytes_bytes (q r m : Nat) (hq : q % 16 ≤ 4) (h1 : r / 16 ≤ 4) (h2 : r % 16 ≤ 4) : bytes (256 * m + 15) (256 * q + r) = 256 * bytes m q + (r / 16 + r % 16) := by
  unfold bytes
  have e : (256 * q + r) / 16 + (256 * q + r) = 256 * (q / 16 + q) + (16 * (q % 16 + r / 16) + (r / 16 + r % 16)) := by omega
  rw [e, and_bytes _ _ _ _ (by omega) (by omega)]
  have : ∀ a : Fin 9, ∀ b : Fin 9, (16 * a.val + b.val) &&& 15 = b.val := by decide +kernel
  have h3 := this ⟨q % 16 + r / 16, by omega⟩ ⟨r / 16 + r % 16, by omega⟩
  dsimp only at h3
  rw [h3]

/-- A mask of n bytes. -/
def mask (c : Nat) : Nat → Nat
  | 0 => 0
  | n + 1 => 256 * mask c n + c
def four (n x : Nat) : Nat := fours (mask 51 n) (pairs (mask 85 n) x)
def four1 (r : Nat) : Nat := fours 51 (pairs 85 r)
def pop1 (r : Nat) : Nat := four1 r / 16 + four1 r % 16
def count8 (n x : Nat) : Nat := bytes (mask 15 n) (four n x)
theorem four_step (n q r : Nat) (hr : r < 256) : four (n + 1) (256 * q + r) = 256 * four n q + four1 r := by
  unfold four four1
  obtain ⟨h1, h2⟩ := pairs_bytes q r (mask 85 n) hr
  rw [show mask 85 (n + 1) = 256 * mask 85 n + 85 from rfl, show mask 51 (n + 1) = 256 * mask 51 n + 51 from rfl, h1]
  exact (fours_bytes _ _ _ h2).1
theorem four1_low (r : Nat) (hr : r < 256) : four1 r / 16 ≤ 4 ∧ four1 r % 16 ≤ 4 ∧ four1 r < 256 := by
  have : ∀ r : Fin 256, four1 r.val / 16 ≤ 4 ∧ four1 r.val % 16 ≤ 4 ∧ four1 r.val < 256 := by decide +kernel
  exact this ⟨r, hr⟩
theorem four_zero (x : Nat) : four 0 x = 0 := by simp [four, fours, pairs, mask]
theorem four_low (n x : Nat) : four n x % 16 ≤ 4 := by
  cases n with
  | zero => rw [four_zero]; decide
  | succ n =>
    have e : x = 256 * (x / 256) + x % 256 := by omega
    rw [e, four_step n _ _ (by omega)]
    have := (four1_low (x % 256) (by omega)).2.1
    omega
theorem count8_step (n q r : Nat) (hr : r < 256) : count8 (n + 1) (256 * q + r) = 256 * count8 n q + pop1 r := by
  unfold count8
  rw [four_step n q r hr]
  have h := four1_low r hr
  exact bytes_bytes (four n q) (four1 r) (mask 15 n) (four_low n q) h.1 h.2.1
theorem count8_zero (x : Nat) : count8 0 x = 0 := by simp [count8, bytes, mask]

/-- How many of the first bits of x there are. -/
def howMany (k x : Nat) : Nat := ((List.range k).filter fun j => x.testBit j).length
theorem howMany_byte (r : Nat) (hr : r < 256) : howMany 8 r = pop1 r := by
  have : ∀ r : Fin 256, howMany 8 r.val = pop1 r.val := by decide +kernel
  exact this ⟨r, hr⟩
theorem howMany_step (k q r : Nat) (hr : r < 256) : howMany (8 + k) (256 * q + r) = howMany 8 r + howMany k q := by
  unfold howMany
  rw [List.range_add, List.filter_append, List.length_append]
  have e : (256 : Nat) = 2 ^ 8 := rfl
  congr 1
  · congr 1
    apply List.filter_congr
    intro j hj
    rw [e, testBit_form 8 q r j hr, if_pos (List.mem_range.1 hj)]
  · rw [List.filter_map, List.length_map]
    congr 1
    apply List.filter_congr
    intro j _
    simp only [Function.comp_apply]
    rw [e, testBit_form 8 q r (8 + j) hr, if_neg (by omega)]
    congr 1
    omega
/-- The bytes that count8 leaves. -/
theorem count_all (x : Nat) (hx : x < 2 ^ 64) : ∃ p0 p1 p2 p3 p4 p5 p6 p7 : Nat, p0 ≤ 8 ∧ p1 ≤ 8 ∧ p2 ≤ 8 ∧ p3 ≤ 8 ∧ p4 ≤ 8 ∧ p5 ≤ 8 ∧ p6 ≤ 8 ∧ p7 ≤ 8 ∧
    count8 8 x = p0 + 256 * (p1 + 256 * (p2 + 256 * (p3 + 256 * (p4 + 256 * (p5 + 256 * (p6 + 256 * p7)))))) ∧ howMany 64 x = p0 + p1 + p2 + p3 + p4 + p5 + p6 + p7 := by
  have hp : ∀ r, r < 256 → pop1 r ≤ 8 := by
    intro r hr
    have : ∀ r : Fin 256, pop1 r.val ≤ 8 := by decide +kernel
    exact this ⟨r, hr⟩
  have step : ∀ n y, count8 (n + 1) y = pop1 (y % 256) + 256 * count8 n (y / 256) := by
    intro n y
    have e : y = 256 * (y / 256) + y % 256 := by omega
    have := count8_step n (y / 256) (y % 256) (by omega)
    rw [← e] at this
    omega
  have many : ∀ k y, howMany (8 + k) y = pop1 (y % 256) + howMany k (y / 256) := by
    intro k y
    have e : y = 256 * (y / 256) + y % 256 := by omega
    have := howMany_step k (y / 256) (y % 256) (by omega)
    rw [← e, howMany_byte _ (by omega)] at this
    exact this
  have h0 : ∀ y, howMany 0 y = 0 := fun y => rfl
  refine ⟨pop1 (x % 256), pop1 (x / 256 % 256), pop1 (x / 256 / 256 % 256), pop1 (x / 256 / 256 / 256 % 256), pop1 (x / 256 / 256 / 256 / 256 % 256), pop1 (x / 256 / 256 / 256 / 256 / 256 % 256), pop1 (x / 256 / 256 / 256 / 256 / 256 / 256 % 256), pop1 (x / 256 / 256 / 256 / 256 / 256 / 256 / 256 % 256),
    hp _ (by omega), hp _ (by omega), hp _ (by omega), hp _ (by omega), hp _ (by omega), hp _ (by omega), hp _ (by omega), hp _ (by omega), ?_, ?_⟩
  · rw [step, step, step, step, step, step, step, step, count8_zero, Nat.mul_zero, Nat.add_zero]
  · rw [show (64 : Nat) = 8 + (8 + (8 + (8 + (8 + (8 + (8 + (8 + 0))))))) from rfl, many, many, many, many, many, many, many, many, h0]
    omega
theorem sum_form (p0 p1 p2 p3 p4 p5 p6 p7 : Nat) : (p0 + p1 + p2 + p3) + 256 * (p1 + p2 + p3 + p4) + 65536 * (p2 + p3 + p4 + p5) + 16777216 * (p3 + p4 + p5 + p6) + 4294967296 * (p4 + p5 + p6 + p7) + 1099511627776 * (p5 + p6 + p7) + 281474976710656 * (p6 + p7) + 72057594037927936 * p7
    + ((p4 + p5 + p6 + p7) + 256 * (p5 + p6 + p7) + 65536 * (p6 + p7) + 16777216 * p7)
    = (p0 + p1 + p2 + p3 + p4 + p5 + p6 + p7) + 128 * (2 * (p1 + p2 + p3 + p4) + 512 * (p2 + p3 + p4 + p5) + 131072 * (p3 + p4 + p5 + p6) + 33554432 * (p4 + p5 + p6 + p7) + 8589934592 * (p5 + p6 + p7) + 2199023255552 * (p6 + p7) + 562949953421312 * p7 + (2 * (p5 + p6 + p7) + 512 * (p6 + p7) + 131072 * p7)) := by omega
theorem div_at {s B lo d : Nat} (h : s = d * B + lo) (hlo : lo < d) : s / d = B := by
  subst h
  rw [Nat.mul_add_div (by omega), Nat.div_eq_of_lt hlo, Nat.add_zero]
/-- The last steps: the bytes are added up. -/
theorem count_end (p0 p1 p2 p3 p4 p5 p6 p7 y : Nat) (h0 : p0 ≤ 8) (h1 : p1 ≤ 8) (h2 : p2 ≤ 8) (h3 : p3 ≤ 8) (h4 : p4 ≤ 8) (h5 : p5 ≤ 8) (h6 : p6 ≤ 8) (h7 : p7 ≤ 8)
    (hy : y = p0 + 256 * (p1 + 256 * (p2 + 256 * (p3 + 256 * (p4 + 256 * (p5 + 256 * (p6 + 256 * p7))))))) :
    ∃ s1 s2 s3, s1 = y + y / 256 ∧ s2 = s1 + s1 / 65536 ∧ s3 = s2 + s2 / 4294967296 ∧ s3 < 9223372036854775808 ∧ s3 % 128 = p0 + p1 + p2 + p3 + p4 + p5 + p6 + p7 := by
  have e1 : y / 256 = p1 + 256 * p2 + 65536 * p3 + 16777216 * p4 + 4294967296 * p5 + 1099511627776 * p6 + 281474976710656 * p7 := div_at (lo := p0) (by omega) (by omega)
  have s1 : y + y / 256 = (p0 + p1) + 256 * (p1 + p2) + 65536 * (p2 + p3) + 16777216 * (p3 + p4) + 4294967296 * (p4 + p5) + 1099511627776 * (p5 + p6) + 281474976710656 * (p6 + p7) + 72057594037927936 * p7 := by rw [e1, hy]; omega
  generalize y + y / 256 = a at *
  have e2 : a / 65536 = (p2 + p3) + 256 * (p3 + p4) + 65536 * (p4 + p5) + 16777216 * (p5 + p6) + 4294967296 * (p6 + p7) + 1099511627776 * p7 := div_at (lo := (p0 + p1) + 256 * (p1 + p2)) (by omega) (by omega)
  have s2 : a + a / 65536 = (p0 + p1 + p2 + p3) + 256 * (p1 + p2 + p3 + p4) + 65536 * (p2 + p3 + p4 + p5) + 16777216 * (p3 + p4 + p5 + p6) + 4294967296 * (p4 + p5 + p6 + p7) + 1099511627776 * (p5 + p6 + p7) + 281474976710656 * (p6 + p7) + 72057594037927936 * p7 := by rw [e2, s1]; omega
  refine ⟨a, a + a / 65536, a + a / 65536 + (a + a / 65536) / 4294967296, rfl, rfl, rfl, ?_⟩
  generalize a + a / 65536 = b at *
  have e3 : b / 4294967296 = (p4 + p5 + p6 + p7) + 256 * (p5 + p6 + p7) + 65536 * (p6 + p7) + 16777216 * p7 := div_at (lo := (p0 + p1 + p2 + p3) + 256 * (p1 + p2 + p3 + p4) + 65536 * (p2 + p3 + p4 + p5) + 16777216 * (p3 + p4 + p5 + p6)) (by omega) (by omega)
  have s3 := sum_form p0 p1 p2 p3 p4 p5 p6 p7
  rw [← s2, ← e3] at s3
  refine ⟨?_, ?_⟩
  · rw [e3, s2]
    clear e1 s1 e2 s2 e3 s3 hy
    omega
  · rw [s3, Nat.add_mul_mod_self_left, Nat.mod_eq_of_lt]
    clear e1 s1 e2 s2 e3 s3 hy
    omega
end Go.Proofs.YtcdnflffpeijfaaDoor
