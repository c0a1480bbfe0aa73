/- A set by which numbers it has, and the contracts of the methods in these terms. Condition: a set that New or Copy made. -/
import Derived.Test.YtcdnflffpeijfaaDoorPicks
import Derived.Test.YtcdnflffpeijfaaDoorBare2
import Derived.Test.YtcdnflffpeijfaaDoorHas
namespace Go.Proofs.YtcdnflffpeijfaaDoor
open Go.RowKit

/-- Block b is a set of size n that has the numbers p; its words lie in block gb. -/
def SetOf (w : World) (b gb n : Nat) (p : Nat → Bool) : Prop := ∃ ws, IsSet w b gb n ws ∧ has ws = p
/-- The numbers from one on. -/
def fromP (fr : Int) (p : Nat → Bool) : Nat → Bool := fun i => decide (fr ≤ (i : Int)) && p i
def withP (p : Nat → Bool) (i : Nat) : Nat → Bool := fun j => p j || decide (j = i)
def lessP (p : Nat → Bool) (i : Nat) : Nat → Bool := fun j => p j && !decide (j = i)
def noneP : Nat → Bool := fun _ => false
def orP (p q : Nat → Bool) : Nat → Bool := fun j => p j || q j
def minusP (p q : Nat → Bool) : Nat → Bool := fun j => p j && !q j
section
variable {w w' : World} {b gb n c gc m : Nat} {p q : Nat → Bool} {S : List Nat}
theorem SetOf.keeps (h : SetOf w b gb n p) (k : Keeps S w w') (hb : b ∉ S) (hg : gb ∉ S) : SetOf w' b gb n p := by
  obtain ⟨ws, h1, h2⟩ := h
  exact ⟨ws, h1.keeps k hb hg, h2⟩
theorem SetOf.keep0 (h : SetOf w b gb n p) (k : Keeps [] w w') : SetOf w' b gb n p := h.keeps k (by simp) (by simp)
theorem SetOf.drewN (h : SetOf w b gb n p) (k : Nat) : SetOf (w.drewN k) b gb n p := h.keep0 ((Keeps.refl [] w).drewN k)
theorem SetOf.drew (h : SetOf w b gb n p) : SetOf w.drew b gb n p := h.keep0 ((Keeps.refl [] w).drew)
theorem SetOf.pos (h : SetOf w b gb n p) : 1 ≤ n := by obtain ⟨ws, h1, h2⟩ := h; exact h1.pos
theorem SetOf.most (h : SetOf w b gb n p) : n ≤ 4096 := by obtain ⟨ws, h1, h2⟩ := h; exact h1.most
theorem SetOf.over (h : SetOf w b gb n p) : ∀ i, n ≤ i → p i = false := by obtain ⟨ws, h1, rfl⟩ := h; exact h1.over
theorem SetOf.lt (h : SetOf w b gb n p) : b < w.heap.size ∧ gb < w.heap.size := by obtain ⟨ws, h1, rfl⟩ := h; exact h1.lt
theorem SetOf.sep (h : SetOf w b gb n p) (h' : SetOf w c gc m q) : c ≠ gb := by
  obtain ⟨_, h1, _⟩ := h
  obtain ⟨_, h2, _⟩ := h'
  obtain ⟨_, _, _, hg, _⟩ := h1.row
  obtain ⟨_, _, hc, _⟩ := h2.row
  exact hc.ne hg (by decide)
theorem SetOf.row (h : SetOf w b gb n p) {g : Nat} {cs : Array Value} {t : TypeId} (hr : Blk w g t cs) (h1 : t ≠ 58) (h2 : t ≠ 67) : g ≠ b ∧ g ≠ gb := by
  obtain ⟨_, hh, _⟩ := h
  obtain ⟨_, _, hc, hg, _⟩ := hh.row
  exact ⟨hr.ne hc h1, hr.ne hg h2⟩
theorem SetOf.cong (h : SetOf w b gb n p) (e : p = q) : SetOf w b gb n q := e ▸ h
theorem SetOf.size (h : SetOf w b gb n p) : w.cell? ⟨b, 0, none⟩ = some (.int .i64 n) := by obtain ⟨_, h1, _⟩ := h; exact h1.size

theorem New_p (h1 : 1 ≤ n) (h2 : n ≤ 4096) (w : World) : Calls Tryd.prog 15 #[.int .i64 n] w fun e w' => e = .returned (.tuple #[.pointer (some ⟨w.heap.size + 1, 0, none⟩), .int .i64 0]) ∧ SetOf w' (w.heap.size + 1) w.heap.size n noneP ∧ Keeps [] w w' := by
  refine (New_ok n h1 h2 w).mono ?_
  rintro e w' ⟨he, hs, hk⟩
  exact ⟨he, ⟨_, hs, funext fun i => has_zeros n i⟩, hk⟩
theorem Add_p (h : SetOf w b gb n p) {i : Nat} (hi : i < n) : Calls Tryd.prog 16 #[.pointer (some ⟨b, 0, none⟩), .int .i64 i] w fun e w' => e = .returned (.int .i64 0) ∧ SetOf w' b gb n (withP p i) ∧ Keeps [gb] w w' := by
  obtain ⟨ws, h1, rfl⟩ := h
  refine (Add_in h1 hi).mono ?_
  rintro e w' ⟨he, hs, hk⟩
  exact ⟨he, ⟨_, hs, funext fun j => has_more (by have := h1.len; omega) j⟩, hk⟩
theorem Remove_p (h : SetOf w b gb n p) {i : Nat} (hi : i < n) : Calls Tryd.prog 17 #[.pointer (some ⟨b, 0, none⟩), .int .i64 i] w fun e w' => e = .returned (.int .i64 0) ∧ SetOf w' b gb n (lessP p i) ∧ Keeps [gb] w w' := by
  obtain ⟨ws, h1, rfl⟩ := h
  refine (Remove_in h1 hi).mono ?_
  rintro e w' ⟨he, hs, hk⟩
  exact ⟨he, ⟨_, hs, funext fun j => has_fewer (by have := h1.len; omega) j⟩, hk⟩
theorem Add_op (h : SetOf w b gb n p) {i : Int} (hi : i < 0 ∨ (n : Int) ≤ i) : Calls Tryd.prog 16 #[.pointer (some ⟨b, 0, none⟩), .int .i64 i] w fun e w' => e = .returned (.int .i64 3) ∧ w = w' := by
  obtain ⟨ws, h1, rfl⟩ := h
  exact Add_out h1 hi
theorem Remove_op (h : SetOf w b gb n p) {i : Int} (hi : i < 0 ∨ (n : Int) ≤ i) : Calls Tryd.prog 17 #[.pointer (some ⟨b, 0, none⟩), .int .i64 i] w fun e w' => e = .returned (.int .i64 3) ∧ w = w' := by
  obtain ⟨ws, h1, rfl⟩ := h
  exact Remove_out h1 hi
theorem Has_p (h : SetOf w b gb n p) {i : Nat} (hi : i < n) : Calls Tryd.prog 18 #[.pointer (some ⟨b, 0, none⟩), .int .i64 i] w fun e w' => e = .returned (.bool (p i)) ∧ w = w' := by
  obtain ⟨ws, h1, rfl⟩ := h
  exact Has_in h1 hi
theorem Has_op (h : SetOf w b gb n p) {i : Int} (hi : i < 0 ∨ (n : Int) ≤ i) : Calls Tryd.prog 18 #[.pointer (some ⟨b, 0, none⟩), .int .i64 i] w fun e w' => e = .returned (.bool false) ∧ w = w' := by
  obtain ⟨ws, h1, rfl⟩ := h
  exact Has_out h1 hi
theorem Size_p (h : SetOf w b gb n p) : Calls Tryd.prog 19 #[.pointer (some ⟨b, 0, none⟩)] w fun e w' => e = .returned (.int .i64 n) ∧ w = w' := by
  obtain ⟨ws, h1, rfl⟩ := h
  exact Size_ok h1
theorem Count_p (h : SetOf w b gb n p) : Calls Tryd.prog 25 #[.pointer (some ⟨b, 0, none⟩)] w fun e w' => e = .returned (.int .i64 (picks n p).length) ∧ w = w' := by
  obtain ⟨ws, h1, rfl⟩ := h
  rw [← count_picks (by have := h1.len; omega) h1.over]
  exact Count_in h1
theorem All_p (h : SetOf w b gb n p) (hT : Table w) : Calls Tryd.prog 22 #[.pointer (some ⟨b, 0, none⟩)] w (AllPost (picks n p) w) := by
  obtain ⟨ws, h1, rfl⟩ := h
  rw [← nums_picks (by have := h1.len; omega) h1.over]
  exact All_in h1 hT
theorem Next_p (h : SetOf w b gb n p) (hT : Table w) {fr : Int} (hfr : fr ≤ 9223372036854775807) : Calls Tryd.prog 11 #[.pointer (some ⟨b, 0, none⟩), .int .i64 fr] w fun e w' => e = .returned (.tuple #[.int .i64 (firstOf (picks n (fromP fr p))).1, .bool (firstOf (picks n (fromP fr p))).2]) ∧ Keeps [] w w' := by
  obtain ⟨ws, h1, rfl⟩ := h
  have e : picks n (fromP fr (has ws)) = numsFrom ws fr.toNat := by
    rw [nums_eq (n := n) (by have := h1.len; omega) h1.over]
    apply picks_congr
    intro i _
    unfold fromP
    congr 1
    exact decide_eq_decide.2 (by omega)
  rw [e]
  exact Next_in h1 hT (f := fr.toNat) (by omega) (by omega)
theorem Clear_p (h : SetOf w b gb n p) : Calls Tryd.prog 24 #[.pointer (some ⟨b, 0, none⟩)] w fun e w' => e = .returned (.tuple #[]) ∧ SetOf w' b gb n noneP ∧ Keeps [gb] w w' := by
  obtain ⟨ws, h1, rfl⟩ := h
  refine (Clear_in h1).mono ?_
  rintro e w' ⟨he, hs, hk⟩
  refine ⟨he, ⟨_, hs, funext fun i => ?_⟩, hk⟩
  unfold has noneP
  simp only [List.getD, List.getElem?_replicate]
  split <;> simp
theorem Copy_p (h : SetOf w b gb n p) : Calls Tryd.prog 23 #[.pointer (some ⟨b, 0, none⟩)] w fun e w' => ∃ b' gb', e = .returned (.pointer (some ⟨b', 0, none⟩)) ∧ SetOf w' b' gb' n p ∧ Keeps [] w w' ∧ w.heap.size ≤ b' ∧ w.heap.size ≤ gb' := by
  obtain ⟨ws, h1, rfl⟩ := h
  refine (Copy_in h1).mono ?_
  rintro e w' ⟨b', gb', he, hs, hk⟩
  exact ⟨b', gb', he, ⟨_, hs, rfl⟩, hk⟩
theorem union_has {ws ts : List Nat} (h : IsSet w b gb n ws) (h' : IsSet w c gc n ts) : has (unionOf ws ts) = orP (has ws) (has ts) := by
  exact funext fun i => has_union h.word (fun k hk => h'.word k (by have := h.len; have := h'.len; omega)) (by have := h.len; have := h'.len; omega) i
theorem minus_has {ws ts : List Nat} (h : IsSet w b gb n ws) (h' : IsSet w c gc n ts) : has (minusOf ws ts) = minusP (has ws) (has ts) := by
  exact funext fun i => has_minus h.word (fun k hk => h'.word k (by have := h.len; have := h'.len; omega)) i
theorem Union_p (h : SetOf w b gb n p) (h' : SetOf w c gc n q) (hne : gc ≠ gb) : Calls Tryd.prog 20 #[.pointer (some ⟨b, 0, none⟩), .pointer (some ⟨c, 0, none⟩)] w fun e w' => e = .returned (.int .i64 0) ∧ SetOf w' b gb n (orP p q) ∧ Keeps [gb] w w' := by
  obtain ⟨ws, h1, rfl⟩ := h
  obtain ⟨ts, h2, rfl⟩ := h'
  refine (Union_in h1 h2 (.inr hne)).mono ?_
  rintro e w' ⟨he, hs, hk⟩
  exact ⟨he, ⟨_, hs, union_has h1 h2⟩, hk⟩
theorem Minus_p (h : SetOf w b gb n p) (h' : SetOf w c gc n q) (hne : gc ≠ gb) : Calls Tryd.prog 21 #[.pointer (some ⟨b, 0, none⟩), .pointer (some ⟨c, 0, none⟩)] w fun e w' => e = .returned (.int .i64 0) ∧ SetOf w' b gb n (minusP p q) ∧ Keeps [gb] w w' := by
  obtain ⟨ws, h1, rfl⟩ := h
  obtain ⟨ts, h2, rfl⟩ := h'
  refine (Minus_in h1 h2 (.inr hne)).mono ?_
  rintro e w' ⟨he, hs, hk⟩
  exact ⟨he, ⟨_, hs, minus_has h1 h2⟩, hk⟩
theorem Union_self (h : SetOf w b gb n p) : Calls Tryd.prog 20 #[.pointer (some ⟨b, 0, none⟩), .pointer (some ⟨b, 0, none⟩)] w fun e w' => e = .returned (.int .i64 0) ∧ SetOf w' b gb n p ∧ Keeps [gb] w w' := by
  obtain ⟨ws, h1, rfl⟩ := h
  refine (Union_in h1 h1 (.inl ⟨rfl, rfl, rfl⟩)).mono ?_
  rintro e w' ⟨he, hs, hk⟩
  exact ⟨he, ⟨_, hs, (union_has h1 h1).trans (funext fun i => by unfold orP; simp)⟩, hk⟩
theorem Minus_self (h : SetOf w b gb n p) : Calls Tryd.prog 21 #[.pointer (some ⟨b, 0, none⟩), .pointer (some ⟨b, 0, none⟩)] w fun e w' => e = .returned (.int .i64 0) ∧ SetOf w' b gb n noneP ∧ Keeps [gb] w w' := by
  obtain ⟨ws, h1, rfl⟩ := h
  refine (Minus_in h1 h1 (.inl ⟨rfl, rfl, rfl⟩)).mono ?_
  rintro e w' ⟨he, hs, hk⟩
  exact ⟨he, ⟨_, hs, (minus_has h1 h1).trans (funext fun i => by unfold minusP noneP; simp)⟩, hk⟩
theorem Union_other (h : SetOf w b gb n p) (h' : SetOf w c gc m q) (hne : n ≠ m) : Calls Tryd.prog 20 #[.pointer (some ⟨b, 0, none⟩), .pointer (some ⟨c, 0, none⟩)] w (RefusedPost 2 w) := by
  obtain ⟨ws, h1, rfl⟩ := h
  obtain ⟨ts, h2, rfl⟩ := h'
  exact Union_sizes h1 h2 hne
theorem Minus_other (h : SetOf w b gb n p) (h' : SetOf w c gc m q) (hne : n ≠ m) : Calls Tryd.prog 21 #[.pointer (some ⟨b, 0, none⟩), .pointer (some ⟨c, 0, none⟩)] w (RefusedPost 2 w) := by
  obtain ⟨ws, h1, rfl⟩ := h
  obtain ⟨ts, h2, rfl⟩ := h'
  exact Minus_sizes h1 h2 hne
end
end Go.Proofs.YtcdnflffpeijfaaDoor
