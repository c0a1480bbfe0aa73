/- The contract of combine's closure: a word of a set becomes what a function makes of it and of another set's word. Condition: both words are there. -/
import Derived.Test.YtcdnflffpeijfaaDoorNew
namespace Go.Proofs.YtcdnflffpeijfaaDoor
open Go.RowKit

set_option maxRecDepth 1000000 in
set_option maxHeartbeats 4000000 in
theorem each_in (f : Nat) (eg : ∀ args w, (callFunc f args).run Tryd.prog w = .ok (.enter f args) w) (g : Nat → Nat → Nat) (hf : ∀ (a b : Nat) (w : World), a < 18446744073709551616 → b < 18446744073709551616 → Calls Tryd.prog f #[.int .u64 a, .int .u64 b] w fun e w' => e = .returned (.int .u64 (g a b : Nat)) ∧ w = w')
    {B1 B2 B3 b c gb gc l1 l2 c1 c2 k x y : Nat} {w : World} (h1 : w.cell? ⟨B1, 0, none⟩ = some (.func (.func f) #[] #[])) (h2 : w.cell? ⟨B2, 0, none⟩ = some (.pointer (some ⟨b, 0, none⟩))) (h3 : w.cell? ⟨B3, 0, none⟩ = some (.pointer (some ⟨c, 0, none⟩)))
    (h4 : w.cell? ⟨b, 1, none⟩ = some (.slice (some ⟨gb, 0, none⟩) l1 c1)) (h5 : w.cell? ⟨c, 1, none⟩ = some (.slice (some ⟨gc, 0, none⟩) l2 c2)) (h6 : w.cell? ⟨gb, k, none⟩ = some (.int .u64 x)) (h7 : w.cell? ⟨gc, k, none⟩ = some (.int .u64 y)) (h8 : w.frozen? ⟨gb, k, none⟩ = false)
    (hk1 : k < l1) (hk2 : k < l2) (hx : x < 18446744073709551616) (hy : y < 18446744073709551616) :
    Calls Tryd.prog 54 #[.int .i64 k, .pointer (some ⟨B1, 0, none⟩), .pointer (some ⟨B2, 0, none⟩), .pointer (some ⟨B3, 0, none⟩)] w fun e w' => e = .returned (.tuple #[]) ∧ w' = (w.setCell ⟨gb, k, none⟩ (.int .u64 (g x y : Nat))).drew := by
  have HF := Lib.hid (fun w => hf x y w hx hy)
  have hk1' : (k : Int) < l1 := by omega
  have hk2' : (k : Int) < l2 := by omega
  clear hf
  go_enter Tryd.func54, Tryd.ntmps54
  refine wp_region_still_tail 22 (by kernel_rfl) (by kernel_rfl) ?_
  simp only [List.take_succ_cons, List.take_zero, List.drop_succ_cons, List.drop_zero]
  iterate 20 still_step
  still_call ((HF.out _).mono (fun e w' h => ⟨h.1, h.2.symm⟩))
  repeat still_step
  refine wpStill_nil ?_
  go_wp2_with fail
  go_end0
  exact ⟨rfl, rfl⟩

/-- The words of which the first k were combined. -/
def combTo (g : Nat → Nat → Nat) (ws ts : List Nat) (k : Nat) : List Nat := (List.range ws.length).map fun j => if j < k then g (ws.getD j 0) (ts.getD j 0) else ws.getD j 0
theorem combTo_len (g : Nat → Nat → Nat) (ws ts : List Nat) (k : Nat) : (combTo g ws ts k).length = ws.length := by simp [combTo]
theorem combTo_at (g : Nat → Nat → Nat) (ws ts : List Nat) (k j : Nat) (hj : j < ws.length) : (combTo g ws ts k).getD j 0 = if j < k then g (ws.getD j 0) (ts.getD j 0) else ws.getD j 0 := by
  unfold combTo
  simp [List.getD, hj]
theorem combTo_zero (g : Nat → Nat → Nat) (ws ts : List Nat) : combTo g ws ts 0 = ws := by
  apply List.ext_getElem
  · rw [combTo_len]
  · intro j h1 h2
    simp [combTo, List.getD, List.getElem?_eq_getElem h2]
theorem combTo_succ (g : Nat → Nat → Nat) (ws ts : List Nat) (k : Nat) : combTo g ws ts (k + 1) = (combTo g ws ts k).set k (g (ws.getD k 0) (ts.getD k 0)) := by
  apply List.ext_getElem
  · rw [List.length_set, combTo_len, combTo_len]
  · intro j h1 h2
    rw [List.getElem_set]
    simp only [combTo, List.getElem_map, List.getElem_range]
    by_cases h3 : k = j
    · subst h3
      rw [if_pos rfl, if_pos (by omega)]
    · rw [if_neg h3]
      by_cases h4 : j < k
      · rw [if_pos h4, if_pos (by omega)]
      · rw [if_neg h4, if_neg (by omega)]
theorem has_comb {g : Nat → Nat → Nat} {op : Bool → Bool → Bool} (hop : ∀ a b j, j < 64 → a < 18446744073709551616 → b < 18446744073709551616 → (g a b).testBit j = op (a.testBit j) (b.testBit j)) {ws ts : List Nat}
    (hws : ∀ k, k < ws.length → ws.getD k 0 < 18446744073709551616) (hts : ∀ k, k < ws.length → ts.getD k 0 < 18446744073709551616) (k i : Nat) (hi : i / 64 < ws.length) :
    has (combTo g ws ts k) i = if i / 64 < k then op (has ws i) (has ts i) else has ws i := by
  unfold has
  rw [combTo_at g ws ts k _ hi]
  split
  · exact hop _ _ _ (Nat.mod_lt _ (by decide)) (hws _ hi) (hts _ hi)
  · rfl
theorem has_far {ws : List Nat} {i : Nat} (hi : ws.length ≤ i / 64) : has ws i = false := by
  unfold has
  simp [List.getD, List.getElem?_eq_none hi]
end Go.Proofs.YtcdnflffpeijfaaDoor
