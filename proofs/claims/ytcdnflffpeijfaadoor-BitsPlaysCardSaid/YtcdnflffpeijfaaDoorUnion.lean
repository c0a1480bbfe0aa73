/- The contracts of Union and Minus. Condition: sets that New or Copy made, the same one or apart; or one of another size. -/
import Derived.Test.YtcdnflffpeijfaaDoorCombine2
namespace Go.Proofs.YtcdnflffpeijfaaDoor
open Go.RowKit

def orW (a b : Nat) : Nat := a ||| b
def lessW (a b : Nat) : Nat := a &&& (18446744073709551615 - b)
def unionOf (ws ts : List Nat) : List Nat := combTo orW ws ts ws.length
def minusOf (ws ts : List Nat) : List Nat := combTo lessW ws ts ws.length
theorem orW_bit (a b j : Nat) (_ : j < 64) (_ : a < 18446744073709551616) (_ : b < 18446744073709551616) : (orW a b).testBit j = (a.testBit j || b.testBit j) := Nat.testBit_or a b j
theorem lessW_bit (a b j : Nat) (hj : j < 64) (_ : a < 18446744073709551616) (hb : b < 18446744073709551616) : (lessW a b).testBit j = (a.testBit j && !b.testBit j) := testBit_minus a b j hb hj

set_option maxRecDepth 1000000 in
theorem Union_in {b gb c gc n : Nat} {w : World} {ws ts : List Nat} (h : IsSet w b gb n ws) (h' : IsSet w c gc n ts) (hap : (b = c ∧ gb = gc ∧ ws = ts) ∨ gc ≠ gb) :
    Calls Tryd.prog 20 #[.pointer (some ⟨b, 0, none⟩), .pointer (some ⟨c, 0, none⟩)] w fun e w' => e = .returned (.int .i64 0) ∧ IsSet w' b gb n (unionOf ws ts) ∧ Keeps [gb] w w' := by
  have H := Lib.hid (combine_in 37 (enters_of Tryd.func37 (by kernel_rfl) rfl) orW (fun a b w ha hb => with_ok a b ha hb w) (fun a b ha hb => Nat.or_lt_two_pow (n := 64) ha hb) (fun x y => x || y) orW_bit rfl h h' hap)
  clear h h'
  go_enter Tryd.func20, Tryd.ntmps20
  go_wp2_with fail
  refine H.out.mono ?_
  rintro e w' ⟨rfl, hs, hk⟩
  go_wp2_with fail
  go_ret
  exact ⟨rfl, hs, hk⟩
set_option maxRecDepth 1000000 in
theorem Minus_in {b gb c gc n : Nat} {w : World} {ws ts : List Nat} (h : IsSet w b gb n ws) (h' : IsSet w c gc n ts) (hap : (b = c ∧ gb = gc ∧ ws = ts) ∨ gc ≠ gb) :
    Calls Tryd.prog 21 #[.pointer (some ⟨b, 0, none⟩), .pointer (some ⟨c, 0, none⟩)] w fun e w' => e = .returned (.int .i64 0) ∧ IsSet w' b gb n (minusOf ws ts) ∧ Keeps [gb] w w' := by
  have H := Lib.hid (combine_in 38 (enters_of Tryd.func38 (by kernel_rfl) rfl) lessW (fun a b w ha hb => without_ok a b ha hb w) (fun a b ha hb => Nat.lt_of_le_of_lt Nat.and_le_left ha) (fun x y => x && !y) lessW_bit rfl h h' hap)
  clear h h'
  go_enter Tryd.func21, Tryd.ntmps21
  go_wp2_with fail
  refine H.out.mono ?_
  rintro e w' ⟨rfl, hs, hk⟩
  go_wp2_with fail
  go_ret
  exact ⟨rfl, hs, hk⟩

/-- Which numbers a union has, and what is left without another set's. -/
theorem has_union {ws ts : List Nat} (hws : ∀ k, k < ws.length → ws.getD k 0 < 18446744073709551616) (hts : ∀ k, k < ws.length → ts.getD k 0 < 18446744073709551616) (hl : ws.length = ts.length) (i : Nat) : has (unionOf ws ts) i = (has ws i || has ts i) := by
  rcases Nat.lt_or_ge (i / 64) ws.length with h | h
  · unfold unionOf
    rw [has_comb (op := fun x y => x || y) orW_bit hws hts _ _ h, if_pos h]
  · rw [has_far (by unfold unionOf; rw [combTo_len]; exact h), has_far h, has_far (by omega)]
    rfl
theorem has_minus {ws ts : List Nat} (hws : ∀ k, k < ws.length → ws.getD k 0 < 18446744073709551616) (hts : ∀ k, k < ws.length → ts.getD k 0 < 18446744073709551616) (i : Nat) : has (minusOf ws ts) i = (has ws i && !has ts i) := by
  rcases Nat.lt_or_ge (i / 64) ws.length with h | h
  · unfold minusOf
    rw [has_comb (op := fun x y => x && !y) lessW_bit hws hts _ _ h, if_pos h]
  · rw [has_far (by unfold minusOf; rw [combTo_len]; exact h), has_far h, Bool.false_and]
end Go.Proofs.YtcdnflffpeijfaaDoor
