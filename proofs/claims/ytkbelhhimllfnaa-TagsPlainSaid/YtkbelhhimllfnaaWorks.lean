/- The contracts of the program's functions at all texts, and works: it returns true and changes nothing that was there. No condition but on lengths. -/
import Derived.Test.YtkbelhhimllfnaaOrder
namespace Go.Proofs.Ytkbelhhimllfnaa
open Go.RowKit Go.Lib

def runesOf (l : List UInt8) : List Nat := (runes l).getD []
theorem TagOf.runesOf {rs : List Nat} {l : List UInt8} (h : TagOf rs l) : runesOf l = rs := by unfold Go.Proofs.Ytkbelhhimllfnaa.runesOf; rw [h.runes]; rfl
def quoteN (l : List UInt8) : List UInt8 := if isTag l then quoteOf l else []
def widthN (l : List UInt8) : Nat := if isTag l then widthOf (runesOf l) else 0
def cutN (l : List UInt8) (n : Int) : List UInt8 := if isTag l then (if n < 0 then [] else encs (cutOf (runesOf l) n)) else []
def cutE (l : List UInt8) (n : Int) : Int := if isTag l then (if n < 0 then 2 else 0) else 16

theorem tagErr_false {l : List UInt8} (h : isTag l = false) : tagErr l ≠ 0 := by unfold tagErr; rw [h]; simp
theorem Quote_any (s : ByteArray) (w : World) : Calls Try.prog 15 #[.string s] w (StrErr (quoteN s.data.toList) (tagErr s.data.toList) w) := by
  unfold quoteN
  cases h : isTag s.data.toList with
  | true =>
    obtain ⟨rs, hr⟩ := isTag_iff.1 h
    rw [tagErr_zero.2 h]
    exact Quote_ok s rs hr w
  | false =>
    rw [(tagErr_or s.data.toList).resolve_left (tagErr_false h)]
    exact Quote_no s (tagErr_false h) w
theorem Width_any (s : ByteArray) (w : World) : Calls Try.prog 16 #[.string s] w (IntErr (widthN s.data.toList) (tagErr s.data.toList) w) := by
  unfold widthN
  cases h : isTag s.data.toList with
  | true =>
    obtain ⟨rs, hr⟩ := isTag_iff.1 h
    rw [tagErr_zero.2 h]
    simp only [if_true]
    rw [hr.runesOf]
    exact Width_ok s rs hr w
  | false =>
    rw [(tagErr_or s.data.toList).resolve_left (tagErr_false h)]
    exact Width_no s (tagErr_false h) w
theorem Cut_any (s : ByteArray) (n : Int) (hn : n ≤ 9223372036854775807) (w : World) : Calls Try.prog 17 #[.string s, .int .i64 n] w (StrErr (cutN s.data.toList n) (cutE s.data.toList n) w) := by
  unfold cutN cutE
  cases h : isTag s.data.toList with
  | true =>
    obtain ⟨rs, hr⟩ := isTag_iff.1 h
    simp only [if_true]
    by_cases hn0 : n < 0
    · rw [if_pos hn0, if_pos hn0]
      exact Cut_neg s n (tagErr_zero.2 h) hn0 w
    · rw [if_neg hn0, if_neg hn0, hr.runesOf]
      exact Cut_ok s n rs hr (by omega) hn w
  | false =>
    exact Cut_no s n (tagErr_false h) w

theorem w1 (w : World) : Calls Try.prog 15 #[.string ⟨#[97, 34, 98, 92]⟩] w fun e w' => e = .returned (.tuple #[.string ⟨#[34, 97, 92, 34, 98, 92, 92, 34]⟩, .int .i64 0]) ∧ Keeps [] w w' := by
  have := Quote_any ⟨#[97, 34, 98, 92]⟩ w
  unfold StrErr at this
  rw [show quoteN (⟨#[97, 34, 98, 92]⟩ : ByteArray).data.toList = [34, 97, 92, 34, 98, 92, 92, 34] by decide +kernel, show tagErr (⟨#[97, 34, 98, 92]⟩ : ByteArray).data.toList = 0 by decide +kernel] at this
  exact this
theorem w2 (w : World) : Calls Try.prog 23 #[.string ⟨#[34, 97, 92, 34, 98, 34, 32, 53]⟩] w fun e w' => e = .returned (.tuple #[.string ⟨#[97, 34, 98]⟩, .int .i64 6, .int .i64 0]) ∧ Keeps [] w w' := by
  have := Unquote_ok ⟨#[34, 97, 92, 34, 98, 34, 32, 53]⟩ (by decide) w
  unfold UnqPost at this
  rw [show unquote (⟨#[34, 97, 92, 34, 98, 34, 32, 53]⟩ : ByteArray).data.toList = ([97, 34, 98], 6, 0) by decide +kernel] at this
  exact this
theorem w3 (w : World) : Calls Try.prog 16 #[.string ⟨#[237, 149, 156, 97]⟩] w fun e w' => e = .returned (.tuple #[.int .i64 3, .int .i64 0]) ∧ Keeps [] w w' := by
  have := Width_any ⟨#[237, 149, 156, 97]⟩ w
  unfold IntErr at this
  rw [show widthN (⟨#[237, 149, 156, 97]⟩ : ByteArray).data.toList = 3 by decide +kernel, show tagErr (⟨#[237, 149, 156, 97]⟩ : ByteArray).data.toList = 0 by decide +kernel] at this
  exact this
theorem w4 (w : World) : Calls Try.prog 17 #[.string ⟨#[237, 149, 156, 97]⟩, .int .i64 2] w fun e w' => e = .returned (.tuple #[.string ⟨#[237, 149, 156]⟩, .int .i64 0]) ∧ Keeps [] w w' := by
  have := Cut_any ⟨#[237, 149, 156, 97]⟩ 2 (by decide) w
  unfold StrErr at this
  rw [show cutN (⟨#[237, 149, 156, 97]⟩ : ByteArray).data.toList 2 = [237, 149, 156] by decide +kernel, show cutE (⟨#[237, 149, 156, 97]⟩ : ByteArray).data.toList 2 = 0 by decide +kernel] at this
  exact this
theorem w5 (w : World) : Calls Try.prog 23 #[.string ⟨#[34, 92, 97, 34]⟩] w fun e w' => e = .returned (.tuple #[.string ⟨#[]⟩, .int .i64 0, .int .i64 9]) ∧ Keeps [] w w' := by
  have := Unquote_ok ⟨#[34, 92, 97, 34]⟩ (by decide) w
  unfold UnqPost at this
  rw [show unquote (⟨#[34, 92, 97, 34]⟩ : ByteArray).data.toList = ([], 0, 9) by decide +kernel] at this
  exact this
theorem w6 (w : World) : Calls Try.prog 26 #[.string ⟨#[97]⟩, .string ⟨#[97, 98]⟩] w fun e w' => e = .returned (.int .i64 (-1)) ∧ Keeps [] w w' := by
  have := Order_ok ⟨#[97]⟩ ⟨#[97, 98]⟩ w
  rw [show orderB (⟨#[97]⟩ : ByteArray).data.toList (⟨#[97, 98]⟩ : ByteArray).data.toList = -1 by decide +kernel] at this
  exact this
theorem w7 (w : World) : Calls Try.prog 18 #[.string ⟨#[109, 97, 105, 110, 46, 103, 111]⟩] w fun e w' => e = .returned (.bool true) ∧ Keeps [] w w' := by
  have := Plain_ok ⟨#[109, 97, 105, 110, 46, 103, 111]⟩ (by decide) w
  rw [show plainB (⟨#[109, 97, 105, 110, 46, 103, 111]⟩ : ByteArray).data.toList = true by decide +kernel] at this
  exact this
theorem w8 (w : World) : Calls Try.prog 13 #[.string ⟨#[10]⟩] w fun e w' => e = .returned (.int .i64 16) ∧ Keeps [] w w' := by
  have := Check_ok ⟨#[10]⟩ w
  rw [show tagErr (⟨#[10]⟩ : ByteArray).data.toList = 16 by decide +kernel] at this
  exact this

set_option maxRecDepth 1000000 in
set_option maxHeartbeats 4000000 in
theorem works_ok (w : World) : Calls Try.prog 14 #[] w fun e w' => e = .returned (.bool true) ∧ Keeps [] w w' := by
  go_enter Try.func14, Try.ntmps14
  go_wp2_with fail
  refine (w1 _).mono ?_
  rintro e W1 ⟨rfl, k1⟩
  go_wp2_with fail
  refine (w2 _).mono ?_
  rintro e W2 ⟨rfl, k2⟩
  go_wp2_with fail
  refine (w3 _).mono ?_
  rintro e W3 ⟨rfl, k3⟩
  go_wp2_with fail
  refine (w4 _).mono ?_
  rintro e W4 ⟨rfl, k4⟩
  go_wp2_with fail
  refine (w5 _).mono ?_
  rintro e W5 ⟨rfl, k5⟩
  have k := (((k1.trans k2).trans k3).trans k4).trans k5
  clear k1 k2 k3 k4 k5
  go_wp2_with fail
  refine (w6 _).mono ?_
  rintro e W6 ⟨rfl, k6⟩
  go_wp2_with fail
  refine (w7 _).mono ?_
  rintro e W7 ⟨rfl, k7⟩
  go_wp2_with fail
  refine (w8 _).mono ?_
  rintro e W8 ⟨rfl, k8⟩
  go_wp2_with fail
  go_ret
  exact ⟨rfl, ((k.trans k6).trans k7).trans k8⟩
end Go.Proofs.Ytkbelhhimllfnaa
