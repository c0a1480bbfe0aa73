/- The contracts of Plain and Order. Condition: for Plain, a text of at most 1000 bytes. -/
import Derived.Test.YtkbelhhimllfnaaRune2
namespace Go.Proofs.Ytkbelhhimllfnaa
open Go.RowKit Go.Lib

def dotB (r : Nat) : Bool := decide (r = 45) || decide (r = 46) || decide (r = 95)
theorem dot_index {r : Nat} (h : r < 128) : decide (0 ≤ Lib.indexByte [45, 46, 95] ((r : Int)).toNat.toUInt8) = dotB r := by
  have : ∀ r : Fin 128, decide (0 ≤ Lib.indexByte [45, 46, 95] ((r.val : Int)).toNat.toUInt8) = dotB r.val := by decide +kernel
  exact this ⟨r, h⟩

set_option maxRecDepth 100000 in
theorem Contains_ok (r : Nat) (hs : Sc r) (w : World) : Calls Try.prog 35 #[.string ⟨#[45, 46, 95]⟩, .int .i32 r] w fun e w' => e = .returned (.bool (dotB r)) ∧ Keeps [] w w' := by
  by_cases h : r < 128
  · refine (Try.strings_ContainsRune_ascii ⟨#[45, 46, 95]⟩ r w (by omega) (by omega)).mono ?_
    rintro e w' ⟨rfl, rfl⟩
    refine ⟨?_, Keeps.refl _ _⟩
    rw [← dot_index h]
  · have hd : dotB r = false := by simp [dotB]; omega
    have HI0 : (Calls Try.prog 43 #[.string ⟨#[45, 46, 95]⟩, .int .i32 r] w fun e w' => e = .returned (.int .i64 (-1)) ∧ Keeps [] w w') := by
      by_cases hx : r = 65533
      · subst hx
        exact IndexRune_err w
      · by_cases h2 : r < 2048
        · exact IndexRune_two (by omega) h2 hs hx w
        · by_cases h3 : r < 65536
          · exact IndexRune_three (by omega) h3 hs hx w
          · exact IndexRune_four (by omega) hs hx w
    have HI := Lib.hid HI0
    rw [hd]
    clear h hd hs HI0
    go_enter Try.func35, Try.ntmps35
    go_wp2_with fail
    refine HI.out.mono ?_
    rintro e w' ⟨rfl, hk⟩
    go_wp2_with fail
    go_ret
    exact ⟨rfl, hk⟩

set_option maxRecDepth 100000 in
theorem Plain1_ok (r : Nat) (hs : Sc r) (w : World) : Calls Try.prog 34 #[.int .i32 r] w fun e w' => e = .returned (.bool (plainR r)) ∧ Keeps [] w w' := by
  have HC := Lib.hid (Contains_ok r hs)
  clear hs
  by_cases h1 : 97 ≤ r ∧ r ≤ 122
  · have e : plainR r = true := by simp [plainR, h1]
    rw [e]
    obtain ⟨h1, h2⟩ := h1
    go_enter Try.func34, Try.ntmps34
    go_wp2_with fail
    go_ret
    exact ⟨rfl, Keeps.refl _ _⟩
  · by_cases h3 : 48 ≤ r ∧ r ≤ 57
    · have e : plainR r = true := by simp [plainR, h3]
      rw [e]
      obtain ⟨h3, h4⟩ := h3
      clear h1
      go_enter Try.func34, Try.ntmps34
      go_wp2_with fail
      go_ret
      exact ⟨rfl, Keeps.refl _ _⟩
    · have e : plainR r = dotB r := by
        unfold plainR dotB
        have e1 : (decide (97 ≤ r) && decide (r ≤ 122)) = false := by
          rw [← Bool.decide_and]; exact decide_eq_false h1
        have e2 : (decide (48 ≤ r) && decide (r ≤ 57)) = false := by
          rw [← Bool.decide_and]; exact decide_eq_false h3
        rw [e1, e2]
        simp
      rw [e]
      clear e
      generalize dotB r = b at *
      have h' : r < 48 ∨ (57 < r ∧ r < 97) ∨ 122 < r := by omega
      clear h1 h3
      have d1 : r < 48 → decide ((48 : Int) ≤ r) = false := fun h => decide_eq_false (by omega)
      have d2 : 57 < r → decide ((r : Int) ≤ 57) = false := fun h => decide_eq_false (by omega)
      have d3 : 122 < r → decide ((r : Int) ≤ 122) = false := fun h => decide_eq_false (by omega)
      have D := Lib.hid (And.intro d1 (And.intro d2 d3))
      clear d1 d2 d3
      rcases h' with h | ⟨h, h'⟩ | h
      all_goals
        have d1 : decide ((48 : Int) ≤ r) = false ∨ decide ((r : Int) ≤ 57) = false := by
          rcases Nat.lt_or_ge r 48 with h0 | h0
          · exact Or.inl (D.out.1 h0)
          · exact Or.inr (D.out.2.1 (by omega))
        have d2 : decide ((97 : Int) ≤ r) = false ∨ decide ((r : Int) ≤ 122) = false := by
          rcases Nat.lt_or_ge r 97 with h0 | h0
          · exact Or.inl (decide_eq_false (by omega))
          · exact Or.inr (D.out.2.2 (by omega))
        rcases d1 with d1 | d1 <;> rcases d2 with d2 | d2
      all_goals
        go_enter Try.func34, Try.ntmps34
        go_wp2_with fail
        refine (HC.out _).mono ?_
        rintro e w' ⟨rfl, hk⟩
        go_wp2_with fail
        go_ret
        exact ⟨rfl, hk⟩

set_option maxRecDepth 100000 in
theorem Plain_ok (s : ByteArray) (hs : s.size ≤ 1000) (w : World) : Calls Try.prog 18 #[.string s] w fun e w' => e = .returned (.bool (plainB s.data.toList)) ∧ Keeps [] w w' := by
  have HA := (all_walk 34 (enters_of Try.func34 (by kernel_rfl) rfl) plainR (fun r W h => Plain1_ok r h W) s w hs)
  have HC := Lib.hid (Check_ok s)
  cases ha : allOf plainR s.data.toList with
  | none =>
    have e : plainB s.data.toList = false := by simp [plainB, ha]
    rw [e]
    rw [ha] at HA
    have HA := Lib.hid (show Calls Try.prog 28 #[.string s, .func (.func 34) #[] #[]] w fun e w' => e = .returned (.tuple #[.int .i64 0, .bool false]) ∧ Keeps [] w w' from HA)
    clear ha e
    go_enter Try.func18, Try.ntmps18
    go_wp2_with fail
    refine HA.out.mono ?_
    rintro e w' ⟨rfl, hk⟩
    go_wp2_with fail
    go_ret
    exact ⟨rfl, hk⟩
  | some n =>
    have e : plainB s.data.toList = isTag s.data.toList := by simp [plainB, ha]
    rw [e]
    rw [ha] at HA
    have HA := Lib.hid (show Calls Try.prog 28 #[.string s, .func (.func 34) #[] #[]] w fun e w' => e = .returned (.tuple #[.int .i64 n, .bool true]) ∧ Keeps [] w w' from HA)
    have ht : tagErr s.data.toList = if isTag s.data.toList then 0 else 16 := rfl
    cases hi : isTag s.data.toList with
    | true =>
      rw [hi] at ht
      have HC2 := Lib.hid (fun w => (show Calls Try.prog 13 #[.string s] w fun e w' => e = .returned (.int .i64 0) ∧ Keeps [] w w' by have := HC.out w; rw [ht] at this; exact this))
      clear ha e ht HC hi
      go_enter Try.func18, Try.ntmps18
      go_wp2_with fail
      refine HA.out.mono ?_
      rintro e w' ⟨rfl, hk⟩
      go_wp2_with fail
      refine (HC2.out _).mono ?_
      rintro e w2 ⟨rfl, hk2⟩
      go_wp2_with fail
      go_ret
      exact ⟨rfl, hk.trans hk2⟩
    | false =>
      rw [hi] at ht
      have HC2 := Lib.hid (fun w => (show Calls Try.prog 13 #[.string s] w fun e w' => e = .returned (.int .i64 16) ∧ Keeps [] w w' by have := HC.out w; rw [ht] at this; exact this))
      clear ha e ht HC hi
      go_enter Try.func18, Try.ntmps18
      go_wp2_with fail
      refine HA.out.mono ?_
      rintro e w' ⟨rfl, hk⟩
      go_wp2_with fail
      refine (HC2.out _).mono ?_
      rintro e w2 ⟨rfl, hk2⟩
      go_wp2_with fail
      go_ret
      exact ⟨rfl, hk.trans hk2⟩
end Go.Proofs.Ytkbelhhimllfnaa
