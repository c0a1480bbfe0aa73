/- The contracts of the reference's Plain, and of its functions at all texts of at most 500 bytes; TagsChecks, TagsReads, TagsCuts: for every input the call returns true. No condition on the laws. -/
import Derived.Test.YtkbelhhimllfnaaRRest
import Derived.Test.YtkbelhhimllfnaaRUnq
namespace Go.Proofs.Ytkbelhhimllfnaa
open Go.RowKit

theorem RQuote_any (s : ByteArray) (hs : s.size ≤ 500) (w : World) : Calls Try.prog 19 #[.string s] w (StrErr (quoteN s.data.toList) (tagErr s.data.toList) w) := by
  unfold quoteN
  cases h : isTag s.data.toList with
  | true =>
    rw [tagErr_zero.2 h]
    exact RQuote_ok s h w
  | false =>
    rw [(tagErr_or s.data.toList).resolve_left (tagErr_false h)]
    exact RQuote_no s hs (tagErr_false h) w
theorem RWidth_any (s : ByteArray) (hs : s.size ≤ 500) (w : World) : Calls Try.prog 20 #[.string s] w (IntErr (widthN s.data.toList) (tagErr s.data.toList) w) := by
  unfold widthN
  cases h : isTag s.data.toList with
  | true =>
    obtain ⟨rs, hr⟩ := isTag_iff.1 h
    rw [tagErr_zero.2 h]
    simp only [if_true]
    rw [hr.runesOf]
    exact RWidth_ok s rs hr w
  | false =>
    rw [(tagErr_or s.data.toList).resolve_left (tagErr_false h)]
    exact RWidth_no s (by omega) (tagErr_false h) w
theorem RCut_any (s : ByteArray) (hs : s.size ≤ 500) (n : Int) (hn : n ≤ 9223372036854775807) (w : World) : Calls Try.prog 25 #[.string s, .int .i64 n] w (StrErr (cutN s.data.toList n) (cutE s.data.toList n) w) := by
  unfold cutN cutE
  cases h : isTag s.data.toList with
  | true =>
    obtain ⟨rs, hr⟩ := isTag_iff.1 h
    simp only [if_true]
    by_cases hn0 : n < 0
    · rw [if_pos hn0, if_pos hn0]
      exact RCut_neg s hs n (tagErr_zero.2 h) hn0 w
    · rw [if_neg hn0, if_neg hn0, hr.runesOf]
      exact RCut_ok s n rs hr (by omega) hn w
  | false =>
    exact RCut_no s hs n (tagErr_false h) w

set_option maxRecDepth 1000000 in
set_option maxHeartbeats 16000000 in
theorem RPlain_ok (s : ByteArray) (hs : s.size ≤ 500) (w : World) : Calls Try.prog 22 #[.string s] w fun e w' => e = .returned (.bool (plainB s.data.toList)) ∧ Keeps [] w w' := by
  have HP := Lib.hid (plainB_eq s.data.toList)
  obtain ⟨R, hR⟩ : ∃ R, plainB s.data.toList = R := ⟨_, rfl⟩
  rw [hR] at HP ⊢
  clear hR
  have HC := RCheck_ok s (by omega)
  go_enter Try.func22, Try.ntmps22
  go_wp2_with fail
  go_loop [3] (fun x => ∃ i : Nat, x = .int .i64 i ∧ i ≤ s.size ∧ ∀ j (hj : j < s.size), j < i → plainR s[j].toNat = true) (fun x => s.size - (RowKit.intOf x).toNat)
  case atStart => exact ⟨0, rfl, Nat.zero_le _, fun j hj h => by omega⟩
  case round =>
    obtain ⟨i, rfl, hi, hall⟩ := hrel
    have HA := Lib.hid hall
    clear hall
    by_cases hi2 : i < s.size
    · obtain ⟨q, hq⟩ : ∃ q, (s[i]).toNat = q := ⟨_, rfl⟩
      have hcc : ∀ h, (s[i]'h).toNat = q := fun h => hq
      have hc8 := (s[i]).toNat_lt
      rw [hq] at hc8
      have HQ := Lib.hid hq
      clear hq
      cases hp : plainR q with
      | true =>
        have hgo : (97 ≤ q ∧ q ≤ 122) ∨ (48 ≤ q ∧ q ≤ 57) ∨ q = 45 ∨ q = 46 ∨ q = 95 := by
          simp only [plainR, Bool.or_eq_true, Bool.and_eq_true, decide_eq_true_eq] at hp
          omega
        have hnext : ∀ j (hj : j < s.size), j < i + 1 → plainR s[j].toNat = true := by
          intro j hj h
          rcases Nat.lt_or_ge j i with h2 | h2
          · exact HA.out j hj h2
          · obtain rfl : j = i := by omega
            rw [HQ.out]
            exact hp
        have HX := Lib.hid hnext
        clear hnext hp
        rcases hgo with ⟨h1, h2⟩ | ⟨h1, h2⟩ | rfl | rfl | rfl
        all_goals
          go_wp2_with fail
          all_goals
            go_round
            case rel => exact ⟨i + 1, by go_num, by omega, HX.out⟩
            case measure => simp [RowKit.intOf]; omega
      | false =>
        have hR0 : R = false := by
          rw [HP.out]
          have : plainAll s.data.toList = false := by
            unfold plainAll
            rw [List.all_eq_false]
            exact ⟨s[i], by rw [show s[i] = s.data.toList[i]'(by rw [← Lib.size_eq]; exact hi2) from rfl]; exact List.getElem_mem _, by rw [HQ.out, hp]; simp⟩
          rw [this, Bool.false_and]
        have hgo : q < 45 ∨ q = 47 ∨ (58 ≤ q ∧ q < 95) ∨ q = 96 ∨ 122 < q := by
          have hp' : ¬ (plainR q = true) := by rw [hp]; simp
          simp only [plainR, Bool.or_eq_true, Bool.and_eq_true, decide_eq_true_eq] at hp'
          omega
        have e1 : ((q : Int) == 45) = false := by
          have : q ≠ 45 := by rintro rfl; revert hp; decide
          exact beq_eq_false_iff_ne.2 (by omega)
        have e2 : ((q : Int) == 46) = false := by
          have : q ≠ 46 := by rintro rfl; revert hp; decide
          exact beq_eq_false_iff_ne.2 (by omega)
        have e3 : ((q : Int) == 95) = false := by
          have : q ≠ 95 := by rintro rfl; revert hp; decide
          exact beq_eq_false_iff_ne.2 (by omega)
        have HR0 := Lib.hid hR0
        clear hR0 hp
        rcases hgo with h1 | rfl | ⟨h1, h2⟩ | rfl | h1
        all_goals
          try have d1 : decide ((q : Int) ≤ 57) = false := decide_eq_false (by omega)
          try have d2 : decide ((q : Int) ≤ 122) = false := decide_eq_false (by omega)
          go_wp2_with fail
          go_ret
          rw [HR0.out]
          exact ⟨rfl, Keeps.refl _ _⟩
    · have hpa : plainAll s.data.toList = true := by
        unfold plainAll
        rw [List.all_eq_true]
        intro b hb
        obtain ⟨j, hj, rfl⟩ := List.getElem_of_mem hb
        exact HA.out j (by rw [Lib.size_eq]; exact hj) (by rw [← Lib.size_eq] at hj; omega)
      have hP := HP.out
      rw [hpa, Bool.true_and] at hP
      cases ht : isTag s.data.toList with
      | true =>
        rw [tagErr_zero.2 ht] at HC
        rw [ht] at hP
        have HC2 := Lib.hid HC
        have HP2 := Lib.hid hP
        clear HC hP ht hpa
        go_wp2_with fail
        refine (HC2.out _).mono ?_
        rintro e w' ⟨rfl, hk⟩
        go_wp2_with fail
        go_ret
        rw [HP2.out]
        exact ⟨rfl, hk⟩
      | false =>
        rw [show tagErr s.data.toList = 16 by unfold tagErr; rw [ht]; rfl] at HC
        rw [ht] at hP
        have HC2 := Lib.hid HC
        have HP2 := Lib.hid hP
        clear HC hP ht hpa
        go_wp2_with fail
        refine (HC2.out _).mono ?_
        rintro e w' ⟨rfl, hk⟩
        go_wp2_with fail
        go_ret
        rw [HP2.out]
        exact ⟨rfl, hk⟩

set_option maxRecDepth 1000000 in
set_option maxHeartbeats 8000000 in
theorem reads_walk (s : ByteArray) (w : World) : Calls Try.prog 6 #[.string s] w fun e w' => e = .returned (.bool true) ∧ Below w.heap.size w w' := by
  by_cases hlong : 500 < s.size
  · go_enter Try.func6, Try.ntmps6
    go_wp2_with fail
    refine (works_ok _).mono ?_
    rintro e W2 ⟨rfl, k2⟩
    go_wp2_with fail
    go_ret
    exact ⟨rfl, k2.below⟩
  · have h1 := Unquote_ok s (by omega)
    have h2 := RUnquote_ok s (by omega)
    unfold UnqPost at h1 h2
    generalize unquote s.data.toList = U at *
    obtain ⟨t, n, er⟩ := U
    dsimp only at h1 h2
    generalize (⟨t.toArray⟩ : ByteArray) = T at *
    have H1 := Lib.hid h1
    have H2 := Lib.hid h2
    clear h1 h2
    go_enter Try.func6, Try.ntmps6
    go_wp2_with fail
    refine (H1.out _).mono ?_
    rintro e W1 ⟨rfl, k1⟩
    go_wp2_with fail
    refine (H2.out _).mono ?_
    rintro e W2 ⟨rfl, k2⟩
    go_wp2_with fail
    refine (works_ok _).mono ?_
    rintro e W3 ⟨rfl, k3⟩
    go_wp2_with fail
    go_ret
    exact ⟨rfl, ((k1.trans k2).trans k3).below⟩

set_option maxRecDepth 1000000 in
set_option maxHeartbeats 8000000 in
theorem cuts_walk (s : ByteArray) (n : Int) (hn : n ≤ 9223372036854775807) (w : World) : Calls Try.prog 7 #[.string s, .int .i64 n] w fun e w' => e = .returned (.bool true) ∧ Below w.heap.size w w' := by
  by_cases hlong : 500 < s.size
  · go_enter Try.func7, Try.ntmps7
    go_wp2_with fail
    refine (works_ok _).mono ?_
    rintro e W2 ⟨rfl, k2⟩
    go_wp2_with fail
    go_ret
    exact ⟨rfl, k2.below⟩
  · have h1 := Cut_any s n hn
    have h2 := RCut_any s (by omega) n hn
    unfold StrErr at h1 h2
    generalize (⟨(cutN s.data.toList n).toArray⟩ : ByteArray) = T at *
    generalize cutE s.data.toList n = er at *
    have H1 := Lib.hid h1
    have H2 := Lib.hid h2
    clear h1 h2
    go_enter Try.func7, Try.ntmps7
    go_wp2_with fail
    refine (H1.out _).mono ?_
    rintro e W1 ⟨rfl, k1⟩
    go_wp2_with fail
    refine (H2.out _).mono ?_
    rintro e W2 ⟨rfl, k2⟩
    go_wp2_with fail
    refine (works_ok _).mono ?_
    rintro e W3 ⟨rfl, k3⟩
    go_wp2_with fail
    go_ret
    exact ⟨rfl, ((k1.trans k2).trans k3).below⟩

set_option maxRecDepth 1000000 in
set_option maxHeartbeats 8000000 in
theorem checks_walk (s : ByteArray) (w : World) : Calls Try.prog 5 #[.string s] w fun e w' => e = .returned (.bool true) ∧ Below w.heap.size w w' := by
  by_cases hlong : 500 < s.size
  · go_enter Try.func5, Try.ntmps5
    go_wp2_with fail
    refine (works_ok _).mono ?_
    rintro e W2 ⟨rfl, k2⟩
    go_wp2_with fail
    go_ret
    exact ⟨rfl, k2.below⟩
  · have h1 := Quote_any s
    have h2 := RQuote_any s (by omega)
    have h3 := Width_any s
    have h4 := RWidth_any s (by omega)
    have h5 := Check_ok s
    have h6 := RCheck_ok s (by omega)
    have h7 := Plain_ok s (by omega)
    have h8 := RPlain_ok s (by omega)
    unfold StrErr at h1 h2
    unfold IntErr at h3 h4
    generalize (⟨(quoteN s.data.toList).toArray⟩ : ByteArray) = T at *
    generalize tagErr s.data.toList = er at *
    generalize ((widthN s.data.toList : Nat) : Int) = wd at *
    generalize plainB s.data.toList = pl at *
    have H1 := Lib.hid h1
    have H2 := Lib.hid h2
    have H3 := Lib.hid h3
    have H4 := Lib.hid h4
    have H5 := Lib.hid h5
    have H6 := Lib.hid h6
    have H7 := Lib.hid h7
    have H8 := Lib.hid h8
    clear h1 h2 h3 h4 h5 h6 h7 h8
    go_enter Try.func5, Try.ntmps5
    go_wp2_with fail
    refine (H1.out _).mono ?_
    rintro e W1 ⟨rfl, k1⟩
    go_wp2_with fail
    refine (H2.out _).mono ?_
    rintro e W2 ⟨rfl, k2⟩
    go_wp2_with fail
    refine (H3.out _).mono ?_
    rintro e W3 ⟨rfl, k3⟩
    go_wp2_with fail
    refine (H4.out _).mono ?_
    rintro e W4 ⟨rfl, k4⟩
    go_wp2_with fail
    refine (H5.out _).mono ?_
    rintro e W5 ⟨rfl, k5⟩
    go_wp2_with fail
    refine (H6.out _).mono ?_
    rintro e W6 ⟨rfl, k6⟩
    go_wp2_with fail
    refine (H7.out _).mono ?_
    rintro e W7 ⟨rfl, k7⟩
    go_wp2_with fail
    refine (H8.out _).mono ?_
    rintro e W8 ⟨rfl, k8⟩
    have k := ((((((k1.trans k2).trans k3).trans k4).trans k5).trans k6).trans k7).trans k8
    clear k1 k2 k3 k4 k5 k6 k7 k8
    go_wp2_with fail
    refine (works_ok _).mono ?_
    rintro e W9 ⟨rfl, k9⟩
    go_wp2_with fail
    go_ret
    exact ⟨rfl, (k.trans k9).below⟩
end Go.Proofs.Ytkbelhhimllfnaa
