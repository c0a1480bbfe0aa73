/- TagsParts: for every input the call returns true, and nothing that was there has changed. No condition. -/
import Derived.Test.YtkbelhhimllfnaaPartP
namespace Go.Proofs.Ytkbelhhimllfnaa
open Go.RowKit

set_option maxRecDepth 1000000 in
set_option maxHeartbeats 16000000 in
theorem parts_walk (s : ByteArray) (wa va : Nat) (hwa : wa < 256) (hva : va < 256) (w : World) :
    Calls Try.prog 11 #[.string s, .int .u8 wa, .int .u8 va] w fun e w' => e = .returned (.bool true) ∧ Below w.heap.size w w' := by
  by_cases hlong : 500 < s.size
  · go_enter Try.func11, Try.ntmps11
    go_wp2_with fail
    refine (works_ok _).mono ?_
    rintro e W2 ⟨rfl, k2⟩
    go_wp2_with fail
    go_ret
    exact ⟨rfl, k2.below⟩
  have hC := Check_ok s
  cases ht : isTag s.data.toList with
  | false =>
    rw [show tagErr s.data.toList = 16 by unfold tagErr; rw [ht]; rfl] at hC
    have HC := Lib.hid hC
    clear hC ht
    go_enter Try.func11, Try.ntmps11
    go_wp2_with fail
    refine (HC.out _).mono ?_
    rintro e W1 ⟨rfl, k1⟩
    go_wp2_with fail
    refine (works_ok _).mono ?_
    rintro e W2 ⟨rfl, k2⟩
    go_wp2_with fail
    go_ret
    exact ⟨rfl, (k1.trans k2).below⟩
  | true =>
    rw [tagErr_zero.2 ht] at hC
    obtain ⟨rs, hrs⟩ := isTag_iff.1 ht
    have HL := hrs.len
    rw [← Lib.size_eq] at HL
    have hm := hrs.most
    have hwl := (widthOf_le rs)
    have HC := Lib.hid hC
    have hW := Width_ok s rs hrs
    unfold IntErr at hW
    have HW := Lib.hid hW
    -- the widths
    have ew1 : ((wa : Int)).tmod 60 = ((wa % 60 : Nat) : Int) := by rw [Int.tmod_eq_emod_of_nonneg (by omega)]; rfl
    have ew2 : (wa : Int) % 60 = ((wa % 60 : Nat) : Int) := rfl
    have ev1 : ((va : Int)).tmod 60 = ((va % 60 : Nat) : Int) := by rw [Int.tmod_eq_emod_of_nonneg (by omega)]; rfl
    have ev2 : (va : Int) % 60 = ((va % 60 : Nat) : Int) := rfl
    have hw60 : wa % 60 < 60 := Nat.mod_lt _ (by decide)
    have hv60 : va % 60 < 60 := Nat.mod_lt _ (by decide)
    generalize wa % 60 = wn at *
    generalize va % 60 = vn at *
    have hA := Cut_ok s (wn : Int) rs hrs (by omega) (by omega)
    have hB := Cut_ok s ((min wn vn : Nat) : Int) rs hrs (by omega) (by omega)
    rw [show ((min wn vn : Nat) : Int) = min (wn : Int) (vn : Int) by omega, cutOf_twice] at hB
    have hpA := cutOf_prefix rs (wn : Int)
    have hfit := cutOf_fits rs (wn : Int) (by omega)
    have hnext := cutOf_next rs (wn : Int)
    have hall := cutOf_all rs (wn : Int)
    generalize hAd : cutOf rs (wn : Int) = A at *
    have hpB := cutOf_prefix A (vn : Int)
    have hmA := hpA.length_le
    -- the texts
    obtain ⟨a, ha⟩ : ∃ a : ByteArray, (⟨(encs A).toArray⟩ : ByteArray) = a := ⟨_, rfl⟩
    obtain ⟨b, hb⟩ : ∃ b : ByteArray, (⟨(encs (cutOf A (vn : Int))).toArray⟩ : ByteArray) = b := ⟨_, rfl⟩
    have hal : a.data.toList = encs A := by rw [← ha]
    have hbl : b.data.toList = encs (cutOf A (vn : Int)) := by rw [← hb]
    have hAm : A = rs.take A.length := List.prefix_iff_eq_take.1 hpA
    have has : a.size = startOf rs A.length := by rw [Lib.size_eq, hal]; unfold startOf; rw [← hAm]
    have hapre : ∃ x, s.data.toList = encs A ++ x := by
      obtain ⟨ts, hts⟩ := hpA
      exact ⟨encs ts, by rw [hrs.text, ← hts, encs_append]⟩
    have hbpre : ∃ x, a.data.toList = encs (cutOf A (vn : Int)) ++ x := by
      obtain ⟨ts, hts⟩ := hpB
      exact ⟨encs ts, by rw [hal, ← encs_append, hts]⟩
    have hale : a.size ≤ s.size := by
      obtain ⟨x, hx⟩ := hapre
      rw [Lib.size_eq, Lib.size_eq, hal, hx, List.length_append]; omega
    have hble : b.size ≤ a.size := by
      obtain ⟨x, hx⟩ := hbpre
      rw [Lib.size_eq, Lib.size_eq, hbl, hx, List.length_append]; omega
    have hexa : s.extract 0 a.size = a := by
      obtain ⟨x, hx⟩ := hapre
      rw [← ha]
      exact ba_eq (by rw [take_list, hx, show (⟨(encs A).toArray⟩ : ByteArray).size = (encs A).length from rfl, List.take_left])
    have hexb : a.extract 0 b.size = b := by
      obtain ⟨x, hx⟩ := hbpre
      rw [← hb]
      exact ba_eq (by rw [take_list, hx, show (⟨(encs (cutOf A (vn : Int))).toArray⟩ : ByteArray).size = (encs (cutOf A (vn : Int))).length from rfl, List.take_left])
    have hsame : widthOf rs ≤ wn → (a.toList == s.toList) = true := by
      intro h
      rw [Lib.toList_data, Lib.toList_data, hal, hrs.text, hall (by omega)]
      simp
    -- the last cut
    have hlast : A ≠ [] → ∀ w, Calls Try.prog 17 #[.string a, .int .i64 vn] w fun e w' => e = .returned (.tuple #[.string b, .int .i64 0]) ∧ Keeps [] w w' := by
      intro hne w
      have := Cut_ok a (vn : Int) A (by have := hrs.sub hpA hne; rw [← hal] at this; exact this) (by omega) (by omega) w
      unfold StrErr at this
      rw [hb] at this
      exact this
    have hemp : (a.toList == []) = decide (A = []) := by
      rw [Lib.toList_data, hal]
      cases A with
      | nil => rfl
      | cons r A =>
        have : encs (r :: A) ≠ [] := by rw [encs_cons]; simp [enc_ne]
        cases he : encs (r :: A) with
        | nil => exact absurd he this
        | cons x y => rfl
    unfold StrErr at hA hB
    rw [ha] at hA
    rw [hb] at hB
    have HA := Lib.hid hA
    have HB := Lib.hid hB
    have HT := Lib.hid hrs.text
    have HS := Lib.hid hrs.sc
    have HN := Lib.hid hnext
    have HAm := Lib.hid hAm
    have HSame := Lib.hid hsame
    have HLast := Lib.hid hlast
    have HEmp := Lib.hid hemp
    have HAs := Lib.hid has
    have HSt := Lib.hid (show startOf rs rs.length = s.size by unfold startOf; rw [List.take_length, ← hrs.text, ← Lib.size_eq])
    clear hA hB hapre hbpre ha hb hal hbl hnext hall hAm hsame hlast hemp has hrs hpA hpB hAd hC hW ht
    have hwv : wn < vn ∨ wn = vn ∨ vn < wn := by omega
    obtain ⟨N, hN⟩ : ∃ N, widthOf rs = N := ⟨_, rfl⟩
    rw [hN] at hwl HW HSame
    have HNd := Lib.hid hN
    obtain ⟨U, hU⟩ : ∃ U, widthOf A = U := ⟨_, rfl⟩
    rw [hU] at hfit HN
    have HUd := Lib.hid hU
    clear hN hU
    clear hwv
    all_goals
      go_enter Try.func11, Try.ntmps11
      go_wp2_with fail
      refine (HC.out _).mono ?_
      rintro e W1 ⟨rfl, k1⟩
      go_wp2_with fail
      refine (HA.out _).mono ?_
      rintro e W2 ⟨rfl, k2⟩
      go_wp2_with fail
      refine (HB.out _).mono ?_
      rintro e W3 ⟨rfl, k3⟩
      go_wp2_with fail
      refine (HW.out _).mono ?_
      rintro e W4 ⟨rfl, k4⟩
      have k5 := ((k1.trans k2).trans k3).trans k4
      clear k1 k2 k3 k4
      obtain ⟨kk, hkk⟩ : ∃ kk, W4.heap.size = kk := ⟨_, rfl⟩
      go_wp2_with fail
      have hmrs : A.length ≤ rs.length := hmA
      obtain ⟨m, hmd⟩ : ∃ m, A.length = m := ⟨_, rfl⟩
      rw [hmd] at HAs hmrs HAm
      clear hmA hmd
      go_loopw [15, 16, 17] (fun x y z wr => ∃ d : Nat, d ≤ rs.length ∧ x = .int .i64 d ∧ y = .int .i64 (widthOf (rs.take d)) ∧ z = .int .i64 (widthOf (rs.take (min d m))) ∧ wr.heap[kk]? = some (.stringIter s (startOf rs d)) ∧ Keeps [] w wr) (fun _ _ _ wr => s.size - wr.iterPos kk)
      case atStart =>
        refine ⟨0, Nat.zero_le _, rfl, rfl, by rw [Nat.zero_min]; rfl, ?_, k5.alloc _⟩
        have := World.iter_heap W4 s 0
        rw [hkk] at this
        exact this
      case round =>
        obtain ⟨d, hd, rfl, rfl, rfl, hit, hkw⟩ := hrel
        have hwd2 : widthOf (rs.take d) ≤ 48 := by
          have := (widthOf_le (rs.take d)).2
          have := List.length_take_le d rs
          omega
        have hwu2 : widthOf (rs.take (min d m)) ≤ 48 := by
          have := (widthOf_le (rs.take (min d m))).2
          have := List.length_take_le (min d m) rs
          omega
        by_cases hd2 : d < rs.length
        · have hdr : s.data.toList = encs (rs.take d ++ rs.getD d 0 :: rs.drop (d + 1)) := by rw [← split_at rs hd2]; exact HT.out
          obtain ⟨hp, hdec⟩ := rune_at hdr (HS.out _ (by simp only [List.getD, List.getElem?_eq_getElem hd2, Option.getD_some]; exact List.getElem_mem hd2))
          have hpp : (encs (rs.take d)).length = startOf rs d := rfl
          rw [hpp] at hp hdec
          have hstep := startOf_step rs hd2
          have htn := take_next rs hd2
          have hmono := fun {j k : Nat} (h : j < k) (hk : k ≤ rs.length) => startOf_mono rs h hk
          have hnext := HN.out (rs.getD d 0) (rs.drop (d + 1))
          have hl := enc_len (rs.getD d 0)
          obtain ⟨r, hr⟩ : ∃ r, rs.getD d 0 = r := ⟨_, rfl⟩
          rw [hr] at hdec hstep htn hnext hl
          have hnx : ∀ ty, (Instr.next (.pointer (some ⟨kk, 0, none⟩)) true ty).run Try.prog wr = .ok (.tuple #[.bool true, .int .i64 (startOf rs d), .int .i32 r]) (wr.iterAt kk s (startOf rs (d + 1))) := fun ty => by
            rw [Lib.run_next_any_at wr kk s _ ty hit hp, hdec, hstep]
          have hit2 := Lib.iterAt_heap wr kk s _ (startOf rs (d + 1)) hit
          have hkb : w.heap.size ≤ kk := by have := k5.size; omega
          have hk2 := iterAt_keeps hkw (k := kk) hkb s (startOf rs (d + 1))
          generalize wr.iterAt kk s (startOf rs (d + 1)) = W6 at *
          have HW1 := Lib.hid (show widthOf (rs.take (d + 1)) = widthOf (rs.take d) + placesOf r by rw [htn, widthOf_append, widthOf_cons]; rfl)
          have hcase : (d < m ∧ startOf rs d < startOf rs m ∧ widthOf (rs.take (min (d + 1) m)) = widthOf (rs.take (min d m)) + placesOf r) ∨ (d = m ∧ startOf rs d = startOf rs m ∧ (wn : Int) < widthOf (rs.take (min d m)) + placesOf r ∧ widthOf (rs.take (min (d + 1) m)) = widthOf (rs.take (min d m))) ∨ (m < d ∧ startOf rs m < startOf rs d ∧ widthOf (rs.take (min (d + 1) m)) = widthOf (rs.take (min d m))) := by
            rcases Nat.lt_trichotomy d m with h | h | h
            · refine .inl ⟨h, hmono h hmrs, ?_⟩
              rw [Nat.min_eq_left (by omega), Nat.min_eq_left (by omega)]
              exact HW1.out
            · refine .inr (.inl ⟨h, by rw [h], ?_, by rw [Nat.min_eq_right (by omega), Nat.min_eq_right (by omega)]⟩)
              have := hnext (by rw [HAm.out, ← h]; have e := split_at rs hd2; rw [hr] at e; exact e)
              rw [Nat.min_eq_right (by omega), ← HAm.out, HUd.out]
              exact this
            · exact .inr (.inr ⟨h, hmono h hd, by rw [Nat.min_eq_right (by omega), Nat.min_eq_right (by omega)]⟩)
          rw [← HAs.out] at hcase
          have hpos2 : startOf rs d < startOf rs (d + 1) := by omega
          have HI2 := Lib.hid hit2
          have HI1 := Lib.hid hit
          clear hdec hdr hstep htn hmono hnext hr hit hit2
          generalize widthOf (rs.take (min d m)) = uu at *
          obtain ⟨u2, hu2⟩ : ∃ u2, widthOf (rs.take (min (d + 1) m)) = u2 := ⟨_, rfl⟩
          rw [hu2] at hcase
          have HU2 := Lib.hid hu2
          clear hu2
          generalize hp0 : startOf rs d = p at *
          obtain ⟨p2, hp2⟩ : ∃ p2, startOf rs (d + 1) = p2 := ⟨_, rfl⟩
          rw [hp2] at HI2 hpos2
          have HP2 := Lib.hid hp2
          have HP0 := Lib.hid hp0
          clear hp2 hp0
          generalize widthOf (rs.take d) = wd at *
          have hrest : ∀ wr' : World, wr'.heap[kk]? = some (.stringIter s p2) → wr'.iterPos kk = p2 := fun wr' h => by simp only [World.iterPos, h]
          have hrest1 : wr.iterPos kk = p := by simp only [World.iterPos, HI1.out]
          have HR1 := Lib.hid hrest
          have HR2 := Lib.hid hrest1
          clear hrest hrest1
          have hx : (r < 4352 ∧ placesOf r = 1) ∨ (4352 ≤ r ∧ placesOf r = 2) := by
            by_cases h4 : r < 4352
            · exact .inl ⟨h4, by simp [placesOf, h4]⟩
            · exact .inr ⟨by omega, by simp [placesOf, h4]⟩
          rcases hx with ⟨h4, hpl⟩ | ⟨h4, hpl⟩
          all_goals
            rw [hpl] at HW1 hcase
            clear hpl
            rcases hcase with ⟨c1, c2, c3⟩ | ⟨c1, c2, c3, c4⟩ | ⟨c1, c2, c3⟩
          all_goals
            first
              | (have e1 : ((p : Int) == (a.size : Int)) = false := by first | (simp; done) | (simp; omega))
              | (have e1 : ((p : Int) == (a.size : Int)) = true := by first | (simp; done) | (simp; omega))
            try subst c3
            try subst c4
            go_wp2_with fail
            go_roundw
            case rel => exact ⟨d + 1, by omega, by go_num, by rw [HW1.out]; go_num, by first | (rw [HU2.out]; done) | (rw [HU2.out]; go_num), by rw [HP2.out]; exact HI2.out, hk2⟩
            case measure => rw [HR1.out _ HI2.out, HR2.out]; omega
        · obtain rfl : d = rs.length := by omega
          rw [List.take_length, HNd.out, Nat.min_eq_right hmrs, ← HAm.out, HUd.out] at *
          have hp : ¬ startOf rs rs.length < s.size := by rw [HSt.out]; omega
          have hnx : ∀ ty, (Instr.next (.pointer (some ⟨kk, 0, none⟩)) true ty).run Try.prog wr = _ := fun ty => Lib.run_next_end_at wr kk s _ ty hit hp
          have hu0 : U ≤ wn := by omega
          have hnn : ((N : Int) != (N : Int)) = false := by simp
          have hcmp : (N ≤ wn ∧ (a.toList == s.toList) = true) ∨ wn < N := by
            rcases Nat.lt_or_ge wn N with h | h
            · exact .inr h
            · exact .inl ⟨h, HSame.out h⟩
          have hlast2 : ((a.toList == []) = true) ∨ ((a.toList == []) = false ∧ ∀ w, Calls Try.prog 17 #[.string a, .int .i64 vn] w fun e w' => e = .returned (.tuple #[.string b, .int .i64 0]) ∧ Keeps [] w w') := by
            rw [HEmp.out]
            by_cases hA0 : A = []
            · exact .inl (decide_eq_true hA0)
            · exact .inr ⟨decide_eq_false hA0, HLast.out hA0⟩
          clear hit
          rcases hlast2 with he | ⟨he, hlc⟩
          · rcases hcmp with ⟨hn, hc⟩ | hn
            all_goals
              go_wp2_with fail
              refine (works_ok _).mono ?_
              rintro e W7 ⟨rfl, k7⟩
              go_wp2_with fail
              go_ret
              exact ⟨rfl, (hkw.trans k7).below⟩
          · have HLC := Lib.hid hlc
            clear hlc
            rcases hcmp with ⟨hn, hc⟩ | hn
            all_goals
              go_wp2_with fail
              refine (HLC.out _).mono ?_
              rintro e W7 ⟨rfl, k7⟩
              go_wp2_with fail
              refine (works_ok _).mono ?_
              rintro e W8 ⟨rfl, k8⟩
              go_wp2_with fail
              go_ret
              exact ⟨rfl, ((hkw.trans k7).trans k8).below⟩
end Go.Proofs.Ytkbelhhimllfnaa
