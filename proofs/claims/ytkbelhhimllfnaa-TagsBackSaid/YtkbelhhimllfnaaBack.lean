/- TagsBack: for every input the call returns true, and nothing that was there has changed. No condition. -/
import Derived.Test.YtkbelhhimllfnaaUnqP
namespace Go.Proofs.Ytkbelhhimllfnaa
open Go.RowKit

set_option maxRecDepth 1000000 in
set_option maxHeartbeats 8000000 in
theorem back_walk (s more : ByteArray) (w : World) :
    Calls Try.prog 9 #[.string s, .string more] w fun e w' => e = .returned (.bool true) ∧ Below w.heap.size w w' := by
  by_cases hlong : 500 < s.size
  · go_enter Try.func9, Try.ntmps9
    go_wp2_with fail
    refine (works_ok _).mono ?_
    rintro e W2 ⟨rfl, k2⟩
    go_wp2_with fail
    go_ret
    exact ⟨rfl, k2.below⟩
  by_cases hlong2 : 500 < more.size
  · go_enter Try.func9, Try.ntmps9
    go_wp2_with fail
    refine (works_ok _).mono ?_
    rintro e W2 ⟨rfl, k2⟩
    go_wp2_with fail
    go_ret
    exact ⟨rfl, k2.below⟩
  have hQ := Quote_any s
  have hC := Check_ok s
  unfold StrErr at hQ
  cases ht : isTag s.data.toList with
  | false =>
    rw [show quoteN s.data.toList = [] by unfold quoteN; rw [ht]; rfl, show tagErr s.data.toList = 16 by unfold tagErr; rw [ht]; rfl] at hQ
    rw [show tagErr s.data.toList = 16 by unfold tagErr; rw [ht]; rfl] at hC
    have HQ := Lib.hid (fun w => (show Calls Try.prog 15 #[.string s] w fun e w' => e = .returned (.tuple #[.string ⟨#[]⟩, .int .i64 16]) ∧ Keeps [] w w' from hQ w))
    have HC := Lib.hid hC
    clear hQ hC ht
    go_enter Try.func9, Try.ntmps9
    go_wp2_with fail
    refine (HQ.out _).mono ?_
    rintro e W1 ⟨rfl, k1⟩
    go_wp2_with fail
    refine (HC.out _).mono ?_
    rintro e W2 ⟨rfl, k2⟩
    go_wp2_with fail
    refine (works_ok _).mono ?_
    rintro e W3 ⟨rfl, k3⟩
    go_wp2_with fail
    go_ret
    exact ⟨rfl, ((k1.trans k2).trans k3).below⟩
  | true =>
    rw [show quoteN s.data.toList = quoteOf s.data.toList by unfold quoteN; rw [ht]; rfl, tagErr_zero.2 ht] at hQ
    rw [tagErr_zero.2 ht] at hC
    obtain ⟨q, hq⟩ : ∃ q : ByteArray, (⟨(quoteOf s.data.toList).toArray⟩ : ByteArray) = q := ⟨_, rfl⟩
    have hql : q.data.toList = quoteOf s.data.toList := by rw [← hq]
    have hqs : q.size = (quoteOf s.data.toList).length := by rw [Lib.size_eq, hql]
    have hq2 : q.size ≤ 1100 := by
      rw [hqs]
      unfold quoteOf
      have := escs_len s.data.toList
      rw [← Lib.size_eq] at this
      simp only [List.length_append, List.length_cons, List.length_nil]
      omega
    have hU := Unquote_ok (q ++ more) (by rw [ByteArray.size_append]; omega)
    rw [show (q ++ more).data.toList = quoteOf s.data.toList ++ more.data.toList by rw [ByteArray.data_append, Array.toList_append, hql], unquote_quote ht] at hU
    unfold UnqPost at hU
    rw [← hqs] at hU
    dsimp only at hU
    rw [show (⟨s.data.toList.toArray⟩ : ByteArray) = s from (ba_eq rfl).symm] at hU
    have hS : ∀ k, k < q.size → ∀ w, Calls Try.prog 23 #[.string (q.extract 0 k)] w fun e w' => e = .returned (.tuple #[.string ⟨#[]⟩, .int .i64 0, .int .i64 9]) ∧ Keeps [] w w' := by
      intro k hk w
      have := Unquote_ok (q.extract 0 k) (by rw [ByteArray.size_extract]; omega) w
      rw [take_list, hql, unquote_short _ (by rw [← hqs]; exact hk)] at this
      exact this
    rw [hq] at hQ
    have HU := Lib.hid hU
    have HQ := Lib.hid hQ
    have HC := Lib.hid hC
    have HS := Lib.hid hS
    have hz : ¬ 9223372036854775807 < q.size + more.size := by omega
    clear hU hQ hC hS hq hqs hql ht
    go_enter Try.func9, Try.ntmps9
    go_wp2_with fail
    refine (HQ.out _).mono ?_
    rintro e W1 ⟨rfl, k1⟩
    go_wp2_with fail
    refine (HC.out _).mono ?_
    rintro e W2 ⟨rfl, k2⟩
    go_wp2_with fail
    refine (HU.out _).mono ?_
    rintro e W3 ⟨rfl, k3⟩
    have hk := (k1.trans k2).trans k3
    clear k1 k2 k3
    go_wp2_with fail
    go_loopw [10] (fun v wr => ∃ i : Nat, v = .int .i64 i ∧ i ≤ q.size ∧ Keeps [] w wr) (fun v _ => q.size - (intOf v).toNat)
    case atStart => exact ⟨0, rfl, Nat.zero_le _, hk⟩
    case round =>
      obtain ⟨i, rfl, hi, hkr⟩ := hrel
      by_cases hi2 : i < q.size
      · go_wp2_with fail
        refine (HS.out i hi2 _).mono ?_
        rintro e W4 ⟨rfl, k4⟩
        go_wp2_with fail
        go_roundw
        case rel => exact ⟨i + 1, by go_num, by omega, hkr.trans k4⟩
        case measure => simp [intOf]; omega
      · go_wp2_with fail
        refine (works_ok _).mono ?_
        rintro e W4 ⟨rfl, k4⟩
        go_wp2_with fail
        go_ret
        exact ⟨rfl, (hkr.trans k4).below⟩
end Go.Proofs.Ytkbelhhimllfnaa
