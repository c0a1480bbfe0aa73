/- TagsRead: for every input the call returns true, and nothing that was there has changed. No condition. -/
import Derived.Test.YtkbelhhimllfnaaUnqP
namespace Go.Proofs.Ytkbelhhimllfnaa
open Go.RowKit

set_option maxRecDepth 1000000 in
set_option maxHeartbeats 8000000 in
theorem read_walk (s : ByteArray) (w : World) :
    Calls Try.prog 10 #[.string s] w fun e w' => e = .returned (.bool true) ∧ Below w.heap.size w w' := by
  by_cases hlong : 500 < s.size
  · go_enter Try.func10, Try.ntmps10
    go_wp2_with fail
    refine (works_ok _).mono ?_
    rintro e W2 ⟨rfl, k2⟩
    go_wp2_with fail
    go_ret
    exact ⟨rfl, k2.below⟩
  · have hU := Unquote_ok s (by omega)
    unfold UnqPost at hU
    rcases unquote_cases s.data.toList with ⟨t, ht, hu, rest, hr⟩ | hu | hu
    · rw [hu] at hU
      have hQ := Quote_any ⟨t.toArray⟩
      unfold StrErr at hQ
      rw [show quoteN (⟨t.toArray⟩ : ByteArray).data.toList = quoteOf t by unfold quoteN; rw [show isTag (⟨t.toArray⟩ : ByteArray).data.toList = true from ht]; rfl, show tagErr (⟨t.toArray⟩ : ByteArray).data.toList = 0 from tagErr_zero.2 ht] at hQ
      obtain ⟨q, hq⟩ : ∃ q : ByteArray, (⟨(quoteOf t).toArray⟩ : ByteArray) = q := ⟨_, rfl⟩
      have hqs : q.size = (quoteOf t).length := by rw [← hq]; rfl
      have hle : q.size ≤ s.size := by rw [hqs, Lib.size_eq, hr, List.length_append]; omega
      have hex : s.extract 0 q.size = q := by
        rw [← hq]
        refine ba_eq ?_
        rw [take_list, hr, show (⟨(quoteOf t).toArray⟩ : ByteArray).size = (quoteOf t).length from rfl, List.take_left]
      rw [hq] at hQ
      rw [← hqs] at hU
      have HU := Lib.hid hU
      have HQ := Lib.hid hQ
      clear hU hQ hq hqs hu hr
      go_enter Try.func10, Try.ntmps10
      go_wp2_with fail
      refine (HU.out _).mono ?_
      rintro e W1 ⟨rfl, k1⟩
      go_wp2_with fail
      refine (HQ.out _).mono ?_
      rintro e W2 ⟨rfl, k2⟩
      go_wp2_with fail
      refine (works_ok _).mono ?_
      rintro e W3 ⟨rfl, k3⟩
      go_wp2_with fail
      go_ret
      exact ⟨rfl, ((k1.trans k2).trans k3).below⟩
    all_goals
      rw [hu] at hU
      have HU := Lib.hid (fun w => (show Calls Try.prog 23 #[.string s] w fun e w' => e = .returned (.tuple #[.string ⟨#[]⟩, .int .i64 0, .int .i64 _]) ∧ Keeps [] w w' from hU w))
      clear hU hu
      go_enter Try.func10, Try.ntmps10
      go_wp2_with fail
      refine (HU.out _).mono ?_
      rintro e W1 ⟨rfl, k1⟩
      go_wp2_with fail
      refine (works_ok _).mono ?_
      rintro e W3 ⟨rfl, k3⟩
      go_wp2_with fail
      go_ret
      exact ⟨rfl, (k1.trans k3).below⟩
end Go.Proofs.Ytkbelhhimllfnaa
