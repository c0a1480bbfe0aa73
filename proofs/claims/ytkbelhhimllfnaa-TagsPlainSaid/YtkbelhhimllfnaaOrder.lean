/- The contract of Order. No condition. -/
import Derived.Test.YtkbelhhimllfnaaPlainOk
namespace Go.Proofs.Ytkbelhhimllfnaa
open Go.RowKit Go.Lib

set_option maxRecDepth 100000 in
theorem nan_ok (s : ByteArray) (w : World) : Calls Try.prog 45 #[.string s] w fun e w' => e = .returned (.bool false) ∧ w = w' := by
  go_enter Try.func45, Try.ntmps45
  go_wp2
  go_ret
  exact ⟨rfl, rfl⟩
/-- The order of two texts by their bytes. -/
def cmpB (l m : List UInt8) : Int := if Op.bytesLess l m = true then -1 else if l = m then 0 else 1

set_option maxRecDepth 100000 in
theorem Compare_ok (s t : ByteArray) (w : World) : Calls Try.prog 40 #[.string s, .string t] w fun e w' => e = .returned (.int .i64 (cmpB s.data.toList t.data.toList)) ∧ w = w' := by
  have HN := Lib.hid (nan_ok s)
  have HM := Lib.hid (nan_ok t)
  have es : s.toList = s.data.toList := Lib.toList_data s
  have et : t.toList = t.data.toList := Lib.toList_data t
  cases hb : Op.bytesLess s.toList t.toList with
  | true =>
    have hc : cmpB s.data.toList t.data.toList = -1 := by unfold cmpB; rw [← es, ← et, hb]; rfl
    rw [hc]
    clear hc es et
    go_enter Try.func40, Try.ntmps40
    go_wp2_with fail
    refine (HN.out _).mono ?_
    rintro e w' ⟨rfl, rfl⟩
    go_wp2_with fail
    refine (HM.out _).mono ?_
    rintro e w' ⟨rfl, rfl⟩
    go_wp2_with fail
    go_ret
    exact ⟨rfl, rfl⟩
  | false =>
    cases he : (s.toList == t.toList) with
    | true =>
      have hc : cmpB s.data.toList t.data.toList = 0 := by
        unfold cmpB; rw [← es, ← et, hb, if_neg (by simp), if_pos (by simpa using he)]
      rw [hc]
      clear hc es et
      go_enter Try.func40, Try.ntmps40
      go_wp2_with fail
      refine (HN.out _).mono ?_
      rintro e w' ⟨rfl, rfl⟩
      go_wp2_with fail
      refine (HM.out _).mono ?_
      rintro e w' ⟨rfl, rfl⟩
      go_wp2_with fail
      go_ret
      exact ⟨rfl, rfl⟩
    | false =>
      have hc : cmpB s.data.toList t.data.toList = 1 := by
        unfold cmpB; rw [← es, ← et, hb, if_neg (by simp), if_neg (by simpa using he)]
      rw [hc]
      clear hc es et
      go_enter Try.func40, Try.ntmps40
      go_wp2_with fail
      refine (HN.out _).mono ?_
      rintro e w' ⟨rfl, rfl⟩
      go_wp2_with fail
      refine (HM.out _).mono ?_
      rintro e w' ⟨rfl, rfl⟩
      go_wp2_with fail
      go_ret
      exact ⟨rfl, rfl⟩

/-- The order of two texts. -/
def orderB (l m : List UInt8) : Int := if isTag l then (if isTag m then cmpB l m else 1) else (if isTag m then -1 else 0)
set_option maxRecDepth 100000 in
theorem Order_ok (s t : ByteArray) (w : World) : Calls Try.prog 26 #[.string s, .string t] w fun e w' => e = .returned (.int .i64 (orderB s.data.toList t.data.toList)) ∧ Keeps [] w w' := by
  have HS := Check_ok s
  have HT := Check_ok t
  have HC := Lib.hid (Compare_ok s t)
  unfold orderB
  unfold tagErr at HS HT
  cases hs : isTag s.data.toList <;> cases ht : isTag t.data.toList
  all_goals
    rw [hs] at HS
    rw [ht] at HT
    simp only [if_true, if_false, Bool.false_eq_true] at HS HT ⊢
    have HS2 := Lib.hid HS
    have HT2 := Lib.hid HT
    clear HS HT hs ht
    go_enter Try.func26, Try.ntmps26
    go_wp2_with fail
    refine (HS2.out _).mono ?_
    rintro e w1 ⟨rfl, k1⟩
    go_wp2_with fail
    refine (HT2.out _).mono ?_
    rintro e w2 ⟨rfl, k2⟩
    go_wp2_with fail
    first
      | (go_ret; exact ⟨rfl, k1.trans k2⟩)
      | (refine (HC.out _).mono ?_
         rintro e w3 ⟨rfl, rfl⟩
         go_wp2_with fail
         go_ret
         exact ⟨rfl, k1.trans k2⟩)
end Go.Proofs.Ytkbelhhimllfnaa
