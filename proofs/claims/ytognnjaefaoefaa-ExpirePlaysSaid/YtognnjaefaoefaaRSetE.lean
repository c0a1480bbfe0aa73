/- The contract of the document's Set where it refuses. Condition: a queue that New or Copy made, its list in order. -/
import Derived.Test.YtognnjaefaoefaaRDue
namespace Go.Proofs.Ytognnjaefaoefaa
open Go.RowKit

set_option maxRecDepth 1000000 in
set_option maxHeartbeats 2000000 in
theorem RSet_arg {w : World} {b : Nat} {v : Value} {L : List (Int × Int)} (h : RQ w b v L) (id a : Int) (ha : a < 0 ∨ 1099511627776 < a) :
    Calls Try.prog 21 #[.pointer (some ⟨b, 0, none⟩), .int .i64 id, .int .i64 a] w fun e w' => e = .returned (.int .i64 2) ∧ RTurned w w' b v L := by
  have hV := Lib.hid (rvalid_q h)
  have HQ := Lib.hid h
  clear h
  rcases (show a < 0 ∨ (¬ a < 0 ∧ 1099511627776 < a) by omega) with h1 | ⟨h1, h2⟩
  all_goals
    clear ha
    go_enter Try.func21, Try.ntmps21
    go_wp2_with fail
    refine hV.out.mono ?_
    rintro e w' ⟨rfl, rfl⟩
    go_wp2_with fail
    go_ret
    exact ⟨rfl, _, HQ.out, Keeps.refl _ _, fun x hx => .inl hx⟩
set_option maxRecDepth 1000000 in
set_option maxHeartbeats 2000000 in
theorem RSet_full {w : World} {b : Nat} {v : Value} {L : List (Int × Int)} (h : RQ w b v L) (hg : Good L) (hl : L.length ≤ 1000) (id a : Int) (ha1 : ¬ a < 0) (ha2 : ¬ 1099511627776 < a) (hp : ¬ placeOf L id < L.length) (hf : 256 ≤ L.length) :
    Calls Try.prog 21 #[.pointer (some ⟨b, 0, none⟩), .int .i64 id, .int .i64 a] w fun e w' => e = .returned (.int .i64 4) ∧ RTurned w w' b v L := by
  have hV := Lib.hid (rvalid_q h)
  have hD := Lib.hid (RDrop_q h hg.ids hl id)
  rw [decide_eq_false hp, dropE_none hp] at hD
  have hfI : (256 : Int) ≤ (L.length : Int) := by omega
  clear h hg hp
  go_enter Try.func21, Try.ntmps21
  go_wp2_with fail
  refine hV.out.mono ?_
  rintro e w' ⟨rfl, rfl⟩
  go_wp2_with fail
  refine hD.out.mono ?_
  rintro e w1 ⟨rfl, v1, hq1, hk1, hv1⟩
  have c0 := hq1.blk.cellAt 1 _ rfl
  obtain ⟨a1, cap, rfl⟩ := hq1.own.shape
  have HT1 := Lib.hid (show RTurned w w1 b v L from ⟨_, hq1, hk1, hv1⟩)
  clear hq1 hk1 hv1
  go_wp2_with fail
  go_ret
  exact ⟨rfl, HT1.out⟩
end Go.Proofs.Ytognnjaefaoefaa
