/- ExpirePlays' walk, for lists of every length. No condition. -/
import Derived.Test.YtognnjaefaoefaaPlays
namespace Go.Proofs.Ytognnjaefaoefaa
open Go.RowKit
set_option linter.unusedVariables false

set_option maxRecDepth 1000000 in
theorem plays_walk (ask : Int) {v : Value} {ls : List (Int × Int × Int)} {w : World} (hv : ArgT w v ls) :
    Calls Try.prog 8 #[v, .int .i64 ask] w fun e w' => e = .returned (.bool true) ∧ Below w.heap.size w w' := by
  by_cases hl : (150 < ls.length ∧ ls.length ≤ 256) ∨ 261 < ls.length
  · obtain ⟨a0, cap0, rfl⟩ := hv.shape
    clear hv
    generalize ls.length = l at *
    rcases (show ((150 : Int) < (l : Int) ∧ (l : Int) ≤ 256) ∨ ((150 : Int) < (l : Int) ∧ ¬ (l : Int) ≤ 256 ∧ (261 : Int) < (l : Int)) by omega) with ⟨g1, g2⟩ | ⟨g1, g2, g3⟩
    all_goals
      clear hl
      go_enter Try.func8, Try.ntmps8
      go_wp2_with fail
      refine (works_ok _).mono ?_
      rintro e w1 ⟨rfl, k1⟩
      go_wp2_with fail
      go_ret
      exact ⟨rfl, k1.below⟩
  · exact plays_some ask hv hl
end Go.Proofs.Ytognnjaefaoefaa
