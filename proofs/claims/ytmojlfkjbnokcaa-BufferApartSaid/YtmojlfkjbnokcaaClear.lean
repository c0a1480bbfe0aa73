/- The predeclared clear on a slice of the call's own: it returns, and only the slice's row turns. No condition. -/
import Derived.Test.YtmojlfkjbnokcaaMade
import Derived.Test.YtmojlfkjbnokcaaKit2
import Derived.Lib.SliceRun
namespace Go.Proofs.Ytmojlfkjbnokcaa
open Go.RowKit

theorem Keeps.setCells {S : List Nat} {a : World} {g : Nat} (hg : g ∈ S ∨ a.heap.size ≤ g) : ∀ (vs : List Value) (o : Nat) (w : World), Keeps S a w → Keeps S a (w.setCells g o vs)
  | [], _, _, h => h
  | v :: vs, o, w, h => Keeps.setCells hg vs (o + 1) (w.setCell ⟨g, o, none⟩ v) (h.setCell hg v)

theorem zero3 (w : World) : (zeroValue 3).run Try.prog w = .ok (.int .i64 0) w := by kernel_rfl

theorem clear_own {w : World} {B : Nat} {v : Value} {xs : List Int} (h : OwnI w B v xs) :
    ∃ w', (∀ ty, (Builtin.clear_ #[26] ty #[v]).run Try.prog w = .ok (.tuple #[]) w') ∧ Keeps v.ownBlock.toList w w' := by
  have hu : Try.prog.underlying 26 = some (.slice 3) := Try.underlying26
  by_cases hx : xs.length = 0
  · obtain ⟨a, cap, rfl⟩ := h.shape
    rw [hx]
    exact ⟨w, fun ty => by cases a <;> simp [Builtin.clear_, run_underlying hu], Keeps.refl _ _⟩
  · rcases h.form with ⟨rfl, rfl⟩ | ⟨g, cap, cur, rfl, hB, hb, hl, hc, hs, ht⟩
    · exact absurd rfl hx
    · refine ⟨_, fun ty => Lib.run_clear_slice w 26 3 ty _ hu zero3 rfl rfl g 0 xs.length cap (by omega) (fun j hj => ?_) (fun j _ => hb.frozen _), Keeps.setCells (.inl (by simp [Value.ownBlock])) _ _ _ (Keeps.refl _ _)⟩
      rw [hb.cell]
      simp
      omega
end Go.Proofs.Ytmojlfkjbnokcaa
