/- The contracts of slices.Clone of words and of Copy. Condition: a set that New or Copy made. -/
import Derived.Test.YtcdnflffpeijfaaDoorClear
import Derived.Test.YtcdnflffpeijfaaDoorKitW
import Derived.Lib.SliceRun
namespace Go.Proofs.YtcdnflffpeijfaaDoor
open Go.RowKit

theorem Tryd.info67 : (Tryd.prog.info? 67).map (fun i => (i.zero, i.size, i.bytes)) = some (some (.int .u64 0), 1, 8) := by kernel_rfl
theorem OwnW.empty {w : World} {B g : Nat} (hb : Blk w g 67 #[]) (hB : B ≤ g) : OwnW w B (.slice (some ⟨g, 0, none⟩) 0 0) [] :=
  ⟨by simp, .inr ⟨g, 0, #[], rfl, hB, hb, Nat.le_refl _, Nat.zero_le _, by simp, by simp⟩⟩

set_option maxRecDepth 1000000 in
theorem Clone_in {gb l cap : Nat} {w : World} {xs : List Int} (h : SlW w (.slice (some ⟨gb, 0, none⟩) l cap) xs) (hl : 1 ≤ xs.length) (hm : xs.length ≤ 64) :
    Calls Tryd.prog 42 #[.slice (some ⟨gb, 0, none⟩) l cap] w fun e w' => ∃ v, e = .returned v ∧ OwnW w' w.heap.size v xs ∧ Keeps [] w w' := by
  have H := Lib.hid h
  clear h
  have hnil : ∀ W, (binOp .eql 56 (.slice (some ⟨gb, 0, none⟩) l cap) (.slice none 0 0)).run Tryd.prog W = .ok (.bool false) W := fun W => Lib.run_eql_slice_nil W 56 67 (some _) _ _ 0 0 Tryd.underlying56
  go_enter Tryd.func42, Tryd.ntmps42
  go_wp2_with (at_builtin; (refine wpList_append_slW rfl (.tmp 5) (.tmp 6) 56 rfl w.heap.size Tryd.underlying56 Tryd.info67 rfl rfl (OwnW.empty (Blk.new w 67 #[]) (Nat.le_refl _)) (H.out.keeps ((Keeps.refl [] w).alloc _) (by simp)) (by simp; omega) (by simp) ?_; intro v' w1 hown' hg hat))
  go_ret
  exact ⟨_, rfl, by simpa using hown', ((Keeps.refl [] w).alloc _).grown hg (fun k e => by cases e; exact .inr (Nat.le_refl _))⟩
end Go.Proofs.YtcdnflffpeijfaaDoor
