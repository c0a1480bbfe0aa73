/- The contracts of slices.Clone of entries, of Copy and of a new queue. Condition: a queue that was made, or one that was not. -/
import Derived.Test.YtognnjaefaoefaaDue
namespace Go.Proofs.Ytognnjaefaoefaa
open Go.RowKit

theorem OwnE.empty {w : World} {B g : Nat} (hb : Blk w g 61 #[]) (hB : B ≤ g) : OwnE w B (.slice (some ⟨g, 0, none⟩) 0 0) [] :=
  .inr ⟨g, 0, rfl, hB, ⟨⟨#[], hb, rfl, fun i hi => by simp at hi⟩, Nat.le_refl _, by unfold maxLen; omega⟩⟩
set_option maxRecDepth 1000000 in
theorem CloneE_in {v : Value} {L : List (Int × Int)} {w : World} (h : OwnE w 0 v L) (hm : L.length ≤ 1000000) :
    Calls Try.prog 44 #[v] w fun e w' => ∃ v', e = .returned v' ∧ OwnE w' w.heap.size v' L ∧ Keeps [] w w' := by
  rcases h with ⟨rfl, rfl⟩ | ⟨g, cap, rfl, _, hr⟩
  · have hnil : ∀ W, (binOp .eql 49 (.slice none 0 0) (.slice none 0 0)).run Try.prog W = .ok (.bool true) W := fun W => Lib.run_eql_slice_nil W 49 61 none _ _ 0 0 Try.underlying49
    go_enter Try.func44, Try.ntmps44
    go_wp2_with fail
    go_ret
    exact ⟨_, rfl, OwnE.nil _ _, Keeps.refl _ _⟩
  · obtain ⟨i0, hi0, hz0, hz1, hz2⟩ := info_parts Try.info61
    have kA := (Keeps.refl [] w).alloc (.cells #[] 61)
    have hr1 := hr.keeps kA (by simp)
    obtain ⟨v', w', hrun, h2, h3, h4, h5⟩ := run_append_own_at (P := Try.prog) (w.alloc (.cells #[] 61)) w.heap.size 49 49 61 i0 (.agg #[.int .i64 0, .int .i64 0]) 2 16 Try.underlying49 hi0 hz0 hz1 hz2 rfl (by decide) (.slice (some ⟨w.heap.size, 0, none⟩) 0 0) 0 [] (OwnE.empty (Blk.new w 61 #[]) (Nat.le_refl _)).owns ⟨g, 0, none⟩ L.length cap (flat L) (flat_len L)
      (fun j u hj => by
        rw [Addr.add_lit, Nat.zero_add]
        have hjl : j < L.length * 2 := by
          have := (List.getElem?_eq_some_iff.1 hj).1
          rwa [flat_len] at this
        exact (hr1.cell hjl).trans hj) (flat_one _) (by unfold maxLen; omega) (by omega) (by simp)
    have hown : OwnE w' w.heap.size v' L := OwnE.of_owns (by simpa using h2)
    have hK : Keeps [] w w' := kA.grown h3 (fun k e => by cases e; exact .inr (Nat.le_refl _))
    have HR := Lib.hid (show ∀ ty, (Builtin.append_ #[49, 49] ty #[.slice (some ⟨w.heap.size, 0, none⟩) 0 0, .slice (some ⟨g, 0, none⟩) L.length cap]).run Try.prog (w.alloc (.cells #[] 61)) = .ok v' w' from fun ty => hrun)
    have hnil : ∀ W, (binOp .eql 49 (.slice (some ⟨g, 0, none⟩) L.length cap) (.slice none 0 0)).run Try.prog W = .ok (.bool false) W := fun W => Lib.run_eql_slice_nil W 49 61 (some _) _ _ 0 0 Try.underlying49
    clear hr hr1 hrun h2 h3 h4 h5 hi0 hz0 hz1 hz2 kA
    go_enter Try.func44, Try.ntmps44
    go_wp2_with (at_builtin; refine Lib.wpList_append_run _ rfl _ _ _ _ rfl _ _ rfl rfl _ _ (HR.out _) ?_)
    go_ret
    exact ⟨_, rfl, hown, hK⟩
set_option maxRecDepth 1000000 in
theorem Copy_in {w : World} {b : Nat} {O : List Nat} {L : List (Int × Int)} (h : Qu w b O L) :
    Calls Try.prog 25 #[.pointer (some ⟨b, 0, none⟩)] w fun e w' => ∃ b' O', e = .returned (.pointer (some ⟨b', 0, none⟩)) ∧ Qu w' b' O' L ∧ Keeps [] w w' ∧ ∀ x ∈ O', w.heap.size ≤ x := by
  obtain ⟨v, hq, rfl, hg, hl⟩ := h
  have hV := Lib.hid (valid_yes hq.blk)
  have hc := hq.blk.cellAt 1 _ rfl
  have HC := Lib.hid (CloneE_in hq.own (by omega))
  obtain ⟨a, cap, rfl⟩ := hq.own.shape
  have HG := Lib.hid hg
  clear hq hg
  go_enter Try.func25, Try.ntmps25
  go_wp2_with fail
  refine hV.out.mono ?_
  rintro e w' ⟨rfl, rfl⟩
  go_wp2_with fail
  refine HC.out.mono ?_
  rintro e w1 ⟨v', rfl, ho, hk⟩
  obtain ⟨a', c', rfl⟩ := ho.shape
  go_wp2_with fail
  go_ret
  refine ⟨w1.heap.size, _, rfl, ⟨_, ⟨Blk.new w1 51 _, (ho.base (fun _ _ => Nat.zero_le _)).keeps ((Keeps.refl [] w1).alloc _) (by simp)⟩, rfl, HG.out, hl⟩, hk.alloc _, fun x hx => ?_⟩
  have := hk.size
  rcases List.mem_cons.1 hx with rfl | hx
  · omega
  · exact (ho.lt x (by simpa using hx)).1
set_option maxRecDepth 100000 in
theorem Copy_bare {w : World} {p : Option Addr} (h : Bare w p) : Calls Try.prog 25 #[.pointer p] w fun e w' => e = .returned (.pointer none) ∧ w = w' := by
  have hV := Lib.hid (valid_no h)
  clear h
  go_enter Try.func25, Try.ntmps25
  go_wp2_with fail
  refine hV.out.mono ?_
  rintro e w' ⟨rfl, rfl⟩
  go_wp2_with fail
  go_ret
  exact ⟨rfl, rfl⟩
set_option maxRecDepth 100000 in
theorem Set_bare {w : World} {p : Option Addr} (h : Bare w p) (id a : Int) : Calls Try.prog 16 #[.pointer p, .int .i64 id, .int .i64 a] w fun e w' => e = .returned (.int .i64 1) ∧ Keeps [] w w' := by
  have hF := Lib.hid (find_bare h id)
  have HB := Lib.hid h
  clear h
  go_enter Try.func16, Try.ntmps16
  go_wp2_with fail
  refine hF.out.mono ?_
  rintro e w1 ⟨rfl, k1⟩
  go_wp2_with fail
  refine (valid_no (HB.out.keep0 k1)).mono ?_
  rintro e w' ⟨rfl, rfl⟩
  go_wp2_with fail
  go_ret
  exact ⟨rfl, k1⟩
section
variable {w : World} {b : Nat} {O : List Nat} {L : List (Int × Int)}
theorem New_q (w : World) : Calls Try.prog 15 #[] w fun e w' => ∃ b O, e = .returned (.pointer (some ⟨b, 0, none⟩)) ∧ Qu w' b O [] ∧ Keeps [] w w' ∧ ∀ x ∈ O, w.heap.size ≤ x := by
  refine (New_in w).mono ?_
  rintro e w' ⟨he, hq, hk⟩
  exact ⟨_, _, he, ⟨_, hq, rfl, Good.nil, by simp⟩, hk, fun x hx => by simp [Value.ownBlock] at hx; omega⟩
theorem Len_q (h : Qu w b O L) : Calls Try.prog 14 #[.pointer (some ⟨b, 0, none⟩)] w fun e w' => e = .returned (.int .i64 L.length) ∧ w = w' := by
  obtain ⟨v, hq, rfl, hg, hl⟩ := h
  exact Len_in hq
theorem Next_q (h : Qu w b O L) : Calls Try.prog 17 #[.pointer (some ⟨b, 0, none⟩)] w fun e w' => e = .returned (.tuple #[.int .i64 (headQ L).1, .int .i64 (headQ L).2.1, .bool (headQ L).2.2]) ∧ Keeps [] w w' := by
  obtain ⟨v, hq, rfl, hg, hl⟩ := h
  exact Next_in hq
theorem When_q (h : Qu w b O L) (id : Int) : Calls Try.prog 19 #[.pointer (some ⟨b, 0, none⟩), .int .i64 id] w fun e w' => e = .returned (.tuple #[.int .i64 (whenQ L id).1, .bool (whenQ L id).2]) ∧ Keeps [] w w' := by
  obtain ⟨v, hq, rfl, hg, hl⟩ := h
  exact When_in hq id (by omega)
end
end Go.Proofs.Ytognnjaefaoefaa
