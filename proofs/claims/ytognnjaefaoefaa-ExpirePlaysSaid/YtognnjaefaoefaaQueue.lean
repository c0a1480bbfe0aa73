/- The contracts of Drop and Set. Condition: a queue that was made, its list in order. -/
import Derived.Test.YtognnjaefaoefaaSearch
import Derived.Test.YtognnjaefaoefaaOrd
namespace Go.Proofs.Ytognnjaefaoefaa
open Go.RowKit

/-- Block b is a queue of the entries L; it takes up the blocks O. -/
def Qu (w : World) (b : Nat) (O : List Nat) (L : List (Int × Int)) : Prop := ∃ v, IsQ w b v L ∧ O = b :: v.ownBlock.toList ∧ Good L ∧ L.length ≤ 256
section
variable {w w' : World} {b : Nat} {O S : List Nat} {L M : List (Int × Int)}
theorem Qu.keeps (h : Qu w b O L) (k : Keeps S w w') (hd : ∀ x ∈ O, x ∉ S) : Qu w' b O L := by
  obtain ⟨v, h1, rfl, h2⟩ := h
  exact ⟨v, h1.keeps k (hd b (by simp)) (fun x hx => hd x (by simp [hx])), rfl, h2⟩
theorem Qu.keep0 (h : Qu w b O L) (k : Keeps [] w w') : Qu w' b O L := h.keeps k (by simp)
theorem Qu.lt (h : Qu w b O L) : ∀ x ∈ O, x < w.heap.size := by
  obtain ⟨v, h1, rfl, h2⟩ := h
  intro x hx
  rcases List.mem_cons.1 hx with rfl | hx
  · exact h1.lt.1
  · exact h1.lt.2 x (by simpa using hx)
theorem Qu.b_mem (h : Qu w b O L) : b ∈ O := by
  obtain ⟨v, h1, rfl, h2⟩ := h
  simp
theorem Qu.good (h : Qu w b O L) : Good L := by
  obtain ⟨v, h1, rfl, h2⟩ := h
  exact h2.1
theorem Qu.len (h : Qu w b O L) : L.length ≤ 256 := by
  obtain ⟨v, h1, rfl, h2⟩ := h
  exact h2.2
end
/-- Behind a call that changes a queue. -/
def Turned (w w' : World) (b : Nat) (O : List Nat) (L : List (Int × Int)) : Prop := ∃ O', Qu w' b O' L ∧ Keeps O w w' ∧ ∀ x ∈ O', x ∈ O ∨ w.heap.size ≤ x
theorem Qu.same {w w' : World} {b : Nat} {O : List Nat} {L : List (Int × Int)} (h : Qu w b O L) (k : Keeps [] w w') : Turned w w' b O L := ⟨O, h.keep0 k, k.mono (by simp), fun _ hx => .inl hx⟩

set_option maxRecDepth 1000000 in
set_option maxHeartbeats 2000000 in
theorem Drop_in {w : World} {b : Nat} {O : List Nat} {L : List (Int × Int)} (h : Qu w b O L) (id : Int) :
    Calls Try.prog 18 #[.pointer (some ⟨b, 0, none⟩), .int .i64 id] w fun e w' => e = .returned (.bool (decide (placeOf L id < L.length))) ∧ Turned w w' b O (dropE L id) := by
  obtain ⟨v, hq, rfl, hg, hl⟩ := h
  have hF := Lib.hid (find_in hq id (by omega))
  have HQ := Lib.hid (show Qu w b (b :: v.ownBlock.toList) L from ⟨v, hq, rfl, hg, hl⟩)
  have HG := Lib.hid hg
  unfold findI at hF
  by_cases hp : placeOf L id < L.length
  · rw [if_pos hp] at hF
    rw [decide_eq_true hp]
    have HD := Lib.hid (dropE_here hg.ids hp)
    have HL := Lib.hid (dropE_len hg hp)
    generalize placeOf L id = k at *
    have hkI : ¬ (k : Int) < 0 := by omega
    have hk1 : (k : Int) + 1 = ((k + 1 : Nat) : Int) := by omega
    have HK1 := Lib.hid hk1
    have HQ0 := Lib.hid hq
    clear hq hg hk1
    go_enter Try.func18, Try.ntmps18
    go_wp2_with fail
    refine hF.out.mono ?_
    rintro e w1 ⟨rfl, k1⟩
    have hq := HQ0.out.keep0 k1
    have hc := hq.blk.cellAt 1 _ rfl
    rcases hq.own with ⟨rfl, rfl⟩ | ⟨g, cap, rfl, _, hr⟩
    · simp at hp
    · have hDel := Lib.hid (Delete_in hr (i := k) (j := k + 1) (by omega) (by omega))
      have hne := hq.ne g rfl
      have HB := Lib.hid hq.blk
      clear hq hr
      rw [Nat.add_sub_cancel_left] at hDel
      obtain ⟨n, hn⟩ : ∃ n, L.length = n := ⟨_, rfl⟩
      rw [hn] at hDel hc HB hp hl
      have HN := Lib.hid hn
      clear hn
      go_wp2_with fail
      rw [HK1.out]
      refine hDel.out.mono ?_
      rintro e w2 ⟨rfl, hr2, k2⟩
      have hb2 := HB.out.keeps k2 (by simpa using hne)
      have hc2 := hb2.cellAt 1 _ rfl
      have hf2 := hb2.frozen 1
      have hb3 := hb2.put 1 (.slice (some ⟨g, 0, none⟩) (n - 1) cap)
      have hlen : (dropE L id).length = n - 1 := by have := HL.out; have := HN.out; omega
      have K3 : Keeps [b, g] w (w2.setCell ⟨b, 1, none⟩ (.slice (some ⟨g, 0, none⟩) (n - 1) cap)) := ((k1.mono (by simp)).trans (k2.mono (by simp))).setCell (.inl (by simp)) _
      have hr3 : RowE (w2.setCell ⟨b, 1, none⟩ (.slice (some ⟨g, 0, none⟩) (n - 1) cap)) g cap (dropE L id) := by
        rw [HD.out]
        exact hr2.keeps ((Keeps.refl [b] w2).setCell (p := ⟨b, 1, none⟩) (.inl (by simp)) _) (by simpa using fun e => hne e.symm)
      have HF := Lib.hid (show Turned w (w2.setCell ⟨b, 1, none⟩ (.slice (some ⟨g, 0, none⟩) (n - 1) cap)) b (b :: (Value.slice (some ⟨g, 0, none⟩) n cap).ownBlock.toList) (dropE L id) from
        ⟨_, ⟨_, ⟨hb3, .inr ⟨g, cap, by rw [hlen], Nat.zero_le _, hr3⟩⟩, rfl, HG.out.dropE id, by omega⟩, K3, fun x hx => .inl hx⟩)
      have HN' := HN.out
      clear hb2 hb3 hr2 hr3 K3 hlen
      rw [HN'] at *
      clear HN'
      go_wp2_with fail
      go_ret
      exact ⟨rfl, HF.out⟩
  · rw [if_neg hp] at hF
    rw [decide_eq_false hp, dropE_none hp]
    clear hq
    go_enter Try.func18, Try.ntmps18
    go_wp2_with fail
    refine hF.out.mono ?_
    rintro e w1 ⟨rfl, k1⟩
    go_wp2_with fail
    go_ret
    exact ⟨rfl, HQ.out.same k1⟩
set_option maxRecDepth 100000 in
theorem Drop_bare {w : World} {p : Option Addr} (h : Bare w p) (id : Int) : Calls Try.prog 18 #[.pointer p, .int .i64 id] w fun e w' => e = .returned (.bool false) ∧ Keeps [] w w' := by
  have hF := Lib.hid (find_bare h id)
  clear h
  go_enter Try.func18, Try.ntmps18
  go_wp2_with fail
  refine hF.out.mono ?_
  rintro e w1 ⟨rfl, k1⟩
  go_wp2_with fail
  go_ret
  exact ⟨rfl, k1⟩
end Go.Proofs.Ytognnjaefaoefaa
