/- slices.Insert of one entry in the middle, where there is no room; all roads joined. Condition: as Insert. -/
import Derived.Test.YtognnjaefaoefaaInsert
namespace Go.Proofs.Ytognnjaefaoefaa
open Go.RowKit Go.Lib

set_option maxRecDepth 1000000 in
set_option maxHeartbeats 4000000 in
theorem Insert_grow {g cap k gx : Nat} {L : List (Int × Int)} {x : Int × Int} {w : World} (h : RowE w g cap L) (hx : Blk w gx 61 #[.int .i64 x.1, .int .i64 x.2]) (hk : k < L.length) (hroom : cap < L.length + 1) (hm : L.length ≤ 1000000) :
    Calls Try.prog 40 #[.slice (some ⟨g, 0, none⟩) L.length cap, .int .i64 k, .slice (some ⟨gx, 0, none⟩) 1 1] w (InsPost (.slice (some ⟨g, 0, none⟩) L.length cap) (L.take k ++ x :: L.drop k) w) := by
  obtain ⟨i0, hi0, hz0, hzs, hzb⟩ := info_parts Try.info61
  have hlc := h.len
  have hgw := h.lt
  have hxw := hx.lt
  obtain ⟨olds, holds⟩ : ∃ olds, olds = flat (L.take k) := ⟨_, rfl⟩
  have hol : olds.length = k * 2 := by rw [holds, flat_len, List.length_take]; omega
  have hold : (Builtin.firstCells i0.size k (.slice (some ⟨g, 0, none⟩) k cap)).run Try.prog w.drew = .ok olds.toArray w.drew := by
    rw [hzs]
    exact run_firstCells_some w.drew 2 k ⟨g, 0, none⟩ k cap olds hol (fun j v hj => by
      have hjl : j < k * 2 := by
        have := (List.getElem?_eq_some_iff.1 hj).1
        rwa [hol] at this
      rw [Addr.add_lit, Nat.zero_add]
      rw [holds, flat_take, List.getElem?_take, if_pos hjl] at hj
      exact (h.cell (i := j) (by omega)).trans hj)
  obtain ⟨G, hG⟩ : ∃ G, G = grownCap w (L.length + 1) cap 61 := ⟨_, rfl⟩
  have hGn : L.length + 1 ≤ G := by rw [hG]; exact grownCap_ge w _ _ _
  have hG63 : G ≤ maxLen := by rw [hG]; exact grownCap_le_maxLen w (L.length + 1) cap 61 (by unfold maxLen; omega)
  obtain ⟨ROW, hROW⟩ : ∃ ROW : Array Value, ROW = olds.toArray ++ Builtin.zeroCells (Value.agg #[.int .i64 0, .int .i64 0]).cells (L.length + 1 - k) ++ Builtin.zeroCells (Value.agg #[.int .i64 0, .int .i64 0]).cells (G - (L.length + 1)) := ⟨_, rfl⟩
  obtain ⟨W0, hW0⟩ : ∃ W0, W0 = w.drew.alloc (.cells ROW 61) := ⟨_, rfl⟩
  obtain ⟨N, hN⟩ : ∃ N, N = w.heap.size := ⟨_, rfl⟩
  have hkk : (L.length : Int) + 1 - (k : Int) = ((L.length + 1 - k : Nat) : Int) := by omega
  have hrz : ∀ ty, (Builtin.append_ #[49, 3] ty #[.slice (some ⟨g, 0, none⟩) k cap, .int .i64 ((L.length : Int) + 1 - (k : Int))]).run Try.prog w = .ok (.slice (some ⟨N, 0, none⟩) (L.length + 1) G) W0 := fun ty => by
    have hh := Lib.run_append_grow_zeros (P := Try.prog) w 49 3 ty 61 i0 _ .i64 .i64 Try.underlying49 Try.underlying3 hi0 hz0 (some ⟨g, 0, none⟩) k cap olds hold (L.length + 1 - k) (by omega) (by omega) (by omega) (by omega) (by rw [hzb]; omega) (by rw [hzb, show k + (L.length + 1 - k) = L.length + 1 by omega]; exact growslice_fits hroom (by omega))
    rw [show k + (L.length + 1 - k) = L.length + 1 by omega, ← hG, ← hROW, ← hW0, ← hN] at hh
    rw [hkk]
    exact hh
  have hRs : ROW.size = G * 2 := by
    rw [hROW]
    simp [Builtin.zeroCells, Value.cells, hol]
    omega
  have hK0 : Keeps [] w W0 := by rw [hW0]; exact (Keeps.refl [] w).drew.alloc _
  have hB0 : Blk W0 N 61 ROW := by rw [hW0, hN]; exact Blk.new w.drew 61 ROW
  have hR0 : RowE W0 N G (L.take k) := by
    refine ⟨⟨ROW, hB0, hRs, fun i hi => ?_⟩, by rw [List.length_take]; omega, hG63⟩
    rw [List.length_take, Nat.min_eq_left (by omega)] at hi
    rw [← holds, hROW, Array.getElem?_append, if_pos (by simp [hol]; omega), Array.getElem?_append, if_pos (by simp [hol]; omega)]
    simp
  have hx0 := hx.keeps hK0 (by simp)
  have hgN : g ≠ N := by omega
  have hxN : gx ≠ N := by omega
  have hcpA : ∀ ty dc, (Builtin.copy_ #[49, 49] ty #[.slice (some ⟨N, k * 2, none⟩) (L.length + 1 - k) dc, .slice (some ⟨gx, 0, none⟩) 1 1]).run Try.prog W0 = .ok (goInt (Nat.min 1 (L.length + 1 - k))) (W0.setCells N (k * 2) (flat [x])) := fun ty dc =>
    run_copy2 W0 ty N (k * 2) (L.length + 1 - k) dc ⟨gx, 0, none⟩ 1 1 (flat [x]) (by rw [flat_len]; simp only [Nat.min_def, List.length_singleton]; split <;> omega)
      (fun j v hj => by
        rw [Addr.add_lit, hx0.cell, Nat.zero_add]
        simpa [flat] using hj)
      (fun j hj => hR0.some_ (by rw [flat_len] at hj; simp at hj; omega)) (fun j hj => hR0.frozen _) (flat_one _)
  obtain ⟨W1, hW1⟩ : ∃ W1, W1 = W0.setCells N (k * 2) (flat [x]) := ⟨_, rfl⟩
  rw [← hW1] at hcpA
  have hl1 : (L.take k ++ [x]).length = k + 1 := by rw [List.length_append, List.length_take, List.length_singleton]; omega
  have hltk : (L.take k).length = k := by rw [List.length_take]; omega
  have hR1 : RowE W1 N G (L.take k ++ [x]) := by
    rw [hW1]
    refine hR0.over (by omega) (fun t ht => ?_)
    rw [hl1] at ht
    rw [hltk, flat_append, List.getElem?_append, flat_len (L.take k), hltk]
    by_cases e : t < k * 2
    · refine .inr ⟨by omega, e, by rw [if_pos e]⟩
    · refine .inl ⟨by omega, by rw [flat_len]; simp; omega, by rw [if_neg e]⟩
  have hK1 : Keeps [] w W1 := by rw [hW1]; exact Keeps.setCells (.inr (by omega)) _ _ _ hK0
  have hgrow := h.keeps hK1 (by simp)
  have hR1d : RowE W1.drew N G (L.take k ++ [x]) := hR1.keeps (Keeps.refl [] W1).drew (by simp)
  have hgd : RowE W1.drew g cap L := hgrow.keeps (Keeps.refl [] W1).drew (by simp)
  obtain ⟨news, hnews⟩ : ∃ news, news = flat (L.drop k) := ⟨_, rfl⟩
  have hdl : news.length = (L.length - k) * 2 := by rw [hnews, flat_len, List.length_drop]
  have hcpB : ∀ ty dc sc, (Builtin.copy_ #[49, 49] ty #[.slice (some ⟨N, (k + 1) * 2, none⟩) (L.length - k) dc, .slice (some ⟨g, k * 2, none⟩) (L.length - k) sc]).run Try.prog W1.drew = .ok (goInt (Nat.min (L.length - k) (L.length - k))) (W1.drew.setCells N ((k + 1) * 2) news) := fun ty dc sc =>
    run_copy2 W1.drew ty N ((k + 1) * 2) (L.length - k) dc ⟨g, k * 2, none⟩ (L.length - k) sc news (by rw [hdl]; congr 1; exact (Nat.min_self _).symm)
      (fun j v hj => by
        have hjl : j < (L.length - k) * 2 := by
          have := (List.getElem?_eq_some_iff.1 hj).1
          rwa [hdl] at this
        rw [Addr.add_lit]
        rw [hnews, flat_drop, List.getElem?_drop] at hj
        exact (hgd.cell (i := k * 2 + j) (by omega)).trans hj)
      (fun j hj => hR1d.some_ (by omega)) (fun j hj => hR1d.frozen _) (by rw [hnews]; exact flat_one _)
  have hR2 : RowE (W1.drew.setCells N ((k + 1) * 2) news) N G (L.take k ++ x :: L.drop k) := by
    have hl := ins_len L k x (by omega)
    refine hR1d.over (by omega) (fun t ht => ?_)
    rw [hl] at ht
    rw [hl1, flat_append, flat_append, List.getElem?_append, List.getElem?_append, flat_len (L.take k), hltk]
    by_cases e : t < k * 2
    · refine .inr ⟨by omega, by omega, by rw [if_pos e, if_pos e]⟩
    · by_cases e2 : t < (k + 1) * 2
      · refine .inr ⟨by omega, by omega, ?_⟩
        rw [if_neg e, if_neg e]
        have : t - k * 2 = 0 ∨ t - k * 2 = 1 := by omega
        rcases this with h0 | h0 <;> rw [h0] <;> rfl
      · refine .inl ⟨by omega, by omega, ?_⟩
        rw [if_neg e, show t - k * 2 = (t - (k + 1) * 2) + 1 + 1 by omega, flat_cons, List.getElem?_cons_succ, List.getElem?_cons_succ, hnews]
  have hK2 : Keeps [] w (W1.drew.setCells N ((k + 1) * 2) news) := Keeps.setCells (.inr (by omega)) _ _ _ hK1.drew
  have HF := Lib.hid (show InsPost (.slice (some ⟨g, 0, none⟩) L.length cap) (L.take k ++ x :: L.drop k) w (.returned (.slice (some ⟨N, 0, none⟩) (L.length + 1) G)) (W1.drew.setCells N ((k + 1) * 2) news) from
    ⟨_, rfl, .inr ⟨N, G, by rw [ins_len L k x (by omega)], Nat.zero_le _, hR2⟩, hK2.mono (by simp), fun y hy => by cases hy; exact .inr (by show w.heap.size ≤ N; omega)⟩)
  have HZ := Lib.hid hrz
  have HA := Lib.hid hcpA
  have HB := Lib.hid hcpB
  have hG63' : G ≤ 9223372036854775807 := by unfold maxLen at hG63; omega
  have hz2 : ¬ ((k : Int) = (L.length : Int)) := by omega
  have hz3 : (cap : Int) < (L.length : Int) + 1 := by omega
  have hGk : ¬ G = k := by omega
  have hGk1 : ¬ G = k + 1 := by omega
  have hck : ¬ cap = k := by omega
  have hw1 : IntKind.i64.wrap ((k : Int) + 1) = (k : Int) + 1 := by rw [IntKind.wrap_i64]; omega
  have hn1 : (0 : Int) ≤ (k : Int) + 1 := by omega
  have hkl : k ≤ L.length := by omega
  have htn : ((k : Int) + 1).toNat = k + 1 := by omega
  have hn3 : (k : Int) ≤ (L.length : Int) := by omega
  clear hkk hold hROW hG hRs hK0 hB0 hR0 hx0 hR1 hK1 hgrow hR1d hgd hnews hdl hR2 hK2 h hx hrz hcpA hcpB hl1 hltk hol holds hi0 hz0 hzs hzb hG63 hW0 hW1 hN
  generalize L.length = n at *
  go_enter Try.func40, Try.ntmps40
  go_wp2_with (first
    | (at_builtin; refine Lib.wpList_append_run _ rfl _ _ _ _ rfl _ _ rfl rfl _ _ (HZ.out _) ?_)
    | (refine Go.Proofs.wpList_copy_runI W0 rfl (.tmp 43) (.tmp 44) 49 49 rfl (.slice (some ⟨N, k * 2, none⟩) (n + 1 - k) (G - k)) (.slice (some ⟨gx, 0, none⟩) 1 1) rfl rfl (HA.out 3 (G - k)) ?_))
  go_region_law (refine Go.Proofs.step_copy_runI rfl _ _ 49 49 rfl (.slice (some ⟨N, (k + 1) * 2, none⟩) (n - k) (G - (k + 1))) (.slice (some ⟨g, k * 2, none⟩) (n - k) (cap - k)) (by simp [Act.eval, Act.put]) (by simp [Act.eval, Act.put]) (HB.out 3 (G - (k + 1)) (cap - k)) ?_)
  go_wp2
  go_ret
  exact HF.out

/-- All roads. -/
theorem Insert_in {v : Value} {gx k : Nat} {L : List (Int × Int)} {x : Int × Int} {w : World} (h : OwnE w 0 v L) (hx : Blk w gx 61 #[.int .i64 x.1, .int .i64 x.2]) (hne : ∀ y, v.ownBlock = some y → gx ≠ y) (hk : k ≤ L.length) (hm : L.length ≤ 1000000) :
    Calls Try.prog 40 #[v, .int .i64 k, .slice (some ⟨gx, 0, none⟩) 1 1] w (InsPost v (L.take k ++ x :: L.drop k) w) := by
  by_cases hkl : k = L.length
  · subst hkl
    rw [List.take_length, List.drop_length]
    exact Insert_end h hx hm
  · rcases h with ⟨rfl, rfl⟩ | ⟨g, cap, rfl, _, hr⟩
    · simp at hk; exact absurd hk hkl
    · by_cases hroom : L.length + 1 ≤ cap
      · exact Insert_room hr hx (hne g rfl) (by omega) hroom
      · exact Insert_grow hr hx (by omega) (by omega) hm
end Go.Proofs.Ytognnjaefaoefaa
