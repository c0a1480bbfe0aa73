/- slices.Insert of one entry: what stands ahead of k, the entry, what stands from k on. Condition: k at most the length; the entry lies in a block of its own; at most 2^40 entries. -/
import Derived.Test.YtognnjaefaoefaaDelete
import Derived.Shelf.Spec.SlicesInsertGrow
namespace Go.Proofs.Ytognnjaefaoefaa
open Go.RowKit Go.Lib

theorem ins_len (L : List (Int × Int)) (k : Nat) (x : Int × Int) (hk : k ≤ L.length) : (L.take k ++ x :: L.drop k).length = L.length + 1 := by
  rw [List.length_append, List.length_take, List.length_cons, List.length_drop]; omega
theorem flat_split (L M : List (Int × Int)) {k : Nat} (t : Nat) (hk : k ≤ L.length) : (flat (L.take k ++ M))[t]? = if t < k * 2 then (flat L)[t]? else (flat M)[t - k * 2]? := by
  rw [flat_append, List.getElem?_append, flat_len, List.length_take, Nat.min_eq_left hk, flat_take, List.getElem?_take]
  by_cases e : t < k * 2
  · rw [if_pos e, if_pos e, if_pos e]
  · rw [if_neg e, if_neg e]
/-- What a call of Insert leaves. -/
structure Inserted (w w' : World) (v v' : Value) (M : List (Int × Int)) : Prop where
  own : OwnE w' 0 v' M
  keeps : Keeps v.ownBlock.toList w w'
  at_ : ∀ x, v'.ownBlock = some x → v.ownBlock = some x ∨ w.heap.size ≤ x
def InsPost (v : Value) (M : List (Int × Int)) (w : World) (e : Ending) (w' : World) : Prop := ∃ v', e = .returned v' ∧ Inserted w w' v v' M

set_option maxRecDepth 1000000 in
set_option maxHeartbeats 4000000 in
/-- At the end. -/
theorem Insert_end {v : Value} {gx : Nat} {L : List (Int × Int)} {x : Int × Int} {w : World} (h : OwnE w 0 v L) (hx : Blk w gx 61 #[.int .i64 x.1, .int .i64 x.2]) (hm : L.length ≤ 1000000) :
    Calls Try.prog 40 #[v, .int .i64 L.length, .slice (some ⟨gx, 0, none⟩) 1 1] w (InsPost v (L ++ [x]) w) := by
  obtain ⟨i0, hi0, hz0, hz1, hz2⟩ := info_parts Try.info61
  obtain ⟨v', w', hr, h2, h3, h4, h5⟩ := run_append_own_at (P := Try.prog) w 0 49 49 61 i0 (.agg #[.int .i64 0, .int .i64 0]) 2 16 Try.underlying49 hi0 hz0 hz1 hz2 rfl (by decide) v L.length (flat L) h.owns ⟨gx, 0, none⟩ 1 1 (flat [x]) rfl
    (fun j u hj => by
      rw [Addr.add_lit, hx.cell, Nat.zero_add]
      simpa [flat] using hj) (flat_one _) (by unfold maxLen; omega) (by omega) (by omega)
  have hown : OwnE w' 0 v' (L ++ [x]) := OwnE.of_owns (by rw [flat_append, List.length_append]; exact h2)
  have hlt := h.lt
  have H : InsPost v (L ++ [x]) w (.returned v') w' := ⟨v', rfl, hown, Keeps.of_grown h3, fun y hy => by
    rcases h5 with e | e
    · exact .inl (by rw [← e]; exact hy)
    · rw [e] at hy; cases hy; exact .inr (Nat.le_refl _)⟩
  have HH := Lib.hid H
  have HR := Lib.hid (show ∀ ty, (Builtin.append_ #[49, 49] ty #[v, .slice (some ⟨gx, 0, none⟩) 1 1]).run Try.prog w = .ok v' w' from fun ty => hr)
  rcases h with ⟨rfl, rfl⟩ | ⟨g, cap, rfl, _, hrow⟩
  · clear hx hr h2 h3 h4 h5 hown hlt H hi0 hz0 hz1 hz2
    go_enter Try.func40, Try.ntmps40
    go_wp2_with (at_builtin; refine Lib.wpList_append_run _ rfl _ _ _ _ rfl _ _ rfl rfl _ _ (HR.out _) ?_)
    go_ret
    exact HH.out
  · have hlc := hrow.len
    have hcm := hrow.cap_
    unfold maxLen at hcm
    generalize L.length = n at *
    clear hx hr h2 h3 h4 h5 hown hlt H hi0 hz0 hz1 hz2 hrow
    by_cases hcn : cap = n
    · subst hcn
      go_enter Try.func40, Try.ntmps40
      go_wp2_with (at_builtin; refine Lib.wpList_append_run _ rfl _ _ _ _ rfl _ _ rfl rfl _ _ (HR.out _) ?_)
      go_ret
      exact HH.out
    · go_enter Try.func40, Try.ntmps40
      go_wp2_with (at_builtin; refine Lib.wpList_append_run _ rfl _ _ _ _ rfl _ _ rfl rfl _ _ (HR.out _) ?_)
      go_ret
      exact HH.out

set_option maxRecDepth 1000000 in
set_option maxHeartbeats 4000000 in
/-- In the middle, where there is room. -/
theorem Insert_room {g cap k gx : Nat} {L : List (Int × Int)} {x : Int × Int} {w : World} (h : RowE w g cap L) (hx : Blk w gx 61 #[.int .i64 x.1, .int .i64 x.2]) (hne : gx ≠ g) (hk : k < L.length) (hroom : L.length + 1 ≤ cap) :
    Calls Try.prog 40 #[.slice (some ⟨g, 0, none⟩) L.length cap, .int .i64 k, .slice (some ⟨gx, 0, none⟩) 1 1] w (InsPost (.slice (some ⟨g, 0, none⟩) L.length cap) (L.take k ++ x :: L.drop k) w) := by
  have hcm := h.cap_
  unfold maxLen at hcm
  obtain ⟨cur, hb1, hb2, hb3⟩ := h.row
  have hov : ∀ lb cb, (callFunc 51 #[.slice (some ⟨gx, 0, none⟩) 1 1, .slice (some ⟨g, (k + 1) * 2, none⟩) lb cb]).run Try.prog w = .ok (.value (.bool false)) w := fun lb cb => by
    rw [run_callFunc_extern Try.func51 (by kernel_rfl) (by kernel_rfl) (by kernel_rfl) (e := Extern.SlicesOverlaps.overlaps #[49, 49] #[4]) (by kernel_rfl),
      Lib.run_overlaps_apart w 49 4 61 Try.underlying49 2 Try.sizeOf61 ⟨gx, 0, none⟩ ⟨g, (k + 1) * 2, none⟩ 1 1 lb cb hne 61 61 2 (cap * 2) (by have := hx; unfold Blk at this; simp [World.shape?, this]) (by have := hb1; unfold Blk at this; simp [World.shape?, this, hb2]) (by omega) (hx.frozen _) (hx.frozen _)]
    rfl
  obtain ⟨news, hnews⟩ : ∃ news, news = flat (L.drop k) := ⟨_, rfl⟩
  have hdl : news.length = (L.length - k) * 2 := by rw [hnews, flat_len, List.length_drop]
  obtain ⟨W1, hW1⟩ : ∃ W1, W1 = w.drew.setCells g ((k + 1) * 2) news := ⟨_, rfl⟩
  have hcp1 : ∀ ty dc sc, (Builtin.copy_ #[49, 49] ty #[.slice (some ⟨g, (k + 1) * 2, none⟩) (L.length - k) dc, .slice (some ⟨g, k * 2, none⟩) (L.length + 1 - k) sc]).run Try.prog w.drew = .ok (goInt (Nat.min (L.length + 1 - k) (L.length - k))) W1 := fun ty dc sc => by
    rw [hW1]
    exact run_copy2 w.drew ty g ((k + 1) * 2) (L.length - k) dc ⟨g, k * 2, none⟩ (L.length + 1 - k) sc news (by rw [hdl]; simp only [Nat.min_def]; split <;> omega)
      (fun j v hj => by
        have hjl : j < (L.length - k) * 2 := by
          have := (List.getElem?_eq_some_iff.1 hj).1
          rwa [hdl] at this
        rw [Addr.add_lit]
        rw [hnews, flat_drop, List.getElem?_drop] at hj
        exact (h.cell (i := k * 2 + j) (by omega)).trans hj)
      (fun j hj => h.some_ (by omega)) (fun j hj => h.frozen _) (by rw [hnews]; exact flat_one _)
  have hd : RowE w.drew g cap L := h.keeps (Keeps.refl [] w).drew (by simp)
  have hR1 : RowE W1 g cap (L.take (k + 1) ++ L.drop k) := by
    rw [hW1]
    have hl : (L.take (k + 1) ++ L.drop k).length = L.length + 1 := by rw [List.length_append, List.length_take, List.length_drop]; omega
    refine hd.over (by omega) (fun t ht => ?_)
    rw [hl] at ht
    rw [flat_append, List.getElem?_append, flat_len, List.length_take, Nat.min_eq_left (by omega)]
    by_cases e : t < (k + 1) * 2
    · refine .inr ⟨by omega, by omega, ?_⟩
      rw [if_pos e, flat_take, List.getElem?_take, if_pos e]
    · refine .inl ⟨by omega, by omega, ?_⟩
      rw [if_neg e, hnews]
  have hK1 : Keeps [g] w W1 := by rw [hW1]; exact Keeps.setCells (.inl (by simp)) _ _ _ (Keeps.refl [g] w).drew
  have hx1 := hx.keeps hK1 (by simpa using hne)
  have hcp2 : ∀ ty dc, (Builtin.copy_ #[49, 49] ty #[.slice (some ⟨g, k * 2, none⟩) (L.length + 1 - k) dc, .slice (some ⟨gx, 0, none⟩) 1 1]).run Try.prog W1 = .ok (goInt (Nat.min 1 (L.length + 1 - k))) (W1.setCells g (k * 2) (flat [x])) := fun ty dc =>
    run_copy2 W1 ty g (k * 2) (L.length + 1 - k) dc ⟨gx, 0, none⟩ 1 1 (flat [x]) (by rw [flat_len]; simp only [Nat.min_def, List.length_singleton]; split <;> omega)
      (fun j v hj => by
        rw [Addr.add_lit, hx1.cell, Nat.zero_add]
        simpa [flat] using hj)
      (fun j hj => hR1.some_ (by rw [flat_len] at hj; simp at hj; omega)) (fun j hj => hR1.frozen _) (flat_one _)
  have hl1 : (L.take (k + 1) ++ L.drop k).length = L.length + 1 := by rw [List.length_append, List.length_take, List.length_drop]; omega
  have hR2 : RowE (W1.setCells g (k * 2) (flat [x])) g cap (L.take k ++ x :: L.drop k) := by
    have hl := ins_len L k x (by omega)
    refine hR1.over (by omega) (fun t ht => ?_)
    rw [hl] at ht
    rw [flat_split L _ t (by omega), flat_split L _ t (by omega)]
    by_cases e : t < k * 2
    · refine .inr ⟨by omega, by omega, ?_⟩
      rw [if_pos e, if_pos (by omega)]
    · by_cases e2 : t < (k + 1) * 2
      · refine .inl ⟨by omega, by rw [flat_len]; simp; omega, ?_⟩
        rw [if_neg e]
        have : t - k * 2 = 0 ∨ t - k * 2 = 1 := by omega
        rcases this with h0 | h0 <;> rw [h0] <;> rfl
      · refine .inr ⟨by rw [flat_len]; simp; omega, by omega, ?_⟩
        rw [if_neg e, if_neg e2, show t - k * 2 = (t - (k + 1) * 2) + 1 + 1 by omega, flat_cons, List.getElem?_cons_succ, List.getElem?_cons_succ]
  have hK2 : Keeps [g] w (W1.setCells g (k * 2) (flat [x])) := Keeps.setCells (.inl (by simp)) _ _ _ hK1
  have HF := Lib.hid (show InsPost (.slice (some ⟨g, 0, none⟩) L.length cap) (L.take k ++ x :: L.drop k) w (.returned (.slice (some ⟨g, 0, none⟩) (L.length + 1) cap)) (W1.setCells g (k * 2) (flat [x])) from
    ⟨_, rfl, .inr ⟨g, cap, by rw [ins_len L k x (by omega)], Nat.zero_le _, hR2⟩, hK2, fun y hy => .inl hy⟩)
  have HC1 := Lib.hid hcp1
  have HC2 := Lib.hid hcp2
  have e1 : ¬ ((k : Int) = (L.length : Int)) := by omega
  have e2 : ¬ cap = k := by omega
  have e3 : ¬ cap = k + 1 := by omega
  have hw1 : IntKind.i64.wrap ((k : Int) + 1) = (k : Int) + 1 := by rw [IntKind.wrap_i64]; omega
  have hn1 : (0 : Int) ≤ (k : Int) + 1 := by omega
  have htn : ((k : Int) + 1).toNat = k + 1 := by omega
  have hn3 : (k : Int) ≤ (L.length : Int) + 1 := by omega
  have hkl : k ≤ L.length := by omega
  clear hW1 hR1 hK1 h hd hnews hdl hR2 hK2 hb1 hb2 hb3 hx hx1 hcp1 hcp2 hl1
  generalize L.length = n at *
  go_enter Try.func40, Try.ntmps40
  go_wp2_with (simp only [hov])
  go_region_law (refine Go.Proofs.step_copy_runI rfl _ _ 49 49 rfl (.slice (some ⟨g, (k + 1) * 2, none⟩) (n - k) (cap - (k + 1))) (.slice (some ⟨g, k * 2, none⟩) (n + 1 - k) (cap - k)) (by simp [Act.eval, Act.put]) (by simp [Act.eval, Act.put]) (HC1.out 3 (cap - (k + 1)) (cap - k)) ?_)
  go_wp2_with (refine Go.Proofs.wpList_copy_runI W1 rfl (.tmp 80) (.tmp 81) 49 49 rfl (.slice (some ⟨g, k * 2, none⟩) (n + 1 - k) (cap - k)) (.slice (some ⟨gx, 0, none⟩) 1 1) rfl rfl (HC2.out 3 (cap - k)) ?_)
  go_ret
  exact HF.out
end Go.Proofs.Ytognnjaefaoefaa
