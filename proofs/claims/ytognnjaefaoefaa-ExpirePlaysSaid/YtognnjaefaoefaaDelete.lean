/- slices.Delete at entries: what stands from i up to j is removed in place. Condition: i < j, j at most the length. -/
import Derived.Test.YtognnjaefaoefaaEnt
import Derived.Deep.RegionLaw
import Derived.Lib.SlicesDelete
namespace Go.Proofs.Ytognnjaefaoefaa
open Go.RowKit

theorem Try.info61 : (Try.prog.info? 61).map (fun i => (i.zero, i.size, i.bytes)) = some (some (.agg #[.int .i64 0, .int .i64 0]), 2, 16) := by kernel_rfl
theorem zero61 (w : World) : (zeroValue 61).run Try.prog w = .ok (.agg #[.int .i64 0, .int .i64 0]) w := by kernel_rfl
theorem zeros2 (n : Nat) : (Builtin.zeroCells (Value.agg #[.int .i64 0, .int .i64 0]).cells n).toList = List.replicate (n * 2) (.int .i64 0) := by
  apply List.ext_getElem
  · simp [Builtin.zeroCells, Value.cells]
  · intro i h1 h2
    have : i % 2 = 0 ∨ i % 2 = 1 := by omega
    rcases this with h | h <;> simp [Builtin.zeroCells, Value.cells, h]
theorem run_clear2 (w : World) (ty : TypeId) (b o n c : Nat) (hn : 0 < n) (hc : ∀ j, j < n * 2 → (w.cell? ⟨b, o + j, none⟩).isSome = true) (hf : ∀ j, j < n * 2 → w.frozen? ⟨b, o + j, none⟩ = false) :
    (Builtin.clear_ #[49] ty #[.slice (some ⟨b, o, none⟩) n c]).run Try.prog w = .ok (.tuple #[]) (w.setCells b o (List.replicate (n * 2) (.int .i64 0))) := by
  have hst := run_storeCells_cells (P := Try.prog) b o (List.replicate (n * 2) (.int .i64 0)) 0 w (by simpa using hc) (by simpa using hf) (by intro v hv'; rw [List.eq_of_mem_replicate hv']; rfl)
  simp only [Nat.add_zero] at hst
  obtain ⟨m, rfl⟩ : ∃ m, n = m + 1 := ⟨n - 1, by omega⟩
  simp [Builtin.clear_, run_underlying Try.underlying49, zero61, zeros2, hst]
theorem run_copy2 (w : World) (ty : TypeId) (b o dLen dCap : Nat) (a : Addr) (sLen sCap : Nat) (cs : List Value) (hn : cs.length = Nat.min sLen dLen * 2)
    (hsrc : ∀ j v, cs[j]? = some v → w.cell? (a.add j) = some v) (hc : ∀ j, j < cs.length → (w.cell? ⟨b, o + j, none⟩).isSome = true) (hf : ∀ j, j < cs.length → w.frozen? ⟨b, o + j, none⟩ = false) (h1 : ∀ v ∈ cs, v.oneCell' = true) :
    (Builtin.copy_ #[49, 49] ty #[.slice (some ⟨b, o, none⟩) dLen dCap, .slice (some a) sLen sCap]).run Try.prog w = .ok (goInt (Nat.min sLen dLen)) (w.setCells b o cs) := by
  have hl := run_loadCells_list (P := Try.prog) w a cs hsrc
  have hst := run_storeCells_cells (P := Try.prog) b o cs 0 w (by simpa using hc) (by simpa using hf) h1
  obtain ⟨i0, hq, hz0, hi, hz2⟩ := info_parts Try.info61
  simp [Builtin.copy_, run_underlying Try.underlying49, Builtin.lenOf, Builtin.firstCells, sizeOf, typeInfo, hq, hi, ← hn, hl, hst]

set_option maxRecDepth 1000000 in
set_option maxHeartbeats 4000000 in
theorem Delete_in {g cap i j : Nat} {L : List (Int × Int)} {w : World} (h : RowE w g cap L) (hij : i < j) (hj : j ≤ L.length) :
    Calls Try.prog 32 #[.slice (some ⟨g, 0, none⟩) L.length cap, .int .i64 i, .int .i64 j] w fun e w' => e = .returned (.slice (some ⟨g, 0, none⟩) (L.length - (j - i)) cap) ∧ RowE w' g cap (L.take i ++ L.drop j) ∧ Keeps [g] w w' := by
  obtain ⟨i0, hi0, hz0, hz1, hz2⟩ := info_parts Try.info61
  have hlc := h.len
  have hcm := h.cap_
  unfold maxLen at hcm
  obtain ⟨news, hnews⟩ : ∃ news, news = flat (L.drop j) := ⟨_, rfl⟩
  have hlen : news.length = (L.length - j) * 2 := by rw [hnews, flat_len, List.length_drop]
  have hget : ∀ t, t < (L.length - j) * 2 → news[t]? = (flat L)[j * 2 + t]? := by
    intro t ht
    rw [hnews, flat_drop, List.getElem?_drop]
  obtain ⟨A, hA, hsrc⟩ : ∃ A : Addr, (if cap = j then some (⟨g, 0, none⟩ : Addr) else some ⟨g, j * 2, none⟩) = some A ∧ Hid (∀ t u, news[t]? = some u → w.drew.cell? (A.add t) = some u) := by
    by_cases hc : cap = j
    · refine ⟨⟨g, 0, none⟩, by simp [hc], fun t u hu => ?_⟩
      have h0 : news.length = 0 := by rw [hlen]; omega
      rw [List.length_eq_zero_iff.1 h0] at hu
      simp at hu
    · refine ⟨⟨g, j * 2, none⟩, by simp [hc], fun t u hu => ?_⟩
      have ht : t < (L.length - j) * 2 := by
        have := (List.getElem?_eq_some_iff.1 hu).1
        rwa [hlen] at this
      rw [hget t ht] at hu
      rw [Addr.add_lit]
      exact (h.cell (i := j * 2 + t) (by omega)).trans hu
  have s1 : Hid (news.length = (L.length - j) * 2) := hlen
  have s2 : Hid (∀ u ∈ news, u.oneCell' = true) := by rw [hnews]; exact flat_one _
  have s3 : Hid (∀ t, t < news.length → (w.drew.cell? ⟨g, 0 + i * 2 + t, none⟩).isSome = true ∧ w.drew.frozen? ⟨g, 0 + i * 2 + t, none⟩ = false) := by
    intro t ht
    rw [hlen] at ht
    exact ⟨h.some_ (by omega), h.frozen _⟩
  obtain ⟨M, hM⟩ : ∃ M, M = L.take i ++ L.drop j := ⟨_, rfl⟩
  have hMl : M.length = i + (L.length - j) := by rw [hM, List.length_append, List.length_take, List.length_drop]; omega
  obtain ⟨W1, hW1⟩ : ∃ W1, W1 = w.drew.setCells g (0 + i * 2) news := ⟨_, rfl⟩
  have hd : RowE w.drew g cap L := h.keeps (Keeps.refl [] w).drew (by simp)
  have hR1 : RowE W1 g cap M := by
    rw [hW1]
    refine hd.over (by omega) (fun t ht => ?_)
    rw [hMl] at ht
    rw [hM, flat_append, List.getElem?_append, flat_len, List.length_take, Nat.min_eq_left (by omega)]
    by_cases e : t < i * 2
    · refine .inr ⟨by omega, by omega, ?_⟩
      rw [if_pos e, flat_take, List.getElem?_take, if_pos e]
    · refine .inl ⟨by omega, by omega, ?_⟩
      rw [if_neg e, hnews]
      congr 1
      omega
  have hK1 : Keeps [g] w W1 := by rw [hW1]; exact Keeps.setCells (.inl (by simp)) _ _ _ (Keeps.refl [g] w).drew
  have hcl : ∀ ty, (Builtin.clear_ #[49] ty #[.slice (some ⟨g, (i + (L.length - j)) * 2, none⟩) (L.length - (i + (L.length - j))) (cap - (i + (L.length - j)))]).run Try.prog W1 = .ok (.tuple #[]) (W1.setCells g ((i + (L.length - j)) * 2) (List.replicate ((L.length - (i + (L.length - j))) * 2) (.int .i64 0))) :=
    fun ty => run_clear2 W1 ty g _ _ _ (by omega) (fun t ht => hR1.some_ (by omega)) (fun t ht => hR1.frozen _)
  have hR2 : RowE (W1.setCells g ((i + (L.length - j)) * 2) (List.replicate ((L.length - (i + (L.length - j))) * 2) (.int .i64 0))) g cap M :=
    hR1.over (by omega) (fun t ht => .inr ⟨by omega, ht, rfl⟩)
  have hK2 : Keeps [g] w (W1.setCells g ((i + (L.length - j)) * 2) (List.replicate ((L.length - (i + (L.length - j))) * 2) (.int .i64 0))) := Keeps.setCells (.inl (by simp)) _ _ _ hK1
  have HR := Lib.hid hR2
  have HK := Lib.hid hK2
  have hW : Hid (W1 = w.drew.setCells g (0 + i * 2) news) := hW1
  have HM := Lib.hid hM
  have hic : i ≤ cap := by omega
  have hjc : j ≤ cap := by omega
  have hic2 : ¬ (cap = i + (L.length - j)) := by omega
  have hijI : ¬ (i : Int) = (j : Int) := by omega
  have hijI2 : ((i : Int) == (j : Int)) = false := by simp; omega
  clear hW1 hR1 hK1 h hd hget hnews hlen hR2 hK2 hM
  generalize L.length = n at *
  go_enter Try.func32, Try.ntmps32
  go_wp2_with fail
  go_region_law (refine step_append_room rfl (.tmp 22) (.tmp 25) 49 rfl 61 i0 2 Try.underlying49 hi0 hz1 g 0 i cap (by simp [Act.eval, Act.put]) A (n - j) (cap - j) news (by simp [Act.eval, Act.put]) s1.out hsrc.out s2.out (by omega) s3.out ?_; rw [← hW.out])
  go_wp2
  go_ret
  refine ⟨by rw [show n - (j - i) = i + (n - j) by omega]; rfl, ?_, HK.out⟩
  rw [← HM.out]
  exact HR.out
end Go.Proofs.Ytognnjaefaoefaa
