/- The contract of find, for whatever question. Condition: allowed waits, and a question that is answered within 64 refusals. -/
import Derived.Test.YtepicehlknpbfaaFind
namespace Go.Proofs.Ytepicehlknpbfaa
open Go.RowKit Go.Shelf

attribute [local go_sem] Oper.semAt_some

/-- Behind find: the first number of refusals that is looked for, with its wait; J: what the question has left. -/
def FindPost (b c m : Nat) (J : List (Nat × Nat) → World → Prop) (e : Ending) (w' : World) : Prop := e = .returned (.tuple #[.int .i64 m, .int .i64 (wj b c (m - 1))]) ∧ J (pairsTo b c m) w'

theorem prefix_pairs {b c n : Nat} {pre : List (Nat × Nat)} (h : pre <+: pairsTo b c n) : pre = pairsTo b c pre.length := by
  have hl := h.length_le
  rw [List.prefix_iff_eq_take] at h
  have hl' : pre.length ≤ n := by simpa [pairsTo] using hl
  rw [h]
  simp only [pairsTo, ← List.map_take, List.take_range, List.length_map, List.length_range]
theorem pairsTo_mem {b c n : Nat} {x : Nat × Nat} (h : x ∈ pairsTo b c n) : ∃ k, k < n ∧ x = (k + 1, wj b c k) := by
  obtain ⟨k, hk, rfl⟩ := List.mem_map.1 h
  exact ⟨k, List.mem_range.1 hk, rfl⟩
theorem mem_pairsTo (b c : Nat) {k n : Nat} (h : k < n) : (k + 1, wj b c k) ∈ pairsTo b c n := List.mem_map.2 ⟨k, List.mem_range.2 h, rfl⟩

/-- Where a prefix that ends in the first stop ends. -/
theorem stop_at {b c m : Nat} {stop : Nat × Nat → Bool} (hm1 : 1 ≤ m) (hst : stop (m, wj b c (m - 1)) = true) (hno : ∀ k, 1 ≤ k → k < m → stop (k, wj b c (k - 1)) = false)
    {pre' : List (Nat × Nat)} {x : Nat × Nat} (hp : pre' ++ [x] <+: pairsTo b c 64) (hx : stop x = true) (hn : ∀ y ∈ pre', stop y = false) : pre' ++ [x] = pairsTo b c m ∧ x = (m, wj b c (m - 1)) := by
  have h1 := prefix_pairs hp
  rw [List.length_append, List.length_singleton, pairsTo_succ] at h1
  obtain ⟨h2, h3⟩ := List.append_inj' h1 rfl
  have h3 : x = (pre'.length + 1, wj b c pre'.length) := by simpa using h3
  have hlen : pre'.length + 1 = m := by
    rcases Nat.lt_trichotomy (pre'.length + 1) m with h | h | h
    · have := hno (pre'.length + 1) (by omega) h
      rw [Nat.add_sub_cancel, ← h3, hx] at this
      cases this
    · exact h
    · have hmem : (m, wj b c (m - 1)) ∈ pre' := by
        rw [h2]
        have := mem_pairsTo b c (k := m - 1) (n := pre'.length) (by omega)
        rwa [Nat.sub_add_cancel hm1] at this
      have := hn _ hmem
      rw [hst] at this
      cases this
  subst hlen
  refine ⟨?_, by rw [h3, Nat.add_sub_cancel]⟩
  rw [pairsTo_succ, h3, ← h2]

theorem waits_stops (n : Nat) (hn : 1 ≤ n) (Bb Bc n₀ b c : Nat) (S : List Nat) (hb1 : 1 ≤ b) (hbc : b ≤ c) (hc : c ≤ 1048576) (w : World)
    (hBc : Bc < n₀) (hBcS : Bc ∉ S) (cb : Blk w Bb 2 #[.int .i64 b]) (cc : Blk w Bc 2 #[.int .i64 c]) :
    SeqStopsK Fence.wide n Try.prog 33 #[.pointer (some ⟨Bb, 0, none⟩), .pointer (some ⟨Bc, 0, none⟩)] (fun x : Nat × Nat => #[Value.int .i64 x.1, Value.int .i64 x.2]) (Keepn n₀ S) (fun ys => ys = pairsTo b c 64) (fun pre => pre <+: pairsTo b c 64) 64 w := fun l J Jx W hW _ _ hY h0 =>
  waits1_in n hn l Bb Bc n₀ b c S J Jx hb1 hbc hc hY hBc hBcS W (cb.below hW cb.lt) (cc.below hW cc.lt) h0

set_option maxRecDepth 100000 in
set_option maxHeartbeats 4000000 in
theorem find_any (gf : Nat) (caps : Array Value) (eg : ∀ args w, (callFunc gf args).run Try.prog w = .ok (.enter gf args) w) (b c m : Nat) (hb1 : 1 ≤ b) (hbc : b ≤ c) (hc : c ≤ 1048576) (hm1 : 1 ≤ m) (hm : m ≤ 64)
    (stop : Nat × Nat → Bool) (hst : stop (m, wj b c (m - 1)) = true) (hno : ∀ k, 1 ≤ k → k < m → stop (k, wj b c (k - 1)) = false)
    (S : List Nat) (w : World) (hS : ∀ x, x ∈ S → x < w.heap.size) (J : List (Nat × Nat) → World → Prop) (hJo : OwnFrom w.heap.size J)
    (hJs : ∀ pre W p u, J pre W → w.heap.size ≤ p.block → p.block < w.heap.size + 3 → J pre (W.setCell p u)) (hJ0 : J [] w)
    (his : ∀ pre x W, J pre W → pre.length < 64 → w.heap.size + 5 ≤ W.heap.size → Calls Try.prog gf (#[.int .i64 x.1, .int .i64 x.2] ++ caps) W fun e W' => e = .returned (.bool (stop x)) ∧ J (pre ++ [x]) W' ∧ KeepsOthers W W' ∧ Keepn (w.heap.size + 5) S W W') :
    Calls Try.prog 27 #[.int .i64 b, .int .i64 c, .func (.func gf) #[] caps] w (FindPost b c m J) := by
  refine (callsIn_wide (n := 6)).1 ?_
  refine callsIn_of_wp_marks Try.func27 rfl trivial ?_ rfl
  simp only [Try.ntmps27, List.size_toArray, List.length_cons, List.length_nil, Nat.reduceAdd, Nat.reduceSub, Array.replicate_succ, Array.replicate_zero, List.push_toArray, List.append_toArray, List.nil_append, List.cons_append]
  have HIS := Lib.hid his
  have HJO := Lib.hid hJo
  have HJS := Lib.hid hJs
  have HNO := Lib.hid hno
  have HST := Lib.hid hst
  have HSS := Lib.hid hS
  clear his hJo hJs hno hst hS
  gi_wp2_with (refine ⟨trivial, ?_⟩; gi_at_call 32; refine (callsIn_wide.2 (waits_in b c _)).mono ?_; rintro e w' ⟨rfl, rfl⟩)
  have k0 := Blk.new w 51 #[.func (.func gf) #[] caps]
  have k1 := Blk.new (w.alloc (.cells #[.func (.func gf) #[] caps] 51)) 3 #[.int .i64 0]
  have k2 := Blk.new ((w.alloc (.cells #[.func (.func gf) #[] caps] 51)).alloc (.cells #[.int .i64 0] 3)) 2 #[.int .i64 0]
  have k3 := Blk.new (((w.alloc (.cells #[.func (.func gf) #[] caps] 51)).alloc (.cells #[.int .i64 0] 3)).alloc (.cells #[.int .i64 0] 2)) 2 #[.int .i64 b]
  have k4 := Blk.new ((((w.alloc (.cells #[.func (.func gf) #[] caps] 51)).alloc (.cells #[.int .i64 0] 3)).alloc (.cells #[.int .i64 0] 2)).alloc (.cells #[.int .i64 b] 2)) 2 #[.int .i64 c]
  simp only [World.size_alloc] at k1 k2 k3 k4
  have k0' := (((k0.alloc (.cells #[.int .i64 0] 3)).alloc (.cells #[.int .i64 0] 2)).alloc (.cells #[.int .i64 b] 2)).alloc (.cells #[.int .i64 c] 2)
  have k1' := ((k1.alloc (.cells #[.int .i64 0] 2)).alloc (.cells #[.int .i64 b] 2)).alloc (.cells #[.int .i64 c] 2)
  have k2' := (k2.alloc (.cells #[.int .i64 b] 2)).alloc (.cells #[.int .i64 c] 2)
  have k3' := k3.alloc (.cells #[.int .i64 c] 2)
  have hJ1 : J [] (((((w.alloc (.cells #[.func (.func gf) #[] caps] 51)).alloc (.cells #[.int .i64 0] 3)).alloc (.cells #[.int .i64 0] 2)).alloc (.cells #[.int .i64 b] 2)).alloc (.cells #[.int .i64 c] 2)) := HJO.out.alloc _ (HJO.out.alloc _ (HJO.out.alloc _ (HJO.out.alloc _ (HJO.out.alloc _ hJ0))))
  have hsz : (((((w.alloc (.cells #[.func (.func gf) #[] caps] 51)).alloc (.cells #[.int .i64 0] 3)).alloc (.cells #[.int .i64 0] 2)).alloc (.cells #[.int .i64 b] 2)).alloc (.cells #[.int .i64 c] 2)).heap.size = w.heap.size + 5 := by simp
  clear k0 k1 k2 k3 hJ0
  generalize (((((w.alloc (.cells #[.func (.func gf) #[] caps] 51)).alloc (.cells #[.int .i64 0] 3)).alloc (.cells #[.int .i64 0] 2)).alloc (.cells #[.int .i64 b] 2)).alloc (.cells #[.int .i64 c] 2)) = W1 at *
  have hge : w.heap.size + 5 ≤ W1.heap.size := by omega
  have hge2 : W1.heap.size ≤ w.heap.size + 5 := by omega
  clear hsz
  refine wpIn_rangeFunc_ownG rfl (by omega) (gf := 33) (lb := #[.pointer (some ⟨w.heap.size + 1 + 1 + 1, 0, none⟩), .pointer (some ⟨w.heap.size + 1 + 1 + 1 + 1, 0, none⟩)]) rfl trivial (enters_of Try.func33 (by kernel_rfl) rfl)
    (waits_stops 5 (by omega) (w.heap.size + 1 + 1 + 1) (w.heap.size + 1 + 1 + 1 + 1) (w.heap.size + 5) b c S hb1 hbc hc W1 (by omega) (fun hx => by have := HSS.out _ hx; omega) k3' k4) Keepn.trans (Keepn.turn hge) (Below.refl _ _) (fun _ => rfl)
    (fun pre W => (J pre W ∧ (∀ y ∈ pre, stop y = false)) ∧ (Blk W w.heap.size 51 #[.func (.func gf) #[] caps] ∧ Blk W (w.heap.size + 1) 3 #[.int .i64 0] ∧ Blk W (w.heap.size + 1 + 1) 2 #[.int .i64 0]) ∧ W1.heap.size ≤ W.heap.size)
    (fun cd pre W => cd = .ret ∧ ∃ pre' x, pre = pre' ++ [x] ∧ stop x = true ∧ (∀ y ∈ pre', stop y = false) ∧ J pre W ∧ Blk W (w.heap.size + 1) 3 #[.int .i64 x.1] ∧ Blk W (w.heap.size + 1 + 1) 2 #[.int .i64 x.2])
    ?hI ?hIx
    ⟨⟨hJ1, by simp⟩, ⟨k0', k1', k2'⟩, Nat.le_refl _⟩
    (fun x => { tmps := #[.int .i64 b, .int .i64 c, .func (.func gf) #[] caps, undef, undef, .pointer (some ⟨w.heap.size, 0, none⟩), .pointer (some ⟨w.heap.size + 1, 0, none⟩), .pointer (some ⟨w.heap.size + 1 + 1, 0, none⟩), .int .i64 x.1, .int .i64 x.2, .int .i64 b, .int .i64 c,
      .func (.func 33) #[] #[.pointer (some ⟨w.heap.size + 1 + 1 + 1, 0, none⟩), .pointer (some ⟨w.heap.size + 1 + 1 + 1 + 1, 0, none⟩)], .int .i64 x.1, .int .i64 x.2, undef, undef, undef, undef, undef, undef], defers := [] }) ?assign ?body ?done ?stop
  case hI =>
    intro pre W W' row hs hg hr
    obtain ⟨⟨h1, h2⟩, ⟨h3, h4, h5⟩, h6⟩ := hs
    have hc' : ∀ {g : Nat} {t : TypeId} {cs : Array Value}, Blk W g t cs → Blk W' g t cs := fun hb => Blk.own (β := Unit) () W W' row hb hg (fun r e => (hr r e).2)
    exact ⟨⟨HJO.out pre W W' row h1 hg (fun r e => ⟨by have := (hr r e).1; omega, (hr r e).2⟩), h2⟩, ⟨hc' h3, hc' h4, hc' h5⟩, Nat.le_trans h6 hg.size⟩
  case hIx =>
    intro cd pre W W' row hs hg hr
    obtain ⟨h1, pre', x, h2, h3, h4, h5, h6, h7⟩ := hs
    have hc' : ∀ {g : Nat} {t : TypeId} {cs : Array Value}, Blk W g t cs → Blk W' g t cs := fun hb => Blk.own (β := Unit) () W W' row hb hg (fun r e => (hr r e).2)
    exact ⟨h1, pre', x, h2, h3, h4, HJO.out pre W W' row h5 hg (fun r e => ⟨by have := (hr r e).1; omega, (hr r e).2⟩), hc' h6, hc' h7⟩
  case assign =>
    intro l x W K hK
    gi_wp2
    exact hK
  case body =>
    rintro l pre x W ⟨⟨h1, h2⟩, ⟨h3, h4, h5⟩, h6⟩ hlen
    have c5 := h3.cellAt 0 _ rfl
    have HC := Lib.hid (HIS.out pre x W h1 hlen (by omega))
    gi_wp2
    refine ⟨trivial, ?_⟩
    refine (CallsIn.inRound l (callsIn_wide.2 HC.out)).mono ?_
    rintro e W' ⟨rfl, hJ', hko, hkn⟩
    have h3' := h3.keepn hkn (by omega) (fun hx => by have := HSS.out _ hx; omega)
    have h4' := h4.keepn hkn (by omega) (fun hx => by have := HSS.out _ hx; omega)
    have h5' := h5.keepn hkn (by omega) (fun hx => by have := HSS.out _ hx; omega)
    have hsz := hko.size
    cases ht : stop x with
    | false =>
      gi_wp2
      refine ⟨hko.from _, hkn, ⟨hJ', fun y hy => ?_⟩, ⟨h3', h4', h5'⟩, by omega⟩
      rcases List.mem_append.1 hy with hy | hy
      · exact h2 y hy
      · rw [List.mem_singleton.1 hy]; exact ht
    | true =>
      have HT := Lib.hid ht
      clear ht
      have c6 := h4'.cellAt 0 _ rfl
      have c7 := h5'.cellAt 0 _ rfl
      have f6 := h4'.frozen 0
      have f7 := h5'.frozen 0
      gi_wp2
      refine ⟨((hko.trans (KeepsOthers.setCell _ _ _)).trans (KeepsOthers.setCell _ _ _)).from _, rfl, pre, x, rfl, HT.out, h2, HJS.out _ _ _ _ (HJS.out _ _ _ _ hJ' (by simp) (by simp)) (by simp; omega) (by simp), ?_, ?_⟩
      · exact (h4'.put 0 _).far (by simp) _
      · exact (h5'.far (by simp) _).put 0 _
  case done =>
    rintro D ys W hD rfl ⟨⟨h1, h2⟩, _⟩ hKD
    have := h2 _ (mem_pairsTo b c (k := m - 1) (n := 64) (by omega))
    rw [Nat.sub_add_cancel hm1, HST.out] at this
    cases this
  case stop =>
    rintro D cd pre W hD hpre ⟨rfl, pre', x, rfl, h3, h4, h5, h6, h7⟩ hKD
    obtain ⟨hp1, rfl⟩ := stop_at hm1 HST.out HNO.out hpre h3 h4
    rw [hp1] at h5
    have c6 := (h6.putObj (.deferred none) hKD rfl).cellAt 0 _ rfl
    have c7 := (h7.putObj (.deferred none) hKD rfl).cellAt 0 _ rfl
    have hJf : J (pairsTo b c m) (W.putObj D (.deferred none)) := HJO.out _ W _ (some D) h5 (grownBy_putObj' W D _) (fun r e => by cases e; exact ⟨by omega, _, hKD, rfl⟩)
    gi_wp2
    refine ⟨by simp, .inl ⟨_, _, rfl, run_takeDeferred hKD, ?_⟩⟩
    refine ⟨.tuple #[.int .i64 m, .int .i64 (wj b c (m - 1))], ?_, rfl, hJf⟩
    simp [results, Try.results27, go_sem, c6, c7]
end Go.Proofs.Ytepicehlknpbfaa
