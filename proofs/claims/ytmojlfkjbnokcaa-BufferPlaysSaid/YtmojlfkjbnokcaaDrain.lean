/- The contract of Drain. Condition: a buffer that New or Copy made, and a number that is not negative. -/
import Derived.Test.YtmojlfkjbnokcaaIter
namespace Go.Proofs.Ytmojlfkjbnokcaa
open Go.RowKit Go.Shelf

attribute [local go_sem] Oper.semAt_some

theorem Try.info3 : (Try.prog.info? 3).map (fun i => (i.zero, i.size, i.bytes)) = some (some (.int .i64 0), 1, 8) := by kernel_rfl

theorem drewN_grown (W : World) (k : Nat) : W.grownBy (W.drewN k) none := ⟨rfl, rfl, rfl, Nat.le_refl _, fun _ _ _ => rfl⟩

theorem first_stops (n : Nat) (hn : 1 ≤ n) (b Bb Bm n₀ most sz : Nat) (S : List Nat) (L : List Int) (wh : Bool) (hm : (most : Int) ≤ 9223372036854775807) (w : World)
    (hb : b < n₀) (hBb : Bb < n₀) (hbS : b ∉ S) (hBbS : Bb ∉ S)
    (cb : Blk w Bb 23 #[.pointer (some ⟨b, 0, none⟩)]) (cm : Blk w Bm 3 #[.int .i64 most]) (hB : IsBuf w b sz L wh) :
    SeqStopsK Fence.wide n Try.prog 33 #[.pointer (some ⟨Bm, 0, none⟩), .pointer (some ⟨Bb, 0, none⟩)] (fun x : Int => #[Value.int .i64 x]) (Keepn n₀ S) (fun ys => ys = L.take most) (fun pre => pre <+: L.take most) L.length w := fun l J Jx W hW hJ _ hY h0 =>
  first1_in n hn l b Bb Bm n₀ most sz S L wh J Jx (fun pre W' k h => hJ pre W' _ none h (drewN_grown W' k) (fun r e => by cases e)) hm hY hb hBb hbS hBbS W (cb.below hW cb.lt) (cm.below hW cm.lt)
    (by
      obtain ⟨r, f, hbl, hr⟩ := hB
      exact ⟨r, f, hbl.below hW hbl.lt, hr⟩) h0

theorem drop_min (L : List Int) (most : Nat) : L.drop (L.take most).length = L.drop most := by
  rw [List.length_take]
  rcases Nat.le_total most L.length with h | h
  · rw [Nat.min_eq_left h]
  · rw [Nat.min_eq_right h, List.drop_eq_nil_of_le h, List.drop_eq_nil_of_le (Nat.le_refl _)]

theorem drain_blk {w : World} {b sz : Nat} {L ring : List Int} {f t : Nat} {wh : Bool} (hb : Blk w b 59 (bufCells ring sz f L.length wh)) (hr : ring.length = 64) (ht : t ≤ L.length) :
    Blk ((w.setCell ⟨b, 65, none⟩ (.int .i64 (((f : Int) + t) % sz))).setCell ⟨b, 66, none⟩ (.int .i64 ((L.length : Int) - t))) b 59 (bufCells ring sz ((f + t) % sz) (L.length - t) wh) := by
  have h1 := hb.put 65 (.int .i64 (((f : Int) + t) % sz))
  rw [bufCells_setAt hr 1] at h1
  have h1' : Blk (w.setCell ⟨b, 65, none⟩ (.int .i64 (((f : Int) + t) % sz))) b 59 (bufCells ring sz ((f + t) % sz) L.length wh) := by
    have e : bufCells ring sz ((f + t) % sz) L.length wh = (ring.map (Value.int .i64) ++ ([Value.int .i64 sz, .int .i64 f, .int .i64 L.length, .bool wh].set 1 (.int .i64 (((f : Int) + t) % sz)))).toArray := by
      simp [bufCells]
    rw [e]
    exact h1
  have h2 := h1'.put 66 (.int .i64 ((L.length : Int) - t))
  rw [bufCells_setAt hr 2] at h2
  have e : (bufCells ring sz ((f + t) % sz) (L.length - t) wh) = (ring.map (Value.int .i64) ++ ([Value.int .i64 sz, .int .i64 ((f + t) % sz : Nat), .int .i64 L.length, .bool wh].set 2 (.int .i64 ((L.length : Int) - t)))).toArray := by
    simp [bufCells, Int.ofNat_sub ht]
  rw [e]
  exact h2
theorem drain_is {w : World} {b sz : Nat} {L ring : List Int} {f t : Nat} {wh : Bool} (hb : Blk w b 59 (bufCells ring sz ((f + t) % sz) (L.length - t) wh)) (hr : ring.length = 64) (h0 : 0 < sz) (h64 : sz ≤ 64) (hl : L.length ≤ sz)
    (hL : ∀ i, i < L.length → ring.getD ((f + i) % sz) 0 = L.getD i 0) : IsBuf w b sz (L.drop t) wh := by
  refine ⟨ring, (f + t) % sz, by rw [List.length_drop]; exact hb, hr, h0, h64, Nat.mod_lt _ h0, by rw [List.length_drop]; omega, fun i hi => ?_⟩
  rw [List.length_drop] at hi
  have := hL (t + i) (by omega)
  rw [Nat.mod_add_mod, Nat.add_assoc, this]
  simp [List.getD_eq_getElem?_getD, List.getElem?_drop]

/-- Behind Drain: a new slice of the first slots; the buffer holds the others. -/
def DrainPost (b sz : Nat) (L : List Int) (most : Nat) (wh : Bool) (w : World) (e : Ending) (w' : World) : Prop :=
  ∃ v, e = .returned (.tuple #[v, .int .i64 0]) ∧ OwnI w' w.heap.size v (L.take most) ∧ IsBuf w' b sz (L.drop most) wh ∧ Keeps [b] w w'

set_option maxRecDepth 100000 in
set_option maxHeartbeats 2000000 in
theorem drain_ok {b sz : Nat} {L : List Int} {wh : Bool} {w : World} (h : IsBuf w b sz L wh) (most : Nat) (hm : (most : Int) ≤ 9223372036854775807) :
    Calls Try.prog 11 #[.pointer (some ⟨b, 0, none⟩), .int .i64 most] w (DrainPost b sz L most wh w) := by
  have c64 := h.size
  have hle := h.le
  have h0 := h.le.1
  have hlt := h.lt
  obtain ⟨i0, hi, hz0, hz1, hz2⟩ := info_parts Try.info3
  refine (callsIn_wide (n := 5)).1 ?_
  refine callsIn_of_wp_marks Try.func11 rfl trivial ?_ rfl
  simp only [Try.ntmps11, List.size_toArray, List.length_cons, List.length_nil, Nat.reduceAdd, Nat.reduceSub, Array.replicate_succ, Array.replicate_zero, List.push_toArray, List.append_toArray, List.nil_append, List.cons_append]
  have H := Lib.hid h
  clear h
  gi_wp2_with (first | (refine ⟨trivial, ?_⟩; gi_at_call 28; refine (callsIn_wide.2 (made_yes c64 h0)).mono ?_; rintro e w' ⟨rfl, rfl⟩) | (refine ⟨trivial, ?_⟩; gi_at_call 29; refine (callsIn_wide.2 (first_in b most _)).mono ?_; rintro e w' ⟨rfl, rfl⟩))
  have bO := Boxed.new w 26 (.slice none 0 0)
  have kb := Blk.new (w.alloc (.cells #[.slice none 0 0] 26)) 23 #[.pointer (some ⟨b, 0, none⟩)]
  have km := Blk.new ((w.alloc (.cells #[.slice none 0 0] 26)).alloc (.cells #[.pointer (some ⟨b, 0, none⟩)] 23)) 3 #[.int .i64 most]
  simp only [World.size_alloc] at kb km
  have K0 : Keeps [] w (((w.alloc (.cells #[.slice none 0 0] 26)).alloc (.cells #[.pointer (some ⟨b, 0, none⟩)] 23)).alloc (.cells #[.int .i64 most] 3)) := (((Keeps.refl _ _).alloc _).alloc _).alloc _
  have bO' := (bO.alloc (.cells #[.pointer (some ⟨b, 0, none⟩)] 23)).alloc (.cells #[.int .i64 most] 3)
  have kb' := kb.alloc (.cells #[.int .i64 most] 3)
  have hB' := H.out.keeps K0 (by simp)
  have hsz : (((w.alloc (.cells #[.slice none 0 0] 26)).alloc (.cells #[.pointer (some ⟨b, 0, none⟩)] 23)).alloc (.cells #[.int .i64 most] 3)).heap.size = w.heap.size + 3 := by simp
  clear bO kb
  generalize (((w.alloc (.cells #[.slice none 0 0] 26)).alloc (.cells #[.pointer (some ⟨b, 0, none⟩)] 23)).alloc (.cells #[.int .i64 most] 3)) = W1 at *
  have HSZ := Lib.hid hsz
  have hge : w.heap.size + 3 ≤ W1.heap.size := by omega
  clear hsz
  refine wpIn_rangeFunc_ownG rfl (by omega) (gf := 33) (lb := #[.pointer (some ⟨w.heap.size + 1 + 1, 0, none⟩), .pointer (some ⟨w.heap.size + 1, 0, none⟩)]) rfl trivial (enters_of Try.func33 (by kernel_rfl) rfl)
    (first_stops 4 (by omega) b (w.heap.size + 1) (w.heap.size + 1 + 1) W1.heap.size most sz [w.heap.size] L wh hm W1 (by omega) (by omega) (by simp; omega) (by simp) kb' km hB') Keepn.trans (Keepn.turn (Nat.le_refl _)) (Below.refl _ _) (fun _ => rfl)
    (fun pre W => (∃ v, Boxed W w.heap.size 26 v ∧ W.ownsRow W1.heap.size 3 1 v pre.length (pre.map (Value.int .i64)) ∧ True) ∧ Keeps [w.heap.size] W1 W)
    (fun _ _ _ => False)
    (OwnFrom.and (Own.from (holdsRow_own W1.heap.size w.heap.size 26 3 1 (fun pre : List Int => pre.length) (fun pre : List Int => pre.map (Value.int .i64)) (fun _ _ => True)) _) (ownFrom_keeps (Nat.le_refl _)))
    (fun _ _ _ _ _ hs _ _ => hs)
    ⟨⟨_, bO', World.ownsRow_nil _ _ _ _, trivial⟩, Keeps.refl _ _⟩
    (fun x => { tmps := #[.pointer (some ⟨b, 0, none⟩), .int .i64 most, undef, undef, .slice none 0 0, .int .i64 0, .pointer (some ⟨w.heap.size, 0, none⟩), .int .i64 x, .bool false, .pointer (some ⟨b, 0, none⟩), .bool true, .bool false, .bool (decide ((most : Int) < 0)), .int .i64 most, .bool (decide ((most : Int) < 0)), .pointer (some ⟨b, 0, none⟩), .int .i64 most,
      .func (.func 33) #[] #[.pointer (some ⟨w.heap.size + 1 + 1, 0, none⟩), .pointer (some ⟨w.heap.size + 1, 0, none⟩)], .int .i64 x, undef, undef, undef, undef, undef, undef, undef, undef, undef, undef, undef, undef, undef, undef, undef, undef, undef, undef, undef, undef, undef, undef, undef, undef, undef, undef, undef, undef, undef], defers := [] }) ?assign ?body ?done ?stop
  case assign =>
    intro l x W K hK
    gi_wp2
    exact hK
  case body =>
    rintro l pre x W ⟨⟨v, hv, hrow, _⟩, hK⟩ hlen
    have hc := hv.cell
    have hWsz := hK.size
    gi_wp2_with (gi_at_builtin; refine wpListIn_append_own _ rfl _ _ 26 rfl W1.heap.size 3 i0 (.int .i64 0) 1 8 Try.underlying26 hi hz0 hz1 hz2 rfl (by decide) _ _ _ rfl (hrow.alloc _) ⟨W.heap.size, 0, none⟩ 1 1 [.int .i64 x] rfl rfl (cell_one_new _ _ _) (by simp [Value.oneCell']) (by unfold maxLen; omega) (by omega) (by simp; omega) ?_; intro v' w1 hown' hgrow _; obtain ⟨g', cap', rfl⟩ := ownsRow_succ hown'; obtain ⟨hv1, hv2, hr2, hk2, hb2, hn2⟩ := boxed_append hv (by decide) hrow hown' hgrow; have hc1 := hv1.cell; have hf1 := hv1.frozen)
    have hK2 := hb2 [w.heap.size] W1 hK (.inl (by simp)) (Nat.le_refl _)
    exact ⟨hk2.from _, hn2 _ _ (by simp) (Nat.le_refl _) hWsz, ⟨_, hv2, by simpa using hr2, trivial⟩, hK2⟩
  case done =>
    rintro D ys W hD rfl ⟨⟨v, hv, hrow, _⟩, hK⟩ hKD
    have hc := hv.cell
    have hvs : ∃ a cap, v = .slice a (L.take most).length cap := by
      rcases hrow.2 with ⟨rfl, h1⟩ | ⟨g, cap, cur, rfl, _⟩
      · exact ⟨none, 0, by rw [h1]⟩
      · exact ⟨_, cap, rfl⟩
    have ht : (L.take most).length ≤ L.length := by rw [List.length_take]; omega
    have hdm := Lib.hid (drop_min L most)
    have hBW := hB'.keeps hK (by simp; omega)
    have HROW := Lib.hid hrow
    have HV := Lib.hid hv
    clear hrow hv
    obtain ⟨ring, f, hbl, hr, _, h64, hf, hl, hL⟩ := hBW
    have c64 : W.cell? ⟨b, 64, none⟩ = some (.int .i64 sz) := hbl.cellAt 64 _ (bufCells_at hr 0)
    have c65 : W.cell? ⟨b, 65, none⟩ = some (.int .i64 f) := hbl.cellAt 65 _ (bufCells_at hr 1)
    have c66 : W.cell? ⟨b, 66, none⟩ = some (.int .i64 L.length) := hbl.cellAt 66 _ (bufCells_at hr 2)
    have hfr : ∀ i, W.frozen? ⟨b, i, none⟩ = false := hbl.frozen
    have HL := Lib.hid hL
    have HR := Lib.hid hr
    have HBL := Lib.hid hbl
    clear hL hr hbl
    generalize hnt : (L.take most).length = t at *
    generalize hnL : L.length = n at *
    have HNT := Lib.hid hnt
    have HNL := Lib.hid hnL
    clear hnt hnL
    obtain ⟨a, cap, rfl⟩ := hvs
    have hne : ¬ w.heap.size = b := by omega
    have ew : IntKind.i64.wrap ((f : Int) + t) = (f : Int) + t := IntWalk.i64_in _ (by omega)
    have em : ((f : Int) + t).tmod sz = ((f : Int) + t) % sz := Int.tmod_eq_emod_of_nonneg (by omega)
    have es : ¬ sz = 0 := by omega
    gi_wp2
    refine wpIn_region_tail WideF.wide 15 (by kernel_rfl) (by kernel_rfl) ?_
    simp only [List.take_succ_cons, List.take_zero, List.drop_succ_cons, List.drop_zero]
    repeat still_step
    refine wpStill_nil ?_
    gi_wp2
    refine wpIn_region_tail WideF.wide 9 (by kernel_rfl) (by kernel_rfl) ?_
    simp only [List.take_succ_cons, List.take_zero, List.drop_succ_cons, List.drop_zero]
    repeat still_step
    refine wpStill_nil ?_
    gi_wp2
    have hDb : D ≠ b := by omega
    have hKF : (((W.setCell ⟨b, 65, none⟩ (.int .i64 (((f : Int) + t) % sz))).setCell ⟨b, 66, none⟩ (.int .i64 ((n : Int) - t))).drew.drew).heap[D]? = some (.deferred (some [])) := by
      refine Eq.trans ?_ hKD
      refine Eq.trans (Below.heap_setCell _ _ _ _ hDb) ?_
      exact Below.heap_setCell _ _ _ _ hDb
    refine ⟨by simp, .inl ⟨_, _, rfl, run_takeDeferred hKF, ?_⟩⟩
    obtain rfl := HNT.out
    obtain rfl := HNL.out
    have K1 : Keeps [b] w (((W.setCell ⟨b, 65, none⟩ (.int .i64 (((f : Int) + (L.take most).length) % sz))).setCell ⟨b, 66, none⟩ (.int .i64 ((L.length : Int) - (L.take most).length))).drew.drew) :=
      (((((K0.mono (T := [b]) (by simp)).step hK (by simp)).setCell (.inl (by simp)) _).setCell (.inl (by simp)) _).drew).drew
    have hob : ∀ k, (Value.slice a (L.take most).length cap).ownBlock = some k → W1.heap.size ≤ k := fun k e => (World.ownsRow.lt HROW.out k e).1
    have hown : OwnI W w.heap.size (Value.slice a (L.take most).length cap) (L.take most) := OwnI.base (B := W1.heap.size) HROW.out (by omega)
    have hown2 : OwnI (((W.setCell ⟨b, 65, none⟩ (.int .i64 (((f : Int) + (L.take most).length) % sz))).setCell ⟨b, 66, none⟩ (.int .i64 ((L.length : Int) - (L.take most).length))).drew.drew) w.heap.size (Value.slice a (L.take most).length cap) (L.take most) :=
      hown.keeps (S := [b]) (((((Keeps.refl [b] W).setCell (.inl (by simp)) _).setCell (.inl (by simp)) _).drew).drew) (fun k e => by have := hob k e; simp; omega)
    refine ⟨_, results_tmp2 rfl _ _ _, _, rfl, ownsRow_putObj hown2 _ hKF rfl, ?_, putObj_keeps K1 (by omega) _⟩
    rw [← hdm.out]
    exact drain_is ((drain_blk HBL.out HR.out ht).putObj _ hKF rfl) HR.out h0 h64 hl HL.out
  case stop =>
    rintro D c pre W _ _ h _
    exact h.elim

set_option maxHeartbeats 800000 in
theorem drain_neg {b sz : Nat} {L : List Int} {wh : Bool} {w : World} (h : IsBuf w b sz L wh) (k : Int) (hk : k < 0) :
    Calls Try.prog 11 #[.pointer (some ⟨b, 0, none⟩), .int .i64 k] w fun e w' => e = .returned (.tuple #[.slice none 0 0, .int .i64 2]) ∧ w = w' := by
  have c64 := h.size
  have h0 := h.le.1
  clear h
  go_enter Try.func11, Try.ntmps11
  go_wp2_with (go_at_call 28; refine (made_yes c64 h0).mono ?_; rintro e w' ⟨rfl, rfl⟩)
  go_ret2
  exact ⟨rfl, rfl⟩
end Go.Proofs.Ytmojlfkjbnokcaa
