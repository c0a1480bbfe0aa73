/- The contracts of All and Next for a set that was not made. -/
import Derived.Test.YtcdnflffpeijfaaDoorSetOf
import Derived.Test.YtcdnflffpeijfaaDoorCopy2
namespace Go.Proofs.YtcdnflffpeijfaaDoor
open Go.RowKit Go.Shelf

attribute [local go_sem] Oper.semAt_some

set_option maxRecDepth 1000000 in
theorem numbers_stop0 (n : Nat) (hn : 1 ≤ n) (p : Option Addr) (Bs Bf n₀ N : Nat) (S : List Nat) (w : World) (cs : Blk w Bs 24 #[.pointer p]) (h : Bare w p) :
    SeqStopsK Fence.wide n Tryd.prog 52 #[.pointer (some ⟨Bs, 0, none⟩), .pointer (some ⟨Bf, 0, none⟩)] (fun x : Int => #[Value.int .i64 x]) (Keepn n₀ S) (fun ys => ys = []) (fun pre => pre <+: []) N w := fun l J Jx W hW hJ _ hY h0 => by
  have hk : Keeps [] w W := Keeps.of_below hW
  have hV := Lib.hid (made_bare (h.keep0 hk))
  have cqc := (cs.keeps hk (by simp)).cellAt 0 _ rfl
  clear hJ hY cs h hW
  refine callsIn_of_wp Tryd.func52 rfl trivial ?_ rfl
  simp only [Tryd.ntmps52, List.size_toArray, List.length_cons, List.length_nil, Nat.reduceAdd, Nat.reduceSub, Array.replicate_succ, Array.replicate_zero, List.push_toArray, List.append_toArray, List.nil_append, List.cons_append]
  gi_wp2_with (refine ⟨trivial, ?_⟩; gi_at_call 39; refine (callsIn_wide.2 hV.out).mono ?_; rintro e w' ⟨rfl, rfl⟩)
  refine bodyPost_ret (results_none rfl _ _ _) rfl ?_
  exact ⟨⟨_, rfl⟩, .inl ⟨[], rfl, h0⟩⟩
set_option maxRecDepth 1000000 in
theorem numbers_none (n : Nat) (hn : 1 ≤ n) (p : Option Addr) (Bs Bf n₀ N : Nat) (fr : Int) (S : List Nat) (w : World) (cs : Blk w Bs 24 #[.pointer p]) (cf : Blk w Bf 3 #[.int .i64 fr]) (h : Bare w p) :
    SeqFirst Fence.wide n Tryd.prog 52 #[.pointer (some ⟨Bs, 0, none⟩), .pointer (some ⟨Bf, 0, none⟩)] (fun x : Nat => #[Value.int .i64 (x : Int)]) (Keepn n₀ S) (fun ys => ys = []) (fun pre => pre <+: []) N w ⟨Bf, 0, none⟩ (.int .i64 fr) := fun l J Jx W hW hJ hY h0 => by
  have hk : Keeps [] w W := Keeps.of_below hW
  have hV := Lib.hid (made_bare (h.keep0 hk))
  have cqc := (cs.keeps hk (by simp)).cellAt 0 _ rfl
  rw [setCell_same (cf.keeps hk (by simp)) 0 (.int .i64 fr) rfl] at h0
  clear hJ hY cs h hW cf
  refine callsIn_of_wp Tryd.func52 rfl trivial ?_ rfl
  simp only [Tryd.ntmps52, List.size_toArray, List.length_cons, List.length_nil, Nat.reduceAdd, Nat.reduceSub, Array.replicate_succ, Array.replicate_zero, List.push_toArray, List.append_toArray, List.nil_append, List.cons_append]
  gi_wp2_with (refine ⟨trivial, ?_⟩; gi_at_call 39; refine (callsIn_wide.2 hV.out).mono ?_; rintro e w' ⟨rfl, rfl⟩)
  refine bodyPost_ret (results_none rfl _ _ _) rfl ?_
  exact ⟨⟨_, rfl⟩, .inl ⟨[], rfl, h0⟩⟩

set_option maxRecDepth 100000 in
set_option maxHeartbeats 2000000 in
theorem Next_bare {p : Option Addr} {fr : Int} {w : World} (hB : Bare w p) :
    Calls Tryd.prog 11 #[.pointer p, .int .i64 fr] w fun e w' => e = .returned (.tuple #[.int .i64 0, .bool false]) ∧ Keeps [] w w' := by
  refine (callsIn_wide (n := 5)).1 ?_
  refine callsIn_of_wp_marks Tryd.func11 rfl trivial ?_ rfl
  simp only [Tryd.ntmps11, List.size_toArray, List.length_cons, List.length_nil, Nat.reduceAdd, Nat.reduceSub, Array.replicate_succ, Array.replicate_zero, List.push_toArray, List.append_toArray, List.nil_append, List.cons_append]
  have H := Lib.hid hB
  clear hB
  gi_wp2_with (refine ⟨trivial, ?_⟩; gi_at_call 35; refine (callsIn_wide.2 (numbers_in p fr _)).mono ?_; rintro e w' ⟨rfl, rfl⟩)
  have K0 : Keeps [] w ((((w.alloc (.cells #[.int .i64 0] 3)).alloc (.cells #[.bool false] 4)).alloc (.cells #[.pointer p] 24)).alloc (.cells #[.int .i64 fr] 3)) := ((((Keeps.refl [] w).alloc _).alloc _).alloc _).alloc _
  have k4 := (((Blk.new w 3 #[.int .i64 0]).alloc (.cells #[.bool false] 4)).alloc (.cells #[.pointer p] 24)).alloc (.cells #[.int .i64 fr] 3)
  have k5 := ((Blk.new (w.alloc (.cells #[.int .i64 0] 3)) 4 #[.bool false]).alloc (.cells #[.pointer p] 24)).alloc (.cells #[.int .i64 fr] 3)
  have kb := (Blk.new ((w.alloc (.cells #[.int .i64 0] 3)).alloc (.cells #[.bool false] 4)) 24 #[.pointer p]).alloc (.cells #[.int .i64 fr] 3)
  have kf := Blk.new (((w.alloc (.cells #[.int .i64 0] 3)).alloc (.cells #[.bool false] 4)).alloc (.cells #[.pointer p] 24)) 3 #[.int .i64 fr]
  simp only [World.size_alloc] at k5 kb kf
  have hsz : ((((w.alloc (.cells #[.int .i64 0] 3)).alloc (.cells #[.bool false] 4)).alloc (.cells #[.pointer p] 24)).alloc (.cells #[.int .i64 fr] 3)).heap.size = w.heap.size + 4 := by simp
  generalize ((((w.alloc (.cells #[.int .i64 0] 3)).alloc (.cells #[.bool false] 4)).alloc (.cells #[.pointer p] 24)).alloc (.cells #[.int .i64 fr] 3)) = W1 at *
  have hge : w.heap.size + 4 ≤ W1.heap.size := by omega
  clear hsz
  refine wpIn_range_first (α := Nat) rfl (by omega) (gf := 52) (lb := #[.pointer (some ⟨w.heap.size + 1 + 1, 0, none⟩), .pointer (some ⟨w.heap.size + 1 + 1 + 1, 0, none⟩)]) rfl trivial (enters_of Tryd.func52 (by kernel_rfl) rfl)
    (numbers_none 4 (by omega) p (w.heap.size + 1 + 1) (w.heap.size + 1 + 1 + 1) W1.heap.size 0 fr [] W1 kb kf (H.out.keep0 K0))
    (by show w.heap.size + 1 + 1 + 1 < _; omega) (fun _ => rfl)
    (fun x W => Blk W w.heap.size 3 #[.int .i64 (x : Nat)] ∧ Blk W (w.heap.size + 1) 4 #[.bool true] ∧ Keeps [] w W)
    ?hIx
    (fun x => { tmps := #[.pointer p, .int .i64 fr, undef, undef, .pointer (some ⟨w.heap.size, 0, none⟩), .pointer (some ⟨w.heap.size + 1, 0, none⟩), .int .i64 (x : Nat), .pointer p, .int .i64 fr,
      .func (.func 52) #[] #[.pointer (some ⟨w.heap.size + 1 + 1, 0, none⟩), .pointer (some ⟨w.heap.size + 1 + 1 + 1, 0, none⟩)], .int .i64 (x : Nat), undef], defers := [] }) ?assign ?body ?done ?stop
  case hIx =>
    rintro x W l o o' hl ho hc ⟨h1, h2, h3⟩
    exact ⟨h1.putObj _ ho hc, h2.putObj _ ho hc, putObj_keeps h3 (by omega) _⟩
  case assign =>
    intro l x W K hK
    gi_wp2
    exact hK
  case body =>
    rintro l x W hK
    have h4 := (k4.far (p := ⟨w.heap.size + 1 + 1 + 1, 0, none⟩) (by show _ ≠ w.heap.size + 1 + 1 + 1; omega) (.int .i64 fr)).keeps hK (by simp)
    have h5 := (k5.far (p := ⟨w.heap.size + 1 + 1 + 1, 0, none⟩) (by show _ ≠ w.heap.size + 1 + 1 + 1; omega) (.int .i64 fr)).keeps hK (by simp)
    have c4 := h4.cellAt 0 _ rfl
    have c5 := h5.cellAt 0 _ rfl
    have f4 := h4.frozen 0
    have f5 := h5.frozen 0
    have HW : Keeps [] w W := (K0.setCell (p := ⟨w.heap.size + 1 + 1 + 1, 0, none⟩) (.inr (by show _ ≤ w.heap.size + 1 + 1 + 1; omega)) (.int .i64 fr)).trans hK
    gi_wp2
    refine ⟨((KeepsOthers.setCell _ _ _).trans (KeepsOthers.setCell _ _ _)).from _, ?_, ?_, ?_⟩
    · exact (h4.put 0 _).far (by simp) _
    · exact (h5.far (by simp) _).put 0 _
    · exact (HW.setCell (.inr (by simp)) _).setCell (.inr (by simp)) _
  case done =>
    rintro D W hD hS hK hKD
    have h4 := (k4.far (p := ⟨w.heap.size + 1 + 1 + 1, 0, none⟩) (by show _ ≠ w.heap.size + 1 + 1 + 1; omega) (.int .i64 fr)).keeps hK (by simp)
    have h5 := (k5.far (p := ⟨w.heap.size + 1 + 1 + 1, 0, none⟩) (by show _ ≠ w.heap.size + 1 + 1 + 1; omega) (.int .i64 fr)).keeps hK (by simp)
    have c4 := h4.cellAt 0 _ rfl
    have c5 := h5.cellAt 0 _ rfl
    have f4 := h4.frozen 0
    have f5 := h5.frozen 0
    have HW : Keeps [] w W := (K0.setCell (p := ⟨w.heap.size + 1 + 1 + 1, 0, none⟩) (.inr (by show _ ≤ w.heap.size + 1 + 1 + 1; omega)) (.int .i64 fr)).trans hK
    have hw4 := (h4.put 0 (.int .i64 0)).far (p := ⟨w.heap.size + 1, 0, none⟩) (by simp) (.bool false)
    have hw5 := (h5.far (p := ⟨w.heap.size, 0, none⟩) (by simp) (.int .i64 0)).put 0 (.bool false)
    have hKD2 : ((W.setCell ⟨w.heap.size, 0, none⟩ (.int .i64 0)).setCell ⟨w.heap.size + 1, 0, none⟩ (.bool false)).heap[D]? = some (.deferred (some [])) :=
      (Below.heap_setCell _ _ _ _ (by show D ≠ w.heap.size + 1; omega)).trans ((Below.heap_setCell _ _ _ _ (by show D ≠ w.heap.size; omega)).trans hKD)
    have d4 := (hw4.putObj (.deferred none) hKD2 rfl).cellAt 0 (.int .i64 0) rfl
    have d5 := (hw5.putObj (.deferred none) hKD2 rfl).cellAt 0 (.bool false) rfl
    have HKF : Keeps [] w (((W.setCell ⟨w.heap.size, 0, none⟩ (.int .i64 0)).setCell ⟨w.heap.size + 1, 0, none⟩ (.bool false)).putObj D (.deferred none)) := putObj_keeps ((HW.setCell (.inr (by simp)) _).setCell (.inr (by simp)) _) (by omega) _
    have HD4 := Lib.hid d4
    have HD5 := Lib.hid d5
    have HD2 := Lib.hid hKD2
    clear hw4 hw5 h4 h5 d4 d5 hKD2 hKD
    gi_wp2
    have d4 := HD4.out
    have d5 := HD5.out
    refine ⟨by simp, .inl ⟨_, _, rfl, run_takeDeferred HD2.out, ?_⟩⟩
    refine ⟨.tuple #[.int .i64 0, .bool false], ?_, ?_, HKF⟩
    · generalize ((W.setCell ⟨w.heap.size, 0, none⟩ (.int .i64 0)).setCell ⟨w.heap.size + 1, 0, none⟩ (.bool false)) = W2 at *
      simp [results, Tryd.results11, go_sem, d4, d5]
    · rfl
  case stop =>
    rintro D x W hD hp
    simp at hp

/-- Behind Collect: a new slice; nothing else has changed. -/
def SeqPost (ys : List Int) (w : World) (e : Ending) (w' : World) : Prop := ∃ v, e = .returned v ∧ OwnI w' w.heap.size v ys ∧ Keeps [] w w'
set_option maxRecDepth 100000 in
set_option maxHeartbeats 2000000 in
theorem AppendSeq_g {Bq Bn N : Nat} {w : World} {R : List Int} (hN : N ≤ 1000000) (hR : R.length ≤ N)
    (hseq : ∀ W1, Keeps [] w W1 → W1.heap.size = w.heap.size + 1 → SeqStopsK Fence.wide 4 Tryd.prog 52 #[.pointer (some ⟨Bq, 0, none⟩), .pointer (some ⟨Bn, 0, none⟩)] (fun x : Int => #[Value.int .i64 x]) (Keepn W1.heap.size [w.heap.size]) (fun ys => ys = R) (fun pre => pre <+: R) N W1) :
    Calls Tryd.prog 55 #[.slice none 0 0, .func (.func 52) #[] #[.pointer (some ⟨Bq, 0, none⟩), .pointer (some ⟨Bn, 0, none⟩)]] w (SeqPost R w) := by
  obtain ⟨i0, hi, hz0, hz1, hz2⟩ := info_parts Tryd.info3
  refine (callsIn_wide (n := 5)).1 ?_
  refine callsIn_of_wp_marks Tryd.func55 rfl trivial ?_ rfl
  simp only [Tryd.ntmps55, List.size_toArray, List.length_cons, List.length_nil, Nat.reduceAdd, Nat.reduceSub, Array.replicate_succ, Array.replicate_zero, List.push_toArray, List.append_toArray, List.nil_append, List.cons_append]
  have HSQ := Lib.hid hseq
  clear hseq
  gi_wp2_with fail
  have bO := Boxed.new w 28 (.slice none 0 0)
  have K0 : Keeps [] w (w.alloc (.cells #[.slice none 0 0] 28)) := (Keeps.refl _ _).alloc _
  have hs1 : (w.alloc (.cells #[.slice none 0 0] 28)).heap.size = w.heap.size + 1 := by simp
  generalize (w.alloc (.cells #[.slice none 0 0] 28)) = W1 at *
  have hge : w.heap.size + 1 ≤ W1.heap.size := by omega
  have hsq := HSQ.out W1 K0 hs1
  have HSZ := Lib.hid hs1
  clear hs1
  refine wpIn_rangeFunc_ownG rfl (by omega) (gf := 52) (lb := #[.pointer (some ⟨Bq, 0, none⟩), .pointer (some ⟨Bn, 0, none⟩)]) rfl trivial (enters_of Tryd.func52 (by kernel_rfl) rfl)
    hsq Keepn.trans (Keepn.turn (Nat.le_refl _)) (Below.refl _ _) (fun _ => rfl)
    (fun pre W => (∃ v, Boxed W w.heap.size 28 v ∧ W.ownsRow W1.heap.size 3 1 v pre.length (pre.map (Value.int .i64)) ∧ True) ∧ Keeps [w.heap.size] W1 W)
    (fun _ _ _ => False)
    (OwnFrom.and (Own.from (holdsRow_own W1.heap.size w.heap.size 28 3 1 (fun pre : List Int => pre.length) (fun pre : List Int => pre.map (Value.int .i64)) (fun _ _ => True)) _) (ownFrom_keeps (Nat.le_refl _)))
    (fun _ _ _ _ _ hs _ _ => hs)
    ⟨⟨_, bO, World.ownsRow_nil _ _ _ _, trivial⟩, Keeps.refl _ _⟩
    (fun x => { tmps := #[.slice none 0 0, .func (.func 52) #[] #[.pointer (some ⟨Bq, 0, none⟩), .pointer (some ⟨Bn, 0, none⟩)], .pointer (some ⟨w.heap.size, 0, none⟩), undef, .slice none 0 0, .int .i64 x, .func (.func 52) #[] #[.pointer (some ⟨Bq, 0, none⟩), .pointer (some ⟨Bn, 0, none⟩)], .int .i64 x, undef, undef, undef, undef, undef], defers := [] }) ?assign ?body ?done ?stop
  case assign =>
    intro l x W K hK
    gi_wp2
    exact hK
  case body =>
    rintro l pre x W ⟨⟨v, hv, hrow, _⟩, hK⟩ hlen
    have hc := hv.cell
    have hWsz := hK.size
    gi_wp2_with (gi_at_builtin; refine wpListIn_append_own _ rfl _ _ 28 rfl W1.heap.size 3 i0 (.int .i64 0) 1 8 Tryd.underlying28 hi hz0 hz1 hz2 rfl (by decide) _ _ _ rfl (hrow.alloc _) ⟨W.heap.size, 0, none⟩ 1 1 [.int .i64 x] rfl rfl (cell_one_new _ _ _) (by simp [Value.oneCell']) (by unfold maxLen; omega) (by omega) (by simp; omega) ?_; intro v' w1 hown' hgrow _; obtain ⟨g', cap', rfl⟩ := ownsRow_succ hown'; obtain ⟨hv1, hv2, hr2, hk2, hb2, hn2⟩ := boxed_append hv (by decide) hrow hown' hgrow; have hc1 := hv1.cell; have hf1 := hv1.frozen)
    have hK2 := hb2 [w.heap.size] W1 hK (.inl (by simp)) (Nat.le_refl _)
    exact ⟨hk2.from _, hn2 _ _ (by simp) (Nat.le_refl _) hWsz, ⟨_, hv2, by simpa using hr2, trivial⟩, hK2⟩
  case done =>
    rintro D ys W hD rfl ⟨⟨v, hv, hrow, _⟩, hK⟩ hKD
    have hc := hv.cell
    have HROW := Lib.hid hrow
    gi_wp2
    refine ⟨by simp, .inl ⟨_, _, rfl, run_takeDeferred hKD, ?_⟩⟩
    have hown : OwnI W w.heap.size v ys := OwnI.base (B := W1.heap.size) (by have := HROW.out; unfold OwnI; simpa using this) (by omega)
    refine ⟨v, by simp [results, Tryd.results55, go_sem], v, rfl, ownsRow_putObj hown _ hKD rfl, ?_⟩
    exact putObj_keeps ((K0.step hK (by simp))) (by omega) _
  case stop =>
    rintro D c pre W _ _ h _
    exact h.elim
set_option maxRecDepth 100000 in
theorem Collect_g {Bq Bn : Nat} {w : World} {R : List Int} (h : Calls Tryd.prog 55 #[.slice none 0 0, .func (.func 52) #[] #[.pointer (some ⟨Bq, 0, none⟩), .pointer (some ⟨Bn, 0, none⟩)]] w (SeqPost R w)) :
    Calls Tryd.prog 41 #[.func (.func 52) #[] #[.pointer (some ⟨Bq, 0, none⟩), .pointer (some ⟨Bn, 0, none⟩)]] w (SeqPost R w) := by
  have H := Lib.hid h
  clear h
  go_enter Tryd.func41, Tryd.ntmps41
  go_wp2_with fail
  refine H.out.mono ?_
  rintro e w' ⟨v, rfl, ho, hk⟩
  go_wp2_with fail
  go_ret
  exact ⟨v, rfl, ho, hk⟩

set_option maxRecDepth 1000000 in
theorem All_bare {w : World} {p : Option Addr} (h : Bare w p) : Calls Tryd.prog 22 #[.pointer p] w (SeqPost [] w) := by
  have K0 : Keeps [] w ((w.alloc (.cells #[.pointer p] 24)).alloc (.cells #[.int .i64 0] 3)) := ((Keeps.refl _ _).alloc _).alloc _
  have k1 := (Blk.new w 24 #[.pointer p]).alloc (.cells #[.int .i64 0] 3)
  have zW : ((w.alloc (.cells #[.pointer p] 24)).alloc (.cells #[.int .i64 0] 3)).heap.size = w.heap.size + 2 := by simp
  have h0 := h.keep0 K0
  have HN := Lib.hid (numbers_in p 0 w)
  generalize ((w.alloc (.cells #[.pointer p] 24)).alloc (.cells #[.int .i64 0] 3)) = W at *
  have hA := AppendSeq_g (w := W) (Bq := w.heap.size) (Bn := w.heap.size + 1) (N := 0) (R := []) (by omega) (by simp)
    (fun W1 kW hsz => numbers_stop0 4 (by omega) p w.heap.size (w.heap.size + 1) _ 0 _ W1 (k1.keeps kW (by simp)) (h0.keep0 kW))
  have HC := Lib.hid (Collect_g hA)
  have HK0 := Lib.hid K0
  clear h K0 k1 h0 hA
  go_enter Tryd.func22, Tryd.ntmps22
  go_wp2_with fail
  refine HN.out.mono ?_
  rintro e w1 ⟨rfl, rfl⟩
  go_wp2_with fail
  refine HC.out.mono ?_
  rintro e w2 ⟨u, rfl, hu, hk⟩
  go_wp2_with fail
  go_ret
  exact ⟨_, rfl, OwnI.base (xs := []) hu (by omega), HK0.out.trans hk⟩
end Go.Proofs.YtcdnflffpeijfaaDoor
