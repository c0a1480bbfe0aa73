/- The contracts of slices.AppendSeq, slices.Collect and Due. Condition: a queue that was made, or one that was not. -/
import Derived.Test.YtognnjaefaoefaaIter
namespace Go.Proofs.Ytognnjaefaoefaa
open Go.RowKit Go.Shelf

attribute [local go_sem] Oper.semAt_some

theorem Try.info3 : (Try.prog.info? 3).map (fun i => (i.zero, i.size, i.bytes)) = some (some (.int .i64 0), 1, 8) := by kernel_rfl
theorem until_stops (n : Nat) (hn : 1 ≤ n) (b Bq Bn n₀ : Nat) (now : Int) (S : List Nat) (v : Value) (L : List (Int × Int)) (w : World)
    (hb : b < n₀) (hv : ∀ x, v.ownBlock = some x → x < n₀ ∧ x ∉ S) (hBq : Bq < n₀) (hBn : Bn < n₀) (hbS : b ∉ S) (hqS : Bq ∉ S) (hnS : Bn ∉ S) (hm : L.length ≤ 1000000)
    (hn0 : n₀ ≤ w.heap.size) (cq : Blk w Bq 24 #[.pointer (some ⟨b, 0, none⟩)]) (cn : Blk w Bn 2 #[.int .i64 now]) (hQ : IsQ w b v L) :
    SeqStopsK Fence.wide n Try.prog 46 #[.pointer (some ⟨Bq, 0, none⟩), .pointer (some ⟨Bn, 0, none⟩)] (fun x : Int => #[Value.int .i64 x]) (Keepn n₀ S) (fun ys => ys = idsOf (L.take (dueN L now))) (fun pre => pre <+: idsOf (L.take (dueN L now))) L.length w := fun l J Jx W hW hJ _ hY h0 => by
  have hk : Keeps [] w W := Keeps.of_below hW
  exact until1_in n hn l b Bq Bn n₀ now S v L J Jx (fun pre W' o h => hJ pre W' _ none h ⟨rfl, rfl, rfl, by simp, fun k hk _ => Below.heap_alloc W' o k hk⟩ (fun r e => by cases e)) hY hb hv hBq hBn hbS hqS hnS hm W (Nat.le_trans hn0 hk.size) (cq.below hW cq.lt) (cn.below hW cn.lt) (hQ.keep0 hk) h0
set_option maxRecDepth 1000000 in
theorem until_none (n : Nat) (hn : 1 ≤ n) (p : Option Addr) (Bq Bn n₀ N : Nat) (S : List Nat) (w : World) (cq : Blk w Bq 24 #[.pointer p]) (h : Bare w p) :
    SeqStopsK Fence.wide n Try.prog 46 #[.pointer (some ⟨Bq, 0, none⟩), .pointer (some ⟨Bn, 0, none⟩)] (fun x : Int => #[Value.int .i64 x]) (Keepn n₀ S) (fun ys => ys = []) (fun pre => pre <+: []) N w := fun l J Jx W hW hJ _ hY h0 => by
  have hk : Keeps [] w W := Keeps.of_below hW
  have hV := Lib.hid (valid_no (h.keep0 hk))
  have cqc := (cq.keeps hk (by simp)).cellAt 0 _ rfl
  clear hJ hY cq h hW
  refine callsIn_of_wp Try.func46 rfl trivial ?_ rfl
  simp only [Try.ntmps46, List.size_toArray, List.length_cons, List.length_nil, Nat.reduceAdd, Nat.reduceSub, Array.replicate_succ, Array.replicate_zero, List.push_toArray, List.append_toArray, List.nil_append, List.cons_append]
  gi_wp2_with (refine ⟨trivial, ?_⟩; gi_at_call 33; refine (callsIn_wide.2 hV.out).mono ?_; rintro e w' ⟨rfl, rfl⟩)
  refine bodyPost_ret (results_none rfl _ _ _) rfl ?_
  exact ⟨⟨_, rfl⟩, .inl ⟨[], rfl, h0⟩⟩

/-- Behind Collect: a new slice of the ids; nothing else has changed. -/
def AllPost (ys : List Int) (w : World) (e : Ending) (w' : World) : Prop := ∃ v, e = .returned v ∧ OwnI w' w.heap.size v ys ∧ Keeps [] w w'
set_option maxRecDepth 100000 in
set_option maxHeartbeats 2000000 in
theorem AppendSeq_in {Bq Bn N : Nat} {w : World} {R : List Int} (hN : N ≤ 1000000) (hR : R.length ≤ N)
    (hseq : ∀ W1, Keeps [] w W1 → W1.heap.size = w.heap.size + 1 → SeqStopsK Fence.wide 4 Try.prog 46 #[.pointer (some ⟨Bq, 0, none⟩), .pointer (some ⟨Bn, 0, none⟩)] (fun x : Int => #[Value.int .i64 x]) (Keepn W1.heap.size [w.heap.size]) (fun ys => ys = R) (fun pre => pre <+: R) N W1) :
    Calls Try.prog 45 #[.slice none 0 0, .func (.func 46) #[] #[.pointer (some ⟨Bq, 0, none⟩), .pointer (some ⟨Bn, 0, none⟩)]] w (AllPost R w) := by
  obtain ⟨i0, hi, hz0, hz1, hz2⟩ := info_parts Try.info3
  refine (callsIn_wide (n := 5)).1 ?_
  refine callsIn_of_wp_marks Try.func45 rfl trivial ?_ rfl
  simp only [Try.ntmps45, List.size_toArray, List.length_cons, List.length_nil, Nat.reduceAdd, Nat.reduceSub, Array.replicate_succ, Array.replicate_zero, List.push_toArray, List.append_toArray, List.nil_append, List.cons_append]
  have HSQ := Lib.hid hseq
  clear hseq
  gi_wp2_with fail
  have bO := Boxed.new w 26 (.slice none 0 0)
  have K0 : Keeps [] w (w.alloc (.cells #[.slice none 0 0] 26)) := (Keeps.refl _ _).alloc _
  have hs1 : (w.alloc (.cells #[.slice none 0 0] 26)).heap.size = w.heap.size + 1 := by simp
  generalize (w.alloc (.cells #[.slice none 0 0] 26)) = W1 at *
  have hge : w.heap.size + 1 ≤ W1.heap.size := by omega
  have hsq := HSQ.out W1 K0 hs1
  have HSZ := Lib.hid hs1
  clear hs1
  refine wpIn_rangeFunc_ownG rfl (by omega) (gf := 46) (lb := #[.pointer (some ⟨Bq, 0, none⟩), .pointer (some ⟨Bn, 0, none⟩)]) rfl trivial (enters_of Try.func46 (by kernel_rfl) rfl)
    hsq Keepn.trans (Keepn.turn (Nat.le_refl _)) (Below.refl _ _) (fun _ => rfl)
    (fun pre W => (∃ v, Boxed W w.heap.size 26 v ∧ W.ownsRow W1.heap.size 3 1 v pre.length (pre.map (Value.int .i64)) ∧ True) ∧ Keeps [w.heap.size] W1 W)
    (fun _ _ _ => False)
    (OwnFrom.and (Own.from (holdsRow_own W1.heap.size w.heap.size 26 3 1 (fun pre : List Int => pre.length) (fun pre : List Int => pre.map (Value.int .i64)) (fun _ _ => True)) _) (ownFrom_keeps (Nat.le_refl _)))
    (fun _ _ _ _ _ hs _ _ => hs)
    ⟨⟨_, bO, World.ownsRow_nil _ _ _ _, trivial⟩, Keeps.refl _ _⟩
    (fun x => { tmps := #[.slice none 0 0, .func (.func 46) #[] #[.pointer (some ⟨Bq, 0, none⟩), .pointer (some ⟨Bn, 0, none⟩)], .pointer (some ⟨w.heap.size, 0, none⟩), undef, .slice none 0 0, .int .i64 x, .func (.func 46) #[] #[.pointer (some ⟨Bq, 0, none⟩), .pointer (some ⟨Bn, 0, none⟩)], .int .i64 x, undef, undef, undef, undef, undef], defers := [] }) ?assign ?body ?done ?stop
  case assign =>
    intro l x W K hK
    gi_wp2
    exact hK
  case body =>
    rintro l pre x W ⟨⟨v, hv, hrow, _⟩, hK⟩ hlen
    have hc := hv.cell
    have hWsz := hK.size
    gi_wp2_with (gi_at_builtin; refine wpListIn_append_own _ rfl _ _ 26 rfl W1.heap.size 3 i0 (.int .i64 0) 1 8 Try.underlying26 hi hz0 hz1 hz2 rfl (by decide) _ _ _ rfl (hrow.alloc _) ⟨W.heap.size, 0, none⟩ 1 1 [.int .i64 x] rfl rfl (cell_one_new _ _ _) (by simp [Value.oneCell']) (by unfold maxLen; omega) (by omega) (by simp; omega) ?_; intro v' w1 hown' hgrow _; obtain ⟨g', cap', rfl⟩ := ownsRow_succ hown'; obtain ⟨hv1, hv2, hr2, hk2, hb2, hn2⟩ := boxed_append hv (by decide) hrow hown' hgrow; have hc1 := hv1.cell; have hf1 := hv1.frozen)
    have hK2 := hb2 [w.heap.size] W1 hK (.inl (by simp)) (Nat.le_refl _)
    exact ⟨hk2.from _, hn2 _ _ (by simp) (Nat.le_refl _) hWsz, ⟨_, hv2, by simpa using hr2, trivial⟩, hK2⟩
  case done =>
    rintro D ys W hD rfl ⟨⟨v, hv, hrow, _⟩, hK⟩ hKD
    have hc := hv.cell
    have HROW := Lib.hid hrow
    gi_wp2
    refine ⟨by simp, .inl ⟨_, _, rfl, run_takeDeferred hKD, ?_⟩⟩
    have hown : OwnI W w.heap.size v ys := OwnI.base (B := W1.heap.size) (by have := HROW.out; unfold OwnI; simpa using this) (by omega)
    refine ⟨v, by simp [results, Try.results45, go_sem], v, rfl, ownsRow_putObj hown _ hKD rfl, ?_⟩
    exact putObj_keeps ((K0.step hK (by simp))) (by omega) _
  case stop =>
    rintro D c pre W _ _ h _
    exact h.elim
set_option maxRecDepth 100000 in
theorem Collect_in {Bq Bn : Nat} {w : World} {R : List Int} (h : Calls Try.prog 45 #[.slice none 0 0, .func (.func 46) #[] #[.pointer (some ⟨Bq, 0, none⟩), .pointer (some ⟨Bn, 0, none⟩)]] w (AllPost R w)) :
    Calls Try.prog 30 #[.func (.func 46) #[] #[.pointer (some ⟨Bq, 0, none⟩), .pointer (some ⟨Bn, 0, none⟩)]] w (AllPost R w) := by
  have H := Lib.hid h
  clear h
  go_enter Try.func30, Try.ntmps30
  go_wp2_with fail
  refine H.out.mono ?_
  rintro e w' ⟨v, rfl, ho, hk⟩
  go_wp2_with fail
  go_ret
  exact ⟨v, rfl, ho, hk⟩
/-- Behind Due. -/
def DuePost (b : Nat) (O : List Nat) (L : List (Int × Int)) (now : Int) (w : World) (e : Ending) (w' : World) : Prop :=
  ∃ v, e = .returned v ∧ OwnI w' w.heap.size v (idsOf (L.take (dueN L now))) ∧ Qu w' b O (L.drop (dueN L now)) ∧ Keeps O w w'
theorem Good.drop {L : List (Int × Int)} (h : Good L) (k : Nat) : Good (L.drop k) := ⟨h.sorted.drop, by rw [List.map_drop]; exact h.ids.sublist (List.drop_sublist _ _)⟩
set_option maxRecDepth 1000000 in
set_option maxHeartbeats 2000000 in
theorem Due_in {w : World} {b : Nat} {O : List Nat} {L : List (Int × Int)} (h : Qu w b O L) (now : Int) : Calls Try.prog 13 #[.pointer (some ⟨b, 0, none⟩), .int .i64 now] w (DuePost b O L now w) := by
  obtain ⟨v, hq, rfl, hg, hl⟩ := h
  have lb := hq.lt
  have K0 : Keeps [] w ((w.alloc (.cells #[.pointer (some ⟨b, 0, none⟩)] 24)).alloc (.cells #[.int .i64 now] 2)) := ((Keeps.refl _ _).alloc _).alloc _
  have k1 := (Blk.new w 24 #[.pointer (some ⟨b, 0, none⟩)]).alloc (.cells #[.int .i64 now] 2)
  have k2 := Blk.new (w.alloc (.cells #[.pointer (some ⟨b, 0, none⟩)] 24)) 2 #[.int .i64 now]
  have zW : ((w.alloc (.cells #[.pointer (some ⟨b, 0, none⟩)] 24)).alloc (.cells #[.int .i64 now] 2)).heap.size = w.heap.size + 2 := by simp
  simp only [World.size_alloc] at k2
  have hq0 := hq.keep0 K0
  have HN := Lib.hid (until_in (some ⟨b, 0, none⟩) now w)
  generalize ((w.alloc (.cells #[.pointer (some ⟨b, 0, none⟩)] 24)).alloc (.cells #[.int .i64 now] 2)) = W at *
  have hA := AppendSeq_in (w := W) (Bq := w.heap.size) (Bn := w.heap.size + 1) (N := L.length) (R := idsOf (L.take (dueN L now))) (by omega) (by unfold idsOf; rw [List.length_map, List.length_take]; omega)
    (fun W1 kW hsz => until_stops 4 (by omega) b w.heap.size (w.heap.size + 1) W1.heap.size now [W.heap.size] v L W1 (by omega) (fun x hx => ⟨by have := lb.2 x hx; omega, by have := lb.2 x hx; simp; omega⟩) (by omega) (by omega) (by simp; omega) (by simp; omega) (by simp; omega) (by omega) (Nat.le_refl _) (k1.keeps kW (by simp)) (k2.keeps kW (by simp)) (hq0.keep0 kW))
  have HC := Lib.hid (Collect_in hA)
  have HK0 := Lib.hid K0
  have HQ := Lib.hid hq
  have HG := Lib.hid hg
  have hdl := dueN_le L now
  have HDL := Lib.hid (show (idsOf (L.take (dueN L now))).length = dueN L now by unfold idsOf; rw [List.length_map, List.length_take]; omega)
  obtain ⟨d, hd⟩ : ∃ d, dueN L now = d := ⟨_, rfl⟩
  have HD := Lib.hid hd
  rw [hd] at HC hdl HDL
  clear hq hg K0 k1 k2 hq0 hA hd
  unfold DuePost
  rw [HD.out]
  go_enter Try.func13, Try.ntmps13
  go_wp2_with fail
  refine HN.out.mono ?_
  rintro e w1 ⟨rfl, rfl⟩
  go_wp2_with fail
  refine HC.out.mono ?_
  rintro e w2 ⟨u, rfl, hu, hk⟩
  have K2 := HK0.out.trans hk
  obtain ⟨a1, c1, rfl⟩ := hu.shape
  rw [HDL.out]
  have hu2 : OwnI w2 w.heap.size (.slice a1 (idsOf (L.take d)).length c1) (idsOf (L.take d)) := hu.base (by omega)
  rw [HDL.out] at hu2
  clear hu
  by_cases hd0 : d = 0
  · subst hd0
    have HF := Lib.hid (show Qu w2 b (b :: v.ownBlock.toList) (L.drop 0) from ⟨v, HQ.out.keep0 K2, rfl, HG.out, hl⟩)
    go_wp2_with fail
    go_ret
    exact ⟨_, rfl, hu2, HF.out, K2.mono (by simp)⟩
  · have hq2 := HQ.out.keep0 K2
    have hc := hq2.blk.cellAt 1 _ rfl
    have hdI : (0 : Int) < d := by omega
    rcases hq2.own with ⟨rfl, rfl⟩ | ⟨g, cap, rfl, _, hr⟩
    · simp at hdl; exact absurd hdl hd0
    · have hDel := Lib.hid (Delete_in hr (i := 0) (j := d) (by omega) hdl)
      have hne := hq2.ne g rfl
      have HB := Lib.hid hq2.blk
      have hgl := hr.lt
      rw [List.take_zero, List.nil_append, Nat.sub_zero] at hDel
      have hgw : g < w.heap.size := lb.2 g rfl
      clear hq2 hr
      obtain ⟨n, hn⟩ : ∃ n, L.length = n := ⟨_, rfl⟩
      rw [hn] at hDel hc HB hl hdl
      have HNn := Lib.hid hn
      clear hn
      go_wp2_with fail
      refine hDel.out.mono ?_
      rintro e w3 ⟨rfl, hr3, k3⟩
      have hb3 := HB.out.keeps k3 (by simpa using hne)
      have hc3 := hb3.cellAt 1 _ rfl
      have hf3 := hb3.frozen 1
      have hb4 := hb3.put 1 (.slice (some ⟨g, 0, none⟩) (n - d) cap)
      have hlen : (L.drop d).length = n - d := by rw [List.length_drop, HNn.out]
      have k4 := (Keeps.refl [b] w3).setCell (p := ⟨b, 1, none⟩) (.inl (by simp)) (.slice (some ⟨g, 0, none⟩) (n - d) cap)
      have K4 : Keeps [b, g] w (w3.setCell ⟨b, 1, none⟩ (.slice (some ⟨g, 0, none⟩) (n - d) cap)) := ((K2.mono (by simp)).trans (k3.mono (by simp))).trans (k4.mono (by simp))
      have hr4 := hr3.keeps k4 (by simpa using fun e => hne e.symm)
      have hu4 := (hu2.keeps k3 (fun x hx => by have := hu2.from_ x hx; simp; omega)).keeps k4 (fun x hx => by have := hu2.from_ x hx; have := lb.1; simp; omega)
      have HF := Lib.hid (show Qu (w3.setCell ⟨b, 1, none⟩ (.slice (some ⟨g, 0, none⟩) (n - d) cap)) b [b, g] (L.drop d) from
        ⟨_, ⟨hb4, .inr ⟨g, cap, by rw [hlen], Nat.zero_le _, hr4⟩⟩, rfl, HG.out.drop d, by rw [hlen]; omega⟩)
      have HK4 := Lib.hid K4
      have HU4 := Lib.hid hu4
      clear hb3 hb4 hr3 hr4 K4 k4 hu4 hlen hu2
      go_wp2_with fail
      go_ret
      exact ⟨_, rfl, HU4.out, HF.out, HK4.out⟩
set_option maxRecDepth 1000000 in
set_option maxHeartbeats 2000000 in
theorem Due_bare {w : World} {p : Option Addr} (h : Bare w p) (now : Int) : Calls Try.prog 13 #[.pointer p, .int .i64 now] w (AllPost [] w) := by
  have K0 : Keeps [] w ((w.alloc (.cells #[.pointer p] 24)).alloc (.cells #[.int .i64 now] 2)) := ((Keeps.refl _ _).alloc _).alloc _
  have k1 := (Blk.new w 24 #[.pointer p]).alloc (.cells #[.int .i64 now] 2)
  have zW : ((w.alloc (.cells #[.pointer p] 24)).alloc (.cells #[.int .i64 now] 2)).heap.size = w.heap.size + 2 := by simp
  have h0 := h.keep0 K0
  have HN := Lib.hid (until_in p now w)
  generalize ((w.alloc (.cells #[.pointer p] 24)).alloc (.cells #[.int .i64 now] 2)) = W at *
  have hA := AppendSeq_in (w := W) (Bq := w.heap.size) (Bn := w.heap.size + 1) (N := 0) (R := []) (by omega) (by simp)
    (fun W1 kW hsz => until_none 4 (by omega) p w.heap.size (w.heap.size + 1) _ 0 _ W1 (k1.keeps kW (by simp)) (h0.keep0 kW))
  have HC := Lib.hid (Collect_in hA)
  have HK0 := Lib.hid K0
  clear h K0 k1 h0 hA
  go_enter Try.func13, Try.ntmps13
  go_wp2_with fail
  refine HN.out.mono ?_
  rintro e w1 ⟨rfl, rfl⟩
  go_wp2_with fail
  refine HC.out.mono ?_
  rintro e w2 ⟨u, rfl, hu, hk⟩
  have K2 := HK0.out.trans hk
  obtain ⟨a1, c1, rfl⟩ := hu.shape
  have hu2 : OwnI w2 w.heap.size (.slice a1 0 c1) [] := OwnI.base (xs := []) hu (by omega)
  clear hu
  go_wp2_with fail
  go_ret
  exact ⟨_, rfl, hu2, K2⟩
end Go.Proofs.Ytognnjaefaoefaa
