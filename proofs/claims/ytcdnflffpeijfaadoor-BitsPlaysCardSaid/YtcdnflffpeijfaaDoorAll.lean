/- The contracts of slices.AppendSeq, slices.Collect and All. Condition: a set that New or Copy made; the table of trailing zeros lies in its block. -/
import Derived.Test.YtcdnflffpeijfaaDoorNumbers
namespace Go.Proofs.YtcdnflffpeijfaaDoor
open Go.RowKit Go.Shelf

attribute [local go_sem] Oper.semAt_some

theorem Tryd.info3 : (Tryd.prog.info? 3).map (fun i => (i.zero, i.size, i.bytes)) = some (some (.int .i64 0), 1, 8) := by kernel_rfl

/-- A list of numbers as integers. -/
def asInts (l : List Nat) : List Int := l.map fun x : Nat => (x : Int)
/-- Behind All: a new slice of the numbers; nothing else has changed. -/
def AllPost (ys : List Nat) (w : World) (e : Ending) (w' : World) : Prop := ∃ v, e = .returned v ∧ OwnI w' w.heap.size v (asInts ys) ∧ Keeps [] w w'

set_option maxRecDepth 100000 in
set_option maxHeartbeats 2000000 in
theorem AppendSeq_in {b gb sz f Bs Bf : Nat} {ws : List Nat} {w : World} (hB : IsSet w b gb sz ws) (hT : Table w) (hf63 : (f : Int) ≤ 9223372036854775807)
    (cs : Blk w Bs 24 #[.pointer (some ⟨b, 0, none⟩)]) (cf : Blk w Bf 3 #[.int .i64 f]) (hBs0 : Bs ≠ Bf) (hBb0 : b ≠ Bf) (hBg0 : gb ≠ Bf) (hB00 : 0 ≠ Bf) :
    Calls Tryd.prog 55 #[.slice none 0 0, .func (.func 52) #[] #[.pointer (some ⟨Bs, 0, none⟩), .pointer (some ⟨Bf, 0, none⟩)]] w (AllPost (numsFrom ws f) w) := by
  obtain ⟨i0, hi, hz0, hz1, hz2⟩ := info_parts Tryd.info3
  refine (callsIn_wide (n := 5)).1 ?_
  refine callsIn_of_wp_marks Tryd.func55 rfl trivial ?_ rfl
  simp only [Tryd.ntmps55, List.size_toArray, List.length_cons, List.length_nil, Nat.reduceAdd, Nat.reduceSub, Array.replicate_succ, Array.replicate_zero, List.push_toArray, List.append_toArray, List.nil_append, List.cons_append]
  have hsz : sz ≤ 4096 := hB.most
  have l1 := hB.lt.1
  have l2 := hB.lt.2
  have l3 := cs.lt
  have l4 := cf.lt
  have H := Lib.hid hB
  have HT := Lib.hid hT
  have HCS := Lib.hid cs
  have HCF := Lib.hid cf
  clear hB hT cs cf
  gi_wp2_with fail
  have bO := Boxed.new w 28 (.slice none 0 0)
  have K0 : Keeps [] w (w.alloc (.cells #[.slice none 0 0] 28)) := (Keeps.refl _ _).alloc _
  have hB1 := H.out.keeps K0 (by simp) (by simp)
  have hT1 := HT.out.keeps K0 (by omega) (by simp)
  have kb1 := HCS.out.keeps K0 (by simp)
  have kf1 := HCF.out.keeps K0 (by simp)
  have hs1 : (w.alloc (.cells #[.slice none 0 0] 28)).heap.size = w.heap.size + 1 := by simp
  generalize (w.alloc (.cells #[.slice none 0 0] 28)) = W1 at *
  have hge : w.heap.size + 1 ≤ W1.heap.size := by omega
  have HSZ := Lib.hid hs1
  clear hs1
  refine wpIn_rangeFunc_ownG rfl (by omega) (gf := 52) (lb := #[.pointer (some ⟨Bs, 0, none⟩), .pointer (some ⟨Bf, 0, none⟩)]) rfl trivial (enters_of Tryd.func52 (by kernel_rfl) rfl)
    (numbers_stops 4 (by omega) b gb Bs Bf W1.heap.size sz f [w.heap.size] ws W1 (by omega) (by omega) (by omega) (by omega) (by simp; omega) (by simp; omega) (by simp; omega) (by simp; omega) (by simp; omega) hf63 kb1 kf1 hB1 hT1 hBs0 hBb0 hBg0 hB00) Keepn.trans (Keepn.turn (Nat.le_refl _)) (Below.refl _ _) (fun _ => rfl)
    (fun pre W => (∃ v, Boxed W w.heap.size 28 v ∧ W.ownsRow W1.heap.size 3 1 v pre.length ((asInts pre).map (Value.int .i64)) ∧ True) ∧ Keeps [w.heap.size] W1 W)
    (fun _ _ _ => False)
    (OwnFrom.and (Own.from (holdsRow_own W1.heap.size w.heap.size 28 3 1 (fun pre : List Nat => pre.length) (fun pre : List Nat => (asInts pre).map (Value.int .i64)) (fun _ _ => True)) _) (ownFrom_keeps (Nat.le_refl _)))
    (fun _ _ _ _ _ hs _ _ => hs)
    ⟨⟨_, bO, World.ownsRow_nil _ _ _ _, trivial⟩, Keeps.refl _ _⟩
    (fun x => { tmps := #[.slice none 0 0, .func (.func 52) #[] #[.pointer (some ⟨Bs, 0, none⟩), .pointer (some ⟨Bf, 0, none⟩)], .pointer (some ⟨w.heap.size, 0, none⟩), undef, .slice none 0 0, .int .i64 (x : Nat), .func (.func 52) #[] #[.pointer (some ⟨Bs, 0, none⟩), .pointer (some ⟨Bf, 0, none⟩)], .int .i64 (x : Nat), undef, undef, undef, undef, undef], defers := [] }) ?assign ?body ?done ?stop
  case assign =>
    intro l x W K hK
    gi_wp2
    exact hK
  case body =>
    rintro l pre x W ⟨⟨v, hv, hrow, _⟩, hK⟩ hlen
    have hc := hv.cell
    have hWsz := hK.size
    gi_wp2_with (gi_at_builtin; refine wpListIn_append_own _ rfl _ _ 28 rfl W1.heap.size 3 i0 (.int .i64 0) 1 8 Tryd.underlying28 hi hz0 hz1 hz2 rfl (by decide) _ _ _ rfl (hrow.alloc _) ⟨W.heap.size, 0, none⟩ 1 1 [.int .i64 (x : Nat)] rfl rfl (cell_one_new _ _ _) (by simp [Value.oneCell']) (by unfold maxLen; omega) (by omega) (by simp; omega) ?_; intro v' w1 hown' hgrow _; obtain ⟨g', cap', rfl⟩ := ownsRow_succ hown'; obtain ⟨hv1, hv2, hr2, hk2, hb2, hn2⟩ := boxed_append hv (by decide) hrow hown' hgrow; have hc1 := hv1.cell; have hf1 := hv1.frozen)
    have hK2 := hb2 [w.heap.size] W1 hK (.inl (by simp)) (Nat.le_refl _)
    exact ⟨hk2.from _, hn2 _ _ (by simp) (Nat.le_refl _) hWsz, ⟨_, hv2, by simpa [asInts] using hr2, trivial⟩, hK2⟩
  case done =>
    rintro D ys W hD rfl ⟨⟨v, hv, hrow, _⟩, hK⟩ hKD
    have hc := hv.cell
    have HROW := Lib.hid hrow
    gi_wp2
    refine ⟨by simp, .inl ⟨_, _, rfl, run_takeDeferred hKD, ?_⟩⟩
    have hown : OwnI W w.heap.size v (asInts (numsFrom ws f)) := OwnI.base (B := W1.heap.size) (by have := HROW.out; unfold OwnI; simpa [asInts] using this) (by omega)
    refine ⟨v, by simp [results, Tryd.results55, go_sem], v, rfl, ownsRow_putObj hown _ hKD rfl, ?_⟩
    exact putObj_keeps ((K0.step hK (by simp))) (by omega) _
  case stop =>
    rintro D c pre W _ _ h _
    exact h.elim
set_option maxRecDepth 100000 in
set_option maxHeartbeats 2000000 in
theorem All_in {b gb sz : Nat} {ws : List Nat} {w : World} (hB : IsSet w b gb sz ws) (hT : Table w) : Calls Tryd.prog 22 #[.pointer (some ⟨b, 0, none⟩)] w (AllPost (numsFrom ws 0) w) := by
  have l1 := hB.lt.1
  have l2 := hB.lt.2
  have K0 : Keeps [] w ((w.alloc (.cells #[.pointer (some ⟨b, 0, none⟩)] 24)).alloc (.cells #[.int .i64 0] 3)) := ((Keeps.refl _ _).alloc _).alloc _
  have k1 := (Blk.new w 24 #[.pointer (some ⟨b, 0, none⟩)]).alloc (.cells #[.int .i64 0] 3)
  have k2 := Blk.new (w.alloc (.cells #[.pointer (some ⟨b, 0, none⟩)] 24)) 3 #[.int .i64 0]
  simp only [World.size_alloc] at k2
  have H := Lib.hid (AppendSeq_in (f := 0) (hB.keeps K0 (by simp) (by simp)) (hT.keeps K0 (by omega) (by simp)) (by omega) k1 k2 (by omega) (by omega) (by omega) (by omega))
  have HK0 := Lib.hid K0
  have HN := Lib.hid (numbers_in (some ⟨b, 0, none⟩) 0 w)
  clear hB hT k1 k2 K0
  have HC : Hid (Calls Tryd.prog 41 #[.func (.func 52) #[] #[.pointer (some ⟨w.heap.size, 0, none⟩), .pointer (some ⟨w.heap.size + 1, 0, none⟩)]] ((w.alloc (.cells #[.pointer (some ⟨b, 0, none⟩)] 24)).alloc (.cells #[.int .i64 0] 3)) (AllPost (numsFrom ws 0) ((w.alloc (.cells #[.pointer (some ⟨b, 0, none⟩)] 24)).alloc (.cells #[.int .i64 0] 3)))) := by
    refine Lib.hid ?_
    go_enter Tryd.func41, Tryd.ntmps41
    go_wp2_with fail
    refine H.out.mono ?_
    rintro e w' ⟨v, rfl, ho, hk⟩
    go_wp2_with fail
    go_ret
    exact ⟨v, rfl, ho, hk⟩
  go_enter Tryd.func22, Tryd.ntmps22
  go_wp2_with fail
  refine HN.out.mono ?_
  rintro e w' ⟨rfl, rfl⟩
  go_wp2_with fail
  refine HC.out.mono ?_
  rintro e w' ⟨v, rfl, ho, hk⟩
  go_wp2_with fail
  go_ret
  exact ⟨v, rfl, ho.base (by simp; omega), HK0.out.trans hk⟩
end Go.Proofs.YtcdnflffpeijfaaDoor
