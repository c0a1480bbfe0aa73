/- The contract of Next. Condition: a set that New or Copy made; the table of trailing zeros lies in its block. -/
import Derived.Test.YtcdnflffpeijfaaDoorFirst
namespace Go.Proofs.YtcdnflffpeijfaaDoor
open Go.RowKit Go.Shelf

attribute [local go_sem] Oper.semAt_some

/-- The first number from one on, and whether there is one. -/
def firstOf (l : List Nat) : Int × Bool := match l with
  | [] => (0, false)
  | x :: _ => ((x : Int), true)

set_option maxRecDepth 100000 in
set_option maxHeartbeats 2000000 in
theorem Next_in {b gb sz f : Nat} {fr : Int} {ws : List Nat} {w : World} (hB : IsSet w b gb sz ws) (hT : Table w) (hf : max fr 0 = (f : Int)) (hf63 : (f : Int) ≤ 9223372036854775807) :
    Calls Tryd.prog 11 #[.pointer (some ⟨b, 0, none⟩), .int .i64 fr] w fun e w' => e = .returned (.tuple #[.int .i64 (firstOf (numsFrom ws f)).1, .bool (firstOf (numsFrom ws f)).2]) ∧ Keeps [] w w' := by
  refine (callsIn_wide (n := 5)).1 ?_
  refine callsIn_of_wp_marks Tryd.func11 rfl trivial ?_ rfl
  simp only [Tryd.ntmps11, List.size_toArray, List.length_cons, List.length_nil, Nat.reduceAdd, Nat.reduceSub, Array.replicate_succ, Array.replicate_zero, List.push_toArray, List.append_toArray, List.nil_append, List.cons_append]
  have l1 := hB.lt.1
  have l2 := hB.lt.2
  have H := Lib.hid hB
  have HT := Lib.hid hT
  have HF := Lib.hid hf
  clear hB hT hf
  gi_wp2_with (refine ⟨trivial, ?_⟩; gi_at_call 35; refine (callsIn_wide.2 (numbers_in (some ⟨b, 0, none⟩) fr _)).mono ?_; rintro e w' ⟨rfl, rfl⟩)
  have K0 : Keeps [] w ((((w.alloc (.cells #[.int .i64 0] 3)).alloc (.cells #[.bool false] 4)).alloc (.cells #[.pointer (some ⟨b, 0, none⟩)] 24)).alloc (.cells #[.int .i64 fr] 3)) := ((((Keeps.refl [] w).alloc _).alloc _).alloc _).alloc _
  have k4 := (((Blk.new w 3 #[.int .i64 0]).alloc (.cells #[.bool false] 4)).alloc (.cells #[.pointer (some ⟨b, 0, none⟩)] 24)).alloc (.cells #[.int .i64 fr] 3)
  have k5 := ((Blk.new (w.alloc (.cells #[.int .i64 0] 3)) 4 #[.bool false]).alloc (.cells #[.pointer (some ⟨b, 0, none⟩)] 24)).alloc (.cells #[.int .i64 fr] 3)
  have kb := (Blk.new ((w.alloc (.cells #[.int .i64 0] 3)).alloc (.cells #[.bool false] 4)) 24 #[.pointer (some ⟨b, 0, none⟩)]).alloc (.cells #[.int .i64 fr] 3)
  have kf := Blk.new (((w.alloc (.cells #[.int .i64 0] 3)).alloc (.cells #[.bool false] 4)).alloc (.cells #[.pointer (some ⟨b, 0, none⟩)] 24)) 3 #[.int .i64 fr]
  simp only [World.size_alloc] at k5 kb kf
  have hsz : ((((w.alloc (.cells #[.int .i64 0] 3)).alloc (.cells #[.bool false] 4)).alloc (.cells #[.pointer (some ⟨b, 0, none⟩)] 24)).alloc (.cells #[.int .i64 fr] 3)).heap.size = w.heap.size + 4 := by simp
  generalize ((((w.alloc (.cells #[.int .i64 0] 3)).alloc (.cells #[.bool false] 4)).alloc (.cells #[.pointer (some ⟨b, 0, none⟩)] 24)).alloc (.cells #[.int .i64 fr] 3)) = W1 at *
  have hge : w.heap.size + 4 ≤ W1.heap.size := by omega
  clear hsz
  refine wpIn_range_first (α := Nat) rfl (by omega) (gf := 52) (lb := #[.pointer (some ⟨w.heap.size + 1 + 1, 0, none⟩), .pointer (some ⟨w.heap.size + 1 + 1 + 1, 0, none⟩)]) rfl trivial (enters_of Tryd.func52 (by kernel_rfl) rfl)
    (numbers_first 4 (by omega) b gb (w.heap.size + 1 + 1) (w.heap.size + 1 + 1 + 1) W1.heap.size sz fr f HF.out [] ws W1 (by omega) (by omega) (by omega) (by omega) (by simp) (by simp) (by simp) (by simp) (by simp) hf63 kb kf (H.out.keeps K0 (by simp) (by simp)) (HT.out.keeps K0 (by omega) (by simp)) (by omega) (by omega) (by omega) (by omega))
    (by show w.heap.size + 1 + 1 + 1 < _; omega) (fun _ => rfl)
    (fun x W => Blk W w.heap.size 3 #[.int .i64 (x : Nat)] ∧ Blk W (w.heap.size + 1) 4 #[.bool true] ∧ Keeps [] w W)
    ?hIx
    (fun x => { tmps := #[.pointer (some ⟨b, 0, none⟩), .int .i64 fr, undef, undef, .pointer (some ⟨w.heap.size, 0, none⟩), .pointer (some ⟨w.heap.size + 1, 0, none⟩), .int .i64 (x : Nat), .pointer (some ⟨b, 0, none⟩), .int .i64 fr,
      .func (.func 52) #[] #[.pointer (some ⟨w.heap.size + 1 + 1, 0, none⟩), .pointer (some ⟨w.heap.size + 1 + 1 + 1, 0, none⟩)], .int .i64 (x : Nat), undef], defers := [] }) ?assign ?body ?done ?stop
  case hIx =>
    rintro x W l o o' hl ho hc ⟨h1, h2, h3⟩
    exact ⟨h1.putObj _ ho hc, h2.putObj _ ho hc, putObj_keeps h3 (by omega) _⟩
  case assign =>
    intro l x W K hK
    gi_wp2
    exact hK
  case body =>
    rintro l x W hK
    have h4 := (k4.far (p := ⟨w.heap.size + 1 + 1 + 1, 0, none⟩) (by show _ ≠ w.heap.size + 1 + 1 + 1; omega) (.int .i64 f)).keeps hK (by simp)
    have h5 := (k5.far (p := ⟨w.heap.size + 1 + 1 + 1, 0, none⟩) (by show _ ≠ w.heap.size + 1 + 1 + 1; omega) (.int .i64 f)).keeps hK (by simp)
    have c4 := h4.cellAt 0 _ rfl
    have c5 := h5.cellAt 0 _ rfl
    have f4 := h4.frozen 0
    have f5 := h5.frozen 0
    have HW : Keeps [] w W := (K0.setCell (p := ⟨w.heap.size + 1 + 1 + 1, 0, none⟩) (.inr (by show _ ≤ w.heap.size + 1 + 1 + 1; omega)) (.int .i64 f)).trans hK
    gi_wp2
    refine ⟨((KeepsOthers.setCell _ _ _).trans (KeepsOthers.setCell _ _ _)).from _, ?_, ?_, ?_⟩
    · exact (h4.put 0 _).far (by simp) _
    · exact (h5.far (by simp) _).put 0 _
    · exact (HW.setCell (.inr (by simp)) _).setCell (.inr (by simp)) _
  case done =>
    rintro D W hD hS hK hKD
    have h4 := (k4.far (p := ⟨w.heap.size + 1 + 1 + 1, 0, none⟩) (by show _ ≠ w.heap.size + 1 + 1 + 1; omega) (.int .i64 f)).keeps hK (by simp)
    have h5 := (k5.far (p := ⟨w.heap.size + 1 + 1 + 1, 0, none⟩) (by show _ ≠ w.heap.size + 1 + 1 + 1; omega) (.int .i64 f)).keeps hK (by simp)
    have c4 := h4.cellAt 0 _ rfl
    have c5 := h5.cellAt 0 _ rfl
    have f4 := h4.frozen 0
    have f5 := h5.frozen 0
    have HW : Keeps [] w W := (K0.setCell (p := ⟨w.heap.size + 1 + 1 + 1, 0, none⟩) (.inr (by show _ ≤ w.heap.size + 1 + 1 + 1; omega)) (.int .i64 f)).trans hK
    have hw4 := (h4.put 0 (.int .i64 0)).far (p := ⟨w.heap.size + 1, 0, none⟩) (by simp) (.bool false)
    have hw5 := (h5.far (p := ⟨w.heap.size, 0, none⟩) (by simp) (.int .i64 0)).put 0 (.bool false)
    have hKD2 : ((W.setCell ⟨w.heap.size, 0, none⟩ (.int .i64 0)).setCell ⟨w.heap.size + 1, 0, none⟩ (.bool false)).heap[D]? = some (.deferred (some [])) :=
      (Below.heap_setCell _ _ _ _ (by show D ≠ w.heap.size + 1; omega)).trans ((Below.heap_setCell _ _ _ _ (by show D ≠ w.heap.size; omega)).trans hKD)
    have d4 := (hw4.putObj (.deferred none) hKD2 rfl).cellAt 0 (.int .i64 0) rfl
    have d5 := (hw5.putObj (.deferred none) hKD2 rfl).cellAt 0 (.bool false) rfl
    have HKF : Keeps [] w (((W.setCell ⟨w.heap.size, 0, none⟩ (.int .i64 0)).setCell ⟨w.heap.size + 1, 0, none⟩ (.bool false)).putObj D (.deferred none)) := putObj_keeps ((HW.setCell (.inr (by simp)) _).setCell (.inr (by simp)) _) (by omega) _
    have HD4 := Lib.hid d4
    have HD5 := Lib.hid d5
    have HD2 := Lib.hid hKD2
    have HS := Lib.hid hS
    clear hw4 hw5 h4 h5 d4 d5 hKD2 hKD hS
    gi_wp2
    have d4 := HD4.out
    have d5 := HD5.out
    refine ⟨by simp, .inl ⟨_, _, rfl, run_takeDeferred HD2.out, ?_⟩⟩
    refine ⟨.tuple #[.int .i64 0, .bool false], ?_, ?_, HKF⟩
    · generalize ((W.setCell ⟨w.heap.size, 0, none⟩ (.int .i64 0)).setCell ⟨w.heap.size + 1, 0, none⟩ (.bool false)) = W2 at *
      simp [results, Tryd.results11, go_sem, d4, d5]
    · rw [← HS.out]; rfl
  case stop =>
    rintro D x W hD hp ⟨h4, h5, HW⟩ hKD
    have c4 := (h4.putObj (.deferred none) hKD rfl).cellAt 0 _ rfl
    have c5 := (h5.putObj (.deferred none) hKD rfl).cellAt 0 _ rfl
    gi_wp2
    refine ⟨by simp, .inl ⟨_, _, rfl, run_takeDeferred hKD, ?_⟩⟩
    refine ⟨.tuple #[.int .i64 (x : Nat), .bool true], ?_, ?_, putObj_keeps HW (by omega) _⟩
    · simp [results, Tryd.results11, go_sem, c4, c5]
    · obtain ⟨t, ht⟩ := hp
      rw [← ht]
      rfl
end Go.Proofs.YtcdnflffpeijfaaDoor
