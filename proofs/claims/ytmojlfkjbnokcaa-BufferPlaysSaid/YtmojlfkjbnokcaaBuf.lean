/- What a buffer of package buffer is in memory, and the contracts of its methods that only touch its cells: made, Note, Len, Room, Over, Settle. Conditions: the receiver is a buffer that New or Copy made. -/
import Derived.Test.YtmojlfkjbnokcaaKit
namespace Go.Proofs.Ytmojlfkjbnokcaa
open Go.RowKit

/-- The 68 cells of a buffer: its ring, its size, where it begins, how many there are, and whether all did fit. -/
def bufCells (ring : List Int) (sz f n : Nat) (wh : Bool) : Array Value := (ring.map (Value.int .i64) ++ [Value.int .i64 sz, .int .i64 f, .int .i64 n, .bool wh]).toArray

/-- Block b is a buffer of size sz that holds the slots L; wh: all did fit. -/
def IsBuf (w : World) (b sz : Nat) (L : List Int) (wh : Bool) : Prop :=
  ∃ ring f, Blk w b 59 (bufCells ring sz f L.length wh) ∧ ring.length = 64 ∧ 0 < sz ∧ sz ≤ 64 ∧ f < sz ∧ L.length ≤ sz ∧ ∀ i, i < L.length → ring.getD ((f + i) % sz) 0 = L.getD i 0

theorem bufCells_ring {ring : List Int} {sz f n : Nat} {wh : Bool} (hr : ring.length = 64) {i : Nat} (hi : i < 64) : (bufCells ring sz f n wh)[i]? = some (.int .i64 (ring.getD i 0)) := by
  unfold bufCells
  rw [List.getElem?_toArray, List.getElem?_append_left (by simpa [hr] using hi)]
  simp [List.getElem?_eq_getElem (show i < ring.length by omega)]
theorem bufCells_at {ring : List Int} {sz f n : Nat} {wh : Bool} (hr : ring.length = 64) (i : Nat) : (bufCells ring sz f n wh)[64 + i]? = [Value.int .i64 sz, .int .i64 f, .int .i64 n, .bool wh][i]? := by
  unfold bufCells
  rw [List.getElem?_toArray, List.getElem?_append_right (by simp [hr])]
  simp [hr]
theorem bufCells_setRing {ring : List Int} {sz f n : Nat} {wh : Bool} (hr : ring.length = 64) {i : Nat} (hi : i < 64) (x : Int) : (bufCells ring sz f n wh).setIfInBounds i (.int .i64 x) = bufCells (ring.set i x) sz f n wh := by
  unfold bufCells
  rw [List.setIfInBounds_toArray, List.set_append_left _ _ (by simpa [hr] using hi), List.map_set]
theorem bufCells_setAt {ring : List Int} {sz f n : Nat} {wh : Bool} (hr : ring.length = 64) (i : Nat) (v : Value) : (bufCells ring sz f n wh).setIfInBounds (64 + i) v = (ring.map (Value.int .i64) ++ ([Value.int .i64 sz, .int .i64 f, .int .i64 n, .bool wh].set i v)).toArray := by
  unfold bufCells
  rw [List.setIfInBounds_toArray, List.set_append_right _ _ (by simp [hr])]
  simp [hr]

section
variable {w w' : World} {b sz : Nat} {L : List Int} {wh : Bool} {S : List Nat}
theorem IsBuf.lt (h : IsBuf w b sz L wh) : b < w.heap.size := by
  obtain ⟨_, _, hb, _⟩ := h
  exact hb.lt
theorem IsBuf.keeps (h : IsBuf w b sz L wh) (k : Keeps S w w') (hn : b ∉ S) : IsBuf w' b sz L wh := by
  obtain ⟨r, f, hb, hr⟩ := h
  exact ⟨r, f, hb.keeps k hn, hr⟩
theorem IsBuf.drewN (h : IsBuf w b sz L wh) (n : Nat) : IsBuf (w.drewN n) b sz L wh := h
theorem IsBuf.le (h : IsBuf w b sz L wh) : 0 < sz ∧ sz ≤ 64 ∧ L.length ≤ sz := by
  obtain ⟨_, _, _, _, h1, h2, _, h3, _⟩ := h
  exact ⟨h1, h2, h3⟩
theorem IsBuf.size (h : IsBuf w b sz L wh) : w.cell? ⟨b, 64, none⟩ = some (.int .i64 sz) := by
  obtain ⟨r, f, hb, hr, _⟩ := h
  exact hb.cellAt 64 _ (bufCells_at hr 0)
theorem IsBuf.count (h : IsBuf w b sz L wh) : w.cell? ⟨b, 66, none⟩ = some (.int .i64 L.length) := by
  obtain ⟨r, f, hb, hr, _⟩ := h
  exact hb.cellAt 66 _ (bufCells_at hr 2)
theorem IsBuf.whole (h : IsBuf w b sz L wh) : w.cell? ⟨b, 67, none⟩ = some (.bool wh) := by
  obtain ⟨r, f, hb, hr, _⟩ := h
  exact hb.cellAt 67 _ (bufCells_at hr 3)
theorem IsBuf.frozen (h : IsBuf w b sz L wh) (i : Nat) : w.frozen? ⟨b, i, none⟩ = false := by
  obtain ⟨r, f, hb, _⟩ := h
  exact hb.frozen i
theorem IsBuf.setWhole (h : IsBuf w b sz L wh) (x : Bool) : IsBuf (w.setCell ⟨b, 67, none⟩ (.bool x)) b sz L x := by
  obtain ⟨r, f, hb, hr, hrest⟩ := h
  refine ⟨r, f, ?_, hr, hrest⟩
  have := hb.put 67 (.bool x)
  rw [bufCells_setAt hr 3] at this
  exact this
end

set_option maxHeartbeats 400000 in
theorem made_yes {b : Nat} {n : Nat} {w : World} (hs : w.cell? ⟨b, 64, none⟩ = some (.int .i64 n)) (hn : 0 < n) :
    Calls Try.prog 28 #[.pointer (some ⟨b, 0, none⟩)] w fun e w' => e = .returned (.bool true) ∧ w = w' := by
  go_enter Try.func28, Try.ntmps28
  go_wp2
  go_ret
  exact ⟨rfl, rfl⟩
set_option maxHeartbeats 400000 in
theorem made_nil (w : World) :
    Calls Try.prog 28 #[.pointer none] w fun e w' => e = .returned (.bool false) ∧ w = w' := by
  go_enter Try.func28, Try.ntmps28
  go_wp2
  go_ret
  exact ⟨rfl, rfl⟩
set_option maxHeartbeats 400000 in
theorem made_no {b : Nat} {w : World} (hs : w.cell? ⟨b, 64, none⟩ = some (.int .i64 0)) :
    Calls Try.prog 28 #[.pointer (some ⟨b, 0, none⟩)] w fun e w' => e = .returned (.bool false) ∧ w = w' := by
  go_enter Try.func28, Try.ntmps28
  go_wp2
  go_ret
  exact ⟨rfl, rfl⟩

/-- Behind a call: the results v; block b is the buffer as said; nothing else has changed. -/
def BufPost (v : Value) (b sz : Nat) (L : List Int) (wh : Bool) (w : World) (e : Ending) (w' : World) : Prop := e = .returned v ∧ IsBuf w' b sz L wh ∧ Keeps [b] w w'

theorem note_world {w : World} {b sz : Nat} {L ring : List Int} {f : Nat} {wh : Bool} (hb : Blk w b 59 (bufCells ring sz f L.length wh)) (hr : ring.length = 64) (h0 : 0 < sz) (h64 : sz ≤ 64) (hf : f < sz) (hl : L.length < sz)
    (hL : ∀ i, i < L.length → ring.getD ((f + i) % sz) 0 = L.getD i 0) (s : Int) (k : Nat) :
    IsBuf (((w.drewN k).setCell ⟨b, (f + L.length) % sz, none⟩ (.int .i64 s)).setCell ⟨b, 66, none⟩ (.int .i64 ((L.length : Int) + 1))) b sz (L ++ [s]) wh := by
  have hm : (f + L.length) % sz < sz := Nat.mod_lt _ h0
  refine ⟨ring.set ((f + L.length) % sz) s, f, ?_, by simpa using hr, h0, h64, hf, by simp; omega, fun i hi => ?_⟩
  · have h1 := (hb.drewN k).put ((f + L.length) % sz) (.int .i64 s)
    rw [bufCells_setRing hr (by omega)] at h1
    have h2 := h1.put 66 (.int .i64 ((L.length : Int) + 1))
    rw [bufCells_setAt (by simpa using hr) 2] at h2
    have e : (bufCells (ring.set ((f + L.length) % sz) s) sz f (L ++ [s]).length wh) = ((ring.set ((f + L.length) % sz) s).map (Value.int .i64) ++ ([Value.int .i64 sz, .int .i64 f, .int .i64 L.length, .bool wh].set 2 (.int .i64 ((L.length : Int) + 1)))).toArray := by
      simp [bufCells]
    rw [e]
    exact h2
  · simp at hi
    rcases Nat.lt_or_ge i L.length with hlt | hge
    · have hne : (f + L.length) % sz ≠ (f + i) % sz := by
        intro he
        have e1 : (L.length - i) % sz = 0 := by
          have := Nat.sub_mod_eq_zero_of_mod_eq he
          rwa [show f + L.length - (f + i) = L.length - i by omega] at this
        rw [Nat.mod_eq_of_lt (by omega)] at e1
        omega
      have := hL i hlt
      simp only [List.getD_eq_getElem?_getD] at this ⊢
      rw [List.getElem?_set_ne hne, List.getElem?_append_left hlt]
      exact this
    · obtain rfl : i = L.length := by omega
      have : (f + L.length) % sz < ring.length := by omega
      simp [this]

set_option maxHeartbeats 800000 in
theorem note_ok {b sz : Nat} {L : List Int} {wh : Bool} {w : World} (h : IsBuf w b sz L wh) (s : Int) (s0 : 0 ≤ s) (s1 : s < 256) (hl : L.length < sz) :
    Calls Try.prog 12 #[.pointer (some ⟨b, 0, none⟩), .int .i64 s] w (BufPost (.tuple #[.bool true, .int .i64 0]) b sz (L ++ [s]) wh w) := by
  obtain ⟨ring, f, hb, hr, h0, h64, hf, _, hL⟩ := h
  have c64 : w.cell? ⟨b, 64, none⟩ = some (.int .i64 sz) := hb.cellAt 64 _ (bufCells_at hr 0)
  have c65 : w.cell? ⟨b, 65, none⟩ = some (.int .i64 f) := hb.cellAt 65 _ (bufCells_at hr 1)
  have c66 : w.cell? ⟨b, 66, none⟩ = some (.int .i64 L.length) := hb.cellAt 66 _ (bufCells_at hr 2)
  have hm : (f + L.length) % sz < sz := Nat.mod_lt _ h0
  have cx : w.cell? ⟨b, (f + L.length) % sz, none⟩ = some (.int .i64 (ring.getD ((f + L.length) % sz) 0)) := hb.cellAt _ _ (bufCells_ring hr (by omega))
  have hfr : ∀ i, w.frozen? ⟨b, i, none⟩ = false := hb.frozen
  have e1 : ((L.length : Int) == (sz : Int)) = false := by simp; omega
  have HB := Lib.hid hb
  have HL := Lib.hid hL
  have HR := Lib.hid hr
  clear hb hL hr
  generalize hn : L.length = n at *
  have HN := Lib.hid hn
  clear hn
  generalize ring.getD ((f + n) % sz) 0 = rx at *
  go_enter Try.func12, Try.ntmps12
  go_wp2_with (go_at_call 28; refine (made_yes c64 h0).mono ?_; rintro e w' ⟨rfl, rfl⟩)
  go_quiet (fail)
  go_wp2
  have ew : IntKind.i64.wrap ((f : Int) + n) = (f : Int) + n := IntWalk.i64_in _ (by omega)
  have em : ((f : Int) + n).tmod sz = ((f : Int) + n) % sz := Int.tmod_eq_emod_of_nonneg (by omega)
  have em0 : 0 ≤ ((f : Int) + n) % sz := Int.emod_nonneg _ (by omega)
  have em1 : ((f : Int) + n) % sz < sz := Int.emod_lt_of_pos _ (by omega)
  have em2 : (((f : Int) + n) % sz).toNat = (f + n) % sz := by rw [← Int.natCast_add, ← Int.natCast_emod, Int.toNat_natCast]
  go_region
  go_wp2
  go_ret2
  obtain rfl := HN.out
  exact ⟨rfl, note_world HB.out HR.out h0 h64 hf hl HL.out s _, (((Keeps.refl _ w).drewN _).setCell (.inl (by simp)) _).setCell (.inl (by simp)) _⟩

set_option maxHeartbeats 800000 in
theorem note_full {b sz : Nat} {L : List Int} {wh : Bool} {w : World} (h : IsBuf w b sz L wh) (s : Int) (s0 : 0 ≤ s) (s1 : s < 256) (hl : L.length = sz) :
    Calls Try.prog 12 #[.pointer (some ⟨b, 0, none⟩), .int .i64 s] w (BufPost (.tuple #[.bool false, .int .i64 0]) b sz L false w) := by
  have c64 := h.size
  have c66 := h.count
  have c67 := h.whole
  have hfr := h.frozen
  have h0 := h.le.1
  rw [hl] at c66
  have H := Lib.hid h
  clear h
  clear hl
  go_enter Try.func12, Try.ntmps12
  go_wp2_with (go_at_call 28; refine (made_yes c64 h0).mono ?_; rintro e w' ⟨rfl, rfl⟩)
  go_quiet (fail)
  go_wp2
  go_ret2
  exact ⟨rfl, (H.out.drewN _).setWhole false, ((Keeps.refl _ w).drewN _).setCell (.inl (by simp)) _⟩

set_option maxHeartbeats 800000 in
theorem note_range {b sz : Nat} {L : List Int} {wh : Bool} {w : World} (h : IsBuf w b sz L wh) (s : Int) (hs : s < 0 ∨ 256 ≤ s) :
    Calls Try.prog 12 #[.pointer (some ⟨b, 0, none⟩), .int .i64 s] w fun e w' => e = .returned (.tuple #[.bool false, .int .i64 3]) ∧ w = w' := by
  have c64 := h.size
  have h0 := h.le.1
  clear h
  rcases hs with hs | hs
  · go_enter Try.func12, Try.ntmps12
    go_wp2_with (go_at_call 28; refine (made_yes c64 h0).mono ?_; rintro e w' ⟨rfl, rfl⟩)
    go_ret2
    exact ⟨rfl, rfl⟩
  · go_enter Try.func12, Try.ntmps12
    go_wp2_with (go_at_call 28; refine (made_yes c64 h0).mono ?_; rintro e w' ⟨rfl, rfl⟩)
    go_ret2
    exact ⟨rfl, rfl⟩

theorem len_any {b sz : Nat} {L : List Int} {wh : Bool} {w : World} (h : IsBuf w b sz L wh) :
    Calls Try.prog 13 #[.pointer (some ⟨b, 0, none⟩)] w fun e w' => e = .returned (.int .i64 L.length) ∧ w = w' := by
  have c64 := h.size
  have c66 := h.count
  have h0 := h.le.1
  clear h
  go_enter Try.func13, Try.ntmps13
  go_wp2_with (go_at_call 28; refine (made_yes c64 h0).mono ?_; rintro e w' ⟨rfl, rfl⟩)
  go_ret
  exact ⟨rfl, rfl⟩

theorem room_any {b sz : Nat} {L : List Int} {wh : Bool} {w : World} (h : IsBuf w b sz L wh) :
    Calls Try.prog 14 #[.pointer (some ⟨b, 0, none⟩)] w fun e w' => e = .returned (.int .i64 ((sz : Int) - L.length)) ∧ ∃ n, w' = w.drewN n := by
  have c64 := h.size
  have c66 := h.count
  have h0 := h.le.1
  have h1 := h.le.2.1
  have h2 := h.le.2.2
  clear h
  go_enter Try.func14, Try.ntmps14
  go_wp2_with (go_at_call 28; refine (made_yes c64 h0).mono ?_; rintro e w' ⟨rfl, rfl⟩)
  go_quiet (fail)
  go_wp2
  go_ret
  exact ⟨rfl, _, rfl⟩

theorem over_any {b sz : Nat} {L : List Int} {wh : Bool} {w : World} (h : IsBuf w b sz L wh) :
    Calls Try.prog 15 #[.pointer (some ⟨b, 0, none⟩)] w fun e w' => e = .returned (.bool (!wh)) ∧ w = w' := by
  have c64 := h.size
  have c67 := h.whole
  have h0 := h.le.1
  clear h
  go_enter Try.func15, Try.ntmps15
  go_wp2_with (go_at_call 28; refine (made_yes c64 h0).mono ?_; rintro e w' ⟨rfl, rfl⟩)
  go_ret
  exact ⟨rfl, rfl⟩

theorem settle_any {b sz : Nat} {L : List Int} {wh : Bool} {w : World} (h : IsBuf w b sz L wh) :
    Calls Try.prog 18 #[.pointer (some ⟨b, 0, none⟩)] w (BufPost (.tuple #[]) b sz L true w) := by
  have c64 := h.size
  have c67 := h.whole
  have h0 := h.le.1
  have hfr := h.frozen
  have H := Lib.hid h
  clear h
  go_enter Try.func18, Try.ntmps18
  go_wp2_with (go_at_call 28; refine (made_yes c64 h0).mono ?_; rintro e w' ⟨rfl, rfl⟩)
  go_end0
  exact ⟨rfl, H.out.setWhole true, (Keeps.refl _ w).setCell (.inl (by simp)) _⟩

/-- Behind New: a new buffer in a new block. -/
def NewPost (sz : Nat) (w : World) (e : Ending) (w' : World) : Prop := e = .returned (.tuple #[.pointer (some ⟨w.heap.size, 0, none⟩), .int .i64 0]) ∧ IsBuf w' w.heap.size sz [] true ∧ Keeps [] w w' ∧ w.heap.size < w'.heap.size

/-- A buffer's zero value. -/
def bufZero : Array Value := bufCells (List.replicate 64 0) 0 0 0 false
theorem bufZero_size : bufZero.size = 68 := by simp [bufZero, bufCells]
theorem bufZero_run (w : World) : (zeroValue 59).run Try.prog w = .ok (.agg bufZero) w := by kernel_rfl
theorem bufZero_new (w : World) {sz : Nat} (h0 : 0 < sz) (h1 : sz ≤ 64) : IsBuf (w.alloc (.cells ((bufZero.setIfInBounds 64 (.int .i64 sz)).setIfInBounds 67 (.bool true)) 59)) w.heap.size sz [] true := by
  refine ⟨List.replicate 64 0, 0, ?_, by simp, h0, h1, h0, by simp, by simp⟩
  have e : (bufZero.setIfInBounds 64 (.int .i64 sz)).setIfInBounds 67 (.bool true) = bufCells (List.replicate 64 0) sz 0 0 true := by
    unfold bufZero bufCells
    simp [List.replicate]
  rw [e]
  exact Blk.new _ _ _

set_option maxHeartbeats 800000 in
theorem new_ok {sz : Nat} (h0 : 0 < sz) (h1 : sz ≤ 64) (w : World) :
    Calls Try.prog 19 #[.int .i64 sz] w (NewPost sz w) := by
  have hz := bufZero_run
  have hs1 : ¬ bufZero.size < 65 := by rw [bufZero_size]; omega
  have hs2 : ¬ bufZero.size < 68 := by rw [bufZero_size]; omega
  go_enter Try.func19, Try.ntmps19
  go_wp2
  go_ret2
  exact ⟨rfl, bufZero_new w h0 h1, (Keeps.refl _ w).alloc _, by simp⟩

theorem new_no {n : Int} (h : n < 1 ∨ 64 < n) (w : World) :
    Calls Try.prog 19 #[.int .i64 n] w fun e w' => e = .returned (.tuple #[.pointer none, .int .i64 2]) ∧ w = w' := by
  rcases h with h | h
  · go_enter Try.func19, Try.ntmps19
    go_wp2
    go_ret2
    exact ⟨rfl, rfl⟩
  · go_enter Try.func19, Try.ntmps19
    go_wp2
    go_ret2
    exact ⟨rfl, rfl⟩
end Go.Proofs.Ytmojlfkjbnokcaa
