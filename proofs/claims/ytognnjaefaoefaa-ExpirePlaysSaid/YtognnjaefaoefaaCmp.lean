/- The contracts of cmp.Compare, cmp.Or and of the order of entries. No condition. -/
import Derived.Test.YtognnjaefaoefaaFind2
import Derived.Deep.RegionHeld3
namespace Go.Proofs.Ytognnjaefaoefaa
open Go.RowKit

def cmpI (a b : Int) : Int := if a < b then -1 else if b < a then 1 else 0
def orI (x y : Int) : Int := if x = 0 then y else x
/-- The order of entries: by time, then by id. -/
def cmpE (a b : Int × Int) : Int := orI (cmpI a.2 b.2) (cmpI a.1 b.1)
set_option maxRecDepth 100000 in
theorem nan49 (a : Int) (w : World) : Calls Try.prog 49 #[.int .i64 a] w fun e w' => e = .returned (.bool false) ∧ w = w' := by
  have h : (a != a) = false := by simp
  go_enter Try.func49, Try.ntmps49
  go_wp2
  go_ret
  exact ⟨rfl, rfl⟩
set_option maxRecDepth 100000 in
theorem nan50 (a : Int) (w : World) : Calls Try.prog 50 #[.int .i64 a] w fun e w' => e = .returned (.bool false) ∧ w = w' := by
  have h : (a != a) = false := by simp
  go_enter Try.func50, Try.ntmps50
  go_wp2
  go_ret
  exact ⟨rfl, rfl⟩
set_option maxRecDepth 100000 in
theorem Cmp38 (a b : Int) (w : World) : Calls Try.prog 38 #[.int .i64 a, .int .i64 b] w fun e w' => e = .returned (.int .i64 (cmpI a b)) ∧ w = w' := by
  have h1 := Lib.hid (nan49 a w)
  have h2 := Lib.hid (nan49 b w)
  unfold cmpI
  by_cases c1 : a < b
  · rw [if_pos c1]
    go_enter Try.func38, Try.ntmps38
    go_wp2_with fail
    refine h1.out.mono ?_
    rintro e w' ⟨rfl, rfl⟩
    go_wp2_with fail
    refine h2.out.mono ?_
    rintro e w' ⟨rfl, rfl⟩
    go_wp2_with fail
    go_ret
    exact ⟨rfl, rfl⟩
  · rw [if_neg c1]
    by_cases c2 : b < a
    · rw [if_pos c2]
      go_enter Try.func38, Try.ntmps38
      go_wp2_with fail
      refine h1.out.mono ?_
      rintro e w' ⟨rfl, rfl⟩
      go_wp2_with fail
      refine h2.out.mono ?_
      rintro e w' ⟨rfl, rfl⟩
      go_wp2_with fail
      go_ret
      exact ⟨rfl, rfl⟩
    · rw [if_neg c2]
      go_enter Try.func38, Try.ntmps38
      go_wp2_with fail
      refine h1.out.mono ?_
      rintro e w' ⟨rfl, rfl⟩
      go_wp2_with fail
      refine h2.out.mono ?_
      rintro e w' ⟨rfl, rfl⟩
      go_wp2_with fail
      go_ret
      exact ⟨rfl, rfl⟩
set_option maxRecDepth 100000 in
theorem Cmp39 (a b : Int) (w : World) : Calls Try.prog 39 #[.int .i64 a, .int .i64 b] w fun e w' => e = .returned (.int .i64 (cmpI a b)) ∧ w = w' := by
  have h1 := Lib.hid (nan50 a w)
  have h2 := Lib.hid (nan50 b w)
  unfold cmpI
  by_cases c1 : a < b
  · rw [if_pos c1]
    go_enter Try.func39, Try.ntmps39
    go_wp2_with fail
    refine h1.out.mono ?_
    rintro e w' ⟨rfl, rfl⟩
    go_wp2_with fail
    refine h2.out.mono ?_
    rintro e w' ⟨rfl, rfl⟩
    go_wp2_with fail
    go_ret
    exact ⟨rfl, rfl⟩
  · rw [if_neg c1]
    by_cases c2 : b < a
    · rw [if_pos c2]
      go_enter Try.func39, Try.ntmps39
      go_wp2_with fail
      refine h1.out.mono ?_
      rintro e w' ⟨rfl, rfl⟩
      go_wp2_with fail
      refine h2.out.mono ?_
      rintro e w' ⟨rfl, rfl⟩
      go_wp2_with fail
      go_ret
      exact ⟨rfl, rfl⟩
    · rw [if_neg c2]
      go_enter Try.func39, Try.ntmps39
      go_wp2_with fail
      refine h1.out.mono ?_
      rintro e w' ⟨rfl, rfl⟩
      go_wp2_with fail
      refine h2.out.mono ?_
      rintro e w' ⟨rfl, rfl⟩
      go_wp2_with fail
      go_ret
      exact ⟨rfl, rfl⟩
set_option maxRecDepth 100000 in
theorem Or_in {g : Nat} {x y : Int} {w : World} (h : Blk w g 3 #[.int .i64 x, .int .i64 y]) : Calls Try.prog 37 #[.slice (some ⟨g, 0, none⟩) 2 2] w fun e w' => e = .returned (.int .i64 (orI x y)) ∧ w = w' := by
  have c0 := h.cellAt 0 _ rfl
  have c1 := h.cellAt 1 _ rfl
  clear h
  unfold orI
  by_cases h1 : x = 0
  · rw [if_pos h1]
    subst h1
    by_cases h2 : y = 0
    · subst h2
      go_enter Try.func37, Try.ntmps37
      go_wp2_with fail
      refine wp_loop_rounds 3 ?_
      rw [rounds_succ]
      go_wp2_with fail
      rw [rounds_succ]
      go_wp2_with fail
      rw [rounds_succ]
      go_wp2_with fail
      go_ret
      exact ⟨rfl, rfl⟩
    · have hb : (y != 0) = true := by simpa using h2
      go_enter Try.func37, Try.ntmps37
      go_wp2_with fail
      refine wp_loop_rounds 3 ?_
      rw [rounds_succ]
      go_wp2_with fail
      rw [rounds_succ]
      go_wp2_with fail
      go_ret
      exact ⟨rfl, rfl⟩
  · rw [if_neg h1]
    have hb : (x != 0) = true := by simpa using h1
    go_enter Try.func37, Try.ntmps37
    go_wp2_with fail
    refine wp_loop_rounds 3 ?_
    rw [rounds_succ]
    go_wp2_with fail
    go_ret
    exact ⟨rfl, rfl⟩
set_option maxRecDepth 1000000 in
set_option maxHeartbeats 4000000 in
theorem cmpE_in (a b : Int × Int) (w : World) : Calls Try.prog 36 #[.agg #[.int .i64 a.1, .int .i64 a.2], .agg #[.int .i64 b.1, .int .i64 b.2]] w fun e w' => e = .returned (.int .i64 (cmpE a b)) ∧ Keeps [] w w' := by
  obtain ⟨i, s⟩ := a
  obtain ⟨j, t⟩ := b
  unfold cmpE
  dsimp only
  have h38 := Lib.hid (fun w => Cmp38 s t w)
  have h39 := Lib.hid (fun w => Cmp39 i j w)
  have hOr := Lib.hid (fun (x y : Int) (g : Nat) (w : World) (h : Blk w g 3 #[.int .i64 x, .int .i64 y]) => Or_in h)
  go_enter Try.func36, Try.ntmps36
  go_wp2_with fail
  have b0 := (Blk.new w 61 #[.int .i64 i, .int .i64 s]).alloc (.cells #[.int .i64 j, .int .i64 t] 61)
  have b1 := Blk.new (w.alloc (.cells #[.int .i64 i, .int .i64 s] 61)) 61 #[.int .i64 j, .int .i64 t]
  simp only [World.size_alloc] at b1
  have k0 := ((Keeps.refl [] w).alloc (.cells #[.int .i64 i, .int .i64 s] 61)).alloc (.cells #[.int .i64 j, .int .i64 t] 61)
  generalize ((w.alloc (.cells #[.int .i64 i, .int .i64 s] 61)).alloc (.cells #[.int .i64 j, .int .i64 t] 61)) = W at *
  have c0 := b0.cellAt 0 _ rfl
  have c1 := b0.cellAt 1 _ rfl
  have d0 := b1.cellAt 0 _ rfl
  have d1 := b1.cellAt 1 _ rfl
  obtain ⟨x, hx⟩ : ∃ x, cmpI s t = x := ⟨_, rfl⟩
  obtain ⟨y, hy⟩ : ∃ y, cmpI i j = y := ⟨_, rfl⟩
  rw [hx] at h38
  rw [hy] at h39
  have HX := Lib.hid hx
  have HY := Lib.hid hy
  clear hx hy
  generalize w.heap.size = B at *
  go_region_held3 (fun w' => w'.cell? ⟨B, 0, none⟩ = some (.int .i64 i) ∧ w'.cell? ⟨B, 1, none⟩ = some (.int .i64 s) ∧ w'.cell? ⟨B + 1, 0, none⟩ = some (.int .i64 j) ∧ w'.cell? ⟨B + 1, 1, none⟩ = some (.int .i64 t))
    (first | exact ⟨c0, c1, d0, d1⟩ | assumption | go_keep)
    (first
      | (go_at_call 38; refine (h38.out _).mono ?_; rintro e w5 ⟨rfl, rfl⟩)
      | (go_at_call 39; refine (h39.out _).mono ?_; rintro e w5 ⟨rfl, rfl⟩)
      | (go_at_call 37; refine (hOr.out x y _ _ (show Blk (W.alloc (.cells #[.int .i64 x, .int .i64 y] 3)).drew W.heap.size 3 #[.int .i64 x, .int .i64 y] from Blk.new W 3 #[.int .i64 x, .int .i64 y])).mono ?_; rintro e w5 ⟨rfl, rfl⟩))
  go_wp2_with fail
  go_ret
  rw [HX.out, HY.out]
  exact ⟨rfl, (k0.alloc _).drew⟩
end Go.Proofs.Ytognnjaefaoefaa
