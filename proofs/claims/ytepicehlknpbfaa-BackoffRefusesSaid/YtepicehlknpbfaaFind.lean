/- The contracts of Check, check, waits, its iterator, and find. Conditions: for find, allowed waits and a question that is answered within 64 refusals. -/
import Derived.Test.YtepicehlknpbfaaWt
import Derived.Test.YtepicehlknpbfaaTail
import Derived.Test.YtepicehlknpbfaaKit2
namespace Go.Proofs.Ytepicehlknpbfaa
open Go.RowKit Go.Shelf

attribute [local go_sem] Oper.semAt_some

/-- Which waits are allowed. -/
def Fine (b c : Int) : Prop := 1 ≤ b ∧ b ≤ c ∧ c ≤ 1048576
instance (b c : Int) : Decidable (Fine b c) := by unfold Fine; infer_instance

theorem Check_ok {b c : Int} (h : Fine b c) (w : World) : Calls Try.prog 15 #[.int .i64 b, .int .i64 c] w fun e w' => e = .returned (.int .i64 0) ∧ w = w' := by
  obtain ⟨h1, h2, h3⟩ := h
  go_enter Try.func15, Try.ntmps15
  go_wp2
  go_ret
  exact ⟨rfl, rfl⟩
theorem Check_no {b c : Int} (h : ¬ Fine b c) (w : World) : Calls Try.prog 15 #[.int .i64 b, .int .i64 c] w fun e w' => e = .returned (.int .i64 2) ∧ w = w' := by
  have h' : b < 1 ∨ (1 ≤ b ∧ c < b) ∨ (1 ≤ b ∧ b ≤ c ∧ 1048576 < c) := by unfold Fine at h; omega
  clear h
  rcases h' with h | ⟨h1, h⟩ | ⟨h1, h2, h⟩
  all_goals
    go_enter Try.func15, Try.ntmps15
    go_wp2
    go_ret
    exact ⟨rfl, rfl⟩
/-- Which numbers of refusals are allowed, too. -/
def FineT (t b c : Int) : Prop := 1 ≤ t ∧ t ≤ 64 ∧ Fine b c
theorem check_ok {t b c : Int} (h : FineT t b c) (w : World) : Calls Try.prog 26 #[.int .i64 t, .int .i64 b, .int .i64 c] w fun e w' => e = .returned (.int .i64 0) ∧ w = w' := by
  obtain ⟨h1, h2, h3⟩ := h
  have H3 := Lib.hid (Check_ok h3 w)
  clear h3
  go_enter Try.func26, Try.ntmps26
  go_wp2_with fail
  refine H3.out.mono ?_
  rintro e w' ⟨rfl, rfl⟩
  go_wp2_with fail
  go_ret
  exact ⟨rfl, rfl⟩
theorem check_no {t b c : Int} (h : ¬ FineT t b c) (w : World) : Calls Try.prog 26 #[.int .i64 t, .int .i64 b, .int .i64 c] w fun e w' => e = .returned (.int .i64 2) ∧ w = w' := by
  by_cases hf : Fine b c
  · have h' : t < 1 ∨ 64 < t := by unfold FineT at h; simp only [hf, and_true] at h; omega
    clear h hf
    rcases h' with h | h
    all_goals
      go_enter Try.func26, Try.ntmps26
      go_wp2_with fail
      go_ret
      exact ⟨rfl, rfl⟩
  · have H3 := Lib.hid (Check_no hf w)
    clear h hf
    by_cases h1 : 1 ≤ t
    · by_cases h2 : t ≤ 64
      · go_enter Try.func26, Try.ntmps26
        go_wp2_with fail
        refine H3.out.mono ?_
        rintro e w' ⟨rfl, rfl⟩
        go_wp2_with fail
        go_ret
        exact ⟨rfl, rfl⟩
      · go_enter Try.func26, Try.ntmps26
        go_wp2_with fail
        go_ret
        exact ⟨rfl, rfl⟩
    · go_enter Try.func26, Try.ntmps26
      go_wp2_with fail
      go_ret
      exact ⟨rfl, rfl⟩

theorem waits_in (b c : Int) (w : World) :
    Calls Try.prog 32 #[.int .i64 b, .int .i64 c] w fun e w' => e = .returned (.func (.func 33) #[] #[.pointer (some ⟨w.heap.size, 0, none⟩), .pointer (some ⟨w.heap.size + 1, 0, none⟩)]) ∧
      (w.alloc (.cells #[.int .i64 b] 2)).alloc (.cells #[.int .i64 c] 2) = w' := by
  go_enter Try.func32, Try.ntmps32
  go_wp2
  go_ret
  exact ⟨rfl, rfl⟩

/-- The numbers of refusals with their waits. -/
def pairsTo (b c k : Nat) : List (Nat × Nat) := (List.range k).map fun j => (j + 1, wj b c j)
theorem pairsTo_succ (b c k : Nat) : pairsTo b c (k + 1) = pairsTo b c k ++ [(k + 1, wj b c k)] := by simp [pairsTo, List.range_succ]
theorem pairsTo_pre (b c : Nat) {k n : Nat} (h : k ≤ n) : pairsTo b c k <+: pairsTo b c n := by
  induction h with
  | refl => exact List.prefix_refl _
  | step _ ih => exact ih.trans (by rw [pairsTo_succ]; exact List.prefix_append _ _)

set_option maxRecDepth 100000 in
set_option maxHeartbeats 2000000 in
theorem waits1_in (n : Nat) (hn : 1 ≤ n) (l Bb Bc n₀ b c : Nat) (S : List Nat) (J Jx : List (Nat × Nat) → World → Prop) (hb1 : 1 ≤ b) (hbc : b ≤ c) (hc : c ≤ 1048576)
    (hY : ∀ pre x W, J pre W → pre.length < 64 → YieldAt Fence.wide (n - 1) Try.prog l #[.int .i64 x.1, .int .i64 x.2] W fun e W' =>
      (e = .returned (.bool true) ∧ J (pre ++ [x]) W' ∧ Keepn n₀ S W W') ∨ (e = .returned (.bool false) ∧ Jx (pre ++ [x]) W'))
    (hBc : Bc < n₀) (hBcS : Bc ∉ S)
    (W : World) (cb : Blk W Bb 2 #[.int .i64 b]) (cc : Blk W Bc 2 #[.int .i64 c]) (h0 : J [] W) :
    CallsIn Fence.wide n Try.prog 33 #[.func (.yield l) #[] #[], .pointer (some ⟨Bb, 0, none⟩), .pointer (some ⟨Bc, 0, none⟩)] W fun e W' => (∃ v, e = .returned v) ∧
      ((∃ ys, ys = pairsTo b c 64 ∧ J ys W') ∨ (∃ pre, pre <+: pairsTo b c 64 ∧ Jx pre W')) := by
  refine callsIn_of_wp Try.func33 rfl trivial ?_ rfl
  simp only [Try.ntmps33, List.size_toArray, List.length_cons, List.length_nil, Nat.reduceAdd, Nat.reduceSub, Array.replicate_succ, Array.replicate_zero, List.push_toArray, List.append_toArray, List.nil_append, List.cons_append]
  have cbc : W.cell? ⟨Bb, 0, none⟩ = some (.int .i64 b) := cb.cellAt 0 _ rfl
  have HCC := Lib.hid cc
  clear cb cc
  gi_wp2
  gi_loopw [4, 5] (fun x i wr => ∃ k : Nat, i = .int .i64 ((k : Int) + 1) ∧ k ≤ 64 ∧ x = .int .i64 (wj b c k) ∧ J (pairsTo b c k) wr ∧ Keepn n₀ S W wr) (fun _ i _ => 65 - (intOf i).toNat)
  case atStart => exact ⟨0, rfl, Nat.zero_le _, rfl, h0, Keepn.refl _ _ _⟩
  case round =>
    obtain ⟨k, rfl, hk, rfl, hJ, hkn⟩ := hrel
    by_cases hk' : k < 64
    · obtain ⟨fn, tmps, assign, body, hy, hR⟩ := hY _ (k + 1, wj b c k) wr hJ (by simp [pairsTo]; omega)
      have hS := hR.mono (fun e W' h => said_of (A := fun W' => J (pairsTo b c k ++ [(k + 1, wj b c k)]) W' ∧ Keepn n₀ S wr W') (B := fun W' => Jx (pairsTo b c k ++ [(k + 1, wj b c k)]) W') h)
      rw [← pairsTo_succ] at hS
      clear hR
      dsimp only at hy
      rw [show (((k + 1 : Nat) : Int)) = (k : Int) + 1 from by omega] at hy
      have hwl := wj_le hbc k
      have hwg := wj_ge hbc k
      have hwn : wj b c (k + 1) = min (2 * wj b c k) c := rfl
      have HWN := Lib.hid hwn
      clear hwn
      generalize wj b c k = u at *
      gi_wp2
      refine hS.mono ?_
      rintro e W' ⟨t, rfl, hd⟩
      cases t
      · gi_wp2
        go_end0
        exact ⟨⟨_, rfl⟩, .inr ⟨_, pairsTo_pre b c (by omega), hd.2 rfl⟩⟩
      · have hd' := hd.1 rfl
        have ccc : W'.cell? ⟨Bc, 0, none⟩ = some (.int .i64 c) := (HCC.out.keepn (hkn.trans hd'.2) hBc hBcS).cellAt 0 _ rfl
        rcases Nat.lt_or_ge c (2 * u) with hcmp | hcmp
        · gi_wp2
          go_roundw
          case rel => exact ⟨k + 1, by go_num, by omega, by rw [HWN.out]; congr 1; omega, hd'.1, hkn.trans hd'.2⟩
          case measure => simp [intOf]; omega
        · gi_wp2
          go_roundw
          case rel => exact ⟨k + 1, by go_num, by omega, by rw [HWN.out]; congr 1; omega, hd'.1, hkn.trans hd'.2⟩
          case measure => simp [intOf]; omega
    · obtain rfl : k = 64 := by omega
      gi_wp2
      refine ⟨fun _ h => (by cases h), ?_⟩
      gi_wp2
      go_end0
      exact ⟨⟨_, rfl⟩, .inl ⟨_, rfl, hJ⟩⟩
end Go.Proofs.Ytepicehlknpbfaa
