/- The contracts of with, without, change, Add and Remove. Condition: a set that New or Copy made, nil, or a zero one. -/
import Derived.Test.YtcdnflffpeijfaaDoorSet
import Derived.StillTailTactics
namespace Go.Proofs.YtcdnflffpeijfaaDoor
open Go.RowKit

set_option maxRecDepth 100000 in
theorem with_ok (a b : Nat) (ha : a < 18446744073709551616) (hb : b < 18446744073709551616) (w : World) : Calls Tryd.prog 37 #[.int .u64 a, .int .u64 b] w fun e w' => e = .returned (.int .u64 (a ||| b : Nat)) ∧ w = w' := by
  have H := Lib.hid (u64_or_nat a b ha hb)
  go_enter Tryd.func37, Tryd.ntmps37
  go_wp2
  go_ret
  refine ⟨?_, rfl⟩
  exact congrArg (fun x => Ending.returned (.int .u64 x)) H.out
set_option maxRecDepth 100000 in
theorem without_ok (a b : Nat) (ha : a < 18446744073709551616) (hb : b < 18446744073709551616) (w : World) : Calls Tryd.prog 38 #[.int .u64 a, .int .u64 b] w fun e w' => e = .returned (.int .u64 (a &&& (18446744073709551615 - b) : Nat)) ∧ w = w' := by
  have H := Lib.hid (u64_andNot_nat a b ha hb)
  go_enter Tryd.func38, Tryd.ntmps38
  go_wp2
  go_ret
  refine ⟨?_, rfl⟩
  exact congrArg (fun x => Ending.returned (.int .u64 x)) H.out

set_option maxRecDepth 1000000 in
set_option maxHeartbeats 4000000 in
theorem change_in (f : Nat) (eg : ∀ args w, (callFunc f args).run Tryd.prog w = .ok (.enter f args) w) (g : Nat → Nat → Nat) (hf : ∀ (a b : Nat) (w : World), a < 18446744073709551616 → b < 18446744073709551616 → Calls Tryd.prog f #[.int .u64 a, .int .u64 b] w fun e w' => e = .returned (.int .u64 (g a b : Nat)) ∧ w = w')
    {b gb n i : Nat} {w : World} {ws : List Nat} (h : IsSet w b gb n ws) (hi : i < n) :
    Calls Tryd.prog 36 #[.pointer (some ⟨b, 0, none⟩), .int .i64 i, .func (.func f) #[] #[]] w fun e w' => e = .returned (.int .i64 0) ∧ w' = (w.setCell ⟨gb, i / 64, none⟩ (.int .u64 (g (ws.getD (i / 64) 0) (2 ^ (i % 64)) : Nat))).drew := by
  have hs := h.size
  have HM := Lib.hid (made_yes hs h.pos)
  have hl := h.len
  have hm := h.most
  have hk : i / 64 < ws.length := by omega
  have hw := h.word (i / 64) hk
  have hc := h.cell hk
  obtain ⟨cap, cur, hb, hg, _⟩ := h.row
  have hfz := hg.frozen (i / 64)
  have hc1 := hb.cellAt 1 _ rfl
  have hp2 : 2 ^ (i % 64) < 18446744073709551616 := by
    have : 2 ^ (i % 64) < 2 ^ 64 := Nat.pow_lt_pow_right (by omega) (Nat.mod_lt _ (by decide))
    exact this
  have HF := Lib.hid (fun w => hf (ws.getD (i / 64) 0) (2 ^ (i % 64)) w hw hp2)
  have ed : ((i : Int)).tdiv 64 = ((i / 64 : Nat) : Int) := by rw [Int.tdiv_eq_ediv_of_nonneg (by omega)]; rfl
  have em : ((i : Int)).tmod 64 = ((i % 64 : Nat) : Int) := by rw [Int.tmod_eq_emod_of_nonneg (by omega)]; rfl
  have ed2 : (i : Int) / 64 = ((i / 64 : Nat) : Int) := rfl
  have em2 : (i : Int) % 64 = ((i % 64 : Nat) : Int) := rfl
  have hk' : ((i / 64 : Nat) : Int) < ws.length := by omega
  have hm64 : i % 64 < 64 := Nat.mod_lt _ (by decide)
  generalize hq : i / 64 = q at *
  generalize hr : i % 64 = r at *
  have ewq : IntKind.i64.wrap (q : Int) = q := IntWalk.i64_in _ (by omega)
  have ewr : IntKind.i64.wrap (r : Int) = r := IntWalk.i64_in _ (by omega)
  clear hq hr
  obtain ⟨x, hx⟩ : ∃ x, ws.getD q 0 = x := ⟨_, rfl⟩
  obtain ⟨p, hpd⟩ : ∃ p, 2 ^ r = p := ⟨_, rfl⟩
  have ewp : IntKind.u64.wrap ((2 : Int) ^ r) = (p : Int) := by
    rw [show (2 : Int) ^ r = ((2 ^ r : Nat) : Int) by simp, hpd]
    exact wrap_u64 _ (by rw [← hpd]; exact hp2)
  rw [hx, hpd] at HF
  rw [hx] at hw hc
  rw [hx, hpd]
  rw [hpd] at hp2
  clear hx hpd
  have HI := Lib.hid hi
  clear h hf hl
  go_enter Tryd.func36, Tryd.ntmps36
  go_wp2_with fail
  refine HM.out.mono ?_
  rintro e w' ⟨rfl, rfl⟩
  go_wp2_with fail
  refine wp_region_still_tail 20 (by kernel_rfl) (by kernel_rfl) ?_
  simp only [List.take_succ_cons, List.take_zero, List.drop_succ_cons, List.drop_zero]
  iterate 18 still_step
  still_call ((HF.out _).mono (fun e w' h => ⟨h.1, h.2.symm⟩))
  repeat still_step
  refine wpStill_nil ?_
  go_wp2_with fail
  go_ret
  exact ⟨rfl, rfl⟩

set_option maxRecDepth 1000000 in
theorem change_out (f : Nat) (eg : ∀ args w, (callFunc f args).run Tryd.prog w = .ok (.enter f args) w) {b gb n : Nat} {i : Int} {w : World} {ws : List Nat} (h : IsSet w b gb n ws) (hi : i < 0 ∨ (n : Int) ≤ i) :
    Calls Tryd.prog 36 #[.pointer (some ⟨b, 0, none⟩), .int .i64 i, .func (.func f) #[] #[]] w fun e w' => e = .returned (.int .i64 3) ∧ w = w' := by
  have hs := h.size
  have HM := Lib.hid (made_yes hs h.pos)
  clear h
  rcases hi with hi | hi
  · go_enter Tryd.func36, Tryd.ntmps36
    go_wp2_with fail
    refine HM.out.mono ?_
    rintro e w' ⟨rfl, rfl⟩
    go_wp2_with fail
    go_ret
    exact ⟨rfl, rfl⟩
  · by_cases hi0 : i < 0
    · go_enter Tryd.func36, Tryd.ntmps36
      go_wp2_with fail
      refine HM.out.mono ?_
      rintro e w' ⟨rfl, rfl⟩
      go_wp2_with fail
      go_ret
      exact ⟨rfl, rfl⟩
    · go_enter Tryd.func36, Tryd.ntmps36
      go_wp2_with fail
      refine HM.out.mono ?_
      rintro e w' ⟨rfl, rfl⟩
      go_wp2_with fail
      go_ret
      exact ⟨rfl, rfl⟩

theorem has_more {ws : List Nat} {i : Nat} (hi : i / 64 < ws.length) (j : Nat) : has (ws.set (i / 64) (ws.getD (i / 64) 0 ||| 2 ^ (i % 64))) j = (has ws j || decide (j = i)) := by
  unfold has
  by_cases hq : j / 64 = i / 64
  · simp only [List.getD, List.getElem?_set, hq, if_pos, hi]
    simp only [if_true, Option.getD_some]
    rw [testBit_more]
    congr 1
    have : (i % 64 = j % 64) ↔ (j = i) := by omega
    exact decide_eq_decide.2 this
  · simp only [List.getD, List.getElem?_set]
    rw [if_neg (fun e => hq e.symm)]
    have : decide (j = i) = false := decide_eq_false (by rintro rfl; exact hq rfl)
    rw [this, Bool.or_false]
theorem has_fewer {ws : List Nat} {i : Nat} (hi : i / 64 < ws.length) (j : Nat) : has (ws.set (i / 64) (ws.getD (i / 64) 0 &&& (18446744073709551615 - 2 ^ (i % 64)))) j = (has ws j && !decide (j = i)) := by
  unfold has
  by_cases hq : j / 64 = i / 64
  · simp only [List.getD, List.getElem?_set, hq, if_pos, hi]
    simp only [if_true, Option.getD_some]
    rw [testBit_fewer _ _ _ (Nat.mod_lt _ (by decide)) (Nat.mod_lt _ (by decide))]
    congr 2
    have : (i % 64 = j % 64) ↔ (j = i) := by omega
    exact decide_eq_decide.2 this
  · simp only [List.getD, List.getElem?_set]
    rw [if_neg (fun e => hq e.symm)]
    have : decide (j = i) = false := decide_eq_false (by rintro rfl; exact hq rfl)
    rw [this, Bool.not_false, Bool.and_true]

/-- The words with a number more, and with a number less. -/
def addTo (ws : List Nat) (i : Nat) : List Nat := ws.set (i / 64) (ws.getD (i / 64) 0 ||| 2 ^ (i % 64))
def dropOf (ws : List Nat) (i : Nat) : List Nat := ws.set (i / 64) (ws.getD (i / 64) 0 &&& (18446744073709551615 - 2 ^ (i % 64)))

set_option maxRecDepth 1000000 in
theorem Add_in {b gb n i : Nat} {w : World} {ws : List Nat} (h : IsSet w b gb n ws) (hi : i < n) :
    Calls Tryd.prog 16 #[.pointer (some ⟨b, 0, none⟩), .int .i64 i] w fun e w' => e = .returned (.int .i64 0) ∧ IsSet w' b gb n (addTo ws i) ∧ Keeps [gb] w w' := by
  have hl := h.len
  have hk : i / 64 < ws.length := by omega
  have HC := Lib.hid (change_in 37 (enters_of Tryd.func37 (by kernel_rfl) rfl) (fun a b => a ||| b) (fun a b w ha hb => with_ok a b ha hb w) h hi)
  have hy : ws.getD (i / 64) 0 ||| 2 ^ (i % 64) < 18446744073709551616 := by
    have h1 := h.word (i / 64) hk
    have h2 : 2 ^ (i % 64) < 2 ^ 64 := Nat.pow_lt_pow_right (by omega) (Nat.mod_lt _ (by decide))
    exact Nat.or_lt_two_pow (n := 64) h1 h2
  have HP := Lib.hid (h.put hk hy (fun j hj => by rw [has_more hk, h.over j hj, decide_eq_false (by omega)]; rfl))
  have HK := Lib.hid (show Keeps [gb] w (w.setCell ⟨gb, i / 64, none⟩ (.int .u64 (ws.getD (i / 64) 0 ||| 2 ^ (i % 64) : Nat))) from (Keeps.refl _ w).setCell (.inl (by simp)) _)
  clear h
  go_enter Tryd.func16, Tryd.ntmps16
  go_wp2_with fail
  refine HC.out.mono ?_
  rintro e w' ⟨rfl, rfl⟩
  go_wp2_with fail
  go_ret
  exact ⟨rfl, HP.out.drew, HK.out.drew⟩
set_option maxRecDepth 1000000 in
theorem Remove_in {b gb n i : Nat} {w : World} {ws : List Nat} (h : IsSet w b gb n ws) (hi : i < n) :
    Calls Tryd.prog 17 #[.pointer (some ⟨b, 0, none⟩), .int .i64 i] w fun e w' => e = .returned (.int .i64 0) ∧ IsSet w' b gb n (dropOf ws i) ∧ Keeps [gb] w w' := by
  have hl := h.len
  have hk : i / 64 < ws.length := by omega
  have HC := Lib.hid (change_in 38 (enters_of Tryd.func38 (by kernel_rfl) rfl) (fun a b => a &&& (18446744073709551615 - b)) (fun a b w ha hb => without_ok a b ha hb w) h hi)
  have hy : ws.getD (i / 64) 0 &&& (18446744073709551615 - 2 ^ (i % 64)) < 18446744073709551616 := by
    have h1 := h.word (i / 64) hk
    exact Nat.lt_of_le_of_lt Nat.and_le_left h1
  have HP := Lib.hid (h.put hk hy (fun j hj => by rw [has_fewer hk, h.over j hj, Bool.false_and]))
  have HK := Lib.hid (show Keeps [gb] w (w.setCell ⟨gb, i / 64, none⟩ (.int .u64 (ws.getD (i / 64) 0 &&& (18446744073709551615 - 2 ^ (i % 64)) : Nat))) from (Keeps.refl _ w).setCell (.inl (by simp)) _)
  clear h
  go_enter Tryd.func17, Tryd.ntmps17
  go_wp2_with fail
  refine HC.out.mono ?_
  rintro e w' ⟨rfl, rfl⟩
  go_wp2_with fail
  go_ret
  exact ⟨rfl, HP.out.drew, HK.out.drew⟩
end Go.Proofs.YtcdnflffpeijfaaDoor
