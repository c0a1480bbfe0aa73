/- BitsStays: for every input the call returns true, and nothing that was there has changed. Condition: the table of trailing zeros lies in its block. -/
import Derived.Test.YtcdnflffpeijfaaDoorWorks
import Derived.Test.YtcdnflffpeijfaaDoorClear
namespace Go.Proofs.YtcdnflffpeijfaaDoor
open Go.RowKit

theorem zero3 (w : World) : (zeroValue 3).run Tryd.prog w = .ok (.int .i64 0) w := by kernel_rfl
theorem clear_own {w : World} {B : Nat} {v : Value} {xs : List Int} (h : OwnI w B v xs) :
    ∃ w', (∀ ty, (Builtin.clear_ #[28] ty #[v]).run Tryd.prog w = .ok (.tuple #[]) w') ∧ Keeps v.ownBlock.toList w w' := by
  have hu : Tryd.prog.underlying 28 = some (.slice 3) := Tryd.underlying28
  by_cases hx : xs.length = 0
  · obtain ⟨a, cap, rfl⟩ := h.shape
    rw [hx]
    exact ⟨w, fun ty => by cases a <;> simp [Builtin.clear_, run_underlying hu], Keeps.refl _ _⟩
  · rcases h.form with ⟨rfl, rfl⟩ | ⟨g, cap, cur, rfl, hB, hb, hl, hc, hs, ht⟩
    · exact absurd rfl hx
    · refine ⟨_, fun ty => Lib.run_clear_slice w 28 3 ty _ hu zero3 rfl rfl g 0 xs.length cap (by omega) (fun j hj => ?_) (fun j _ => hb.frozen _), Keeps.setCells (.inl (by simp [Value.ownBlock])) _ _ _ (Keeps.refl _ _)⟩
      rw [hb.cell]
      simp
      omega
theorem picks_one_num (n i : Nat) (hi : i < n) : picks n (withP noneP i) = [i] := by
  induction n with
  | zero => omega
  | succ n ih =>
    rw [picks_succ]
    by_cases e : n = i
    · subst e
      have : picks n (withP noneP n) = [] := by
        unfold picks
        rw [List.filter_eq_nil_iff]
        intro j hj
        have := List.mem_range.1 hj
        simp [withP, noneP]
        omega
      rw [this, if_pos (by simp [withP])]
      rfl
    · rw [ih (by omega), if_neg (by simp [withP, noneP, e])]

set_option maxRecDepth 1000000 in
set_option maxHeartbeats 8000000 in
theorem stays_out (s : Nat) (hs : s ≤ 65535) {v : Value} {zs : List Int} (i : Int) (n : Nat) (hn : 1 + s % 4096 = n) (i' : Int) (hi : (0 ≤ i ∧ i < n ∧ i' = i + n) ∨ ((i < 0 ∨ (n : Int) ≤ i) ∧ i' = i)) (hhi : i ≤ 9223372036854775807) {w : World} (hv : ArgI .u16 w v zs) (hT : Table w) :
    Calls Tryd.prog 4 #[.int .u16 s, v, .int .i64 i] w fun e w' => e = .returned (.bool true) ∧ Below w.heap.size w w' := by
  have hpos := hT.pos
  have h1 : 1 ≤ n := by omega
  have h2 : n ≤ 4096 := by omega
  obtain ⟨m, hm⟩ : ∃ m, 1 + n % 4096 = m := ⟨_, rfl⟩
  have hm1 : 1 ≤ m := by omega
  have hm2 : m ≤ 4096 := by omega
  have hnm : n ≠ m := by omega
  have E1 := Lib.hid (show (1 : Int) + (s : Int) % 4096 = (n : Int) by omega)
  have E2 := Lib.hid (show (1 : Int) + (n : Int) % 4096 = (m : Int) by omega)
  have hnmI : ¬ (n : Int) = (m : Int) := by omega
  have hnmB : ((n : Int) != (m : Int)) = true := by simp; omega
  have HO := Lib.hid (show i' < 0 ∨ (n : Int) ≤ i' by omega)
  have HM := Lib.hid (made_in h1 h2 hv)
  have HT := Lib.hid hT
  have HNM := Lib.hid hnm
  have en1 : (n : Int) - 1 = ((n - 1 : Nat) : Int) := by omega
  have EN1 := Lib.hid en1
  clear hT hv hn hm hnm en1
  rcases hi with ⟨hi1, hi2, hi3⟩ | ⟨hi, rfl⟩
  · have E3 := Lib.hid hi3.symm
    clear hi3
    go_enter Tryd.func4, Tryd.ntmps4
    go_wp2_with fail
    rw [E1.out]
    refine HM.out.mono ?_
    rintro e w1 ⟨b, gb, gh, p, rfl, hs, hr, hK, hb, hgb, hgh⟩
    clear HM E1
    go_wp2_with fail
    rw [E2.out]
    refine (New_e _ m rfl hm1 hm2 _).mono ?_
    rintro e w2 ⟨c, gc, rfl, hc, k2, hcb, hcg⟩
    have K2 := hK.trans k2
    have hs2 := hs.keep0 k2
    have hr2 := hr.keeps k2 (by simp)
    clear E2 hs hr hK k2
    go_wp2_with fail
    rw [E3.out]
    refine (Add_op hs2 HO.out).mono ?_
    rintro e w' ⟨rfl, rfl⟩
    go_wp2_with fail
    refine (Remove_op hs2 HO.out).mono ?_
    rintro e w' ⟨rfl, rfl⟩
    go_wp2_with fail
    refine (Has_op hs2 HO.out).mono ?_
    rintro e w' ⟨rfl, rfl⟩
    go_wp2_with fail
    refine (Size_p hc).mono ?_
    rintro e w' ⟨rfl, rfl⟩
    go_wp2_with fail
    refine (Union_other hs2 hc HNM.out).mono ?_
    rintro e w3 ⟨rfl, k3⟩
    go_wp2_with fail
    refine (Minus_other (hs2.keep0 k3) (hc.keep0 k3) HNM.out).mono ?_
    rintro e w4 ⟨rfl, k4⟩
    have k24 := k3.trans k4
    have K4 := K2.trans k24
    have hs4 := hs2.keep0 k24
    have hr4 := hr2.keeps k24 (by simp)
    clear hs2 hr2 hc K2 k24 k3 k4
    go_wp2_with fail
    refine (All_p hs4 (HT.out.keeps K4 hpos (by simp))).mono ?_
    rintro e w5 ⟨u, rfl, hu, k5⟩
    obtain ⟨w6, hclr, k6⟩ := clear_own hu
    have hub : ∀ x, x ∈ u.ownBlock.toList → w4.heap.size ≤ x := fun x hx => by
      have := hu.lt x (by simpa using hx)
      omega
    have l4 := hs4.lt
    have lr4 := hr4.lt
    have z4 := K4.size
    have K6 := (K4.trans k5).step k6 (fun x hx => .inr (by have := hub x hx; omega))
    have hs6 := (hs4.keep0 k5).keeps k6 (fun hx => by have := hub _ hx; omega) (fun hx => by have := hub _ hx; omega)
    have hr6 := (hr4.keeps k5 (by simp)).keeps k6 (fun hx => by have := hub _ hx; omega)
    clear hs4 hr4 K4 hu k5 k6 hub
    go_wp2_with fail
    clear hclr
    refine (Copy_p hs6).mono ?_
    rintro e w7 ⟨d, gd, rfl, hd, k7, hdb, hdg⟩
    have l6 := hs6.lt
    have lr6 := hr6.lt
    have K7 := K6.trans k7
    have hs7 := hs6.keep0 k7
    have hr7 := hr6.keeps k7 (by simp)
    have z6 := K6.size
    clear hs6 hr6 K6 k7
    go_wp2_with fail
    refine (Clear_p hd).mono ?_
    rintro e w8 ⟨rfl, hd8, k8⟩
    have K8 := K7.step k8 (by simp; omega)
    have hs8 := hs7.keeps k8 (by simp; omega) (by simp; omega)
    have hr8 := hr7.keeps k8 (by simp; omega)
    clear hs7 hr7 hd K7 k8
    go_wp2_with fail
    rw [EN1.out]
    refine (Add_p hd8 (i := n - 1) (by omega)).mono ?_
    rintro e w9 ⟨rfl, hd9, k9⟩
    have K9 := K8.step k9 (by simp; omega)
    have hs9 := hs8.keeps k9 (by simp; omega) (by simp; omega)
    have hr9 := hr8.keeps k9 (by simp; omega)
    clear hs8 hr8 hd8 K8 k9
    rw [← EN1.out]
    go_wp2_with fail
    refine (All_p hs9 (HT.out.keeps K9 hpos (by simp))).mono ?_
    rintro e w10 ⟨u10, rfl, hu10, k10⟩
    have K10 := K9.trans k10
    have hd10 := hd9.keep0 k10
    have hr10 := hr9.keeps k10 (by simp)
    clear hs9 hd9 hr9 K9 k10
    go_wp2_with fail
    refine (listed_in hr10 h2).mono ?_
    rintro e w11 ⟨u11, rfl, hu11, k11⟩
    have hpm : (asInts (picks n p)).length ≤ maxLen := by rw [asInts_len]; have := picks_len_le n p; unfold maxLen; omega
    have K11 := K10.trans k11
    have hd11 := hd10.keep0 k11
    have hl10 := Lib.hid ((hu10.keeps k11 (by simp)).sl hpm)
    have hl11 := Lib.hid (hu11.sl hpm)
    clear hd10 hr10 K10 hu10 hu11 hpm k11
    generalize asInts (picks n p) = L at *
    go_wp2_with fail
    refine (Equal_e hl10.out hl11.out rfl).mono ?_
    rintro e w' ⟨rfl, j, rfl⟩
    have K12 := K11.drewN j
    have hd12 := hd11.drewN j
    clear hd11 K11 hl10 hl11
    generalize w11.drewN j = w12 at *
    go_wp2_with fail
    refine (All_e hd12 (HT.out.keeps K12 hpos (by simp)) [n - 1] (picks_one_num n (n - 1) (by omega))).mono ?_
    rintro e w13 ⟨u13, rfl, hu13, k13⟩
    have K13 := K12.trans k13
    have hl13 := hu13.sl (by unfold maxLen; simp [asInts])
    clear hd12 K12 k13 hu13
    go_wp2_with fail
    refine (Equal_e (hl13.keeps ((Keeps.refl [] w13).alloc _) (by simp)) (SlI.lit (xs := [(n : Int) - 1]) (Blk.new w13 3 #[.int .i64 ((n : Int) - 1)]) rfl (by unfold maxLen; simp)) (by rw [EN1.out]; rfl)).mono ?_
    rintro e w' ⟨rfl, j2, rfl⟩
    have K14 := (K13.alloc (.cells #[.int .i64 ((n : Int) - 1)] 3)).drewN j2
    go_wp2_with fail
    refine (works_ok (HT.out.keeps K14 hpos (by simp))).mono ?_
    rintro e w15 ⟨rfl, k15⟩
    go_wp2_with fail
    go_ret
    exact ⟨rfl, (K14.trans k15).below⟩
  · have hi4 : ¬ (0 ≤ i' ∧ i' < n) := by omega
    rcases hi with hi | hi
    · clear hi4
      go_enter Tryd.func4, Tryd.ntmps4
      go_wp2_with fail
      rw [E1.out]
      refine HM.out.mono ?_
      rintro e w1 ⟨b, gb, gh, p, rfl, hs, hr, hK, hb, hgb, hgh⟩
      clear HM E1
      go_wp2_with fail
      rw [E2.out]
      refine (New_e _ m rfl hm1 hm2 _).mono ?_
      rintro e w2 ⟨c, gc, rfl, hc, k2, hcb, hcg⟩
      have K2 := hK.trans k2
      have hs2 := hs.keep0 k2
      have hr2 := hr.keeps k2 (by simp)
      clear E2 hs hr hK k2
      go_wp2_with fail
      refine (Add_op hs2 HO.out).mono ?_
      rintro e w' ⟨rfl, rfl⟩
      go_wp2_with fail
      refine (Remove_op hs2 HO.out).mono ?_
      rintro e w' ⟨rfl, rfl⟩
      go_wp2_with fail
      refine (Has_op hs2 HO.out).mono ?_
      rintro e w' ⟨rfl, rfl⟩
      go_wp2_with fail
      refine (Size_p hc).mono ?_
      rintro e w' ⟨rfl, rfl⟩
      go_wp2_with fail
      refine (Union_other hs2 hc HNM.out).mono ?_
      rintro e w3 ⟨rfl, k3⟩
      go_wp2_with fail
      refine (Minus_other (hs2.keep0 k3) (hc.keep0 k3) HNM.out).mono ?_
      rintro e w4 ⟨rfl, k4⟩
      have k24 := k3.trans k4
      have K4 := K2.trans k24
      have hs4 := hs2.keep0 k24
      have hr4 := hr2.keeps k24 (by simp)
      clear hs2 hr2 hc K2 k24 k3 k4
      go_wp2_with fail
      refine (All_p hs4 (HT.out.keeps K4 hpos (by simp))).mono ?_
      rintro e w5 ⟨u, rfl, hu, k5⟩
      obtain ⟨w6, hclr, k6⟩ := clear_own hu
      have hub : ∀ x, x ∈ u.ownBlock.toList → w4.heap.size ≤ x := fun x hx => by
        have := hu.lt x (by simpa using hx)
        omega
      have l4 := hs4.lt
      have lr4 := hr4.lt
      have z4 := K4.size
      have K6 := (K4.trans k5).step k6 (fun x hx => .inr (by have := hub x hx; omega))
      have hs6 := (hs4.keep0 k5).keeps k6 (fun hx => by have := hub _ hx; omega) (fun hx => by have := hub _ hx; omega)
      have hr6 := (hr4.keeps k5 (by simp)).keeps k6 (fun hx => by have := hub _ hx; omega)
      clear hs4 hr4 K4 hu k5 k6 hub
      go_wp2_with fail
      clear hclr
      refine (Copy_p hs6).mono ?_
      rintro e w7 ⟨d, gd, rfl, hd, k7, hdb, hdg⟩
      have l6 := hs6.lt
      have lr6 := hr6.lt
      have K7 := K6.trans k7
      have hs7 := hs6.keep0 k7
      have hr7 := hr6.keeps k7 (by simp)
      have z6 := K6.size
      clear hs6 hr6 K6 k7
      go_wp2_with fail
      refine (Clear_p hd).mono ?_
      rintro e w8 ⟨rfl, hd8, k8⟩
      have K8 := K7.step k8 (by simp; omega)
      have hs8 := hs7.keeps k8 (by simp; omega) (by simp; omega)
      have hr8 := hr7.keeps k8 (by simp; omega)
      clear hs7 hr7 hd K7 k8
      go_wp2_with fail
      rw [EN1.out]
      refine (Add_p hd8 (i := n - 1) (by omega)).mono ?_
      rintro e w9 ⟨rfl, hd9, k9⟩
      have K9 := K8.step k9 (by simp; omega)
      have hs9 := hs8.keeps k9 (by simp; omega) (by simp; omega)
      have hr9 := hr8.keeps k9 (by simp; omega)
      clear hs8 hr8 hd8 K8 k9
      rw [← EN1.out]
      go_wp2_with fail
      refine (All_p hs9 (HT.out.keeps K9 hpos (by simp))).mono ?_
      rintro e w10 ⟨u10, rfl, hu10, k10⟩
      have K10 := K9.trans k10
      have hd10 := hd9.keep0 k10
      have hr10 := hr9.keeps k10 (by simp)
      clear hs9 hd9 hr9 K9 k10
      go_wp2_with fail
      refine (listed_in hr10 h2).mono ?_
      rintro e w11 ⟨u11, rfl, hu11, k11⟩
      have hpm : (asInts (picks n p)).length ≤ maxLen := by rw [asInts_len]; have := picks_len_le n p; unfold maxLen; omega
      have K11 := K10.trans k11
      have hd11 := hd10.keep0 k11
      have hl10 := Lib.hid ((hu10.keeps k11 (by simp)).sl hpm)
      have hl11 := Lib.hid (hu11.sl hpm)
      clear hd10 hr10 K10 hu10 hu11 hpm k11
      generalize asInts (picks n p) = L at *
      go_wp2_with fail
      refine (Equal_e hl10.out hl11.out rfl).mono ?_
      rintro e w' ⟨rfl, j, rfl⟩
      have K12 := K11.drewN j
      have hd12 := hd11.drewN j
      clear hd11 K11 hl10 hl11
      generalize w11.drewN j = w12 at *
      go_wp2_with fail
      refine (All_e hd12 (HT.out.keeps K12 hpos (by simp)) [n - 1] (picks_one_num n (n - 1) (by omega))).mono ?_
      rintro e w13 ⟨u13, rfl, hu13, k13⟩
      have K13 := K12.trans k13
      have hl13 := hu13.sl (by unfold maxLen; simp [asInts])
      clear hd12 K12 k13 hu13
      go_wp2_with fail
      refine (Equal_e (hl13.keeps ((Keeps.refl [] w13).alloc _) (by simp)) (SlI.lit (xs := [(n : Int) - 1]) (Blk.new w13 3 #[.int .i64 ((n : Int) - 1)]) rfl (by unfold maxLen; simp)) (by rw [EN1.out]; rfl)).mono ?_
      rintro e w' ⟨rfl, j2, rfl⟩
      have K14 := (K13.alloc (.cells #[.int .i64 ((n : Int) - 1)] 3)).drewN j2
      go_wp2_with fail
      refine (works_ok (HT.out.keeps K14 hpos (by simp))).mono ?_
      rintro e w15 ⟨rfl, k15⟩
      go_wp2_with fail
      go_ret
      exact ⟨rfl, (K14.trans k15).below⟩
    · have hi5 : 0 ≤ i' := by omega
      clear hi4
      go_enter Tryd.func4, Tryd.ntmps4
      go_wp2_with fail
      rw [E1.out]
      refine HM.out.mono ?_
      rintro e w1 ⟨b, gb, gh, p, rfl, hs, hr, hK, hb, hgb, hgh⟩
      clear HM E1
      go_wp2_with fail
      rw [E2.out]
      refine (New_e _ m rfl hm1 hm2 _).mono ?_
      rintro e w2 ⟨c, gc, rfl, hc, k2, hcb, hcg⟩
      have K2 := hK.trans k2
      have hs2 := hs.keep0 k2
      have hr2 := hr.keeps k2 (by simp)
      clear E2 hs hr hK k2
      go_wp2_with fail
      refine (Add_op hs2 HO.out).mono ?_
      rintro e w' ⟨rfl, rfl⟩
      go_wp2_with fail
      refine (Remove_op hs2 HO.out).mono ?_
      rintro e w' ⟨rfl, rfl⟩
      go_wp2_with fail
      refine (Has_op hs2 HO.out).mono ?_
      rintro e w' ⟨rfl, rfl⟩
      go_wp2_with fail
      refine (Size_p hc).mono ?_
      rintro e w' ⟨rfl, rfl⟩
      go_wp2_with fail
      refine (Union_other hs2 hc HNM.out).mono ?_
      rintro e w3 ⟨rfl, k3⟩
      go_wp2_with fail
      refine (Minus_other (hs2.keep0 k3) (hc.keep0 k3) HNM.out).mono ?_
      rintro e w4 ⟨rfl, k4⟩
      have k24 := k3.trans k4
      have K4 := K2.trans k24
      have hs4 := hs2.keep0 k24
      have hr4 := hr2.keeps k24 (by simp)
      clear hs2 hr2 hc K2 k24 k3 k4
      go_wp2_with fail
      refine (All_p hs4 (HT.out.keeps K4 hpos (by simp))).mono ?_
      rintro e w5 ⟨u, rfl, hu, k5⟩
      obtain ⟨w6, hclr, k6⟩ := clear_own hu
      have hub : ∀ x, x ∈ u.ownBlock.toList → w4.heap.size ≤ x := fun x hx => by
        have := hu.lt x (by simpa using hx)
        omega
      have l4 := hs4.lt
      have lr4 := hr4.lt
      have z4 := K4.size
      have K6 := (K4.trans k5).step k6 (fun x hx => .inr (by have := hub x hx; omega))
      have hs6 := (hs4.keep0 k5).keeps k6 (fun hx => by have := hub _ hx; omega) (fun hx => by have := hub _ hx; omega)
      have hr6 := (hr4.keeps k5 (by simp)).keeps k6 (fun hx => by have := hub _ hx; omega)
      clear hs4 hr4 K4 hu k5 k6 hub
      go_wp2_with fail
      clear hclr
      refine (Copy_p hs6).mono ?_
      rintro e w7 ⟨d, gd, rfl, hd, k7, hdb, hdg⟩
      have l6 := hs6.lt
      have lr6 := hr6.lt
      have K7 := K6.trans k7
      have hs7 := hs6.keep0 k7
      have hr7 := hr6.keeps k7 (by simp)
      have z6 := K6.size
      clear hs6 hr6 K6 k7
      go_wp2_with fail
      refine (Clear_p hd).mono ?_
      rintro e w8 ⟨rfl, hd8, k8⟩
      have K8 := K7.step k8 (by simp; omega)
      have hs8 := hs7.keeps k8 (by simp; omega) (by simp; omega)
      have hr8 := hr7.keeps k8 (by simp; omega)
      clear hs7 hr7 hd K7 k8
      go_wp2_with fail
      rw [EN1.out]
      refine (Add_p hd8 (i := n - 1) (by omega)).mono ?_
      rintro e w9 ⟨rfl, hd9, k9⟩
      have K9 := K8.step k9 (by simp; omega)
      have hs9 := hs8.keeps k9 (by simp; omega) (by simp; omega)
      have hr9 := hr8.keeps k9 (by simp; omega)
      clear hs8 hr8 hd8 K8 k9
      rw [← EN1.out]
      go_wp2_with fail
      refine (All_p hs9 (HT.out.keeps K9 hpos (by simp))).mono ?_
      rintro e w10 ⟨u10, rfl, hu10, k10⟩
      have K10 := K9.trans k10
      have hd10 := hd9.keep0 k10
      have hr10 := hr9.keeps k10 (by simp)
      clear hs9 hd9 hr9 K9 k10
      go_wp2_with fail
      refine (listed_in hr10 h2).mono ?_
      rintro e w11 ⟨u11, rfl, hu11, k11⟩
      have hpm : (asInts (picks n p)).length ≤ maxLen := by rw [asInts_len]; have := picks_len_le n p; unfold maxLen; omega
      have K11 := K10.trans k11
      have hd11 := hd10.keep0 k11
      have hl10 := Lib.hid ((hu10.keeps k11 (by simp)).sl hpm)
      have hl11 := Lib.hid (hu11.sl hpm)
      clear hd10 hr10 K10 hu10 hu11 hpm k11
      generalize asInts (picks n p) = L at *
      go_wp2_with fail
      refine (Equal_e hl10.out hl11.out rfl).mono ?_
      rintro e w' ⟨rfl, j, rfl⟩
      have K12 := K11.drewN j
      have hd12 := hd11.drewN j
      clear hd11 K11 hl10 hl11
      generalize w11.drewN j = w12 at *
      go_wp2_with fail
      refine (All_e hd12 (HT.out.keeps K12 hpos (by simp)) [n - 1] (picks_one_num n (n - 1) (by omega))).mono ?_
      rintro e w13 ⟨u13, rfl, hu13, k13⟩
      have K13 := K12.trans k13
      have hl13 := hu13.sl (by unfold maxLen; simp [asInts])
      clear hd12 K12 k13 hu13
      go_wp2_with fail
      refine (Equal_e (hl13.keeps ((Keeps.refl [] w13).alloc _) (by simp)) (SlI.lit (xs := [(n : Int) - 1]) (Blk.new w13 3 #[.int .i64 ((n : Int) - 1)]) rfl (by unfold maxLen; simp)) (by rw [EN1.out]; rfl)).mono ?_
      rintro e w' ⟨rfl, j2, rfl⟩
      have K14 := (K13.alloc (.cells #[.int .i64 ((n : Int) - 1)] 3)).drewN j2
      go_wp2_with fail
      refine (works_ok (HT.out.keeps K14 hpos (by simp))).mono ?_
      rintro e w15 ⟨rfl, k15⟩
      go_wp2_with fail
      go_ret
      exact ⟨rfl, (K14.trans k15).below⟩

theorem stays_walk (s : Nat) (hs : s ≤ 65535) {v : Value} {zs : List Int} (i : Int) (hhi : i ≤ 9223372036854775807) {w : World} (hv : ArgI .u16 w v zs) (hT : Table w) :
    Calls Tryd.prog 4 #[.int .u16 s, v, .int .i64 i] w fun e w' => e = .returned (.bool true) ∧ Below w.heap.size w w' := by
  by_cases h : 0 ≤ i ∧ i < (1 + s % 4096 : Nat)
  · exact stays_out s hs i _ rfl _ (.inl ⟨h.1, h.2, rfl⟩) hhi hv hT
  · exact stays_out s hs i _ rfl _ (.inr ⟨by omega, rfl⟩) hhi hv hT
end Go.Proofs.YtcdnflffpeijfaaDoor
