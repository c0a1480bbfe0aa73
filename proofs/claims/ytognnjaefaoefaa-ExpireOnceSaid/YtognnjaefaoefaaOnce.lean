/- ExpireOnce: for every input the call returns true, and nothing that was there has changed. No condition. Printed by gen-once.py. -/
import Derived.Test.YtognnjaefaoefaaOnceP
namespace Go.Proofs.Ytognnjaefaoefaa
open Go.RowKit

/-- Where the laws' time stands before round k. -/
def TimeAt (m k : Nat) (N : Int) : Prop := (k ≤ m ∧ N + 1 ≤ 31 * (k : Int)) ∨ (k = m + 1 ∧ N = 1099511627776)
set_option maxRecDepth 1000000 in
set_option maxHeartbeats 4000000 in
theorem once_some {v u : Value} {zs ss : List Int} {w : World} (hv : ArgI .u8 w v zs) (hu : ArgI .u8 w u ss) (hl : zs.length ≤ 60) (hs : ss.length ≤ 40) :
    Calls Try.prog 6 #[v, u] w fun e w' => e = .returned (.bool true) ∧ Below w.heap.size w w' := by
  have HF1 := Lib.hid (filled_in hv hl)
  have HV := Lib.hid hv
  have HU := Lib.hid hu
  have hz0 : ∀ z ∈ zs, 0 ≤ z ∧ z ≤ 255 := fun z h => Go.bounds_u8 (hv.1 _ h)
  obtain ⟨a0, cap, rfl⟩ := hv.shape
  obtain ⟨a1, cap1, rfl⟩ := hu.shape
  clear hv hu
  obtain ⟨n, hn⟩ : ∃ n, zs.length = n := ⟨_, rfl⟩
  have HN := Lib.hid hn
  obtain ⟨m, hm⟩ : ∃ m, ss.length = m := ⟨_, rfl⟩
  have HM := Lib.hid hm
  have HR0 := Lib.hid (rest_fill (zs := zs) (n := n) (N := -1) (by omega) (fun z hz => by have := hz0 z hz; omega))
  have HS0 := Lib.hid (made_bools n (fun j => decide (zs.getD j 0 ≤ -1)) (fun j hj => decide_eq_false (by have := hz0 _ (getD_mem zs 0 j (by omega)); omega)))
  obtain ⟨P0, hP0⟩ : ∃ P : Nat → Bool, (fun j => decide (zs.getD j 0 ≤ -1)) = P := ⟨_, rfl⟩
  rw [hP0] at HS0
  have HP0 := Lib.hid hP0
  have HZ := Lib.hid hz0
  rw [hn] at hl HF1 ⊢
  rw [hm] at hs ⊢
  obtain ⟨F, hF⟩ : ∃ F, fillL zs n = F := ⟨_, rfl⟩
  rw [hF] at HF1 HR0
  clear hn hm hz0 hF hP0
  have hmk := run_make_row' (P := Try.prog) 37 4 (.bool false) 1 Try.underlying37 infoBool rfl .i64 .i64 n (by omega) (by omega)
  simp only [HS0.out] at hmk
  go_enter Try.func6, Try.ntmps6
  go_wp2_with fail
  refine HF1.out.mono ?_
  rintro e w1 ⟨b, O, rfl, hq1, k1, hO⟩
  have HO1 := Lib.hid hO
  have HOL := Lib.hid hq1.lt
  have hbl := Blk.new w1 4 (boolRow n P0)
  have kA := (Keeps.refl [] w1).alloc (.cells (boolRow n P0) 4)
  have HB0 := Lib.hid hbl
  have HQ0 := Lib.hid (hq1.keep0 kA)
  have HK0 := Lib.hid (k1.trans kA)
  have HZ1 := Lib.hid k1.size
  clear hO hq1 k1 hbl kA HF1
  go_wp2_with fail
  generalize w1.alloc (.cells (boolRow n P0) 4) = w2 at *
  obtain ⟨g, hg⟩ : ∃ g, w1.heap.size = g := ⟨_, rfl⟩
  rw [hg] at HB0 HZ1 HOL ⊢
  have HGO := Lib.hid (show g ∉ O from fun h => by have := HOL.out g h; omega)
  clear hg HOL
  go_loopw [6, 8, 9, 10] (fun now la li i wr => ∃ (k : Nat) (N A B : Int) (L : List (Int × Int)), now = .int .i64 N ∧ la = .int .i64 A ∧ li = .int .i64 B ∧ i = .int .i64 k ∧ k ≤ m + 1 ∧ -1 ≤ N ∧ N ≤ 1099511627776 ∧ Hid (TimeAt m k N) ∧ -1 ≤ A ∧ A ≤ N ∧ -1 ≤ B ∧ B ≤ 60 ∧ Qu wr b O L ∧ Hid (Rest zs n N L) ∧ Blk wr g 4 (boolRow n fun j => decide (zs.getD j 0 ≤ N)) ∧ Keeps [] w wr) (fun _ _ _ i _ => m + 1 - (intOf i).toNat)
  case atStart => exact ⟨0, -1, -1, -1, F, rfl, rfl, rfl, rfl, Nat.zero_le _, by decide, by decide, Lib.hid (.inl ⟨Nat.zero_le _, by decide⟩), by decide, by decide, by decide, by decide, HQ0.out, HR0, by rw [HP0.out]; exact HB0.out, HK0.out⟩
  case round =>
    clear HQ0 HR0 HB0 HK0 HS0 HP0
    obtain ⟨k, N, A, B, L, rfl, rfl, rfl, rfl, hk, hN1, hN2, HT, hA1, hA2, hB1, hB2, hq, HR, hbl, hK⟩ := hrel
    by_cases hkm : k ≤ m
    · have hkI : (k : Int) ≤ (m : Int) := by omega
      have hN3 : N + 1 ≤ 31 * (k : Int) := by
        rcases HT.out with h | h
        · exact h.2
        · omega
      by_cases hk2 : k < m
      · have hkI2 : (k : Int) < (m : Int) := by omega
        obtain ⟨gs, os, rfl, hgs, hlc, hcm, hcl⟩ := ArgI.some_ (a := a1) (cap := cap1) (by have := HU.out; rw [HM.out] at this; rw [HM.out]; exact this) (i := 0) (by have := HM.out; omega)
        have c0 := (hK.cell (p := ⟨gs, os + k, none⟩) hgs (by simp)).trans (hcl k (by have := HM.out; omega))
        have hw := Go.bounds_u8 (HU.out.1 _ (getD_mem ss 0 k (by have := HM.out; omega)))
        clear hcl
        obtain ⟨s, hss⟩ : ∃ s, ss.getD k 0 = s := ⟨_, rfl⟩
        rw [hss] at c0 hw
        clear hss
        obtain ⟨r, hr⟩ : ∃ r, Int.tmod s 32 = r := ⟨_, rfl⟩
        have hr1 : 0 ≤ r ∧ r ≤ 31 := by
          rw [Int.tmod_eq_emod_of_nonneg hw.1] at hr
          omega
        have hT1 : N ≤ (N + r) := by omega
        have hT2 : -1 ≤ (N + r) := by omega
        have hT3 : (N + r) ≤ 1099511627776 := by omega
        have HTT := Lib.hid (show TimeAt m (k + 1) (N + r) from .inl ⟨by omega, by omega⟩)
        have HD := Lib.hid (Due_in hq (N + r))
        have HDue := due_made (t := (N + r)) hq.good HR.out
        have HRest := rest_made hT1 hq.good HR.out
        obtain ⟨D, hDD⟩ : ∃ D, L.take (dueN L (N + r)) = D := ⟨_, rfl⟩
        obtain ⟨L2, hL2⟩ : ∃ L2, L.drop (dueN L (N + r)) = L2 := ⟨_, rfl⟩
        rw [hDD] at HDue
        rw [hL2] at HRest
        replace HDue := Lib.hid HDue
        replace HRest := Lib.hid HRest
        have HDD := Lib.hid hDD
        have HL2 := Lib.hid hL2
        have HK := Lib.hid hK
        have HBl := Lib.hid hbl
        have hDl : D.length ≤ 256 := by
          rw [← hDD, List.length_take]
          have h1 := hq.len
          omega
        clear hDD hL2 hq hbl hK HT
        go_wp2_with fail
        refine HD.out.mono ?_
        rintro e w4 ⟨u4, rfl, hu4, hq4, k4⟩
        rw [HDD.out] at hu4
        rw [HL2.out] at hq4
        obtain ⟨a4, c4, rfl⟩ := hu4.shape
        obtain ⟨d, hd⟩ : ∃ d, D.length = d := ⟨_, rfl⟩
        have hul : (idsOf D).length = d := by unfold idsOf; rw [List.length_map, hd]
        have HU4 := Lib.hid hu4
        rw [hul]
        rw [hd] at hDl
        have HDd := Lib.hid hd
        have HUL := Lib.hid hul
        have hs4 := hu4.sl (by rw [hul]; unfold maxLen; omega)
        have HS4 := Lib.hid hs4
        have K4 := HK.out.step k4 (fun x hx => .inr (HO1.out x hx))
        have hb4 := HBl.out.keeps k4 HGO.out
        have hgr := HBl.out.lt
        have HK4 := Lib.hid K4
        have HQ4 := Lib.hid hq4
        have HB4 := Lib.hid hb4
        clear hu4 hq4 k4 K4 hb4 hul hd HD HDD HL2 HBl hs4
        go_wp2_with fail
        go_loopw [8, 9, 13] (fun la li i w5 => ∃ (q : Nat) (A B : Int), la = .int .i64 A ∧ li = .int .i64 B ∧ i = .int .i64 q ∧ q ≤ d ∧ -1 ≤ A ∧ A ≤ (N + r) ∧ -1 ≤ B ∧ B ≤ 60 ∧ Hid (q < d → LastBef A B (D.getD q (0, 0))) ∧ Blk w5 g 4 (boolRow n (seenP zs N D q)) ∧ Keeps [g] w4 w5) (fun _ _ i _ => d - (intOf i).toNat)
        case atStart =>
          refine ⟨0, A, B, rfl, rfl, rfl, Nat.zero_le _, hA1, by omega, hB1, hB2, Lib.hid (fun h => ?_), ?_, Keeps.refl _ _⟩
          · obtain ⟨i, hi, h1, h2, h3⟩ := (HDue.out.mem _).1 (getD_mem D (0, 0) 0 (by have := HDd.out; omega))
            refine .inl ?_
            rw [h1]
            show A < zs.getD i 0
            omega
          · have := HB4.out
            rwa [boolRow_congr (n := n) (q := seenP zs N D 0) (fun i _ => (seen_zero zs N D i).symm)] at this
        case round =>
          clear hA1 hA2 hB1 hB2
          obtain ⟨q, A, B, rfl, rfl, rfl, hqd, hA1, hA2, hB1, hB2, HLB, hb5, k5⟩ := hrel
          by_cases hq2 : q < d
          · have hqI : (q : Int) < (d : Int) := by omega
            obtain ⟨x, hx, h1, h2, h3⟩ := (HDue.out.mem _).1 (getD_mem D (0, 0) q (by have := HDd.out; omega))
            have h1a : (D.getD q (0, 0)).1 = (x : Int) := by rw [h1]
            have h1b : (D.getD q (0, 0)).2 = zs.getD x 0 := by rw [h1]
            have hsn := seen_not HDue.out (by have := HDd.out; omega) h1a h2
            have HNx := Lib.hid (fun j => seen_next (zs := zs) (N := N) (by have := HDd.out; omega) h1a j)
            have hLB := HLB.out hq2
            unfold LastBef at hLB
            rw [h1a, h1b] at hLB
            obtain ⟨bu, ou, rfl, _, hum, hcu⟩ := (show SlI w4 (.slice a4 (idsOf D).length c4) (idsOf D) from HS4.out).some_ (k := q) (by have := HUL.out; omega)
            have hbu := HU4.out.from_ bu rfl
            have cu := (k5.cell (p := ⟨bu, ou + q, none⟩) (by have := HU4.out.lt bu rfl; exact this.2) (by simp; omega)).trans (hcu q (by have := HUL.out; omega))
            rw [idsOf_getD, h1a] at cu
            obtain ⟨gz, oz, rfl, hgz, hlz, hcz, hcl⟩ := ArgI.some_ (a := a0) (cap := cap) (by have := HV.out; rw [HN.out] at this; rw [HN.out]; exact this) (i := 0) (by have := HN.out; omega)
            have hgzg : gz ≠ g := by have := HZ1.out; omega
            have cz := (k5.cell (p := ⟨gz, oz + x, none⟩) (Nat.lt_of_lt_of_le hgz HK4.out.size) (by simpa using hgzg)).trans ((HK4.out.cell (p := ⟨gz, oz + x, none⟩) hgz (by simp)).trans (hcl x (by have := HN.out; omega)))
            have hwz := Go.bounds_u8 (HV.out.1 _ (getD_mem zs 0 x (by have := HN.out; omega)))
            have cs := hb5.cellAt x _ (boolRow_at n _ hx)
            rw [hsn] at cs
            have hfz := hb5.frozen x
            have HX1 := Lib.hid h1a
            have HX2 := Lib.hid h1b
            have HB5 := Lib.hid (hb5.put x (.bool true))
            have HK5 := Lib.hid (k5.setCell (p := ⟨g, x, none⟩) (.inl (by simp)) (.bool true))
            clear hcl hcu h1 h1a h1b hsn HLB hb5
            obtain ⟨z, hz⟩ : ∃ z, zs.getD x 0 = z := ⟨_, rfl⟩
            rw [hz] at cz hwz hLB HX2 h2 h3
            clear hz k5
            have hxI : (x : Int) < (n : Int) := by omega
            have t1 : ¬ (x : Int) < 0 := by omega
            have t2 : ¬ (n : Int) ≤ (x : Int) := by omega
            have t3 : ¬ z ≤ N := by omega
            have t4 : ¬ (N + r) < z := by omega
            have t6 : ¬ z < A := by omega
            rcases hLB with hLB | ⟨hLB, hLB2⟩
            · have t7 : (z == A) = false := by simp; omega
              go_wp2_with fail
              go_roundw
              case rel =>
                refine ⟨q + 1, z, x, rfl, rfl, by go_num, by omega, by omega, by omega, by omega, by omega, Lib.hid (fun h => ?_), ?_, HK5.out⟩
                · have := last_next HDue.out.good (q := q) (by have := HDd.out; omega)
                  rwa [HX1.out, HX2.out] at this
                · have := HB5.out
                  rwa [boolRow_set (fun i _ => HNx.out i)] at this
              case measure => simp [intOf] <;> omega
            · have t7 : (z == A) = true := by simp; omega
              have t8 : ¬ (x : Int) ≤ B := by omega
              go_wp2_with fail
              go_roundw
              case rel =>
                refine ⟨q + 1, z, x, rfl, rfl, by go_num, by omega, by omega, by omega, by omega, by omega, Lib.hid (fun h => ?_), ?_, HK5.out⟩
                · have := last_next HDue.out.good (q := q) (by have := HDd.out; omega)
                  rwa [HX1.out, HX2.out] at this
                · have := HB5.out
                  rwa [boolRow_set (fun i _ => HNx.out i)] at this
              case measure => simp [intOf] <;> omega
          · have hqd2 : q = d := by omega
            subst hqd2
            have hqI : ¬ (q : Int) < (q : Int) := by omega
            have hb6 := hb5
            rw [boolRow_congr (n := n) (p := seenP zs N D q) (q := fun j => decide (zs.getD j 0 ≤ (N + r))) (fun i hi => by have := seen_all hT1 HDue.out hi; rw [HDd.out] at this; exact this)] at hb6
            have hq6 := HQ4.out.keeps k5 (fun x hx hx2 => HGO.out (by simp at hx2; rwa [← hx2]))
            have K6 := HK4.out.step k5 (fun x hx => .inr (by simp at hx; have := HZ1.out; omega))
            have HQ6 := Lib.hid hq6
            have HK6 := Lib.hid K6
            have HB6 := Lib.hid hb6
            clear hb5 hb6 hq6 K6 k5 HLB
            go_wp2_with fail
            go_loopw [16] (fun i w6 => ∃ j : Nat, i = .int .i64 j ∧ j ≤ n ∧ Qu w6 b O L2 ∧ Blk w6 g 4 (boolRow n fun j => decide (zs.getD j 0 ≤ (N + r))) ∧ Keeps [] w w6) (fun i _ => n - (intOf i).toNat)
            case atStart => exact ⟨0, rfl, Nat.zero_le _, HQ6.out, HB6.out, HK6.out⟩
            case round =>
              clear HQ6 HK6 HB6
              obtain ⟨j, rfl, hj, hq7, hb7, K7⟩ := hrel
              by_cases hjn : j < n
              · have hjI : (j : Int) < (n : Int) := by omega
                obtain ⟨gz, oz, rfl, hgz, hlz, hcz, hcl⟩ := ArgI.some_ (a := a0) (cap := cap) (by have := HV.out; rw [HN.out] at this; rw [HN.out]; exact this) (i := 0) (by have := HN.out; omega)
                have cz0 := hcl j (by have := HN.out; omega)
                have hwz := Go.bounds_u8 (HV.out.1 _ (getD_mem zs 0 j (by have := HN.out; omega)))
                have HW := Lib.hid (When_q hq7 (j : Int))
                have HQ7 := Lib.hid hq7
                have HB7 := Lib.hid hb7
                have HK7 := Lib.hid K7
                clear hcl
                by_cases hzt : zs.getD j 0 ≤ (N + r)
                · rw [when_past HRest.out hzt] at HW
                  have cs0 := fun (w' : World) (k' : Keeps [] wr w') => (HB7.out.keeps k' (by simp)).cellAt j _ (boolRow_at n (fun j => decide (zs.getD j 0 ≤ (N + r))) hjn)
                  simp only [decide_eq_true hzt] at cs0
                  have HCS := Lib.hid cs0
                  obtain ⟨z, hz⟩ : ∃ z, zs.getD j 0 = z := ⟨_, rfl⟩
                  rw [hz] at cz0 hwz hzt
                  have t1 : ¬ (N + r) < z := by omega
                  clear hz hq7 hb7 K7 cs0
                  go_wp2_with fail
                  refine HW.out.mono ?_
                  rintro e w8 ⟨rfl, k8⟩
                  have cs := HCS.out _ k8
                  have K8 := HK7.out.trans k8
                  have cz := (K8.cell (p := ⟨gz, oz + j, none⟩) hgz (by simp)).trans cz0
                  have HQ8 := Lib.hid (HQ7.out.keep0 k8)
                  have HB8 := Lib.hid (HB7.out.keeps k8 (by simp))
                  clear k8 cz0
                  go_wp2_with fail
                  go_roundw
                  case rel => exact ⟨j + 1, by go_num, by omega, HQ8.out, HB8.out, K8⟩
                  case measure => simp [intOf] <;> omega
                · rw [when_rest HQ7.out.good HRest.out hjn (by omega)] at HW
                  have cs0 := fun (w' : World) (k' : Keeps [] wr w') => (HB7.out.keeps k' (by simp)).cellAt j _ (boolRow_at n (fun j => decide (zs.getD j 0 ≤ (N + r))) hjn)
                  simp only [decide_eq_false hzt] at cs0
                  have HCS := Lib.hid cs0
                  obtain ⟨z, hz⟩ : ∃ z, zs.getD j 0 = z := ⟨_, rfl⟩
                  rw [hz] at cz0 hwz hzt HW
                  clear hz hq7 hb7 K7 cs0
                  go_wp2_with fail
                  refine HW.out.mono ?_
                  rintro e w8 ⟨rfl, k8⟩
                  have cs := HCS.out _ k8
                  have K8 := HK7.out.trans k8
                  have cz := (K8.cell (p := ⟨gz, oz + j, none⟩) hgz (by simp)).trans cz0
                  have HQ8 := Lib.hid (HQ7.out.keep0 k8)
                  have HB8 := Lib.hid (HB7.out.keeps k8 (by simp))
                  clear k8 cz0
                  go_wp2_with fail
                  go_roundw
                  case rel => exact ⟨j + 1, by go_num, by omega, HQ8.out, HB8.out, K8⟩
                  case measure => simp [intOf] <;> omega
              · have hjI : ¬ (j : Int) < (n : Int) := by omega
                have HQ7 := Lib.hid hq7
                have HB7 := Lib.hid hb7
                clear hq7 hb7
                go_wp2_with fail
                go_roundw
                case rel => exact ⟨k + 1, (N + r), A, B, L2, rfl, rfl, rfl, by go_num, by omega, hT2, hT3, HTT, hA1, hA2, hB1, hB2, HQ7.out, HRest, HB7.out, K7⟩
                case measure => simp [intOf] <;> omega
      · have hkI2 : ¬ (k : Int) < (m : Int) := by omega
        have hT1 : N ≤ (1099511627776 : Int) := by omega
        have hT2 : -1 ≤ (1099511627776 : Int) := by omega
        have hT3 : (1099511627776 : Int) ≤ 1099511627776 := by omega
        have HTT := Lib.hid (show TimeAt m (k + 1) (1099511627776 : Int) from .inr ⟨by omega, rfl⟩)
        have HD := Lib.hid (Due_in hq (1099511627776 : Int))
        have HDue := due_made (t := (1099511627776 : Int)) hq.good HR.out
        have HRest := rest_made hT1 hq.good HR.out
        obtain ⟨D, hDD⟩ : ∃ D, L.take (dueN L (1099511627776 : Int)) = D := ⟨_, rfl⟩
        obtain ⟨L2, hL2⟩ : ∃ L2, L.drop (dueN L (1099511627776 : Int)) = L2 := ⟨_, rfl⟩
        rw [hDD] at HDue
        rw [hL2] at HRest
        replace HDue := Lib.hid HDue
        replace HRest := Lib.hid HRest
        have HDD := Lib.hid hDD
        have HL2 := Lib.hid hL2
        have HK := Lib.hid hK
        have HBl := Lib.hid hbl
        have hDl : D.length ≤ 256 := by
          rw [← hDD, List.length_take]
          have h1 := hq.len
          omega
        clear hDD hL2 hq hbl hK HT
        go_wp2_with fail
        refine HD.out.mono ?_
        rintro e w4 ⟨u4, rfl, hu4, hq4, k4⟩
        rw [HDD.out] at hu4
        rw [HL2.out] at hq4
        obtain ⟨a4, c4, rfl⟩ := hu4.shape
        obtain ⟨d, hd⟩ : ∃ d, D.length = d := ⟨_, rfl⟩
        have hul : (idsOf D).length = d := by unfold idsOf; rw [List.length_map, hd]
        have HU4 := Lib.hid hu4
        rw [hul]
        rw [hd] at hDl
        have HDd := Lib.hid hd
        have HUL := Lib.hid hul
        have hs4 := hu4.sl (by rw [hul]; unfold maxLen; omega)
        have HS4 := Lib.hid hs4
        have K4 := HK.out.step k4 (fun x hx => .inr (HO1.out x hx))
        have hb4 := HBl.out.keeps k4 HGO.out
        have hgr := HBl.out.lt
        have HK4 := Lib.hid K4
        have HQ4 := Lib.hid hq4
        have HB4 := Lib.hid hb4
        clear hu4 hq4 k4 K4 hb4 hul hd HD HDD HL2 HBl hs4
        go_wp2_with fail
        go_loopw [8, 9, 13] (fun la li i w5 => ∃ (q : Nat) (A B : Int), la = .int .i64 A ∧ li = .int .i64 B ∧ i = .int .i64 q ∧ q ≤ d ∧ -1 ≤ A ∧ A ≤ (1099511627776 : Int) ∧ -1 ≤ B ∧ B ≤ 60 ∧ Hid (q < d → LastBef A B (D.getD q (0, 0))) ∧ Blk w5 g 4 (boolRow n (seenP zs N D q)) ∧ Keeps [g] w4 w5) (fun _ _ i _ => d - (intOf i).toNat)
        case atStart =>
          refine ⟨0, A, B, rfl, rfl, rfl, Nat.zero_le _, hA1, by omega, hB1, hB2, Lib.hid (fun h => ?_), ?_, Keeps.refl _ _⟩
          · obtain ⟨i, hi, h1, h2, h3⟩ := (HDue.out.mem _).1 (getD_mem D (0, 0) 0 (by have := HDd.out; omega))
            refine .inl ?_
            rw [h1]
            show A < zs.getD i 0
            omega
          · have := HB4.out
            rwa [boolRow_congr (n := n) (q := seenP zs N D 0) (fun i _ => (seen_zero zs N D i).symm)] at this
        case round =>
          clear hA1 hA2 hB1 hB2
          obtain ⟨q, A, B, rfl, rfl, rfl, hqd, hA1, hA2, hB1, hB2, HLB, hb5, k5⟩ := hrel
          by_cases hq2 : q < d
          · have hqI : (q : Int) < (d : Int) := by omega
            obtain ⟨x, hx, h1, h2, h3⟩ := (HDue.out.mem _).1 (getD_mem D (0, 0) q (by have := HDd.out; omega))
            have h1a : (D.getD q (0, 0)).1 = (x : Int) := by rw [h1]
            have h1b : (D.getD q (0, 0)).2 = zs.getD x 0 := by rw [h1]
            have hsn := seen_not HDue.out (by have := HDd.out; omega) h1a h2
            have HNx := Lib.hid (fun j => seen_next (zs := zs) (N := N) (by have := HDd.out; omega) h1a j)
            have hLB := HLB.out hq2
            unfold LastBef at hLB
            rw [h1a, h1b] at hLB
            obtain ⟨bu, ou, rfl, _, hum, hcu⟩ := (show SlI w4 (.slice a4 (idsOf D).length c4) (idsOf D) from HS4.out).some_ (k := q) (by have := HUL.out; omega)
            have hbu := HU4.out.from_ bu rfl
            have cu := (k5.cell (p := ⟨bu, ou + q, none⟩) (by have := HU4.out.lt bu rfl; exact this.2) (by simp; omega)).trans (hcu q (by have := HUL.out; omega))
            rw [idsOf_getD, h1a] at cu
            obtain ⟨gz, oz, rfl, hgz, hlz, hcz, hcl⟩ := ArgI.some_ (a := a0) (cap := cap) (by have := HV.out; rw [HN.out] at this; rw [HN.out]; exact this) (i := 0) (by have := HN.out; omega)
            have hgzg : gz ≠ g := by have := HZ1.out; omega
            have cz := (k5.cell (p := ⟨gz, oz + x, none⟩) (Nat.lt_of_lt_of_le hgz HK4.out.size) (by simpa using hgzg)).trans ((HK4.out.cell (p := ⟨gz, oz + x, none⟩) hgz (by simp)).trans (hcl x (by have := HN.out; omega)))
            have hwz := Go.bounds_u8 (HV.out.1 _ (getD_mem zs 0 x (by have := HN.out; omega)))
            have cs := hb5.cellAt x _ (boolRow_at n _ hx)
            rw [hsn] at cs
            have hfz := hb5.frozen x
            have HX1 := Lib.hid h1a
            have HX2 := Lib.hid h1b
            have HB5 := Lib.hid (hb5.put x (.bool true))
            have HK5 := Lib.hid (k5.setCell (p := ⟨g, x, none⟩) (.inl (by simp)) (.bool true))
            clear hcl hcu h1 h1a h1b hsn HLB hb5
            obtain ⟨z, hz⟩ : ∃ z, zs.getD x 0 = z := ⟨_, rfl⟩
            rw [hz] at cz hwz hLB HX2 h2 h3
            clear hz k5
            have hxI : (x : Int) < (n : Int) := by omega
            have t1 : ¬ (x : Int) < 0 := by omega
            have t2 : ¬ (n : Int) ≤ (x : Int) := by omega
            have t3 : ¬ z ≤ N := by omega
            have t4 : ¬ (1099511627776 : Int) < z := by omega
            have t6 : ¬ z < A := by omega
            rcases hLB with hLB | ⟨hLB, hLB2⟩
            · have t7 : (z == A) = false := by simp; omega
              go_wp2_with fail
              go_roundw
              case rel =>
                refine ⟨q + 1, z, x, rfl, rfl, by go_num, by omega, by omega, by omega, by omega, by omega, Lib.hid (fun h => ?_), ?_, HK5.out⟩
                · have := last_next HDue.out.good (q := q) (by have := HDd.out; omega)
                  rwa [HX1.out, HX2.out] at this
                · have := HB5.out
                  rwa [boolRow_set (fun i _ => HNx.out i)] at this
              case measure => simp [intOf] <;> omega
            · have t7 : (z == A) = true := by simp; omega
              have t8 : ¬ (x : Int) ≤ B := by omega
              go_wp2_with fail
              go_roundw
              case rel =>
                refine ⟨q + 1, z, x, rfl, rfl, by go_num, by omega, by omega, by omega, by omega, by omega, Lib.hid (fun h => ?_), ?_, HK5.out⟩
                · have := last_next HDue.out.good (q := q) (by have := HDd.out; omega)
                  rwa [HX1.out, HX2.out] at this
                · have := HB5.out
                  rwa [boolRow_set (fun i _ => HNx.out i)] at this
              case measure => simp [intOf] <;> omega
          · have hqd2 : q = d := by omega
            subst hqd2
            have hqI : ¬ (q : Int) < (q : Int) := by omega
            have hb6 := hb5
            rw [boolRow_congr (n := n) (p := seenP zs N D q) (q := fun j => decide (zs.getD j 0 ≤ (1099511627776 : Int))) (fun i hi => by have := seen_all hT1 HDue.out hi; rw [HDd.out] at this; exact this)] at hb6
            have hq6 := HQ4.out.keeps k5 (fun x hx hx2 => HGO.out (by simp at hx2; rwa [← hx2]))
            have K6 := HK4.out.step k5 (fun x hx => .inr (by simp at hx; have := HZ1.out; omega))
            have HQ6 := Lib.hid hq6
            have HK6 := Lib.hid K6
            have HB6 := Lib.hid hb6
            clear hb5 hb6 hq6 K6 k5 HLB
            go_wp2_with fail
            go_loopw [16] (fun i w6 => ∃ j : Nat, i = .int .i64 j ∧ j ≤ n ∧ Qu w6 b O L2 ∧ Blk w6 g 4 (boolRow n fun j => decide (zs.getD j 0 ≤ (1099511627776 : Int))) ∧ Keeps [] w w6) (fun i _ => n - (intOf i).toNat)
            case atStart => exact ⟨0, rfl, Nat.zero_le _, HQ6.out, HB6.out, HK6.out⟩
            case round =>
              clear HQ6 HK6 HB6
              obtain ⟨j, rfl, hj, hq7, hb7, K7⟩ := hrel
              by_cases hjn : j < n
              · have hjI : (j : Int) < (n : Int) := by omega
                obtain ⟨gz, oz, rfl, hgz, hlz, hcz, hcl⟩ := ArgI.some_ (a := a0) (cap := cap) (by have := HV.out; rw [HN.out] at this; rw [HN.out]; exact this) (i := 0) (by have := HN.out; omega)
                have cz0 := hcl j (by have := HN.out; omega)
                have hwz := Go.bounds_u8 (HV.out.1 _ (getD_mem zs 0 j (by have := HN.out; omega)))
                have HW := Lib.hid (When_q hq7 (j : Int))
                have HQ7 := Lib.hid hq7
                have HB7 := Lib.hid hb7
                have HK7 := Lib.hid K7
                clear hcl
                by_cases hzt : zs.getD j 0 ≤ (1099511627776 : Int)
                · rw [when_past HRest.out hzt] at HW
                  have cs0 := fun (w' : World) (k' : Keeps [] wr w') => (HB7.out.keeps k' (by simp)).cellAt j _ (boolRow_at n (fun j => decide (zs.getD j 0 ≤ (1099511627776 : Int))) hjn)
                  simp only [decide_eq_true hzt] at cs0
                  have HCS := Lib.hid cs0
                  obtain ⟨z, hz⟩ : ∃ z, zs.getD j 0 = z := ⟨_, rfl⟩
                  rw [hz] at cz0 hwz hzt
                  have t1 : ¬ (1099511627776 : Int) < z := by omega
                  clear hz hq7 hb7 K7 cs0
                  go_wp2_with fail
                  refine HW.out.mono ?_
                  rintro e w8 ⟨rfl, k8⟩
                  have cs := HCS.out _ k8
                  have K8 := HK7.out.trans k8
                  have cz := (K8.cell (p := ⟨gz, oz + j, none⟩) hgz (by simp)).trans cz0
                  have HQ8 := Lib.hid (HQ7.out.keep0 k8)
                  have HB8 := Lib.hid (HB7.out.keeps k8 (by simp))
                  clear k8 cz0
                  go_wp2_with fail
                  go_roundw
                  case rel => exact ⟨j + 1, by go_num, by omega, HQ8.out, HB8.out, K8⟩
                  case measure => simp [intOf] <;> omega
                · exfalso
                  omega
              · have hjI : ¬ (j : Int) < (n : Int) := by omega
                have HQ7 := Lib.hid hq7
                have HB7 := Lib.hid hb7
                clear hq7 hb7
                go_wp2_with fail
                go_roundw
                case rel => exact ⟨k + 1, (1099511627776 : Int), A, B, L2, rfl, rfl, rfl, by go_num, by omega, hT2, hT3, HTT, hA1, hA2, hB1, hB2, HQ7.out, HRest, HB7.out, K7⟩
                case measure => simp [intOf] <;> omega
    · have hkI : ¬ (k : Int) ≤ (m : Int) := by omega
      have hNN : N = 1099511627776 := by
        rcases HT.out with h | h
        · omega
        · exact h.2
      have hL := rest_none (N := N) (L := L) (zs := zs) (n := n) (by have := HN.out; omega) (fun z hz => by have := HZ.out z hz; omega) HR.out
      subst hL
      have HLe := Lib.hid (Len_q hq)
      rw [show ([] : List (Int × Int)).length = 0 from rfl] at HLe
      clear hq hbl
      have HK := Lib.hid hK
      clear hK
      go_wp2_with fail
      refine HLe.out.mono ?_
      rintro e w' ⟨rfl, rfl⟩
      go_wp2_with fail
      refine (works_ok _).mono ?_
      rintro e w5 ⟨rfl, k5⟩
      go_wp2_with fail
      go_ret
      exact ⟨rfl, (HK.out.trans k5).below⟩
set_option maxRecDepth 1000000 in
theorem once_walk {v u : Value} {zs ss : List Int} {w : World} (hv : ArgI .u8 w v zs) (hu : ArgI .u8 w u ss) :
    Calls Try.prog 6 #[v, u] w fun e w' => e = .returned (.bool true) ∧ Below w.heap.size w w' := by
  by_cases hl : zs.length ≤ 60
  · by_cases hs : ss.length ≤ 40
    · exact once_some hv hu hl hs
    · obtain ⟨a0, cap, rfl⟩ := hv.shape
      obtain ⟨a1, cap1, rfl⟩ := hu.shape
      clear hv hu
      generalize zs.length = n at *
      generalize ss.length = m at *
      go_enter Try.func6, Try.ntmps6
      go_wp2_with fail
      refine (works_ok _).mono ?_
      rintro e w1 ⟨rfl, k1⟩
      go_wp2_with fail
      go_ret
      exact ⟨rfl, k1.below⟩
  · obtain ⟨a0, cap, rfl⟩ := hv.shape
    obtain ⟨a1, cap1, rfl⟩ := hu.shape
    clear hv hu
    generalize zs.length = n at *
    generalize ss.length = m at *
    go_enter Try.func6, Try.ntmps6
    go_wp2_with fail
    refine (works_ok _).mono ?_
    rintro e w1 ⟨rfl, k1⟩
    go_wp2_with fail
    go_ret
    exact ⟨rfl, k1.below⟩
end Go.Proofs.Ytognnjaefaoefaa
