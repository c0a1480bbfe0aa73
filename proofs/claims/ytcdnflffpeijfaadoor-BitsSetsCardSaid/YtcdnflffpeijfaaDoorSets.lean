/- BitsSets: for every input the call returns true, and nothing that was there has changed. Condition: the table of trailing zeros lies in its block. Printed by gen-sets.py. -/
import Derived.Test.YtcdnflffpeijfaaDoorNexts
namespace Go.Proofs.YtcdnflffpeijfaaDoor
open Go.RowKit

theorem picks_noneP (n : Nat) : picks n noneP = [] := by unfold picks noneP; simp

set_option maxRecDepth 1000000 in
set_option maxHeartbeats 8000000 in
theorem sets_none (s : Nat) (hs : s ≤ 65535) {v : Value} {ys : List Int} (a : Option Addr) (cap : Nat) {w : World} (hv : ArgI .u16 w v ys) (hT : Table w)  :
    Calls Tryd.prog 6 #[.int .u16 s, v, .slice a 0 cap] w fun e w' => e = .returned (.bool true) ∧ Below w.heap.size w w' := by
  have hpos := hT.pos
  obtain ⟨n, hn⟩ : ∃ n, 1 + s % 4096 = n := ⟨_, rfl⟩
  have h1 : 1 ≤ n := by omega
  have h2 : n ≤ 4096 := by omega
  have E1 := Lib.hid (show (1 : Int) + (s : Int) % 4096 = (n : Int) by omega)
  have HM := Lib.hid (made_in h1 h2 hv)
  have HT := Lib.hid hT
  have hz : ((n : Int) == 0) = false := by simp; omega
  have hz' : ¬ (n : Int) = 0 := by omega
  clear hT hv hn
  go_enter Tryd.func6, Tryd.ntmps6
  go_wp2_with fail
  rw [E1.out]
  refine HM.out.mono ?_
  rintro e w1 ⟨b, gb, gh, p, rfl, hs, hr, hK, hb, hgb, hgh⟩
  clear HM E1
  go_wp2_with fail
  refine wp_loop_rounds 1 ?_
  rw [rounds_succ]
  go_wp2_with fail
  refine (listed_in hr h2).mono ?_
  rintro e w3 ⟨u, rfl, hu, k3⟩
  have K3 := hK.trans k3
  have hs3 := hs.keep0 k3
  have hr3 := hr.keeps k3 (by simp)
  clear hs hr hK k3
  obtain ⟨a1, c1, rfl⟩ := hu.shape
  have HPL := Lib.hid (picks_len_le n p)
  have HRow3 := Lib.hid hr3
  have HS3 := Lib.hid hs3
  have HHas := Lib.hid (fun k (hk : k < n) => Has_p hs3 hk)
  rw [asInts_len]
  rw [asInts_len] at hu
  have HCount := Lib.hid (fun (W : World) (hk : Keeps [] w3 W) => Count_p (hs3.keep0 hk))
  have HAll := Lib.hid (fun (W : World) (hk : Keeps [] w3 W) (hT : Table W) => All_p (hs3.keep0 hk) hT)
  generalize hL : picks n p = L at *
  have HL2 := Lib.hid hL
  clear hr3 hs3 hL
  go_wp2_with fail
  go_loop [68] (fun i => ∃ k : Nat, i = .int .i64 k ∧ k ≤ n) (fun i => n - (intOf i).toNat)
  case atStart => exact ⟨0, rfl, Nat.zero_le _⟩
  case round =>
    obtain ⟨k, rfl, hkn⟩ := hrel
    by_cases hkn2 : k < n
    · have ck := HRow3.out.cellAt k _ (boolRow_at n p hkn2)
      have HH := Lib.hid (HHas.out k hkn2)
      generalize p k = t at *
      go_wp2_with fail
      refine HH.out.mono ?_
      rintro e w' ⟨rfl, rfl⟩
      go_wp2_with fail
      go_round
      case rel => exact ⟨k + 1, by go_num, by omega⟩
      case measure => simp [intOf]; omega
    · go_wp2_with fail
      have hT3 := HT.out.keeps K3 hpos (by simp)
      refine (HAll.out _ (Keeps.refl [] _) hT3).mono ?_
      rintro e w4 ⟨u2, rfl, hu2, k4⟩
      have hLm : (asInts L).length ≤ maxLen := by rw [asInts_len]; have := HPL.out; unfold maxLen; omega
      go_wp2_with fail
      refine (Equal_e (hu2.sl hLm) ((hu.keeps k4 (by simp)).sl hLm) rfl).mono ?_
      rintro e w' ⟨rfl, j, rfl⟩
      have k5 := k4.drewN j
      have K5 := K3.trans k5
      have hs5 := HS3.out.keep0 k5
      clear hLm
      generalize w4.drewN j = w5 at *
      go_wp2_with fail
      refine (HCount.out _ k5).mono ?_
      rintro e w' ⟨rfl, rfl⟩
      go_wp2_with fail
      refine (Size_p hs5).mono ?_
      rintro e w' ⟨rfl, rfl⟩
      go_wp2_with fail
      refine (Clear_p hs5).mono ?_
      rintro e w6 ⟨rfl, hs6, k6⟩
      have K6 := K5.step k6 (by simp; omega)
      clear hs5 K5 k5
      have HC0 := Lib.hid (Count_p hs6)
      rw [picks_noneP] at HC0
      go_wp2_with fail
      refine HC0.out.mono ?_
      rintro e w' ⟨rfl, rfl⟩
      go_wp2_with fail
      refine (All_e hs6 (HT.out.keeps K6 hpos (by simp)) [] (picks_noneP n)).mono ?_
      rintro e w7 ⟨u3, rfl, hu3, k7⟩
      obtain ⟨a3, c3, rfl⟩ := hu3.shape
      have K7 := K6.trans k7
      have hs7 := hs6.keep0 k7
      clear hs6 K6 k7
      go_wp2_with fail
      refine (Size_p hs7).mono ?_
      rintro e w' ⟨rfl, rfl⟩
      go_wp2_with fail
      refine (works_ok (HT.out.keeps K7 hpos (by simp))).mono ?_
      rintro e w8 ⟨rfl, k8⟩
      go_wp2_with fail
      go_ret
      exact ⟨rfl, (K7.trans k8).below⟩

set_option maxRecDepth 1000000 in
set_option maxHeartbeats 8000000 in
theorem sets_few (s : Nat) (hs : s ≤ 65535) {v : Value} {ys : List Int} (g off cap : Nat) (zs : List Int) {w : World} (hv : ArgI .u16 w v ys) (hT : Table w) (hwf : ∀ z ∈ zs, (Lit.int .u16 z).wf = true) (hlc : zs.length ≤ cap) (hcm : cap ≤ 9223372036854775807) (hg : g < w.heap.size) (hle : zs.length ≤ 100) (hcap0 : 0 < cap) (hc : ∀ i, i < zs.length → w.cell? ⟨g, off + i, none⟩ = some (.int .u16 (zs.getD i 0))) :
    Calls Tryd.prog 6 #[.int .u16 s, v, .slice (some ⟨g, off, none⟩) zs.length cap] w fun e w' => e = .returned (.bool true) ∧ Below w.heap.size w w' := by
  have hpos := hT.pos
  obtain ⟨n, hn⟩ : ∃ n, 1 + s % 4096 = n := ⟨_, rfl⟩
  have h1 : 1 ≤ n := by omega
  have h2 : n ≤ 4096 := by omega
  have E1 := Lib.hid (show (1 : Int) + (s : Int) % 4096 = (n : Int) by omega)
  have HM := Lib.hid (made_in h1 h2 hv)
  have HT := Lib.hid hT
  have hz : ((n : Int) == 0) = false := by simp; omega
  have hz' : ¬ (n : Int) = 0 := by omega
  clear hT hv hn
  have HC := Lib.hid hc
  have HW := Lib.hid hwf
  clear hc hwf
  have hcap : ¬ cap = 0 := by omega
  go_enter Tryd.func6, Tryd.ntmps6
  go_wp2_with fail
  rw [E1.out]
  refine HM.out.mono ?_
  rintro e w1 ⟨b, gb, gh, p, rfl, hs, hr, hK, hb, hgb, hgh⟩
  clear HM E1
  go_wp2_with fail
  go_loopw [37] (fun i wr => ∃ (k : Nat) (p : Nat → Bool), i = .int .i64 k ∧ k ≤ zs.length ∧ SetOf wr b gb n p ∧ Blk wr gh 4 (boolRow n p) ∧ Keeps [] w wr) (fun i _ => zs.length - (intOf i).toNat)
  case atStart => exact ⟨0, _, rfl, Nat.zero_le _, hs, hr, hK⟩
  case round =>
    clear hs hr hK
    obtain ⟨k, p, rfl, hk, hs, hr, hK⟩ := hrel
    by_cases hkq : k < zs.length
    · have c0 := (hK.cell (p := ⟨g, off + k, none⟩) hg (by simp)).trans (HC.out k (by omega))
      have hw := Go.bounds_u16 (HW.out _ (getD_mem zs 0 k (by omega)))
      obtain ⟨x, hx⟩ : ∃ x, zs.getD k 0 = x := ⟨_, rfl⟩
      rw [hx] at hw c0
      obtain ⟨x, rfl⟩ : ∃ u : Nat, x = (u : Int) := ⟨x.toNat, by omega⟩
      clear hx
      have em := tmod_nat x n
      obtain ⟨i, hi⟩ : ∃ i, x % n = i := ⟨_, rfl⟩
      have hin : i < n := by rw [← hi]; exact Nat.mod_lt _ (by omega)
      rw [hi] at em
      clear hi
      have hin' : (i : Int) < n := by omega
      obtain ⟨hbne, hne⟩ := hs.row hr (by decide) (by decide)
      have HA := Lib.hid (Remove_p hs hin)
      have HRow := Lib.hid hr
      have HKp := Lib.hid hK
      clear hs hr hK
      have hkq' : (k : Int) < (zs.length : Nat) := by omega
      by_cases h3 : k % 3 = 2
      · have e3 : (k : Int) % 3 = 2 := by omega
        have e4 : Int.tmod (k : Int) 3 = 2 := by rw [Int.tmod_eq_emod_of_nonneg (by omega)]; omega
        clear h3
        go_wp2_with fail
        refine HA.out.mono ?_
        rintro e w3 ⟨rfl, hs3, hk3⟩
        have hr3 := HRow.out.keeps hk3 (by simpa using hne)
        have hK3 := HKp.out.step hk3 (by simp; omega)
        have f0 := hr3.frozen i
        have c1 := hr3.cellAt i _ (boolRow_at n p hin)
        have hr4 := hr3.put i (.bool false)
        rw [row_drop] at hr4
        have hs4 := hs3.keeps ((Keeps.refl [gh] w3).setCell (p := ⟨gh, i, none⟩) (.inl (by simp)) (.bool false)) (by simpa using fun e => hbne e.symm) (by simpa using fun e => hne e.symm)
        have hK4 := hK3.setCell (p := ⟨gh, i, none⟩) (.inr hgh) (.bool false)
        have HA4 := Lib.hid (Add_p hs4 hin)
        have HR4 := Lib.hid hr4
        have HK4 := Lib.hid hK4
        clear hs3 hr3 hK3 hk3 hr4 hs4 hK4
        go_wp2_with fail
        refine HA4.out.mono ?_
        rintro e w5 ⟨rfl, hs5, hk5⟩
        have hr5 := HR4.out.keeps hk5 (by simpa using hne)
        have hK5 := HK4.out.step hk5 (by simp; omega)
        have f5 := hr5.frozen i
        have c5 := hr5.cellAt i _ (boolRow_at n (lessP p i) hin)
        have hr6 := hr5.put i (.bool true)
        rw [row_add] at hr6
        have hs6 := hs5.keeps ((Keeps.refl [gh] w5).setCell (p := ⟨gh, i, none⟩) (.inl (by simp)) (.bool true)) (by simpa using fun e => hbne e.symm) (by simpa using fun e => hne e.symm)
        have hK6 := hK5.setCell (p := ⟨gh, i, none⟩) (.inr hgh) (.bool true)
        have HR6 := Lib.hid hr6
        clear hs5 hr5 hK5 hk5 hr6 f0 c1
        go_wp2_with fail
        go_roundw
        case rel => exact ⟨k + 1, _, by go_num, by omega, hs6, HR6.out, hK6⟩
        case measure => simp [intOf]; omega
      · have e3 : ¬ (k : Int) % 3 = 2 := by omega
        have e4 : ¬ Int.tmod (k : Int) 3 = 2 := by rw [Int.tmod_eq_emod_of_nonneg (by omega)]; omega
        clear h3
        go_wp2_with fail
        refine HA.out.mono ?_
        rintro e w3 ⟨rfl, hs3, hk3⟩
        have hr3 := HRow.out.keeps hk3 (by simpa using hne)
        have hK3 := HKp.out.step hk3 (by simp; omega)
        have f0 := hr3.frozen i
        have c1 := hr3.cellAt i _ (boolRow_at n p hin)
        have hr4 := hr3.put i (.bool false)
        rw [row_drop] at hr4
        have hs4 := hs3.keeps ((Keeps.refl [gh] w3).setCell (p := ⟨gh, i, none⟩) (.inl (by simp)) (.bool false)) (by simpa using fun e => hbne e.symm) (by simpa using fun e => hne e.symm)
        have hK4 := hK3.setCell (p := ⟨gh, i, none⟩) (.inr hgh) (.bool false)
        have HR4 := Lib.hid hr4
        clear hs3 hr3 hK3 hk3 hr4
        go_wp2_with fail
        go_roundw
        case rel => exact ⟨k + 1, _, by go_num, by omega, hs4, HR4.out, hK4⟩
        case measure => simp [intOf]; omega
    · go_wp2_with fail
      refine (listed_in hr h2).mono ?_
      rintro e w3 ⟨u, rfl, hu, k3⟩
      have K3 := hK.trans k3
      have hs3 := hs.keep0 k3
      have hr3 := hr.keeps k3 (by simp)
      clear hs hr hK k3
      obtain ⟨a1, c1, rfl⟩ := hu.shape
      have HPL := Lib.hid (picks_len_le n p)
      have HRow3 := Lib.hid hr3
      have HS3 := Lib.hid hs3
      have HHas := Lib.hid (fun k (hk : k < n) => Has_p hs3 hk)
      rw [asInts_len]
      rw [asInts_len] at hu
      have HCount := Lib.hid (fun (W : World) (hk : Keeps [] w3 W) => Count_p (hs3.keep0 hk))
      have HAll := Lib.hid (fun (W : World) (hk : Keeps [] w3 W) (hT : Table W) => All_p (hs3.keep0 hk) hT)
      generalize hL : picks n p = L at *
      have HL2 := Lib.hid hL
      clear hr3 hs3 hL
      go_wp2_with fail
      go_loop [68] (fun i => ∃ k : Nat, i = .int .i64 k ∧ k ≤ n) (fun i => n - (intOf i).toNat)
      case atStart => exact ⟨0, rfl, Nat.zero_le _⟩
      case round =>
        obtain ⟨k, rfl, hkn⟩ := hrel
        by_cases hkn2 : k < n
        · have ck := HRow3.out.cellAt k _ (boolRow_at n p hkn2)
          have HH := Lib.hid (HHas.out k hkn2)
          generalize p k = t at *
          go_wp2_with fail
          refine HH.out.mono ?_
          rintro e w' ⟨rfl, rfl⟩
          go_wp2_with fail
          go_round
          case rel => exact ⟨k + 1, by go_num, by omega⟩
          case measure => simp [intOf]; omega
        · go_wp2_with fail
          have hT3 := HT.out.keeps K3 hpos (by simp)
          refine (HAll.out _ (Keeps.refl [] _) hT3).mono ?_
          rintro e w4 ⟨u2, rfl, hu2, k4⟩
          have hLm : (asInts L).length ≤ maxLen := by rw [asInts_len]; have := HPL.out; unfold maxLen; omega
          go_wp2_with fail
          refine (Equal_e (hu2.sl hLm) ((hu.keeps k4 (by simp)).sl hLm) rfl).mono ?_
          rintro e w' ⟨rfl, j, rfl⟩
          have k5 := k4.drewN j
          have K5 := K3.trans k5
          have hs5 := HS3.out.keep0 k5
          clear hLm
          generalize w4.drewN j = w5 at *
          go_wp2_with fail
          refine (HCount.out _ k5).mono ?_
          rintro e w' ⟨rfl, rfl⟩
          go_wp2_with fail
          refine (Size_p hs5).mono ?_
          rintro e w' ⟨rfl, rfl⟩
          go_wp2_with fail
          refine (Clear_p hs5).mono ?_
          rintro e w6 ⟨rfl, hs6, k6⟩
          have K6 := K5.step k6 (by simp; omega)
          clear hs5 K5 k5
          have HC0 := Lib.hid (Count_p hs6)
          rw [picks_noneP] at HC0
          go_wp2_with fail
          refine HC0.out.mono ?_
          rintro e w' ⟨rfl, rfl⟩
          go_wp2_with fail
          refine (All_e hs6 (HT.out.keeps K6 hpos (by simp)) [] (picks_noneP n)).mono ?_
          rintro e w7 ⟨u3, rfl, hu3, k7⟩
          obtain ⟨a3, c3, rfl⟩ := hu3.shape
          have K7 := K6.trans k7
          have hs7 := hs6.keep0 k7
          clear hs6 K6 k7
          go_wp2_with fail
          refine (Size_p hs7).mono ?_
          rintro e w' ⟨rfl, rfl⟩
          go_wp2_with fail
          refine (works_ok (HT.out.keeps K7 hpos (by simp))).mono ?_
          rintro e w8 ⟨rfl, k8⟩
          go_wp2_with fail
          go_ret
          exact ⟨rfl, (K7.trans k8).below⟩

set_option maxRecDepth 1000000 in
set_option maxHeartbeats 8000000 in
theorem sets_many (s : Nat) (hs : s ≤ 65535) {v : Value} {ys : List Int} (g off cap : Nat) (zs : List Int) {w : World} (hv : ArgI .u16 w v ys) (hT : Table w) (hwf : ∀ z ∈ zs, (Lit.int .u16 z).wf = true) (hlc : zs.length ≤ cap) (hcm : cap ≤ 9223372036854775807) (hg : g < w.heap.size) (hle : 100 < zs.length) (hcap0 : 0 < cap) (hc : ∀ i, i < zs.length → w.cell? ⟨g, off + i, none⟩ = some (.int .u16 (zs.getD i 0))) :
    Calls Tryd.prog 6 #[.int .u16 s, v, .slice (some ⟨g, off, none⟩) zs.length cap] w fun e w' => e = .returned (.bool true) ∧ Below w.heap.size w w' := by
  have hpos := hT.pos
  obtain ⟨n, hn⟩ : ∃ n, 1 + s % 4096 = n := ⟨_, rfl⟩
  have h1 : 1 ≤ n := by omega
  have h2 : n ≤ 4096 := by omega
  have E1 := Lib.hid (show (1 : Int) + (s : Int) % 4096 = (n : Int) by omega)
  have HM := Lib.hid (made_in h1 h2 hv)
  have HT := Lib.hid hT
  have hz : ((n : Int) == 0) = false := by simp; omega
  have hz' : ¬ (n : Int) = 0 := by omega
  clear hT hv hn
  have HC := Lib.hid hc
  have HW := Lib.hid hwf
  clear hc hwf
  have hcap : ¬ cap = 0 := by omega
  go_enter Tryd.func6, Tryd.ntmps6
  go_wp2_with fail
  rw [E1.out]
  refine HM.out.mono ?_
  rintro e w1 ⟨b, gb, gh, p, rfl, hs, hr, hK, hb, hgb, hgh⟩
  clear HM E1
  go_wp2_with fail
  go_loopw [37] (fun i wr => ∃ (k : Nat) (p : Nat → Bool), i = .int .i64 k ∧ k ≤ 100 ∧ SetOf wr b gb n p ∧ Blk wr gh 4 (boolRow n p) ∧ Keeps [] w wr) (fun i _ => 100 - (intOf i).toNat)
  case atStart => exact ⟨0, _, rfl, Nat.zero_le _, hs, hr, hK⟩
  case round =>
    clear hs hr hK
    obtain ⟨k, p, rfl, hk, hs, hr, hK⟩ := hrel
    by_cases hkq : k < 100
    · have c0 := (hK.cell (p := ⟨g, off + k, none⟩) hg (by simp)).trans (HC.out k (by omega))
      have hw := Go.bounds_u16 (HW.out _ (getD_mem zs 0 k (by omega)))
      obtain ⟨x, hx⟩ : ∃ x, zs.getD k 0 = x := ⟨_, rfl⟩
      rw [hx] at hw c0
      obtain ⟨x, rfl⟩ : ∃ u : Nat, x = (u : Int) := ⟨x.toNat, by omega⟩
      clear hx
      have em := tmod_nat x n
      obtain ⟨i, hi⟩ : ∃ i, x % n = i := ⟨_, rfl⟩
      have hin : i < n := by rw [← hi]; exact Nat.mod_lt _ (by omega)
      rw [hi] at em
      clear hi
      have hin' : (i : Int) < n := by omega
      obtain ⟨hbne, hne⟩ := hs.row hr (by decide) (by decide)
      have HA := Lib.hid (Remove_p hs hin)
      have HRow := Lib.hid hr
      have HKp := Lib.hid hK
      clear hs hr hK
      have hkq' : (k : Int) < (100 : Nat) := by omega
      by_cases h3 : k % 3 = 2
      · have e3 : (k : Int) % 3 = 2 := by omega
        have e4 : Int.tmod (k : Int) 3 = 2 := by rw [Int.tmod_eq_emod_of_nonneg (by omega)]; omega
        clear h3
        go_wp2_with fail
        refine HA.out.mono ?_
        rintro e w3 ⟨rfl, hs3, hk3⟩
        have hr3 := HRow.out.keeps hk3 (by simpa using hne)
        have hK3 := HKp.out.step hk3 (by simp; omega)
        have f0 := hr3.frozen i
        have c1 := hr3.cellAt i _ (boolRow_at n p hin)
        have hr4 := hr3.put i (.bool false)
        rw [row_drop] at hr4
        have hs4 := hs3.keeps ((Keeps.refl [gh] w3).setCell (p := ⟨gh, i, none⟩) (.inl (by simp)) (.bool false)) (by simpa using fun e => hbne e.symm) (by simpa using fun e => hne e.symm)
        have hK4 := hK3.setCell (p := ⟨gh, i, none⟩) (.inr hgh) (.bool false)
        have HA4 := Lib.hid (Add_p hs4 hin)
        have HR4 := Lib.hid hr4
        have HK4 := Lib.hid hK4
        clear hs3 hr3 hK3 hk3 hr4 hs4 hK4
        go_wp2_with fail
        refine HA4.out.mono ?_
        rintro e w5 ⟨rfl, hs5, hk5⟩
        have hr5 := HR4.out.keeps hk5 (by simpa using hne)
        have hK5 := HK4.out.step hk5 (by simp; omega)
        have f5 := hr5.frozen i
        have c5 := hr5.cellAt i _ (boolRow_at n (lessP p i) hin)
        have hr6 := hr5.put i (.bool true)
        rw [row_add] at hr6
        have hs6 := hs5.keeps ((Keeps.refl [gh] w5).setCell (p := ⟨gh, i, none⟩) (.inl (by simp)) (.bool true)) (by simpa using fun e => hbne e.symm) (by simpa using fun e => hne e.symm)
        have hK6 := hK5.setCell (p := ⟨gh, i, none⟩) (.inr hgh) (.bool true)
        have HR6 := Lib.hid hr6
        clear hs5 hr5 hK5 hk5 hr6 f0 c1
        go_wp2_with fail
        go_roundw
        case rel => exact ⟨k + 1, _, by go_num, by omega, hs6, HR6.out, hK6⟩
        case measure => simp [intOf]; omega
      · have e3 : ¬ (k : Int) % 3 = 2 := by omega
        have e4 : ¬ Int.tmod (k : Int) 3 = 2 := by rw [Int.tmod_eq_emod_of_nonneg (by omega)]; omega
        clear h3
        go_wp2_with fail
        refine HA.out.mono ?_
        rintro e w3 ⟨rfl, hs3, hk3⟩
        have hr3 := HRow.out.keeps hk3 (by simpa using hne)
        have hK3 := HKp.out.step hk3 (by simp; omega)
        have f0 := hr3.frozen i
        have c1 := hr3.cellAt i _ (boolRow_at n p hin)
        have hr4 := hr3.put i (.bool false)
        rw [row_drop] at hr4
        have hs4 := hs3.keeps ((Keeps.refl [gh] w3).setCell (p := ⟨gh, i, none⟩) (.inl (by simp)) (.bool false)) (by simpa using fun e => hbne e.symm) (by simpa using fun e => hne e.symm)
        have hK4 := hK3.setCell (p := ⟨gh, i, none⟩) (.inr hgh) (.bool false)
        have HR4 := Lib.hid hr4
        clear hs3 hr3 hK3 hk3 hr4
        go_wp2_with fail
        go_roundw
        case rel => exact ⟨k + 1, _, by go_num, by omega, hs4, HR4.out, hK4⟩
        case measure => simp [intOf]; omega
    · go_wp2_with fail
      refine (listed_in hr h2).mono ?_
      rintro e w3 ⟨u, rfl, hu, k3⟩
      have K3 := hK.trans k3
      have hs3 := hs.keep0 k3
      have hr3 := hr.keeps k3 (by simp)
      clear hs hr hK k3
      obtain ⟨a1, c1, rfl⟩ := hu.shape
      have HPL := Lib.hid (picks_len_le n p)
      have HRow3 := Lib.hid hr3
      have HS3 := Lib.hid hs3
      have HHas := Lib.hid (fun k (hk : k < n) => Has_p hs3 hk)
      rw [asInts_len]
      rw [asInts_len] at hu
      have HCount := Lib.hid (fun (W : World) (hk : Keeps [] w3 W) => Count_p (hs3.keep0 hk))
      have HAll := Lib.hid (fun (W : World) (hk : Keeps [] w3 W) (hT : Table W) => All_p (hs3.keep0 hk) hT)
      generalize hL : picks n p = L at *
      have HL2 := Lib.hid hL
      clear hr3 hs3 hL
      go_wp2_with fail
      go_loop [68] (fun i => ∃ k : Nat, i = .int .i64 k ∧ k ≤ n) (fun i => n - (intOf i).toNat)
      case atStart => exact ⟨0, rfl, Nat.zero_le _⟩
      case round =>
        obtain ⟨k, rfl, hkn⟩ := hrel
        by_cases hkn2 : k < n
        · have ck := HRow3.out.cellAt k _ (boolRow_at n p hkn2)
          have HH := Lib.hid (HHas.out k hkn2)
          generalize p k = t at *
          go_wp2_with fail
          refine HH.out.mono ?_
          rintro e w' ⟨rfl, rfl⟩
          go_wp2_with fail
          go_round
          case rel => exact ⟨k + 1, by go_num, by omega⟩
          case measure => simp [intOf]; omega
        · go_wp2_with fail
          have hT3 := HT.out.keeps K3 hpos (by simp)
          refine (HAll.out _ (Keeps.refl [] _) hT3).mono ?_
          rintro e w4 ⟨u2, rfl, hu2, k4⟩
          have hLm : (asInts L).length ≤ maxLen := by rw [asInts_len]; have := HPL.out; unfold maxLen; omega
          go_wp2_with fail
          refine (Equal_e (hu2.sl hLm) ((hu.keeps k4 (by simp)).sl hLm) rfl).mono ?_
          rintro e w' ⟨rfl, j, rfl⟩
          have k5 := k4.drewN j
          have K5 := K3.trans k5
          have hs5 := HS3.out.keep0 k5
          clear hLm
          generalize w4.drewN j = w5 at *
          go_wp2_with fail
          refine (HCount.out _ k5).mono ?_
          rintro e w' ⟨rfl, rfl⟩
          go_wp2_with fail
          refine (Size_p hs5).mono ?_
          rintro e w' ⟨rfl, rfl⟩
          go_wp2_with fail
          refine (Clear_p hs5).mono ?_
          rintro e w6 ⟨rfl, hs6, k6⟩
          have K6 := K5.step k6 (by simp; omega)
          clear hs5 K5 k5
          have HC0 := Lib.hid (Count_p hs6)
          rw [picks_noneP] at HC0
          go_wp2_with fail
          refine HC0.out.mono ?_
          rintro e w' ⟨rfl, rfl⟩
          go_wp2_with fail
          refine (All_e hs6 (HT.out.keeps K6 hpos (by simp)) [] (picks_noneP n)).mono ?_
          rintro e w7 ⟨u3, rfl, hu3, k7⟩
          obtain ⟨a3, c3, rfl⟩ := hu3.shape
          have K7 := K6.trans k7
          have hs7 := hs6.keep0 k7
          clear hs6 K6 k7
          go_wp2_with fail
          refine (Size_p hs7).mono ?_
          rintro e w' ⟨rfl, rfl⟩
          go_wp2_with fail
          refine (works_ok (HT.out.keeps K7 hpos (by simp))).mono ?_
          rintro e w8 ⟨rfl, k8⟩
          go_wp2_with fail
          go_ret
          exact ⟨rfl, (K7.trans k8).below⟩

theorem sets_walk (s : Nat) (hs : s ≤ 65535) {v u : Value} {ys zs : List Int} {w : World} (hv : ArgI .u16 w v ys) (hu : ArgI .u16 w u zs) (hT : Table w) :
    Calls Tryd.prog 6 #[.int .u16 s, v, u] w fun e w' => e = .returned (.bool true) ∧ Below w.heap.size w w' := by
  obtain ⟨hwf, ⟨rfl, a, cap, rfl⟩ | ⟨g, off, cap, rfl, hlc, hcm, hg, h0, hc⟩⟩ := hu
  · exact sets_none s hs a cap hv hT
  · unfold maxLen at hcm
    by_cases hle : zs.length ≤ 100
    · exact sets_few s hs g off cap zs hv hT hwf hlc (by omega) hg hle (by omega) hc
    · exact sets_many s hs g off cap zs hv hT hwf hlc (by omega) hg (by omega) (by omega) hc
end Go.Proofs.YtcdnflffpeijfaaDoor
