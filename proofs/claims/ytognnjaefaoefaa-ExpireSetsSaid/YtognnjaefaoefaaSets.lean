/- ExpireSets: for every input the call returns true, and nothing that was there has changed. No condition. Printed by gen-sets8.py. -/
import Derived.Test.YtognnjaefaoefaaPlainQ
namespace Go.Proofs.Ytognnjaefaoefaa
open Go.RowKit

set_option maxRecDepth 1000000 in
set_option maxHeartbeats 4000000 in
theorem sets_true {v : Value} {zs : List Int} {c t : Nat} (hc : c ≤ 255) (ht : t ≤ 255) {w : World} (hv : ArgI .u8 w v zs) (hl : zs.length ≤ 60) (hl0 : 0 < zs.length) :
    Calls Try.prog 7 #[v, .int .u8 c, .int .u8 t, .bool true] w fun e w' => e = .returned (.bool true) ∧ Below w.heap.size w w' := by
  have HF1 := Lib.hid (filled_in hv hl)
  have HV := Lib.hid hv
  have hz : ∀ z ∈ zs, z ≤ 255 := fun z h => by have := Go.bounds_u8 (hv.1 _ h); omega
  obtain ⟨a0, cap, rfl⟩ := hv.shape
  clear hv
  obtain ⟨n, hn⟩ : ∃ n, zs.length = n := ⟨_, rfl⟩
  have HN := Lib.hid hn
  obtain ⟨m, hm⟩ : ∃ m, c % n = m := ⟨_, rfl⟩
  have hmn : m < n := by rw [← hm]; exact Nat.mod_lt _ (by omega)
  have em : Int.tmod (c : Int) (n : Int) = (m : Int) := by
    rw [Int.tmod_eq_emod_of_nonneg (by omega), ← hm, Int.natCast_emod]
  have hfl := fill_len zs n
  obtain ⟨hfin, hwm⟩ := fin_drop (n := n) (m := m) (t : Int) hz hn.symm
  have HHere := Lib.hid (decide_eq_true (fill_here zs hmn))
  have HGone := Lib.hid (decide_eq_false (drop_gone (fillL zs n) m))
  have hlen := dropE_len (fill_good zs n) (fill_here zs hmn)
  have HND := Lib.hid (dropE_none (drop_gone (fillL zs n) m))
  rw [hfl] at hlen
  obtain ⟨d, hd⟩ : ∃ d, d + 1 = n := ⟨n - 1, by omega⟩
  have hd1 : (n : Int) - 1 = (d : Int) := by omega
  have hd2 : ((d : Int) == (n : Int)) = false := by simp; omega
  have hd3 : ((d : Int) != (n : Int)) = true := by simp; omega
  have HLen0 := Lib.hid (show (dropE (fillL zs n) m).length = d by omega)
  have HFQ := Lib.hid (show ∃ Q, fillL zs n = Q from ⟨_, rfl⟩)
  rw [hn] at hl hl0 HF1 ⊢
  have hz1 : ((n : Int) == 0) = false := by simp; omega
  have hz2 : ¬ (n : Int) = 0 := by omega
  clear hn hz hm
  go_enter Try.func7, Try.ntmps7
  go_wp2_with fail
  refine HF1.out.mono ?_
  rintro e w1 ⟨b, O1, rfl, hq1, k1, hO1⟩
  obtain ⟨Q, hQ⟩ : ∃ Q, fillL zs n = Q := ⟨_, rfl⟩
  rw [hQ] at hq1 HHere HGone HND HLen0 hfin hwm
  clear hQ hlen hfl HFQ
  have hDr := Lib.hid (Drop_in hq1 m)
  rw [HHere.out] at hDr
  go_wp2_with fail
  refine hDr.out.mono ?_
  rintro e w2 ⟨rfl, ht2⟩
  obtain ⟨O2, hq2, K2, hF2, _, _⟩ := ht2.step k1 hO1
  clear ht2 hq1 k1 hO1
  have hDr2 := Lib.hid (Drop_in hq2 m)
  rw [HGone.out, HND.out] at hDr2
  go_wp2_with fail
  refine hDr2.out.mono ?_
  rintro e w3 ⟨rfl, ht3⟩
  obtain ⟨O, hq, K, hO, _, _⟩ := ht3.step K2 hF2
  obtain ⟨L, hL⟩ : ∃ L, dropE Q m = L := ⟨_, rfl⟩
  rw [hL] at hq HLen0 hfin hwm
  have HFin := Lib.hid hfin
  have HM := Lib.hid hwm
  have HLen := HLen0
  clear ht3 hq2 K2 hF2 hL hDr hDr2 HLen0 hfin hwm HND HGone HHere
  have HLe := Lib.hid (Len_q hq)
  rw [HLen.out] at HLe
  go_wp2_with fail
  refine HLe.out.mono ?_
  rintro e w' ⟨rfl, rfl⟩
  have HQ := Lib.hid hq
  have HK := Lib.hid K
  have HO := Lib.hid hO
  clear hq K hO HF1
  go_wp2_with fail
  go_loopw [11] (fun i wr => ∃ k : Nat, i = .int .i64 k ∧ k ≤ n ∧ Qu wr b O L ∧ Keeps [] w wr) (fun i _ => n - (intOf i).toNat)
  case atStart => exact ⟨0, rfl, Nat.zero_le _, HQ.out, HK.out⟩
  case round =>
    clear HQ HK
    obtain ⟨k, rfl, hk, hq, hK⟩ := hrel
    by_cases hkn : k < n
    · have hkI : (k : Int) < (n : Int) := by omega
      by_cases hkm : k = m
      · have eb : ((k : Int) == (m : Int)) = true := by subst hkm; simp
        have hW := Lib.hid (When_q hq (k : Int))
        rw [show whenQ L (k : Int) = (0, false) from by rw [hkm]; exact HM.out] at hW
        have HKK := Lib.hid hK
        have HQQ := Lib.hid hq
        clear hkm hK hq
        go_wp2_with fail
        refine hW.out.mono ?_
        rintro e w3 ⟨rfl, k3⟩
        have hq3 := HQQ.out.keep0 k3
        have K3 := HKK.out.trans k3
        clear k3
        go_wp2_with fail
        go_roundw
        case rel => exact ⟨k + 1, by go_num, by omega, hq3, K3⟩
        case measure => simp [intOf]; omega
      · have eb : ((k : Int) == (m : Int)) = false := by simp; omega
        have hW := Lib.hid (When_q hq (k : Int))
        rw [HFin.out.other k hkn hkm] at hW
        obtain ⟨g, off, rfl, hg, hlc, hcm, hcl⟩ := ArgI.some_ (a := a0) (cap := cap) (by have := HV.out; rw [HN.out] at this; rw [HN.out]; exact this) (i := 0) (by have := HN.out; omega)
        have c00 := hcl k (by have := HN.out; omega)
        have hw := Go.bounds_u8 (HV.out.1 _ (getD_mem zs 0 k (by have := HN.out; omega)))
        have HKK := Lib.hid hK
        have HQQ := Lib.hid hq
        clear hkm hK hq hcl
        obtain ⟨z, hzz⟩ : ∃ z, zs.getD k 0 = z := ⟨_, rfl⟩
        rw [hzz] at hW c00 hw
        clear hzz
        go_wp2_with fail
        refine hW.out.mono ?_
        rintro e w3 ⟨rfl, k3⟩
        have hq3 := HQQ.out.keep0 k3
        have K3 := HKK.out.trans k3
        have c0 := (K3.cell (p := ⟨g, off + k, none⟩) hg (by simp)).trans c00
        clear k3 c00
        go_wp2_with fail
        go_roundw
        case rel => exact ⟨k + 1, by go_num, by omega, hq3, K3⟩
        case measure => simp [intOf]; omega
    · have hkk : n = k := by omega
      subst hkk
      have HKK := Lib.hid hK
      have HD := Lib.hid (Due_in hq 1099511627776)
      have hdl := dueN_all (now := 1099511627776) (L := L) (fun e he => by have := HFin.out.small e he; omega)
      have HDL := Lib.hid hdl
      clear hq hK hdl
      go_wp2_with fail
      refine HD.out.mono ?_
      rintro e w4 ⟨u, rfl, hu, hq4, k4⟩
      rw [HDL.out, List.take_length] at hu
      have K4 := HKK.out.step k4 (fun x hx => .inr (HO.out x hx))
      obtain ⟨a4, c4, rfl⟩ := hu.shape
      have hul : (idsOf L).length = L.length := by unfold idsOf; rw [List.length_map]
      have hus := hu.sl (by rw [hul]; have := HLen.out; unfold maxLen; omega)
      rw [hul] at hus ⊢
      have HU := Lib.hid (show SlI w4 (.slice a4 (idsOf L).length c4) (idsOf L) by rw [hul]; exact hus)
      clear hq4 k4 hu hus HD HDL
      rw [HLen.out]
      have hul2 := Lib.hid (hul.trans HLen.out)
      have HK4 := Lib.hid K4
      clear hul K4
      go_wp2_with fail
      go_loopw [15] (fun i wr => ∃ j q : Nat, i = .int .i64 ((j : Int) + 1) ∧ j ≤ d ∧ wr = w4.drewN q) (fun i _ => d - (intOf i).toNat)
      case atStart => exact ⟨0, 0, rfl, Nat.zero_le _, rfl⟩
      case round =>
        obtain ⟨j, q, rfl, hj, rfl⟩ := hrel
        by_cases hjn : j + 1 < d
        · have hjI : (j : Int) + 1 < (d : Int) := by omega
          have hB := good_next HFin.out.good (j := j) (by have := HLen.out; omega)
          obtain ⟨x, hx, hx1, hx2⟩ := HFin.out.what _ (getD_mem L (0, 0) j (by have := HLen.out; omega))
          obtain ⟨y, hy, hy1, hy2⟩ := HFin.out.what _ (getD_mem L (0, 0) (j + 1) (by have := HLen.out; omega))
          obtain ⟨g, off, rfl, hg, hlc, hcm, hcl⟩ := ArgI.some_ (a := a0) (cap := cap) (by have := HV.out; rw [HN.out] at this; rw [HN.out]; exact this) (i := 0) (by have := HN.out; omega)
          have cx := (HK4.out.cell (p := ⟨g, off + x, none⟩) hg (by simp)).trans (hcl x (by have := HN.out; omega))
          have cy := (HK4.out.cell (p := ⟨g, off + y, none⟩) hg (by simp)).trans (hcl y (by have := HN.out; omega))
          have bx := Go.bounds_u8 (HV.out.1 _ (getD_mem zs 0 x (by have := HN.out; omega)))
          have b_y := Go.bounds_u8 (HV.out.1 _ (getD_mem zs 0 y (by have := HN.out; omega)))
          obtain ⟨bu, ou, rfl, _, hum, hcu⟩ := HU.out.some_ (k := j) (by have := hul2.out; omega)
          have ux := hcu j (by have := hul2.out; omega)
          have uy := hcu (j + 1) (by have := hul2.out; omega)
          rw [idsOf_getD, hx1] at ux
          rw [idsOf_getD, hy1] at uy
          unfold Bef at hB
          rw [hx1, hx2, hy1, hy2] at hB
          have emx : Int.tmod (x : Int) (n : Int) = (x : Int) := by rw [Int.tmod_eq_emod_of_nonneg (by omega), Int.emod_eq_of_lt (by omega) (by omega)]
          have emy : Int.tmod (y : Int) (n : Int) = (y : Int) := by rw [Int.tmod_eq_emod_of_nonneg (by omega), Int.emod_eq_of_lt (by omega) (by omega)]
          have hxI : (x : Int) < (n : Int) := by omega
          have hyI : (y : Int) < (n : Int) := by omega
          rw [show (ou + (j + 1) : Nat) = ou + (j + 1) from rfl] at uy
          clear hcl hcu hx1 hx2 hy1 hy2
          obtain ⟨zx, hzx⟩ : ∃ z, zs.getD x 0 = z := ⟨_, rfl⟩
          obtain ⟨zy, hzy⟩ : ∃ z, zs.getD y 0 = z := ⟨_, rfl⟩
          rw [hzx] at cx bx hB
          rw [hzy] at cy b_y hB
          clear hzx hzy
          have ej1 : (j : Int) + 1 - 1 = (j : Int) := by omega
          have ej2 : ((j : Int) + 1).toNat = j + 1 := by omega
          have wrapj : IntKind.i64.wrap ((j : Int) + 1 - 1) = (j : Int) := by rw [ej1]; exact IntWalk.i64_in _ (by omega)
          rcases (show (x = m ∧ y ≠ m) ∨ (x ≠ m ∧ y = m) ∨ (x ≠ m ∧ y ≠ m) ∨ (x = m ∧ y = m) by omega) with ⟨ex, ey⟩ | ⟨ex, ey⟩ | ⟨ex, ey⟩ | ⟨ex, ey⟩
          · rw [if_pos ex, if_neg ey] at hB
            have ebx : ((x : Int) == (m : Int)) = true := by simp; omega
            have eby : ((y : Int) == (m : Int)) = false := by simp; omega
            clear ex ey
            rcases hB with hB | ⟨hB1, hB2⟩
            · have g1 : decide (zy < (t : Int)) = false := decide_eq_false (by omega)
              have g2 : ((t : Int) == zy) = false := by simp; omega
              clear hB
              go_wp2_with fail
              go_quiet (fail)
              go_wp2_with fail
              go_quiet (fail)
              go_wp2_with fail
              go_roundw
              case rel => exact ⟨j + 1, _, by go_num, by omega, rfl⟩
              case measure => simp [intOf]; omega
            · have g1 : decide (zy < (t : Int)) = false := decide_eq_false (by omega)
              have g2 : ((t : Int) == zy) = true := by simp; omega
              have g3 : decide (y ≤ x) = false := decide_eq_false (by omega)
              have g4 : ¬ y ≤ x := by omega
              have g5 : decide ((y : Int) ≤ (x : Int)) = false := decide_eq_false (by omega)
              clear hB1 hB2
              go_wp2_with fail
              go_quiet (fail)
              go_wp2_with fail
              go_quiet (fail)
              go_wp2_with fail
              go_roundw
              case rel => exact ⟨j + 1, _, by go_num, by omega, rfl⟩
              case measure => simp [intOf]; omega
          · rw [if_neg ex, if_pos ey] at hB
            have ebx : ((x : Int) == (m : Int)) = false := by simp; omega
            have eby : ((y : Int) == (m : Int)) = true := by simp; omega
            clear ex ey
            rcases hB with hB | ⟨hB1, hB2⟩
            · have g1 : decide ((t : Int) < zx) = false := decide_eq_false (by omega)
              have g2 : (zx == (t : Int)) = false := by simp; omega
              clear hB
              go_wp2_with fail
              go_quiet (fail)
              go_wp2_with fail
              go_quiet (fail)
              go_wp2_with fail
              go_roundw
              case rel => exact ⟨j + 1, _, by go_num, by omega, rfl⟩
              case measure => simp [intOf]; omega
            · have g1 : decide ((t : Int) < zx) = false := decide_eq_false (by omega)
              have g2 : (zx == (t : Int)) = true := by simp; omega
              have g3 : decide (y ≤ x) = false := decide_eq_false (by omega)
              have g4 : ¬ y ≤ x := by omega
              have g5 : decide ((y : Int) ≤ (x : Int)) = false := decide_eq_false (by omega)
              clear hB1 hB2
              go_wp2_with fail
              go_quiet (fail)
              go_wp2_with fail
              go_quiet (fail)
              go_wp2_with fail
              go_roundw
              case rel => exact ⟨j + 1, _, by go_num, by omega, rfl⟩
              case measure => simp [intOf]; omega
          · rw [if_neg ex, if_neg ey] at hB
            have ebx : ((x : Int) == (m : Int)) = false := by simp; omega
            have eby : ((y : Int) == (m : Int)) = false := by simp; omega
            clear ex ey
            rcases hB with hB | ⟨hB1, hB2⟩
            · have g1 : decide (zy < zx) = false := decide_eq_false (by omega)
              have g2 : (zx == zy) = false := by simp; omega
              clear hB
              go_wp2_with fail
              go_quiet (fail)
              go_wp2_with fail
              go_quiet (fail)
              go_wp2_with fail
              go_roundw
              case rel => exact ⟨j + 1, _, by go_num, by omega, rfl⟩
              case measure => simp [intOf]; omega
            · have g1 : decide (zy < zx) = false := decide_eq_false (by omega)
              have g2 : (zx == zy) = true := by simp; omega
              have g3 : decide (y ≤ x) = false := decide_eq_false (by omega)
              have g4 : ¬ y ≤ x := by omega
              have g5 : decide ((y : Int) ≤ (x : Int)) = false := decide_eq_false (by omega)
              clear hB1 hB2
              go_wp2_with fail
              go_quiet (fail)
              go_wp2_with fail
              go_quiet (fail)
              go_wp2_with fail
              go_roundw
              case rel => exact ⟨j + 1, _, by go_num, by omega, rfl⟩
              case measure => simp [intOf]; omega
          · subst ex
            exfalso
            rw [ey] at hB
            omega
        · have hjI : ¬ (j : Int) + 1 < (d : Int) := by omega
          go_wp2_with fail
          refine (works_ok _).mono ?_
          rintro e w5 ⟨rfl, k5⟩
          go_wp2_with fail
          go_ret
          exact ⟨rfl, ((HK4.out.drewN q).trans k5).below⟩
set_option maxRecDepth 1000000 in
set_option maxHeartbeats 4000000 in
theorem sets_false {v : Value} {zs : List Int} {c t : Nat} (hc : c ≤ 255) (ht : t ≤ 255) {w : World} (hv : ArgI .u8 w v zs) (hl : zs.length ≤ 60) (hl0 : 0 < zs.length) :
    Calls Try.prog 7 #[v, .int .u8 c, .int .u8 t, .bool false] w fun e w' => e = .returned (.bool true) ∧ Below w.heap.size w w' := by
  have HF1 := Lib.hid (filled_in hv hl)
  have HV := Lib.hid hv
  have hz : ∀ z ∈ zs, z ≤ 255 := fun z h => by have := Go.bounds_u8 (hv.1 _ h); omega
  obtain ⟨a0, cap, rfl⟩ := hv.shape
  clear hv
  obtain ⟨n, hn⟩ : ∃ n, zs.length = n := ⟨_, rfl⟩
  have HN := Lib.hid hn
  obtain ⟨m, hm⟩ : ∃ m, c % n = m := ⟨_, rfl⟩
  have hmn : m < n := by rw [← hm]; exact Nat.mod_lt _ (by omega)
  have em : Int.tmod (c : Int) (n : Int) = (m : Int) := by
    rw [Int.tmod_eq_emod_of_nonneg (by omega), ← hm, Int.natCast_emod]
  have hfl := fill_len zs n
  obtain ⟨hfin, hwm⟩ := fin_set (n := n) (m := m) (t := (t : Int)) (by omega) hz hn.symm hmn
  have HHere := Lib.hid (fill_here zs hmn)
  have hlen := setE_len (fill_good zs n) m t
  rw [if_pos (fill_here zs hmn), hfl] at hlen
  have HLen0 := Lib.hid hlen
  rw [hn] at hl hl0 HF1 ⊢
  have hz1 : ((n : Int) == 0) = false := by simp; omega
  have hz2 : ¬ (n : Int) = 0 := by omega
  clear hn hz hm
  go_enter Try.func7, Try.ntmps7
  go_wp2_with fail
  refine HF1.out.mono ?_
  rintro e w1 ⟨b, O1, rfl, hq1, k1, hO1⟩
  obtain ⟨Q, hQ⟩ : ∃ Q, fillL zs n = Q := ⟨_, rfl⟩
  rw [hQ] at hq1 HHere HLen0 hfin hwm hfl
  have hSe := Lib.hid (Set_fine hq1 m t ⟨by omega, by omega⟩ (.inr HHere.out))
  obtain ⟨L, hL⟩ : ∃ L, setE Q m t = L := ⟨_, rfl⟩
  rw [hL] at hSe HLen0 hfin hwm
  have HFin := Lib.hid hfin
  have HM := Lib.hid hwm
  have HLen := HLen0
  clear hQ hlen hfl hL HLen0 hfin hwm
  go_wp2_with fail
  refine hSe.out.mono ?_
  rintro e w2 ⟨rfl, ht2⟩
  obtain ⟨O, hq, K, hO, _, _⟩ := ht2.step k1 hO1
  clear ht2 hq1 k1 hO1 hSe
  have HLe := Lib.hid (Len_q hq)
  rw [HLen.out] at HLe
  go_wp2_with fail
  refine HLe.out.mono ?_
  rintro e w' ⟨rfl, rfl⟩
  have HQ := Lib.hid hq
  have HK := Lib.hid K
  have HO := Lib.hid hO
  clear hq K hO HF1
  go_wp2_with fail
  go_loopw [11] (fun i wr => ∃ k : Nat, i = .int .i64 k ∧ k ≤ n ∧ Qu wr b O L ∧ Keeps [] w wr) (fun i _ => n - (intOf i).toNat)
  case atStart => exact ⟨0, rfl, Nat.zero_le _, HQ.out, HK.out⟩
  case round =>
    clear HQ HK
    obtain ⟨k, rfl, hk, hq, hK⟩ := hrel
    by_cases hkn : k < n
    · have hkI : (k : Int) < (n : Int) := by omega
      by_cases hkm : k = m
      · have eb : ((k : Int) == (m : Int)) = true := by subst hkm; simp
        have hW := Lib.hid (When_q hq (k : Int))
        rw [show whenQ L (k : Int) = ((t : Int), true) from by rw [hkm]; exact HM.out] at hW
        have HKK := Lib.hid hK
        have HQQ := Lib.hid hq
        clear hkm hK hq
        go_wp2_with fail
        refine hW.out.mono ?_
        rintro e w3 ⟨rfl, k3⟩
        have hq3 := HQQ.out.keep0 k3
        have K3 := HKK.out.trans k3
        clear k3
        go_wp2_with fail
        go_roundw
        case rel => exact ⟨k + 1, by go_num, by omega, hq3, K3⟩
        case measure => simp [intOf]; omega
      · have eb : ((k : Int) == (m : Int)) = false := by simp; omega
        have hW := Lib.hid (When_q hq (k : Int))
        rw [HFin.out.other k hkn hkm] at hW
        obtain ⟨g, off, rfl, hg, hlc, hcm, hcl⟩ := ArgI.some_ (a := a0) (cap := cap) (by have := HV.out; rw [HN.out] at this; rw [HN.out]; exact this) (i := 0) (by have := HN.out; omega)
        have c00 := hcl k (by have := HN.out; omega)
        have hw := Go.bounds_u8 (HV.out.1 _ (getD_mem zs 0 k (by have := HN.out; omega)))
        have HKK := Lib.hid hK
        have HQQ := Lib.hid hq
        clear hkm hK hq hcl
        obtain ⟨z, hzz⟩ : ∃ z, zs.getD k 0 = z := ⟨_, rfl⟩
        rw [hzz] at hW c00 hw
        clear hzz
        go_wp2_with fail
        refine hW.out.mono ?_
        rintro e w3 ⟨rfl, k3⟩
        have hq3 := HQQ.out.keep0 k3
        have K3 := HKK.out.trans k3
        have c0 := (K3.cell (p := ⟨g, off + k, none⟩) hg (by simp)).trans c00
        clear k3 c00
        go_wp2_with fail
        go_roundw
        case rel => exact ⟨k + 1, by go_num, by omega, hq3, K3⟩
        case measure => simp [intOf]; omega
    · have hkk : n = k := by omega
      subst hkk
      have HKK := Lib.hid hK
      have HD := Lib.hid (Due_in hq 1099511627776)
      have hdl := dueN_all (now := 1099511627776) (L := L) (fun e he => by have := HFin.out.small e he; omega)
      have HDL := Lib.hid hdl
      clear hq hK hdl
      go_wp2_with fail
      refine HD.out.mono ?_
      rintro e w4 ⟨u, rfl, hu, hq4, k4⟩
      rw [HDL.out, List.take_length] at hu
      have K4 := HKK.out.step k4 (fun x hx => .inr (HO.out x hx))
      obtain ⟨a4, c4, rfl⟩ := hu.shape
      have hul : (idsOf L).length = L.length := by unfold idsOf; rw [List.length_map]
      have hus := hu.sl (by rw [hul]; have := HLen.out; unfold maxLen; omega)
      rw [hul] at hus ⊢
      have HU := Lib.hid (show SlI w4 (.slice a4 (idsOf L).length c4) (idsOf L) by rw [hul]; exact hus)
      clear hq4 k4 hu hus HD HDL
      rw [HLen.out]
      have hul2 := Lib.hid (hul.trans HLen.out)
      have HK4 := Lib.hid K4
      clear hul K4
      go_wp2_with fail
      go_loopw [15] (fun i wr => ∃ j q : Nat, i = .int .i64 ((j : Int) + 1) ∧ j ≤ n ∧ wr = w4.drewN q) (fun i _ => n - (intOf i).toNat)
      case atStart => exact ⟨0, 0, rfl, Nat.zero_le _, rfl⟩
      case round =>
        obtain ⟨j, q, rfl, hj, rfl⟩ := hrel
        by_cases hjn : j + 1 < n
        · have hjI : (j : Int) + 1 < (n : Int) := by omega
          have hB := good_next HFin.out.good (j := j) (by have := HLen.out; omega)
          obtain ⟨x, hx, hx1, hx2⟩ := HFin.out.what _ (getD_mem L (0, 0) j (by have := HLen.out; omega))
          obtain ⟨y, hy, hy1, hy2⟩ := HFin.out.what _ (getD_mem L (0, 0) (j + 1) (by have := HLen.out; omega))
          obtain ⟨g, off, rfl, hg, hlc, hcm, hcl⟩ := ArgI.some_ (a := a0) (cap := cap) (by have := HV.out; rw [HN.out] at this; rw [HN.out]; exact this) (i := 0) (by have := HN.out; omega)
          have cx := (HK4.out.cell (p := ⟨g, off + x, none⟩) hg (by simp)).trans (hcl x (by have := HN.out; omega))
          have cy := (HK4.out.cell (p := ⟨g, off + y, none⟩) hg (by simp)).trans (hcl y (by have := HN.out; omega))
          have bx := Go.bounds_u8 (HV.out.1 _ (getD_mem zs 0 x (by have := HN.out; omega)))
          have b_y := Go.bounds_u8 (HV.out.1 _ (getD_mem zs 0 y (by have := HN.out; omega)))
          obtain ⟨bu, ou, rfl, _, hum, hcu⟩ := HU.out.some_ (k := j) (by have := hul2.out; omega)
          have ux := hcu j (by have := hul2.out; omega)
          have uy := hcu (j + 1) (by have := hul2.out; omega)
          rw [idsOf_getD, hx1] at ux
          rw [idsOf_getD, hy1] at uy
          unfold Bef at hB
          rw [hx1, hx2, hy1, hy2] at hB
          have emx : Int.tmod (x : Int) (n : Int) = (x : Int) := by rw [Int.tmod_eq_emod_of_nonneg (by omega), Int.emod_eq_of_lt (by omega) (by omega)]
          have emy : Int.tmod (y : Int) (n : Int) = (y : Int) := by rw [Int.tmod_eq_emod_of_nonneg (by omega), Int.emod_eq_of_lt (by omega) (by omega)]
          have hxI : (x : Int) < (n : Int) := by omega
          have hyI : (y : Int) < (n : Int) := by omega
          rw [show (ou + (j + 1) : Nat) = ou + (j + 1) from rfl] at uy
          clear hcl hcu hx1 hx2 hy1 hy2
          obtain ⟨zx, hzx⟩ : ∃ z, zs.getD x 0 = z := ⟨_, rfl⟩
          obtain ⟨zy, hzy⟩ : ∃ z, zs.getD y 0 = z := ⟨_, rfl⟩
          rw [hzx] at cx bx hB
          rw [hzy] at cy b_y hB
          clear hzx hzy
          have ej1 : (j : Int) + 1 - 1 = (j : Int) := by omega
          have ej2 : ((j : Int) + 1).toNat = j + 1 := by omega
          have wrapj : IntKind.i64.wrap ((j : Int) + 1 - 1) = (j : Int) := by rw [ej1]; exact IntWalk.i64_in _ (by omega)
          rcases (show (x = m ∧ y ≠ m) ∨ (x ≠ m ∧ y = m) ∨ (x ≠ m ∧ y ≠ m) ∨ (x = m ∧ y = m) by omega) with ⟨ex, ey⟩ | ⟨ex, ey⟩ | ⟨ex, ey⟩ | ⟨ex, ey⟩
          · rw [if_pos ex, if_neg ey] at hB
            have ebx : ((x : Int) == (m : Int)) = true := by simp; omega
            have eby : ((y : Int) == (m : Int)) = false := by simp; omega
            clear ex ey
            rcases hB with hB | ⟨hB1, hB2⟩
            · have g1 : decide (zy < (t : Int)) = false := decide_eq_false (by omega)
              have g2 : ((t : Int) == zy) = false := by simp; omega
              clear hB
              go_wp2_with fail
              go_quiet (fail)
              go_wp2_with fail
              go_quiet (fail)
              go_wp2_with fail
              go_roundw
              case rel => exact ⟨j + 1, _, by go_num, by omega, rfl⟩
              case measure => simp [intOf]; omega
            · have g1 : decide (zy < (t : Int)) = false := decide_eq_false (by omega)
              have g2 : ((t : Int) == zy) = true := by simp; omega
              have g3 : decide (y ≤ x) = false := decide_eq_false (by omega)
              have g4 : ¬ y ≤ x := by omega
              have g5 : decide ((y : Int) ≤ (x : Int)) = false := decide_eq_false (by omega)
              clear hB1 hB2
              go_wp2_with fail
              go_quiet (fail)
              go_wp2_with fail
              go_quiet (fail)
              go_wp2_with fail
              go_roundw
              case rel => exact ⟨j + 1, _, by go_num, by omega, rfl⟩
              case measure => simp [intOf]; omega
          · rw [if_neg ex, if_pos ey] at hB
            have ebx : ((x : Int) == (m : Int)) = false := by simp; omega
            have eby : ((y : Int) == (m : Int)) = true := by simp; omega
            clear ex ey
            rcases hB with hB | ⟨hB1, hB2⟩
            · have g1 : decide ((t : Int) < zx) = false := decide_eq_false (by omega)
              have g2 : (zx == (t : Int)) = false := by simp; omega
              clear hB
              go_wp2_with fail
              go_quiet (fail)
              go_wp2_with fail
              go_quiet (fail)
              go_wp2_with fail
              go_roundw
              case rel => exact ⟨j + 1, _, by go_num, by omega, rfl⟩
              case measure => simp [intOf]; omega
            · have g1 : decide ((t : Int) < zx) = false := decide_eq_false (by omega)
              have g2 : (zx == (t : Int)) = true := by simp; omega
              have g3 : decide (y ≤ x) = false := decide_eq_false (by omega)
              have g4 : ¬ y ≤ x := by omega
              have g5 : decide ((y : Int) ≤ (x : Int)) = false := decide_eq_false (by omega)
              clear hB1 hB2
              go_wp2_with fail
              go_quiet (fail)
              go_wp2_with fail
              go_quiet (fail)
              go_wp2_with fail
              go_roundw
              case rel => exact ⟨j + 1, _, by go_num, by omega, rfl⟩
              case measure => simp [intOf]; omega
          · rw [if_neg ex, if_neg ey] at hB
            have ebx : ((x : Int) == (m : Int)) = false := by simp; omega
            have eby : ((y : Int) == (m : Int)) = false := by simp; omega
            clear ex ey
            rcases hB with hB | ⟨hB1, hB2⟩
            · have g1 : decide (zy < zx) = false := decide_eq_false (by omega)
              have g2 : (zx == zy) = false := by simp; omega
              clear hB
              go_wp2_with fail
              go_quiet (fail)
              go_wp2_with fail
              go_quiet (fail)
              go_wp2_with fail
              go_roundw
              case rel => exact ⟨j + 1, _, by go_num, by omega, rfl⟩
              case measure => simp [intOf]; omega
            · have g1 : decide (zy < zx) = false := decide_eq_false (by omega)
              have g2 : (zx == zy) = true := by simp; omega
              have g3 : decide (y ≤ x) = false := decide_eq_false (by omega)
              have g4 : ¬ y ≤ x := by omega
              have g5 : decide ((y : Int) ≤ (x : Int)) = false := decide_eq_false (by omega)
              clear hB1 hB2
              go_wp2_with fail
              go_quiet (fail)
              go_wp2_with fail
              go_quiet (fail)
              go_wp2_with fail
              go_roundw
              case rel => exact ⟨j + 1, _, by go_num, by omega, rfl⟩
              case measure => simp [intOf]; omega
          · subst ex
            exfalso
            rw [ey] at hB
            omega
        · have hjI : ¬ (j : Int) + 1 < (n : Int) := by omega
          go_wp2_with fail
          refine (works_ok _).mono ?_
          rintro e w5 ⟨rfl, k5⟩
          go_wp2_with fail
          go_ret
          exact ⟨rfl, ((HK4.out.drewN q).trans k5).below⟩
set_option maxRecDepth 1000000 in
theorem sets_walk {v : Value} {zs : List Int} {c t : Nat} (hc : c ≤ 255) (ht : t ≤ 255) (drop : Bool) {w : World} (hv : ArgI .u8 w v zs) :
    Calls Try.prog 7 #[v, .int .u8 c, .int .u8 t, .bool drop] w fun e w' => e = .returned (.bool true) ∧ Below w.heap.size w w' := by
  by_cases hl : zs.length ≤ 60
  · by_cases h0 : 0 < zs.length
    · cases drop
      · exact sets_false hc ht hv hl h0
      · exact sets_true hc ht hv hl h0
    · obtain ⟨a0, cap, rfl⟩ := hv.shape
      clear hv
      have h0' : zs.length = 0 := by omega
      rw [h0']
      clear hl h0 h0'
      go_enter Try.func7, Try.ntmps7
      go_wp2_with fail
      refine (works_ok _).mono ?_
      rintro e w1 ⟨rfl, k1⟩
      go_wp2_with fail
      go_ret
      exact ⟨rfl, k1.below⟩
  · obtain ⟨a0, cap, rfl⟩ := hv.shape
    clear hv
    generalize zs.length = n at *
    go_enter Try.func7, Try.ntmps7
    go_wp2_with fail
    refine (works_ok _).mono ?_
    rintro e w1 ⟨rfl, k1⟩
    go_wp2_with fail
    go_ret
    exact ⟨rfl, k1.below⟩
end Go.Proofs.Ytognnjaefaoefaa
