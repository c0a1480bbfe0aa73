/- ExpireOrder: for every input the call returns true, and nothing that was there has changed. No condition. -/
import Derived.Test.YtognnjaefaoefaaWorks
import Derived.Deep.LoopGhost
namespace Go.Proofs.Ytognnjaefaoefaa
open Go.RowKit

/-- The queue filled in a turned order. -/
def turnL (zs : List Int) (n t : Nat) : Nat → List (Int × Int)
  | 0 => []
  | k + 1 => setE (turnL zs n t k) ((k + t) % n : Nat) (zs.getD ((k + t) % n) 0)
theorem turn_good (zs : List Int) (n t : Nat) : ∀ k, Good (turnL zs n t k)
  | 0 => Good.nil
  | k + 1 => (turn_good zs n t k).setE _ _
theorem turn_mem (zs : List Int) (n t : Nat) : ∀ (k : Nat) (e : Int × Int), e ∈ turnL zs n t k ↔ ∃ i : Nat, i < k ∧ e = ((((i + t) % n : Nat) : Int), zs.getD ((i + t) % n) 0)
  | 0, e => by simp [turnL]
  | k + 1, e => by
    unfold turnL
    rw [mem_setE, turn_mem zs n t k e]
    constructor
    · rintro (rfl | ⟨⟨i, hi, rfl⟩, _⟩)
      · exact ⟨k, by omega, rfl⟩
      · exact ⟨i, by omega, rfl⟩
    · rintro ⟨i, hi, rfl⟩
      by_cases e : (i + t) % n = (k + t) % n
      · rw [e]; exact .inl rfl
      · refine .inr ⟨?_, ?_⟩
        · by_cases e2 : i = k
          · subst e2; exact absurd rfl e
          · exact ⟨i, by omega, rfl⟩
        · show (((i + t) % n : Nat) : Int) ≠ (((k + t) % n : Nat) : Int)
          omega
theorem turn_all (zs : List Int) (n t : Nat) (hn : 0 < n) : turnL zs n t n = fillL zs n := by
  apply Good.ext (turn_good zs n t n).sorted (fill_good zs n).sorted
  intro e
  rw [turn_mem, fill_mem]
  constructor
  · rintro ⟨i, hi, rfl⟩
    exact ⟨_, Nat.mod_lt _ hn, rfl⟩
  · rintro ⟨i, hi, rfl⟩
    refine ⟨(i + (n - t % n)) % n, Nat.mod_lt _ hn, ?_⟩
    have h1 : ((i + (n - t % n)) % n + t) % n = i := by
      rw [Nat.mod_add_mod]
      have h2 : t = t % n + n * (t / n) := (Nat.mod_add_div t n).symm
      have h3 : t % n < n := Nat.mod_lt _ hn
      have h4 : i + (n - t % n) + t = i + n * (1 + t / n) := by
        rw [Nat.mul_add, Nat.mul_one]
        omega
      rw [h4, Nat.add_mul_mod_self_left, Nat.mod_eq_of_lt hi]
    rw [h1]
theorem turn_len (zs : List Int) (n t : Nat) : ∀ k, (turnL zs n t k).length ≤ k
  | 0 => Nat.le_refl _
  | k + 1 => by
    unfold turnL
    rw [setE_len (turn_good zs n t k)]
    have := turn_len zs n t k
    split <;> omega
theorem drop_head {e : Int × Int} {L : List (Int × Int)} (h : Good (e :: L)) : dropE (e :: L) e.1 = L := by
  have hp : placeOf (e :: L) e.1 = 0 := by unfold placeOf; simp [List.findIdx_cons]
  rw [dropE_here h.ids (by rw [hp]; simp), hp]
  rfl
theorem place_head (e : Int × Int) (L : List (Int × Int)) : decide (placeOf (e :: L) e.1 < (e :: L).length) = true := by
  apply decide_eq_true
  rw [place_lt]
  exact ⟨e, by simp, rfl⟩

set_option maxRecDepth 1000000 in
set_option maxHeartbeats 4000000 in
theorem order_some {v : Value} {zs : List Int} {t : Nat} (ht : t ≤ 255) {w : World} (hv : ArgI .u8 w v zs) (hl : zs.length ≤ 60) (hl0 : 0 < zs.length) :
    Calls Try.prog 4 #[v, .int .u8 t] w fun e w' => e = .returned (.bool true) ∧ Below w.heap.size w w' := by
  have HF1 := Lib.hid (filled_in hv hl)
  have HV := Lib.hid hv
  obtain ⟨a0, cap, rfl⟩ := hv.shape
  clear hv
  obtain ⟨n, hn⟩ : ∃ n, zs.length = n := ⟨_, rfl⟩
  have HN := Lib.hid hn
  rw [hn] at hl hl0 HF1 ⊢
  clear hn
  have hz : ((n : Int) == 0) = false := by simp; omega
  have hz' : ¬ (n : Int) = 0 := by omega
  go_enter Try.func4, Try.ntmps4
  go_wp2_with fail
  refine HF1.out.mono ?_
  rintro e w1 ⟨b1, O1, rfl, hq1, k1, hO1⟩
  go_wp2_with fail
  refine (New_q _).mono ?_
  rintro e w2 ⟨b2, O2, rfl, hq2, k2, hO2⟩
  have HQ1 := Lib.hid (hq1.keep0 k2)
  have HK2 := Lib.hid (k1.trans k2)
  have HQ2 := Lib.hid hq2
  have HL1 := Lib.hid hq1.lt
  have HO1 := Lib.hid hO1
  have HO2 := Lib.hid hO2
  have HZ1 := Lib.hid k1.size
  have HZ12 := k2.size
  clear hq1 hq2 k1 k2 hO1 hO2 HF1
  go_wp2_with fail
  go_loopw [7] (fun i wr => ∃ (k : Nat) (O : List Nat), i = .int .i64 k ∧ k ≤ n ∧ Qu wr b2 O (turnL zs n t k) ∧ Qu wr b1 O1 (fillL zs n) ∧ Keeps [] w wr ∧ Hid (∀ x ∈ O, w1.heap.size ≤ x) ∧ w1.heap.size ≤ wr.heap.size) (fun i _ => n - (intOf i).toNat)
  case atStart => exact ⟨0, O2, rfl, Nat.zero_le _, HQ2.out, HQ1.out, HK2.out, HO2, HZ12⟩
  case round =>
    clear HQ1 HQ2 HK2 HO2
    obtain ⟨k, O, rfl, hk, hq, hq1, hK, hO, hzz⟩ := hrel
    by_cases hkn : k < n
    · have hkI : (k : Int) < (n : Int) := by omega
      obtain ⟨g, off, rfl, hg, hlc, hcm, hc⟩ := ArgI.some_ (a := a0) (cap := cap) (by have := HV.out; rw [HN.out] at this; rw [HN.out]; exact this) (i := 0) (by have := HN.out; omega)
      obtain ⟨m, hm⟩ : ∃ m, (k + t) % n = m := ⟨_, rfl⟩
      have hmn : m < n := by rw [← hm]; exact Nat.mod_lt _ (by omega)
      have em : Int.tmod ((k : Int) + (t : Int)) (n : Int) = (m : Int) := by
        rw [Int.tmod_eq_emod_of_nonneg (by omega), ← hm, Int.natCast_emod, Int.natCast_add]
      have c0 := (hK.cell (p := ⟨g, off + m, none⟩) hg (by simp)).trans (hc m (by have := HN.out; omega))
      have hw := Go.bounds_u8 (HV.out.1 _ (getD_mem zs 0 m (by have := HN.out; omega)))
      have hS := Lib.hid (Set_fine hq m (zs.getD m 0) ⟨by omega, by omega⟩ (.inl (by have := turn_len zs n t k; omega)))
      have hfs : turnL zs n t (k + 1) = setE (turnL zs n t k) m (zs.getD m 0) := by show setE (turnL zs n t k) ((k + t) % n : Nat) (zs.getD ((k + t) % n) 0) = _; rw [hm]
      rw [← hfs] at hS
      have HKK := Lib.hid hK
      have HQQ := Lib.hid hq1
      have hmI : (m : Int) < (n : Int) := by omega
      clear hfs hc hq hK hm hq1
      generalize zs.getD m 0 = z at *
      go_wp2_with fail
      refine hS.out.mono ?_
      rintro e w3 ⟨rfl, O', hq3, k3, hO3⟩
      have K3 := HKK.out.step k3 (fun x hx => .inr (by have := hO.out x hx; have := HZ1.out; omega))
      have hq13 := HQQ.out.keeps k3 (fun x hx hx2 => by have := HL1.out x hx; have := hO.out x hx2; omega)
      have hO' := Lib.hid (show ∀ x ∈ O', w1.heap.size ≤ x from fun x hx => (hO3 x hx).elim (hO.out x) (fun h => by omega))
      have hzz3 := Nat.le_trans hzz k3.size
      clear k3 hO3
      go_wp2_with fail
      go_roundw
      case rel => exact ⟨k + 1, O', by go_num, by omega, hq3, hq13, K3, hO', hzz3⟩
      case measure => simp [intOf]; omega
    · obtain rfl : k = n := by omega
      rw [turn_all zs k t hl0] at hq
      have HQ0 := Lib.hid hq
      have HQ10 := Lib.hid hq1
      have HK0 := Lib.hid hK
      have HDis := Lib.hid (show ∀ x ∈ O, x ∉ O1 from fun x hx hx1 => by have := HL1.out x hx1; have := hO.out x hx; omega)
      have HFr := Lib.hid (show ∀ x ∈ O, w.heap.size ≤ x from fun x hx => by have := hO.out x hx; have := HZ1.out; omega)
      have hfl := fill_len zs k
      generalize fillL zs k = Q at *
      clear hq hq1 hK
      go_wp2_with fail
      go_loopg [9] k (fun gk _ wr => ∃ (L : List (Int × Int)) (O1 O2 : List Nat), L.length ≤ gk ∧ Qu wr b1 O1 L ∧ Qu wr b2 O2 L ∧ Hid (∀ x ∈ O2, x ∉ O1) ∧ Hid (∀ x ∈ O1, w.heap.size ≤ x) ∧ Hid (∀ x ∈ O2, w.heap.size ≤ x) ∧ Keeps [] w wr)
      case atStart => exact ⟨Q, O1, O, by omega, HQ10.out, HQ0.out, HDis, HO1, HFr, HK0.out⟩
      case round =>
        clear HQ10 HQ0 HDis HO1 HFr HK0 hfl hO hzz HL1
        obtain ⟨L, O1, O2, hLk, hq1, hq2, hD, hF1, hF2, hK⟩ := hrel
        have HLen := Lib.hid (Len_q hq1)
        cases L with
        | nil =>
          have HQ2 := Lib.hid hq2
          have HK := Lib.hid hK
          clear hq1 hq2 hK
          rw [show ([] : List (Int × Int)).length = 0 from rfl] at HLen
          go_wp2_with fail
          refine HLen.out.mono ?_
          rintro e w' ⟨rfl, rfl⟩
          go_wp2_with fail
          refine (Next_q HQ2.out).mono ?_
          rintro e w4 ⟨rfl, k4⟩
          rw [show headQ [] = (0, 0, false) from rfl]
          have HLen4 := Lib.hid (Len_q (HQ2.out.keep0 k4))
          rw [show ([] : List (Int × Int)).length = 0 from rfl] at HLen4
          have K4 := HK.out.trans k4
          go_wp2_with fail
          refine HLen4.out.mono ?_
          rintro e w' ⟨rfl, rfl⟩
          go_wp2_with fail
          refine (works_ok _).mono ?_
          rintro e w5 ⟨rfl, k5⟩
          go_wp2_with fail
          go_ret
          exact ⟨rfl, (K4.trans k5).below⟩
        | cons e L =>
          have hgood := hq1.good
          have HQ1 := Lib.hid hq1
          have HQ2 := Lib.hid hq2
          have HK := Lib.hid hK
          rw [show (e :: L).length = L.length + 1 from rfl] at HLen hLk
          clear hq1 hq2 hK
          go_wp2_with fail
          refine HLen.out.mono ?_
          rintro e' w' ⟨rfl, rfl⟩
          go_wp2_with fail
          refine (Next_q HQ1.out).mono ?_
          rintro e' w4 ⟨rfl, k4⟩
          rw [show headQ (e :: L) = (e.1, e.2, true) from rfl]
          have hq14 := HQ1.out.keep0 k4
          have hq24 := HQ2.out.keep0 k4
          have K4 := HK.out.trans k4
          clear k4
          go_wp2_with fail
          refine (Next_q hq24).mono ?_
          rintro e' w5 ⟨rfl, k5⟩
          rw [show headQ (e :: L) = (e.1, e.2, true) from rfl]
          have hq15 := hq14.keep0 k5
          have hq25 := hq24.keep0 k5
          have K5 := K4.trans k5
          clear k5 K4 hq14 hq24
          have hDr := Lib.hid (Drop_in hq15 e.1)
          rw [place_head, drop_head hgood] at hDr
          have eb1 : (e.1 != e.1) = false := by simp
          have eb2 : (e.2 != e.2) = false := by simp
          go_wp2_with fail
          refine hDr.out.mono ?_
          rintro e' w6 ⟨rfl, ht⟩
          obtain ⟨O1', hq16, K6, hF6, hO6, k6⟩ := ht.step K5 hF1.out
          have hq26 := hq25.keeps k6 hD.out
          have hD6 := Lib.hid (show ∀ x ∈ O2, x ∉ O1' from fun x hx hx1 => (hO6 x hx1).elim (hD.out x hx) (fun h => by have := hq25.lt x hx; omega))
          have hF6' := Lib.hid hF6
          clear hq15 hq25 K5 ht hO6 k6 hF6
          have hDr2 := Lib.hid (Drop_in hq26 e.1)
          rw [place_head, drop_head hgood] at hDr2
          go_wp2_with fail
          refine hDr2.out.mono ?_
          rintro e' w7 ⟨rfl, ht⟩
          obtain ⟨O2', hq27, K7, hF7, hO7, k7⟩ := ht.step K6 hF2.out
          have hq17 := hq16.keeps k7 (fun x hx hx2 => hD6.out x hx2 hx)
          have hD7 := Lib.hid (show ∀ x ∈ O2', x ∉ O1' from fun x hx hx1 => (hO7 x hx).elim (fun h => hD6.out x h hx1) (fun h => by have := hq16.lt x hx1; omega))
          have hF7' := Lib.hid hF7
          clear hq16 hq26 K6 ht hO7 k7 hF7 eb1 eb2
          go_wp2_with fail
          go_roundg L.length
          case rel => exact ⟨L, O1', O2', Nat.le_refl _, hq17, hq27, hD7, hF6', hF7', K7⟩
          case measure => omega
theorem order_walk {v : Value} {zs : List Int} {t : Nat} (ht : t ≤ 255) {w : World} (hv : ArgI .u8 w v zs) :
    Calls Try.prog 4 #[v, .int .u8 t] w fun e w' => e = .returned (.bool true) ∧ Below w.heap.size w w' := by
  by_cases hl : zs.length ≤ 60
  · by_cases h0 : 0 < zs.length
    · exact order_some ht hv hl h0
    · obtain ⟨a0, cap, rfl⟩ := hv.shape
      clear hv
      have h0' : zs.length = 0 := by omega
      rw [h0']
      clear hl h0 h0'
      go_enter Try.func4, Try.ntmps4
      go_wp2_with fail
      refine (works_ok _).mono ?_
      rintro e w1 ⟨rfl, k1⟩
      go_wp2_with fail
      go_ret
      exact ⟨rfl, k1.below⟩
  · obtain ⟨a0, cap, rfl⟩ := hv.shape
    clear hv
    generalize zs.length = n at *
    go_enter Try.func4, Try.ntmps4
    go_wp2_with fail
    refine (works_ok _).mono ?_
    rintro e w1 ⟨rfl, k1⟩
    go_wp2_with fail
    go_ret
    exact ⟨rfl, k1.below⟩
end Go.Proofs.Ytognnjaefaoefaa
