/- ExpireSplit: for every input the call returns true, and nothing that was there has changed. No condition. -/
import Derived.Test.YtognnjaefaoefaaWorks
namespace Go.Proofs.Ytognnjaefaoefaa
open Go.RowKit

theorem due_split : ∀ (L : List (Int × Int)) {low high : Int}, low ≤ high → dueN L high = dueN L low + dueN (L.drop (dueN L low)) high
  | [], low, high, h => by simp [dueN]
  | e :: L, low, high, h => by
    have ih := due_split L h
    unfold dueN at ih ⊢
    by_cases h1 : e.2 ≤ low
    · have h2 : e.2 ≤ high := by omega
      simp only [List.takeWhile_cons, h1, h2, decide_true, if_true, List.length_cons, List.drop_succ_cons]
      omega
    · simp [h1]
theorem split_ids (L : List (Int × Int)) {low high : Int} (h : low ≤ high) : idsOf (L.take (dueN L low)) ++ idsOf ((L.drop (dueN L low)).take (dueN (L.drop (dueN L low)) high)) = idsOf (L.take (dueN L high)) := by
  rw [due_split L h]
  unfold idsOf
  rw [← List.map_append, ← List.take_add]
theorem split_left (L : List (Int × Int)) {low high : Int} (h : low ≤ high) : (L.drop (dueN L low)).drop (dueN (L.drop (dueN L low)) high) = L.drop (dueN L high) := by
  rw [due_split L h, List.drop_drop]

set_option maxRecDepth 1000000 in
set_option maxHeartbeats 4000000 in
theorem split_some {v : Value} {zs : List Int} {a b : Int} (ha : 0 ≤ a ∧ a ≤ 255) (hb : 0 ≤ b ∧ b ≤ 255) {w : World} (hv : ArgI .u8 w v zs) (hl : zs.length ≤ 60) :
    Calls Try.prog 3 #[v, .int .u8 a, .int .u8 b] w fun e w' => e = .returned (.bool true) ∧ Below w.heap.size w w' := by
  have hle : min a b ≤ max a b := by omega
  have HF1 := Lib.hid (filled_in hv hl)
  have HV := Lib.hid hv
  have hsh : ∃ a cap, v = .slice a zs.length cap := by
    rcases hv.2 with ⟨rfl, a, cap, rfl⟩ | ⟨b, off, cap, rfl, _⟩
    · exact ⟨a, cap, rfl⟩
    · exact ⟨_, cap, rfl⟩
  obtain ⟨a0, cap, rfl⟩ := hsh
  clear hv
  obtain ⟨Q, hQ⟩ : ∃ Q, fillL zs zs.length = Q := ⟨_, rfl⟩
  have hQl : Q.length ≤ 60 := by rw [← hQ, fill_len]; exact hl
  rw [hQ] at HF1
  have HQe := Lib.hid hQ
  clear hQ
  have SI := Lib.hid (split_ids Q hle)
  have SL := Lib.hid (split_left Q hle)
  have SN := Lib.hid (due_split Q hle)
  have hdl := dueN_le Q (max a b)
  go_enter Try.func3, Try.ntmps3
  go_wp2_with fail
  refine HF1.out.mono ?_
  rintro e w1 ⟨b1, O1, rfl, hq1, k1, hO1⟩
  have HF2 := Lib.hid (filled_in (ArgI.keep0 HV.out k1) hl)
  rw [HQe.out] at HF2
  go_wp2_with fail
  refine HF2.out.mono ?_
  rintro e w2 ⟨b2, O2, rfl, hq2, k2, hO2⟩
  have hq1' := hq1.keep0 k2
  have K2 := k1.trans k2
  have HD := Lib.hid (show ∀ x ∈ O2, x ∉ O1 from fun x hx hx1 => by have := hO2 x hx; have := hq1.lt x hx1; omega)
  have HO1 := Lib.hid hO1
  have HO2 := Lib.hid (show ∀ x ∈ O2, w.heap.size ≤ x from fun x hx => by have := hO2 x hx; have := k1.size; omega)
  have HZ2 := Lib.hid K2.size
  have HL1 := Lib.hid hq1'.lt
  have HL2 := Lib.hid hq2.lt
  clear hq1 k1 k2 hO2 hO1 HF2
  go_wp2_with fail
  refine (Due_in hq1' _).mono ?_
  rintro e w3 ⟨u3, rfl, hu3, hq3, k3⟩
  have hq2' := hq2.keeps k3 HD.out
  have K3 := K2.step k3 (fun x hx => .inr (HO1.out x hx))
  have z3 := k3.size
  clear hq1' hq2 K2 k3
  go_wp2_with fail
  refine (Due_in hq3 _).mono ?_
  rintro e w4 ⟨u4, rfl, hu4, hq4, k4⟩
  have hq2'' := hq2'.keeps k4 HD.out
  have K4 := K3.step k4 (fun x hx => .inr (HO1.out x hx))
  have f3 := hu3.from_
  have hu3' := hu3.keeps k4 (fun x hx hx1 => by have := f3 x hx; have := HL1.out x hx1; omega)
  have z4 := k4.size
  have hi1 : (idsOf (Q.take (dueN Q (min a b)))).length ≤ 60 := by unfold idsOf; rw [List.length_map, List.length_take]; omega
  have hi2 : (idsOf ((Q.drop (dueN Q (min a b))).take (dueN (Q.drop (dueN Q (min a b))) (max a b)))).length ≤ 60 := by unfold idsOf; rw [List.length_map, List.length_take, List.length_drop]; omega
  rw [SL.out] at hq4
  clear hq3 hq2' K3 k4 hu3
  go_wp2_with (at_builtin; refine wpList_append_sl rfl (.tmp 32) (.tmp 35) 26 rfl w2.heap.size Try.underlying26 Try.info3 rfl rfl hu3' (hu4.sl (by unfold maxLen; omega)) (by omega) (by omega) ?_; intro v' w5 hown hgrow hat)
  have k5 : Keeps u3.ownBlock.toList w4 w5 := Keeps.of_grown hgrow
  have hf : ∀ (O : List Nat), (∀ x ∈ O, x < w2.heap.size) → ∀ x ∈ O, x ∉ u3.ownBlock.toList := fun O h x hx hx1 => by have := f3 x (by simpa using hx1); have := h x hx; omega
  have hq5 := hq4.keeps k5 (hf O1 HL1.out)
  have hq52 := hq2''.keeps k5 (hf O2 HL2.out)
  have K5 := K4.step k5 (fun x hx => .inr (by have := f3 x (by simpa using hx); have := HZ2.out; omega))
  rw [SI.out] at hown
  have z5 := k5.size
  clear hq4 hq2'' K4 k5 hu3' hu4 hgrow hat hf f3 hi1 hi2
  refine (Due_in hq52 _).mono ?_
  rintro e w6 ⟨u6, rfl, hu6, hq6, k6⟩
  have hq61 := hq5.keeps k6 (fun x hx hx2 => HD.out x hx2 hx)
  have K6 := K5.step k6 (fun x hx => .inr (HO2.out x hx))
  have fo := hown.from_
  have hx6 := hown.keeps k6 (fun x hx hx1 => by have := fo x hx; have := HL2.out x hx1; omega)
  have hM : (idsOf (Q.take (dueN Q (max a b)))).length ≤ 60 := by unfold idsOf; rw [List.length_map, List.length_take]; omega
  generalize idsOf (Q.take (dueN Q (max a b))) = M at *
  have HLn1 := Lib.hid (Len_q hq61)
  have HLn2 := Lib.hid (Len_q hq6)
  generalize (Q.drop (dueN Q (max a b))).length = q at *
  have HSX := Lib.hid (hx6.sl (by unfold maxLen; omega))
  have HSY := Lib.hid (hu6.sl (by unfold maxLen; omega))
  obtain ⟨ax, cx, rfl⟩ := hx6.shape
  obtain ⟨ay, cy, rfl⟩ := hu6.shape
  clear hq5 hq52 K5 k6 hown hx6 hu6 fo hq6 hq61
  have eq0 : ((q : Int) != (q : Int)) = false := by simp
  go_wp2_with fail
  refine HLn1.out.mono ?_
  rintro e w' ⟨rfl, rfl⟩
  go_wp2_with fail
  refine HLn2.out.mono ?_
  rintro e w' ⟨rfl, rfl⟩
  obtain ⟨n, hn⟩ : ∃ n, M.length = n := ⟨_, rfl⟩
  have HNn := Lib.hid hn
  rw [hn] at hM ⊢
  clear hn eq0
  go_wp2_with fail
  go_loopw [13] (fun i wr => ∃ k m : Nat, i = .int .i64 k ∧ k ≤ n ∧ wr = w6.drewN m) (fun i _ => n - (intOf i).toNat)
  case atStart => exact ⟨0, 0, rfl, Nat.zero_le _, rfl⟩
  case round =>
    obtain ⟨k, m, rfl, hk, rfl⟩ := hrel
    by_cases hkn : k < n
    · have hkI : (k : Int) < n := by omega
      obtain ⟨g1, o1, rfl, _, _, hc1⟩ := HSX.out.some_ (k := k) (by have := HNn.out; omega)
      obtain ⟨g2, o2, rfl, _, _, hc2⟩ := HSY.out.some_ (k := k) (by have := HNn.out; omega)
      have c1 := hc1 k (by have := HNn.out; omega)
      have c2 := hc2 k (by have := HNn.out; omega)
      clear hc1 hc2
      generalize M.getD k 0 = x at *
      go_wp2_with fail
      go_quiet (fail)
      go_wp2_with fail
      go_roundw
      case rel => exact ⟨k + 1, _, by go_num, by omega, rfl⟩
      case measure => simp [intOf]; omega
    · have hkI : ¬ (k : Int) < n := by omega
      have K7 := K6.drewN m
      go_wp2_with fail
      refine (works_ok _).mono ?_
      rintro e w7 ⟨rfl, k7⟩
      go_wp2_with fail
      go_ret
      exact ⟨rfl, (K7.trans k7).below⟩
theorem split_walk {v : Value} {zs : List Int} {a b : Int} (ha : 0 ≤ a ∧ a ≤ 255) (hb : 0 ≤ b ∧ b ≤ 255) {w : World} (hv : ArgI .u8 w v zs) :
    Calls Try.prog 3 #[v, .int .u8 a, .int .u8 b] w fun e w' => e = .returned (.bool true) ∧ Below w.heap.size w w' := by
  by_cases hl : zs.length ≤ 60
  · exact split_some ha hb hv hl
  · have hsh : ∃ a cap, v = .slice a zs.length cap := by
      rcases hv.2 with ⟨rfl, a, cap, rfl⟩ | ⟨b, off, cap, rfl, _⟩
      · exact ⟨a, cap, rfl⟩
      · exact ⟨_, cap, rfl⟩
    obtain ⟨a0, cap, rfl⟩ := hsh
    clear hv
    generalize zs.length = n at *
    go_enter Try.func3, Try.ntmps3
    go_wp2_with fail
    refine (works_ok _).mono ?_
    rintro e w1 ⟨rfl, k1⟩
    go_wp2_with fail
    go_ret
    exact ⟨rfl, k1.below⟩
end Go.Proofs.Ytognnjaefaoefaa
