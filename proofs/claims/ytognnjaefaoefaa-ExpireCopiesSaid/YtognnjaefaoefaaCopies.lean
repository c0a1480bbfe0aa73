/- ExpireCopies: for every input the call returns true, and nothing that was there has changed. No condition. -/
import Derived.Test.YtognnjaefaoefaaWorks
namespace Go.Proofs.Ytognnjaefaoefaa
open Go.RowKit

set_option maxRecDepth 1000000 in
set_option maxHeartbeats 4000000 in
theorem copies_some {v : Value} {zs : List Int} {now : Nat} (hnow : now ≤ 255) (id : Int) {w : World} (hv : ArgI .u8 w v zs) (hl : zs.length ≤ 60) :
    Calls Try.prog 10 #[v, .int .u8 now, .int .i64 id] w fun e w' => e = .returned (.bool true) ∧ Below w.heap.size w w' := by
  have HF1 := Lib.hid (filled_in hv hl)
  have HV := Lib.hid (fun W (k : Keeps [] w W) => filled_in (ArgI.keep0 hv k) hl)
  obtain ⟨a0, cap, rfl⟩ := hv.shape
  clear hv
  obtain ⟨Q, hQ⟩ : ∃ Q, fillL zs zs.length = Q := ⟨_, rfl⟩
  have hQl : Q.length = zs.length := by rw [← hQ, fill_len]
  rw [hQ] at HF1 HV
  clear hQ
  obtain ⟨n, hn⟩ : ∃ n, zs.length = n := ⟨_, rfl⟩
  rw [hn] at hl hQl HV HF1 ⊢
  clear hn
  have hdl := dueN_le Q now
  obtain ⟨d, hd⟩ : ∃ d, dueN Q now = d := ⟨_, rfl⟩
  have HD := Lib.hid hd
  rw [hd] at hdl
  clear hd
  have hT : (Q.take d).length = d := by rw [List.length_take]; omega
  have hR : (Q.drop d).length = n - d := by rw [List.length_drop]; omega
  have HT := Lib.hid (show (idsOf (Q.take d)).length = d by unfold idsOf; rw [List.length_map]; exact hT)
  have HR := Lib.hid hR
  have HQl := Lib.hid hQl
  clear hT hR hQl
  have hnd : (n : Int) - (d : Int) = ((n - d : Nat) : Int) := by have := HQl.out; omega
  have e1 : ((n : Int) != (n : Int)) = false := by simp
  have e2 : (((n - d : Nat) : Int) != ((n - d : Nat) : Int)) = false := by simp
  have HQl' := HQl.out
  have hdn : d ≤ n := by omega
  clear HQl'
  go_enter Try.func10, Try.ntmps10
  go_wp2_with fail
  refine HF1.out.mono ?_
  rintro e w1 ⟨b1, O1, rfl, hq1, k1, hO1⟩
  go_wp2_with fail
  refine (Copy_in hq1).mono ?_
  rintro e w2 ⟨b2, O2, rfl, hq2, k2, hO2⟩
  have hq12 := hq1.keep0 k2
  have K2 := k1.trans k2
  have HO1 := Lib.hid hO1
  have HD2 := Lib.hid (show ∀ x ∈ O2, x ∉ O1 from fun x hx hx1 => by have := hO2 x hx; have := hq1.lt x hx1; omega)
  have HO2 := Lib.hid (show ∀ x ∈ O2, w.heap.size ≤ x from fun x hx => by have := hO2 x hx; have := k1.size; omega)
  clear hq1 k1 k2 hO1 hO2
  go_wp2_with fail
  refine (Due_in hq12 _).mono ?_
  rintro e w3 ⟨u3, rfl, hu3, hq3, k3⟩
  rw [HD.out] at hu3 hq3
  obtain ⟨a3, c3, rfl⟩ := hu3.shape
  rw [HT.out]
  have hq23 := hq2.keeps k3 HD2.out
  have K3 := K2.step k3 (fun x hx => .inr (HO1.out x hx))
  clear hq12 hq2 K2 k3 hu3
  have HL2 := Lib.hid (Len_q hq23)
  rw [HQl.out] at HL2
  have HL1 := Lib.hid (Len_q hq3)
  rw [HR.out] at HL1
  go_wp2_with fail
  refine HL2.out.mono ?_
  rintro e w' ⟨rfl, rfl⟩
  go_wp2_with fail
  refine HL1.out.mono ?_
  rintro e w' ⟨rfl, rfl⟩
  go_wp2_with fail
  refine (Set_fine hq23 id 5 ⟨by decide, by decide⟩ (.inl (by have := HQl.out; omega))).mono ?_
  rintro e w4 ⟨rfl, ht⟩
  obtain ⟨O4, hq4, K4, hF4, hO4, k4⟩ := ht.step K3 HO2.out
  have hq34 := hq3.keeps k4 (fun x hx hx2 => HD2.out x hx2 hx)
  clear hq23 hq3 ht K3 k4 HL1 HL2 e1 e2
  go_wp2_with fail
  refine (When_q hq34 id).mono ?_
  rintro e w5 ⟨rfl, k5⟩
  have K5 := K4.trans k5
  obtain ⟨x, t, hxt⟩ : ∃ x t, whenQ (Q.drop d) id = (x, t) := ⟨_, _, rfl⟩
  have HX := Lib.hid hxt
  rw [hxt]
  clear hq34 hq4 K4 k5 hxt
  go_wp2_with fail
  refine (HV.out _ K5).mono ?_
  rintro e w6 ⟨b6, O6, rfl, hq6, k6, hO6⟩
  have K6 := K5.trans k6
  have HO6 := Lib.hid (show ∀ x ∈ O6, w.heap.size ≤ x from fun x hx => by have := hO6 x hx; have := K5.size; omega)
  clear K5 k6 hO6
  go_wp2_with fail
  refine (Due_in hq6 _).mono ?_
  rintro e w7 ⟨u7, rfl, hu7, hq7, k7⟩
  rw [HD.out] at hu7 hq7
  have K7 := K6.step k7 (fun x hx => .inr (HO6.out x hx))
  clear hq6 K6 k7 hu7
  have HW := Lib.hid (When_q hq7 id)
  rw [HX.out] at HW
  go_wp2_with fail
  refine HW.out.mono ?_
  rintro e w8 ⟨rfl, k8⟩
  have K8 := K7.trans k8
  have et : (t == t) = true := by simp
  go_wp2_with fail
  refine (works_ok _).mono ?_
  rintro e w9 ⟨rfl, k9⟩
  go_wp2_with fail
  go_ret
  exact ⟨rfl, (K8.trans k9).below⟩
theorem copies_walk {v : Value} {zs : List Int} {now : Nat} (hnow : now ≤ 255) (id : Int) {w : World} (hv : ArgI .u8 w v zs) :
    Calls Try.prog 10 #[v, .int .u8 now, .int .i64 id] w fun e w' => e = .returned (.bool true) ∧ Below w.heap.size w w' := by
  by_cases hl : zs.length ≤ 60
  · exact copies_some hnow id hv hl
  · obtain ⟨a0, cap, rfl⟩ := hv.shape
    clear hv
    generalize zs.length = n at *
    go_enter Try.func10, Try.ntmps10
    go_wp2_with fail
    refine (works_ok _).mono ?_
    rintro e w1 ⟨rfl, k1⟩
    go_wp2_with fail
    go_ret
    exact ⟨rfl, k1.below⟩
end Go.Proofs.Ytognnjaefaoefaa
