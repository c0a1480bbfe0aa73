/- works: it returns true and changes nothing that was there. No condition. -/
import Derived.Test.YtognnjaefaoefaaInts
namespace Go.Proofs.Ytognnjaefaoefaa
open Go.RowKit

theorem Turned.step {w0 w w' : World} {b : Nat} {O : List Nat} {L : List (Int × Int)} (ht : Turned w w' b O L) (K : Keeps [] w0 w) (hF : ∀ x ∈ O, w0.heap.size ≤ x) :
    ∃ O', Qu w' b O' L ∧ Keeps [] w0 w' ∧ (∀ x ∈ O', w0.heap.size ≤ x) ∧ (∀ x ∈ O', x ∈ O ∨ w.heap.size ≤ x) ∧ Keeps O w w' := by
  obtain ⟨O', h1, h2, h3⟩ := ht
  refine ⟨O', h1, K.step h2 (fun x hx => .inr (hF x hx)), fun x hx => ?_, h3, h2⟩
  rcases h3 x hx with h | h
  · exact hF x h
  · have := K.size; omega
theorem ArgI.keep0 {k : IntKind} {w w' : World} {v : Value} {zs : List Int} (h : ArgI k w v zs) (hk : Keeps [] w w') : ArgI k w' v zs := by
  obtain ⟨hwf, h | ⟨b, off, cap, rfl, h1, h2, h3, h4, h5⟩⟩ := h
  · exact ⟨hwf, .inl h⟩
  · exact ⟨hwf, .inr ⟨b, off, cap, rfl, h1, h2, Nat.lt_of_lt_of_le h3 hk.size, h4, fun i hi => (hk.cell (p := ⟨b, off + i, none⟩) h3 (by simp)).trans (h5 i hi)⟩⟩
theorem ArgI.shape {k : IntKind} {w : World} {v : Value} {zs : List Int} (h : ArgI k w v zs) : ∃ a cap, v = .slice a zs.length cap := by
  rcases h.2 with ⟨rfl, a, cap, rfl⟩ | ⟨b, off, cap, rfl, _⟩
  · exact ⟨a, cap, rfl⟩
  · exact ⟨_, cap, rfl⟩
/-- What an argument that has elements looks like. -/
theorem ArgI.some_ {k : IntKind} {w : World} {a : Option Addr} {cap : Nat} {zs : List Int} (h : ArgI k w (.slice a zs.length cap) zs) {i : Nat} (hi : i < zs.length) : ∃ b off, a = some ⟨b, off, none⟩ ∧ b < w.heap.size ∧ zs.length ≤ cap ∧ cap ≤ maxLen ∧ (∀ i, i < zs.length → w.cell? ⟨b, off + i, none⟩ = some (.int k (zs.getD i 0))) := by
  rcases h.2 with ⟨rfl, _⟩ | ⟨b, off, cap', he, h1, h2, h3, _, h5⟩
  · simp at hi
  · injection he with e1 e2 e3
    exact ⟨b, off, e1, h3, by omega, by omega, h5⟩
def worksL : List (Int × Int) := [(5, 4), (3, 10), (7, 10)]
set_option maxRecDepth 1000000 in
set_option maxHeartbeats 4000000 in
theorem works_ok (w : World) : Calls Try.prog 11 #[] w fun e w' => e = .returned (.bool true) ∧ Keeps [] w w' := by
  go_enter Try.func11, Try.ntmps11
  go_wp2_with fail
  refine (New_q _).mono ?_
  rintro e w1 ⟨b, O, rfl, hq, k1, hO⟩
  go_wp2_with fail
  refine (Set_fine hq 7 10 ⟨by decide, by decide⟩ (.inl (by decide))).mono ?_
  rintro e w2 ⟨rfl, ht⟩
  obtain ⟨O2, hq2, K2, hF2, _, _⟩ := ht.step k1 hO
  clear hq ht k1 hO
  go_wp2_with fail
  refine (Set_fine hq2 3 10 ⟨by decide, by decide⟩ (.inl (by decide))).mono ?_
  rintro e w3 ⟨rfl, ht⟩
  obtain ⟨O3, hq3, K3, hF3, _, _⟩ := ht.step K2 hF2
  clear hq2 ht K2 hF2
  go_wp2_with fail
  refine (Set_fine hq3 5 4 ⟨by decide, by decide⟩ (.inl (by decide))).mono ?_
  rintro e w4 ⟨rfl, ht⟩
  obtain ⟨O4, hq4, K4, hF4, _, _⟩ := ht.step K3 hF3
  have e4 : setE (setE (setE [] 7 10) 3 10) 5 4 = worksL := by decide
  rw [e4] at hq4
  clear hq3 ht K3 hF3 e4
  have hS := Lib.hid (Set_in hq4 1 (-1))
  rw [show setErr worksL 1 (-1) = 2 by decide, show setL worksL 1 (-1) = worksL by decide] at hS
  go_wp2_with fail
  refine hS.out.mono ?_
  rintro e w5 ⟨rfl, ht⟩
  obtain ⟨O5, hq5, K5, hF5, _, _⟩ := ht.step K4 hF4
  clear hq4 ht K4 hF4 hS
  go_wp2_with fail
  refine (Next_q hq5).mono ?_
  rintro e w6 ⟨rfl, k6⟩
  rw [show headQ worksL = (5, 4, true) from rfl]
  have hq6 := hq5.keep0 k6
  have K6 := K5.trans k6
  clear hq5 K5 k6
  go_wp2_with fail
  refine (Due_in hq6 9).mono ?_
  rintro e w7 ⟨u7, rfl, hu7, hq7, k7⟩
  rw [show dueN worksL 9 = 1 by decide] at hu7 hq7
  have K7 := K6.step k7 (fun x hx => .inr (hF5 x hx))
  clear hq6 K6 k7
  go_wp2_with fail
  refine (Ints_e ((hu7.keeps ((Keeps.refl [] w7).alloc _) (by simp)).sl (by decide)) (SlI.lit (xs := [5]) (Blk.new w7 3 #[.int .i64 5]) rfl (by decide)) (by decide) rfl).mono ?_
  rintro e w' ⟨rfl, j, rfl⟩
  have k8 := ((Keeps.refl [] w7).alloc (.cells #[.int .i64 5] 3)).drewN j
  have hq8 := hq7.keep0 k8
  have K8 := K7.trans k8
  clear hq7 K7 k8 hu7
  generalize (w7.alloc (.cells #[.int .i64 5] 3)).drewN j = w8 at *
  go_wp2_with fail
  refine (Due_in hq8 9).mono ?_
  rintro e w9 ⟨u9, rfl, hu9, hq9, k9⟩
  rw [show dueN (worksL.drop 1) 9 = 0 by decide] at hu9 hq9
  have K9 := K8.step k9 (fun x hx => .inr (hF5 x hx))
  obtain ⟨a9, c9, rfl⟩ := hu9.shape
  clear hq8 K8 k9 hu9
  go_wp2_with fail
  refine (Due_in hq9 10).mono ?_
  rintro e w10 ⟨u10, rfl, hu10, hq10, k10⟩
  rw [show dueN ((worksL.drop 1).drop 0) 10 = 2 by decide] at hu10 hq10
  have K10 := K9.step k10 (fun x hx => .inr (hF5 x hx))
  clear hq9 K9 k10
  go_wp2_with fail
  refine (Ints_e ((hu10.keeps ((Keeps.refl [] w10).alloc _) (by simp)).sl (by decide)) (SlI.lit (xs := [3, 7]) (Blk.new w10 3 #[.int .i64 3, .int .i64 7]) rfl (by decide)) (by decide) rfl).mono ?_
  rintro e w' ⟨rfl, j2, rfl⟩
  have k11 := ((Keeps.refl [] w10).alloc (.cells #[.int .i64 3, .int .i64 7] 3)).drewN j2
  have hq11 := hq10.keep0 k11
  have K11 := K10.trans k11
  clear hq10 K10 k11 hu10
  generalize (w10.alloc (.cells #[.int .i64 3, .int .i64 7] 3)).drewN j2 = w11 at *
  have hD := Lib.hid (Drop_in hq11 7)
  rw [show decide (placeOf (((worksL.drop 1).drop 0).drop 2) 7 < (((worksL.drop 1).drop 0).drop 2).length) = false by decide] at hD
  go_wp2_with fail
  refine hD.out.mono ?_
  rintro e w12 ⟨rfl, ht⟩
  obtain ⟨O12, hq12, K12, hF12, _, _⟩ := ht.step K11 hF5
  have hLn := Lib.hid (Len_q hq12)
  rw [show (dropE (((worksL.drop 1).drop 0).drop 2) 7).length = 0 by decide] at hLn
  go_wp2_with fail
  refine hLn.out.mono ?_
  rintro e w' ⟨rfl, rfl⟩
  go_wp2_with fail
  go_ret
  exact ⟨rfl, K12⟩
end Go.Proofs.Ytognnjaefaoefaa
