/- BitsNil: for every input the call returns true, and nothing that was there has changed. Condition: the table of trailing zeros lies in its block. -/
import Derived.Test.YtcdnflffpeijfaaDoorWorks
import Derived.Test.YtcdnflffpeijfaaDoorBare3
namespace Go.Proofs.YtcdnflffpeijfaaDoor
open Go.RowKit

theorem picks_noneP2 (n : Nat) : picks n noneP = [] := by unfold picks noneP; simp
set_option maxRecDepth 1000000 in
set_option maxHeartbeats 4000000 in
theorem nils_walk (i : Int) {w : World} (hT : Table w) : Calls Tryd.prog 9 #[.int .i64 i] w fun e w' => e = .returned (.bool true) ∧ Below w.heap.size w w' := by
  have hpos := hT.pos
  have HT := Lib.hid hT
  clear hT
  go_enter Tryd.func9, Tryd.ntmps9
  go_wp2_with fail
  refine (New_e 5 5 rfl (by decide) (by decide) _).mono ?_
  rintro e w1 ⟨bs, gs, rfl, hs, k1, hbs, hgs⟩
  go_wp2_with fail
  have bZ := (Blk.new w1 58 #[.int .i64 0, .slice none 0 0]).alloc (.cells #[.pointer none, .pointer (some ⟨w1.heap.size, 0, none⟩)] 24)
  have bL := Blk.new (w1.alloc (.cells #[.int .i64 0, .slice none 0 0] 58)) 24 #[.pointer none, .pointer (some ⟨w1.heap.size, 0, none⟩)]
  simp only [World.size_alloc] at bL
  have kk := ((Keeps.refl [] w1).alloc (.cells #[.int .i64 0, .slice none 0 0] 58)).alloc (.cells #[.pointer none, .pointer (some ⟨w1.heap.size, 0, none⟩)] 24)
  have hs2 := hs.keep0 kk
  have K2 := k1.trans kk
  generalize ((w1.alloc (.cells #[.int .i64 0, .slice none 0 0] 58)).alloc (.cells #[.pointer none, .pointer (some ⟨w1.heap.size, 0, none⟩)] 24)) = w2 at *
  generalize w1.heap.size = X at *
  have HZ := Lib.hid bZ
  have HL := Lib.hid bL
  have HS := Lib.hid hs2
  have HK := Lib.hid K2
  clear bZ bL hs kk hs2 K2 k1
  go_loopw [21] (fun j wr => ∃ k : Nat, j = .int .i64 k ∧ k ≤ 2 ∧ Keeps [] w2 wr) (fun j _ => 2 - (intOf j).toNat)
  case atStart => exact ⟨0, rfl, Nat.zero_le _, Keeps.refl _ _⟩
  case round =>
    obtain ⟨k, rfl, hk, hK⟩ := hrel
    have hs := HS.out.keep0 hK
    by_cases hk2 : k < 2
    · obtain ⟨p, hp, hb⟩ : ∃ p, wr.cell? ⟨X + 1, k, none⟩ = some (.pointer p) ∧ Bare wr p := by
        rcases (show k = 0 ∨ k = 1 by omega) with rfl | rfl
        · exact ⟨none, (HL.out.keeps hK (by simp)).cellAt 0 _ rfl, Bare.nil _⟩
        · have hz := HZ.out.keeps hK (by simp)
          exact ⟨some ⟨X, 0, none⟩, (HL.out.keeps hK (by simp)).cellAt 1 _ rfl, .inr ⟨X, rfl, hz.lt, hz.cellAt 0 _ rfl⟩⟩
      have HKr := Lib.hid hK
      have HSr := Lib.hid hs
      have HB := Lib.hid hb
      clear hK hs hb
      go_wp2_with fail
      refine (Next_bare HB.out).mono ?_
      rintro e w3 ⟨rfl, k3⟩
      have hb3 := HB.out.keep0 k3
      go_wp2_with fail
      refine (Clear_bare hb3).mono ?_
      rintro e w' ⟨rfl, rfl⟩
      go_wp2_with fail
      refine (Add_bare hb3).mono ?_
      rintro e w' ⟨rfl, rfl⟩
      go_wp2_with fail
      refine (Remove_bare hb3).mono ?_
      rintro e w' ⟨rfl, rfl⟩
      go_wp2_with fail
      refine (Has_bare hb3).mono ?_
      rintro e w' ⟨rfl, rfl⟩
      go_wp2_with fail
      refine (Count_bare hb3).mono ?_
      rintro e w' ⟨rfl, rfl⟩
      go_wp2_with fail
      refine (All_bare hb3).mono ?_
      rintro e w4 ⟨u, rfl, hu, k4⟩
      obtain ⟨a, c, rfl⟩ := hu.shape
      rw [show ([] : List Int).length = 0 from rfl]
      have hb4 := hb3.keep0 k4
      have k34 := k3.trans k4
      obtain ⟨ws, hS, _⟩ := HSr.out.keep0 k34
      clear hb3 k3 k4 hu
      go_wp2_with fail
      refine (Size_bare hb4).mono ?_
      rintro e w' ⟨rfl, rfl⟩
      go_wp2_with fail
      refine (Copy_bare hb4).mono ?_
      rintro e w' ⟨rfl, rfl⟩
      go_wp2_with fail
      refine (Union_bare hb4).mono ?_
      rintro e w5 ⟨rfl, k5⟩
      have hb5 := hb4.keep0 k5
      have hS5 := hS.keeps k5 (by simp) (by simp)
      have k35 := k34.trans k5
      clear hb4 hS k34 k5
      go_wp2_with fail
      refine (Union_bare2 hS5 hb5).mono ?_
      rintro e w6 ⟨rfl, k6⟩
      have hb6 := hb5.keep0 k6
      have hS6 := hS5.keeps k6 (by simp) (by simp)
      have k36 := k35.trans k6
      clear hb5 hS5 k35 k6
      go_wp2_with fail
      refine (Minus_bare hb6).mono ?_
      rintro e w7 ⟨rfl, k7⟩
      have hb7 := hb6.keep0 k7
      have hS7 := hS6.keeps k7 (by simp) (by simp)
      have k37 := k36.trans k7
      clear hb6 hS6 k36 k7
      go_wp2_with fail
      refine (Minus_bare2 hS7 hb7).mono ?_
      rintro e w8 ⟨rfl, k8⟩
      have k38 := HKr.out.trans (k37.trans k8)
      clear hb7 hS7 k37 k8
      go_wp2_with fail
      go_roundw
      case rel => exact ⟨k + 1, by go_num, by omega, k38⟩
      case measure => simp [intOf]; omega
    · obtain rfl : k = 2 := by omega
      have HC := Lib.hid (Count_p hs)
      rw [picks_noneP2] at HC
      have K3 := HK.out.trans hK
      clear hs
      go_wp2_with fail
      refine HC.out.mono ?_
      rintro e w' ⟨rfl, rfl⟩
      go_wp2_with fail
      refine (works_ok (HT.out.keeps K3 hpos (by simp))).mono ?_
      rintro e w4 ⟨rfl, k4⟩
      go_wp2_with fail
      go_ret
      exact ⟨rfl, (K3.trans k4).below⟩
end Go.Proofs.YtcdnflffpeijfaaDoor
