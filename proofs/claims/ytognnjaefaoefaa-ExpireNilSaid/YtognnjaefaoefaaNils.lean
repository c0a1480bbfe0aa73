/- ExpireNil: for every input the call returns true, and nothing that was there has changed. No condition. -/
import Derived.Test.YtognnjaefaoefaaWorks
namespace Go.Proofs.Ytognnjaefaoefaa
open Go.RowKit

set_option maxRecDepth 1000000 in
set_option maxHeartbeats 4000000 in
theorem nils_walk (id a : Int) (w : World) : Calls Try.prog 9 #[.int .i64 id, .int .i64 a] w fun e w' => e = .returned (.bool true) ∧ Below w.heap.size w w' := by
  go_enter Try.func9, Try.ntmps9
  go_wp2_with fail
  have bZ := (Blk.new w 51 #[.bool false, .slice none 0 0]).alloc (.cells #[.pointer none, .pointer (some ⟨w.heap.size, 0, none⟩)] 24)
  have bL := Blk.new (w.alloc (.cells #[.bool false, .slice none 0 0] 51)) 24 #[.pointer none, .pointer (some ⟨w.heap.size, 0, none⟩)]
  simp only [World.size_alloc] at bL
  have K2 := ((Keeps.refl [] w).alloc (.cells #[.bool false, .slice none 0 0] 51)).alloc (.cells #[.pointer none, .pointer (some ⟨w.heap.size, 0, none⟩)] 24)
  generalize ((w.alloc (.cells #[.bool false, .slice none 0 0] 51)).alloc (.cells #[.pointer none, .pointer (some ⟨w.heap.size, 0, none⟩)] 24)) = w2 at *
  have HZ := Lib.hid bZ
  have HL := Lib.hid bL
  have HK := Lib.hid K2
  clear bZ bL K2
  generalize w.heap.size = X at HZ HL ⊢
  go_loopw [7] (fun j wr => ∃ k : Nat, j = .int .i64 k ∧ k ≤ 2 ∧ Keeps [] w2 wr) (fun j _ => 2 - (intOf j).toNat)
  case atStart => exact ⟨0, rfl, Nat.zero_le _, Keeps.refl _ _⟩
  case round =>
    obtain ⟨k, rfl, hk, hK⟩ := hrel
    by_cases hk2 : k < 2
    · obtain ⟨p, hp, hb⟩ : ∃ p, wr.cell? ⟨X + 1, k, none⟩ = some (.pointer p) ∧ Bare wr p := by
        rcases (show k = 0 ∨ k = 1 by omega) with rfl | rfl
        · exact ⟨none, (HL.out.keeps hK (by simp)).cellAt 0 _ rfl, .inl rfl⟩
        · have hz := HZ.out.keeps hK (by simp)
          exact ⟨some ⟨X, 0, none⟩, (HL.out.keeps hK (by simp)).cellAt 1 _ rfl, .inr ⟨X, rfl, hz.lt, hz.cellAt 0 _ rfl⟩⟩
      have hkI : (k : Int) < 2 := by omega
      have HKr := Lib.hid hK
      have HB := Lib.hid hb
      clear hK hb
      go_wp2_with fail
      refine (Next_bare HB.out).mono ?_
      rintro e w' ⟨rfl, rfl⟩
      go_wp2_with fail
      refine (When_bare HB.out id).mono ?_
      rintro e w3 ⟨rfl, k3⟩
      have hb3 := HB.out.keep0 k3
      go_wp2_with fail
      refine (Set_bare hb3 id a).mono ?_
      rintro e w4 ⟨rfl, k4⟩
      have hb4 := hb3.keep0 k4
      have K4 := HKr.out.trans (k3.trans k4)
      clear hb3 k3 k4
      go_wp2_with fail
      refine (Drop_bare hb4 id).mono ?_
      rintro e w5 ⟨rfl, k5⟩
      have hb5 := hb4.keep0 k5
      have K5 := K4.trans k5
      clear hb4 K4 k5
      go_wp2_with fail
      refine (Due_bare hb5 a).mono ?_
      rintro e w6 ⟨u, rfl, hu, k6⟩
      obtain ⟨au, cu, rfl⟩ := hu.shape
      rw [show ([] : List Int).length = 0 from rfl]
      have hb6 := hb5.keep0 k6
      have K6 := K5.trans k6
      clear hb5 K5 k6 hu
      go_wp2_with fail
      refine (Len_bare hb6).mono ?_
      rintro e w' ⟨rfl, rfl⟩
      go_wp2_with fail
      refine (Copy_bare hb6).mono ?_
      rintro e w' ⟨rfl, rfl⟩
      go_wp2_with fail
      go_roundw
      case rel => exact ⟨k + 1, by go_num, by omega, K6⟩
      case measure => simp [intOf]; omega
    · obtain rfl : k = 2 := by omega
      have K3 := HK.out.trans hK
      go_wp2_with fail
      refine (works_ok _).mono ?_
      rintro e w4 ⟨rfl, k4⟩
      go_wp2_with fail
      go_ret
      exact ⟨rfl, (K3.trans k4).below⟩
end Go.Proofs.Ytognnjaefaoefaa
