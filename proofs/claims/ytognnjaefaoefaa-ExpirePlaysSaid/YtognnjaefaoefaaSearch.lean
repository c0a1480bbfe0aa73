/- slices.BinarySearchFunc at entries: the first place whose entry does not come before the sought one. Condition: such a place parts the list. -/
import Derived.Test.YtognnjaefaoefaaCmp
namespace Go.Proofs.Ytognnjaefaoefaa
open Go.RowKit

set_option maxRecDepth 1000000 in
set_option maxHeartbeats 4000000 in
theorem Search_in {v : Value} {L : List (Int × Int)} {x : Int × Int} {p : Nat} {w : World} (h : OwnE w 0 v L) (hm : L.length ≤ 1000000) (hp : p ≤ L.length) (hlt : ∀ j, j < p → cmpE (L.getD j (0, 0)) x < 0) (hge : ∀ j, p ≤ j → j < L.length → ¬ cmpE (L.getD j (0, 0)) x < 0) :
    Calls Try.prog 35 #[v, .agg #[.int .i64 x.1, .int .i64 x.2], .func (.func 36) #[] #[]] w fun e w' => (∃ t, e = .returned (.tuple #[.int .i64 p, .bool t])) ∧ Keeps [] w w' := by
  obtain ⟨a0, cap, rfl⟩ := h.shape
  have e36 := enters_of Try.func36 (by kernel_rfl) rfl
  have HO := Lib.hid h
  have HLT := Lib.hid hlt
  have HGE := Lib.hid hge
  have bx := Blk.new w 61 #[.int .i64 x.1, .int .i64 x.2]
  have k0 := (Keeps.refl [] w).alloc (.cells #[.int .i64 x.1, .int .i64 x.2] 61)
  have HX := Lib.hid bx
  have HK := Lib.hid k0
  have zx : w.heap.size < (w.alloc (.cells #[.int .i64 x.1, .int .i64 x.2] 61)).heap.size := by simp
  clear h hlt hge bx k0
  obtain ⟨n, hn⟩ : ∃ n, L.length = n := ⟨_, rfl⟩
  have HN := Lib.hid hn
  rw [hn] at hm hp ⊢
  clear hn
  go_enter Try.func35, Try.ntmps35
  go_wp2_with fail
  generalize w.alloc (.cells #[.int .i64 x.1, .int .i64 x.2] 61) = W at *
  generalize hB : w.heap.size = B at *
  have HB := Lib.hid hB
  clear hB
  go_loopw [9, 10] (fun a b wr => ∃ i j : Nat, a = .int .i64 i ∧ b = .int .i64 j ∧ i ≤ p ∧ p ≤ j ∧ j ≤ n ∧ Keeps [] W wr) (fun a b _ => (intOf b).toNat - (intOf a).toNat)
  case atStart => exact ⟨0, n, rfl, rfl, Nat.zero_le _, hp, Nat.le_refl _, Keeps.refl _ _⟩
  case round =>
    obtain ⟨i, j, rfl, rfl, hi, hj, hjn, hK⟩ := hrel
    by_cases hij : i < j
    · obtain ⟨m, hmd⟩ : ∃ m, (i + j) / 2 = m := ⟨_, rfl⟩
      have hm1 : i ≤ m := by omega
      have hm2 : m < j := by omega
      have ed : ((i : Int) + (j : Int)) / 2 = (m : Int) := by omega
      have hmn : (m : Int) < (n : Int) := by omega
      clear hmd
      rcases HO.out with ⟨_, hL0⟩ | ⟨g, cap', he, _, hr⟩
      · have := HN.out
        rw [hL0] at this
        simp at this
        omega
      · injection he with he1 he2 he3
        subst he1
        obtain ⟨c0, c1⟩ := ((hr.keeps HK.out (by simp)).keeps hK (by simp)).at_ (k := m) (by have := HN.out; omega)
        have bX := HX.out.keeps hK (by simp)
        have x0 := bX.cellAt 0 _ rfl
        have x1 := bX.cellAt 1 _ rfl
        have hcmp := Lib.hid (cmpE_in (L.getD m (0, 0)) x wr.drew)
        have hl := Lib.hid (fun h => HLT.out m h)
        have hg := Lib.hid (fun h => HGE.out m h (by have := HN.out; omega))
        have HR := Lib.hid hr
        clear hr he2 he3
        generalize L.getD m (0, 0) = y at *
        obtain ⟨t, ht⟩ : ∃ t, cmpE y x = t := ⟨_, rfl⟩
        rw [ht] at hcmp hl hg
        clear ht
        have HKW := Lib.hid hK
        have kd : Keeps [] W wr.drew := hK.drew
        have hcl : ∀ w5, Keeps [] wr.drew w5 → w5.cell? ⟨g, m * 2, none⟩ = some (.int .i64 y.1) ∧ w5.cell? ⟨g, m * 2 + 1, none⟩ = some (.int .i64 y.2) ∧ w5.cell? ⟨B, 0, none⟩ = some (.int .i64 x.1) ∧ w5.cell? ⟨B, 1, none⟩ = some (.int .i64 x.2) := fun w5 k5 => by
          have hgl : g < wr.heap.size := ((HR.out.keeps HK.out (by simp)).keeps hK (by simp)).lt
          have hBl : B < wr.heap.size := bX.lt
          exact ⟨(k5.cell (p := ⟨g, m * 2, none⟩) hgl (by simp)).trans c0, (k5.cell (p := ⟨g, m * 2 + 1, none⟩) hgl (by simp)).trans c1, (k5.cell (p := ⟨B, 0, none⟩) hBl (by simp)).trans x0, (k5.cell (p := ⟨B, 1, none⟩) hBl (by simp)).trans x1⟩
        have HCL := Lib.hid hcl
        clear hcl bX
        have hcase : (t < 0 ∧ m < p) ∨ (¬ t < 0 ∧ p ≤ m) := by
          rcases Nat.lt_or_ge m p with h | h
          · exact .inl ⟨hl.out h, h⟩
          · exact .inr ⟨by have := hg.out h; omega, h⟩
        clear hl hg
        rcases hcase with ⟨ht, hmp⟩ | ⟨ht, hmp⟩
        · go_wp2_with fail
          go_region_held3 (fun w' => w'.cell? ⟨g, m * 2, none⟩ = some (.int .i64 y.1) ∧ w'.cell? ⟨g, m * 2 + 1, none⟩ = some (.int .i64 y.2) ∧ w'.cell? ⟨B, 0, none⟩ = some (.int .i64 x.1) ∧ w'.cell? ⟨B, 1, none⟩ = some (.int .i64 x.2))
            (first | exact ⟨c0, c1, x0, x1⟩ | exact HCL.out _ k5 | assumption | go_keep)
            ((go_at_call 36; refine hcmp.out.mono ?_; rintro e w5 ⟨rfl, k5⟩; obtain ⟨d0, d1, d2, d3⟩ := HCL.out _ k5))
          have K5 := kd.trans k5
          clear k5 d0 d1 d2 d3 c0 c1 x0 x1 hK kd
          go_wp2_with fail
          go_roundw
          case rel => exact ⟨m + 1, j, by go_num, rfl, by omega, hj, hjn, K5⟩
          case measure => simp [intOf]; omega
        · go_wp2_with fail
          go_region_held3 (fun w' => w'.cell? ⟨g, m * 2, none⟩ = some (.int .i64 y.1) ∧ w'.cell? ⟨g, m * 2 + 1, none⟩ = some (.int .i64 y.2) ∧ w'.cell? ⟨B, 0, none⟩ = some (.int .i64 x.1) ∧ w'.cell? ⟨B, 1, none⟩ = some (.int .i64 x.2))
            (first | exact ⟨c0, c1, x0, x1⟩ | exact HCL.out _ k5 | assumption | go_keep)
            ((go_at_call 36; refine hcmp.out.mono ?_; rintro e w5 ⟨rfl, k5⟩; obtain ⟨d0, d1, d2, d3⟩ := HCL.out _ k5))
          have K5 := kd.trans k5
          clear k5 d0 d1 d2 d3 c0 c1 x0 x1 hK kd
          go_wp2_with fail
          go_roundw
          case rel => exact ⟨i, m, rfl, rfl, hi, hmp, by omega, K5⟩
          case measure => simp [intOf]; omega
    · obtain rfl : i = j := by omega
      obtain rfl : i = p := by omega
      by_cases hin : i < n
      · have hinI : (i : Int) < (n : Int) := by omega
        rcases HO.out with ⟨_, hL0⟩ | ⟨g, cap', he, _, hr⟩
        · have := HN.out
          rw [hL0] at this
          simp at this
          omega
        · injection he with he1 he2 he3
          subst he1
          obtain ⟨c0, c1⟩ := ((hr.keeps HK.out (by simp)).keeps hK (by simp)).at_ (k := i) (by have := HN.out; omega)
          have bX := HX.out.keeps hK (by simp)
          have x0 := bX.cellAt 0 _ rfl
          have x1 := bX.cellAt 1 _ rfl
          have hcmp := Lib.hid (cmpE_in (L.getD i (0, 0)) x wr.drew)
          have HR := Lib.hid hr
          clear hr he2 he3
          generalize L.getD i (0, 0) = y at *
          obtain ⟨t, ht⟩ : ∃ t, cmpE y x = t := ⟨_, rfl⟩
          rw [ht] at hcmp
          clear ht
          have kd : Keeps [] W wr.drew := hK.drew
          have HCL := Lib.hid (fun w5 (k5 : Keeps [] wr.drew w5) => show w5.cell? ⟨g, i * 2, none⟩ = some (.int .i64 y.1) ∧ w5.cell? ⟨g, i * 2 + 1, none⟩ = some (.int .i64 y.2) ∧ w5.cell? ⟨B, 0, none⟩ = some (.int .i64 x.1) ∧ w5.cell? ⟨B, 1, none⟩ = some (.int .i64 x.2) from by
            have hgl : g < wr.heap.size := ((HR.out.keeps HK.out (by simp)).keeps hK (by simp)).lt
            have hBl : B < wr.heap.size := bX.lt
            exact ⟨(k5.cell (p := ⟨g, i * 2, none⟩) hgl (by simp)).trans c0, (k5.cell (p := ⟨g, i * 2 + 1, none⟩) hgl (by simp)).trans c1, (k5.cell (p := ⟨B, 0, none⟩) hBl (by simp)).trans x0, (k5.cell (p := ⟨B, 1, none⟩) hBl (by simp)).trans x1⟩)
          clear bX
          go_wp2_with fail
          go_region_held3 (fun w' => w'.cell? ⟨g, i * 2, none⟩ = some (.int .i64 y.1) ∧ w'.cell? ⟨g, i * 2 + 1, none⟩ = some (.int .i64 y.2) ∧ w'.cell? ⟨B, 0, none⟩ = some (.int .i64 x.1) ∧ w'.cell? ⟨B, 1, none⟩ = some (.int .i64 x.2))
            (first | exact ⟨c0, c1, x0, x1⟩ | exact HCL.out _ k5 | assumption | go_keep)
            ((go_at_call 36; refine hcmp.out.mono ?_; rintro e w5 ⟨rfl, k5⟩; obtain ⟨d0, d1, d2, d3⟩ := HCL.out _ k5))
          have K5 := HK.out.trans (kd.trans k5)
          go_wp2_with fail
          go_ret2
          exact ⟨⟨_, rfl⟩, K5⟩
      · have hinI : ¬ (i : Int) < (n : Int) := by omega
        have K5 := HK.out.trans hK
        go_wp2_with fail
        go_quiet (fail)
        go_wp2_with fail
        go_ret2
        exact ⟨⟨_, rfl⟩, K5.drewN _⟩
end Go.Proofs.Ytognnjaefaoefaa
